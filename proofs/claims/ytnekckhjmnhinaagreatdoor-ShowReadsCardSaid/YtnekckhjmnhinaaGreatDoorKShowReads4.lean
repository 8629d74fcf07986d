/- Texts of this claim, those in one that belong together; printed by a program of this project. -/
import Derived.Lib.Bytealg
import Derived.Test.YtnekckhjmnhinaaGreatDoorProg
import Derived.Lib.SplitLaws
import Derived.Lib.IndexBytes
import Derived.Lib.Join
import Derived.Test.YtnekckhjmnhinaaGreatDoorKShowReads3
set_option linter.unusedVariables false
set_option linter.unusedSimpArgs false
set_option maxRecDepth 20000
namespace Go.Proofs.YtnekckhjmnhinaaGreatDoor.Hex
open E Go.RowKit
def str(l:List UInt8):ByteArray:=⟨l.toArray⟩
theorem QbH(l:List UInt8):(str l).size=l.length:=by simp [str,ByteArray.size]
theorem Qdg(l k:List UInt8):str (l++k)=str l++str k:=by
 apply ByteArray.ext;simp [str,ByteArray.data_append]
end Go.Proofs.YtnekckhjmnhinaaGreatDoor.Hex
namespace Go.Proofs.YtnekckhjmnhinaaGreatDoor.Six
open E Go.RowKit
open Hex (str QbH Qdg)
def sgn:List UInt8:=[65,66,67,68,69,70,71,72,73,74,75,76,77,78,79,80,81,82,83,84,85,86,87,88,89,90,97,98,99,100,101,102,103,104,105,106,107,108,109,110,111,112,113,114,115,116,117,118,119,120,121,122,48,49,50,51,52,53,54,55,56,57,43,47]
def sg(n:Nat):UInt8:=sgn.getD n 0
abbrev tab:ByteArray:=(⟨#[65,66,67,68,69,70,71,72,73,74,75,76,77,78,79,80,81,82,83,84,85,86,87,88,89,90,97,98,99,100,101,102,103,104,105,106,107,108,109,110,111,112,113,114,115,116,117,118,119,120,121,122,48,49,50,51,52,53,54,55,56,57,43,47]⟩:ByteArray)
theorem tab_size:tab.size=64:=rfl
theorem tab_bt(n:Nat)(h:n<64):bt tab n=(sg n).toNat:=by
 have:∀ n:Fin 64,bt tab (n.1:Int)=(sg n.1).toNat:=by decide +kernel
 exact this ⟨n,h⟩
theorem QtN(n:Nat)(h:n<64):tab.extract n (n+1)=str [sg n]:=by
 have:∀ n:Fin 64,tab.extract n.1 (n.1+1)=str [sg n.1]:=by decide +kernel
 exact this ⟨n,h⟩
def gX(l:List UInt8):Nat:=(l.getD 0 0).toNat*65536+(l.getD 1 0).toNat*256+(l.getD 2 0).toNat
def sx(X i:Nat):UInt8:=sg (X/2 ^ (18-6*i)%64)
theorem QwH(l:List UInt8):gX l<2 ^ 24:=by
 have h0:=(l.getD 0 0).toNat_lt
 have h1:=(l.getD 1 0).toNat_lt
 have h2:=(l.getD 2 0).toNat_lt
 unfold gX;omega
def sgs(X:Nat):Nat→Nat→List UInt8
 | _,0=>[]
 | i,k+1=>sx X i::sgs X (i+1) k
def QuR(l:List UInt8):List UInt8:=sgs (gX l) 0 (min l.length 3+1)
def enc(l:List UInt8):List UInt8:=if h:l=[] then [] else QuR l++enc (l.drop 3)
termination_by l.length
decreasing_by
 have:0<l.length:=List.length_pos_iff.2 h
 simp;omega
def encP(l:List UInt8):List UInt8:=if h:l=[] then [] else (QuR l++List.replicate (3-min l.length 3) 61)++encP (l.drop 3)
termination_by l.length
decreasing_by
 have:0<l.length:=List.length_pos_iff.2 h
 simp;omega
theorem Qiy(X:Nat):∀ i k,(sgs X i k).length=k
 | _,0=>rfl
 | i,k+1=>by simp [sgs,Qiy X (i+1) k]
theorem Qto(x b k:Nat)(hb:b<2 ^ k):x*2 ^ k ||| b=x*2 ^ k+b:=by
 rw [show x*2 ^ k=x <<< k by rw [Nat.shiftLeft_eq],←Nat.shiftLeft_add_eq_or_of_lt hb]
theorem QoD(l:List UInt8)(i:Nat)(h:i<l.length):QO (ob l) i=(l.getD i 0).toNat:=by
 have:l[i]? = some l[i]:=List.getElem?_eq_getElem h
 rw [Qq8 l i _ this,List.getD_eq_getElem?_getD,this];rfl
theorem Qox(l:List UInt8):(if 3<((ob l).length:Int) then (3:Int) else ((ob l).length:Int))=((min l.length 3:Nat):Int):=by
 rw [Qa1]
 split<;>omega
theorem Qny(l:List UInt8)(o:ByteArray)(x i:Nat)(hi:i<3)(hx:x<2 ^ (8*i)) :
  QY.l1 (ob l) o x i=QY.l1 (ob l) o ((x*256+(l.getD i 0).toNat:Nat):Int) ((i+1:Nat):Int):=by
 have hx':x<2 ^ 16:=Nat.lt_of_lt_of_le hx (Nat.pow_le_pow_right (by decide) (by omega))
 have e1:wr .i64 ((i:Int)+1)=((i+1:Nat):Int):=by rw [QX (by omega) (by omega)];omega
 have e2:Qh9 .u32 (x:Int) 8=((x*256:Nat):Int):=by
  rw [show (8:Int)=((8:Nat):Int) from rfl,Qfy .u32 rfl x 8 (by decide),Nat.mod_eq_of_lt (by show x*2 ^ 8<2 ^ 32;omega)]
 have c1:decide ((i:Int)<3)=true:=by simp;omega
 rw [QY.l1.eq_def,Qox,e1,e2]
 by_cases h:i<l.length
 ·have c2:decide ((i:Int)<((min l.length 3:Nat):Int))=true:=by simp;omega
  have c3:(0:Int)≤(i:Int)∧(i:Int)<((ob l).length:Int):=by rw [Qa1];omega
  have hb:=(l.getD i 0).toNat_lt
  have e3:wr .u32 (QO (ob l) i)=(((l.getD i 0).toNat:Nat):Int):=by rw [QoD l i h,QpZ (by omega) (by omega)]
  have e4:ior .u32 ((x*256:Nat):Int) (((l.getD i 0).toNat:Nat):Int)=((x*256+(l.getD i 0).toNat:Nat):Int):=by
   rw [QhH .u32 rfl _ _ (by show x*256<2 ^ 32;omega) (by show (l.getD i 0).toNat<2 ^ 32;omega)]
   rw [Qto x _ 8 hb]
  simp only [c1,c2,c3,e3,e4,↓reduceIte,and_self]
 ·have c2:decide ((i:Int)<((min l.length 3:Nat):Int))=false:=by simp;omega
  have h0:l.getD i 0=0:=by rw [List.getD_eq_getElem?_getD,List.getElem?_eq_none (by omega)];rfl
  simp only [c1,c2,h0,↓reduceIte,Bool.false_eq_true,UInt8.toNat_zero,Nat.add_zero]
theorem QwA(l:List UInt8)(o:ByteArray):QY.l1 (ob l) o 0 0=some ((gX l:Int),o):=by
 have h0:=(l.getD 0 0).toNat_lt
 have h1:=(l.getD 1 0).toNat_lt
 have s0:=Qny l o 0 0 (by omega) (by decide)
 have s1:=Qny l o (0*256+(l.getD 0 0).toNat) 1 (by omega) (by omega)
 have s2:=Qny l o ((0*256+(l.getD 0 0).toNat)*256+(l.getD 1 0).toNat) 2 (by omega) (by omega)
 have s3:QY.l1 (ob l) o ((((0*256+(l.getD 0 0).toNat)*256+(l.getD 1 0).toNat)*256+(l.getD 2 0).toNat:Nat):Int) ((2+1:Nat):Int)=some ((gX l:Int),o):=by
  rw [QY.l1.eq_def,if_neg (by decide)]
  have:((0*256+(l.getD 0 0).toNat)*256+(l.getD 1 0).toNat)*256+(l.getD 2 0).toNat=gX l:=by unfold gX;omega
  rw [this]
 exact s0.trans (s1.trans (s2.trans s3))
theorem sh18(i:Nat)(h:i≤3):wr .u64 (wr .i64 (18-(wr .i64 (6*(i:Int)))))=((18-6*i:Nat):Int):=by
 have:∀ i:Fin 4,wr .u64 (wr .i64 (18-(wr .i64 (6*(i.1:Int)))))=((18-6*i.1:Nat):Int):=by decide +kernel
 exact this ⟨i,by omega⟩
theorem QwO(X i:Nat)(hX:X<2 ^ 24):Qjd .u32 (Qh8 .u32 (X:Int) ((18-6*i:Nat):Int)) 63=((X/2 ^ (18-6*i)%64:Nat):Int):=by
 rw [Qhe .u32 X (18-6*i) (by show 18-6*i≤32;omega),show (63:Int)=((63:Nat):Int) from rfl]
 have:X/2 ^ (18-6*i)≤X:=Nat.div_le_self _ _
 rw [QlH .u32 rfl _ 63 (by show X/2 ^ (18-6*i)<2 ^ 32;omega) (by decide),Nat.and_two_pow_sub_one_eq_mod _ 6]
theorem Qwz(l:List UInt8)(q:ByteArray)(k:Nat):∀ (i:Nat) (o:ByteArray),i+k=min l.length 3+1→o.size+k≤1000000 →
  QY.l2 (ob l) ((gX l:Int),q) i o=some (o++str (sgs (gX l) i k)):=by
 induction k with
 | zero =>
  intro i o hi ho
  have c0:wr .i64 (((min l.length 3:Nat):Int)+1)=((min l.length 3+1:Nat):Int):=by rw [QX (by omega) (by omega)];omega
  have c1:decide ((i:Int)<((min l.length 3+1:Nat):Int))=false:=by simp;omega
  rw [QY.l2.eq_def,Qox,c0]
  simp only [c1,Bool.false_eq_true,↓reduceIte,sgs]
  congr 1;apply ByteArray.ext;simp [str]
 | succ k ih =>
  intro i o hi ho
  have c0:wr .i64 (((min l.length 3:Nat):Int)+1)=((min l.length 3+1:Nat):Int):=by rw [QX (by omega) (by omega)];omega
  have c1:decide ((i:Int)<((min l.length 3+1:Nat):Int))=true:=by simp;omega
  have e0:wr .i64 ((i:Int)+1)=((i+1:Nat):Int):=by rw [QX (by omega) (by omega)];omega
  have hm:gX l/2 ^ (18-6*i)%64<64:=Nat.mod_lt _ (by decide)
  have hl:=(sg (gX l/2 ^ (18-6*i)%64)).toNat_lt
  rw [QY.l2.eq_def,Qox,c0]
  simp only [c1,e0,↓reduceIte,sh18 i (by omega),QwO _ _ (QwH l),tab_bt _ hm,tab_size]
  rw [if_pos (by omega),if_pos (by omega),if_pos (by omega),if_pos (by omega),Int.toNat_natCast,UInt8.ofNat_toNat,ih (i+1) _ (by omega) (by rw [ByteArray.size_push];omega)]
  congr 1
  apply ByteArray.ext
  simp [sgs,str,sx,ByteArray.data_append]
theorem Qvx(n:Nat)(h:n≤3):QuS (⟨#[61]⟩:ByteArray) (wr .i64 (3-(n:Int)))=str (List.replicate (3-n) 61):=by
 have:∀ n:Fin 4,QuS (⟨#[61]⟩:ByteArray) (wr .i64 (3-(n.1:Int)))=str (List.replicate (3-n.1) 61):=by decide +kernel
 exact this ⟨n,by omega⟩
theorem lsub_ob(l:List UInt8)(n:Nat):QdS (ob l) (n:Int) (((ob l).length:Nat):Int)=ob (l.drop n):=by
 unfold QdS
 rw [Int.toNat_natCast,Int.toNat_natCast,List.take_length]
 simp [ob]
theorem QwB(l:List UInt8):∀ o:ByteArray,o.size+4*l.length≤100000→QY.l0 (ob l) o=some (o++str (encP l)):=by
 generalize hn:l.length=n
 induction n using Nat.strongRecOn generalizing l with
 | _ n ih =>
  intro o ho
  rw [QY.l0.eq_def,encP]
  by_cases h:l=[]
  ·subst h
   have c1:decide (((ob []).length:Int)>0)=false:=rfl
   simp only [c1,↓reduceIte,Bool.false_eq_true,dif_pos]
   congr 1;apply ByteArray.ext;simp [str]
  ·have hl:0<l.length:=List.length_pos_iff.2 h
   have c1:decide (((ob l).length:Int)>0)=true:=by rw [Qa1];simp;omega
   have e3:wr .i64 (3-((min l.length 3:Nat):Int))=((3-min l.length 3:Nat):Int):=by rw [QX (by omega) (by omega)];omega
   have hp:=Qvx (min l.length 3) (by omega)
   rw [e3] at hp
   have hz:((⟨#[61]⟩:ByteArray).size:Int)=1:=rfl
   have hlen:((ob l).length:Int)=(l.length:Int):=by rw [Qa1]
   simp only [Qox,QwA,Qa,↓reduceIte,dif_neg h]
   rw [if_pos c1]
   rw [show (0:Int)=((0:Nat):Int) from rfl,Qwz l o (min l.length 3+1) 0 o (by omega) (by omega)]
   simp only [Qa,e3,hp,hz]
   have hsz:(str (sgs (gX l) 0 (min l.length 3+1))).size=min l.length 3+1:=by rw [QbH,Qiy]
   have hsp:(str (List.replicate (3-min l.length 3) 61)).size=3-min l.length 3:=by rw [QbH,List.length_replicate]
   rw [if_pos (by omega),if_pos (by rw [ByteArray.size_append,hsz,hsp];omega),if_pos (by rw [Qa1];omega)]
   rw [lsub_ob]
   have hd:l.drop (min l.length 3)=l.drop 3:=by
    by_cases h3:l.length≤3
    ·rw [Nat.min_eq_left h3,List.drop_eq_nil_of_le (Nat.le_refl _),List.drop_eq_nil_of_le h3]
    ·rw [Nat.min_eq_right (by omega)]
   rw [hd,ih (l.drop 3).length (by simp;omega) _ rfl _ (by rw [ByteArray.size_append,ByteArray.size_append,hsz,hsp];simp;omega)]
   congr 1
   rw [Qdg,Qdg]
   simp only [ByteArray.append_assoc,QuR]
theorem encode_eq(l:List UInt8)(h:l.length≤20000):QY (ob l)=some (str (encP l)):=by
 unfold QY
 rw [QwB l ByteArray.empty (by show 0+_≤_;omega),Qa,ByteArray.empty_append]
theorem Qjv(l:List UInt8):encP l=enc l++List.replicate ((3-l.length%3)%3) 61:=by
 generalize hn:l.length=n
 induction n using Nat.strongRecOn generalizing l with
 | _ n ih =>
  rw [encP,enc]
  by_cases h:l=[]
  ·subst h;simp at hn;subst hn;simp
  ·have hl:0<l.length:=List.length_pos_iff.2 h
   simp only [dif_neg h]
   rw [ih (l.drop 3).length (by simp;omega) _ rfl]
   by_cases h3:l.length≤3
   ·rw [List.drop_eq_nil_of_le h3,enc]
    simp only [dif_pos,List.length_nil,List.append_nil,List.append_assoc,Nat.min_eq_left h3,Nat.zero_mod,Nat.sub_zero,Nat.mod_self,List.replicate_zero]
    congr 2
    omega
   ·rw [Nat.min_eq_right (by omega)]
    simp only [Nat.sub_self,List.replicate_zero,List.append_nil,List.append_assoc,List.length_drop]
    congr 3
    omega
theorem QpH(l:List UInt8):(enc l).length=(4*l.length+2)/3:=by
 generalize hn:l.length=n
 induction n using Nat.strongRecOn generalizing l with
 | _ n ih =>
  rw [enc]
  by_cases h:l=[]
  ·subst h;simp at hn;subst hn;simp
  ·have hl:0<l.length:=List.length_pos_iff.2 h
   simp only [dif_neg h,List.length_append,QuR,Qiy]
   rw [ih (l.drop 3).length (by simp;omega) _ rfl,List.length_drop]
   omega
theorem encP_length(l:List UInt8):(encP l).length=(l.length+2)/3*4:=by
 rw [Qjv,List.length_append,QpH,List.length_replicate];omega
end Go.Proofs.YtnekckhjmnhinaaGreatDoor.Six
namespace Go.Proofs.YtnekckhjmnhinaaGreatDoor.Six
open E Go.RowKit
open Hex (str QbH Qdg)
def Qs7(l:List UInt8)(k:Nat):Nat:=(l.getD (k/8) 0).toNat/2 ^ (7-k%8)%2
theorem Qu4(x:Nat)(h:x<2 ^ 60):wr .i64 (Int.tdiv (x:Int) 2)=((x/2:Nat):Int):=by
 rw [Int.tdiv_eq_ediv_of_nonneg (by omega),QX (by omega) (by omega)];omega
theorem Qv6(k:Nat)(f:Nat):∀ (v j:Nat),k%8+f=j→j≤7→v<256→Qbg.l0 (k:Int) (v:Int) (j:Int)=some ((v/2 ^ f:Nat):Int):=by
 have e0:Int.tmod (k:Int) 8=((k%8:Nat):Int):=by rw [Int.tmod_eq_emod_of_nonneg (by omega)];omega
 induction f with
 | zero =>
  intro v j hj h7 hv
  have c1:decide ((j:Int)>((k%8:Nat):Int))=false:=by simp;omega
  rw [Qbg.l0.eq_def,e0]
  simp only [c1,Bool.false_eq_true,↓reduceIte,Nat.pow_zero,Nat.div_one]
 | succ f ih =>
  intro v j hj h7 hv
  have c1:decide ((j:Int)>((k%8:Nat):Int))=true:=by simp;omega
  have e1:wr .i64 ((j:Int)-1)=((j-1:Nat):Int):=by rw [QX (by omega) (by omega)];omega
  rw [Qbg.l0.eq_def,e0]
  simp only [c1,↓reduceIte,Qu4 v (by omega),e1]
  rw [ih (v/2) (j-1) (by omega) (by omega) (by omega),Nat.div_div_eq_div_mul,←Nat.pow_succ']
theorem Qv7(l:List UInt8)(k:Nat)(h:k<8*l.length)(hl:l.length<100000):Qbg (ob l) (k:Int)=some ((Qs7 l k:Nat):Int):=by
 unfold Qbg
 have e1:wr .i64 (Int.tdiv (k:Int) 8)=((k/8:Nat):Int):=by
  rw [Int.tdiv_eq_ediv_of_nonneg (by omega),QX (by omega) (by omega)];omega
 have hb:=(l.getD (k/8) 0).toNat_lt
 rw [e1,if_pos (by rw [Qa1];omega),QoD l (k/8) (by omega),QX (by omega) (by omega)]
 rw [show (7:Int)=((7:Nat):Int) from rfl,Qv6 k (7-k%8) _ 7 (by omega) (by omega) hb,Qa,Int.tmod_eq_emod_of_nonneg (Int.natCast_nonneg _)]
 rfl
def QhR(l:List UInt8)(k:Nat):Nat:=if k<8*l.length then Qs7 l k else 0
theorem Qft(l:List UInt8)(k:Nat):QhR l k<2:=by
 unfold QhR Qs7;split<;>omega
theorem e8(l:List UInt8)(hl:l.length<100000):wr .i64 (8*((ob l).length:Int))=((8*l.length:Nat):Int):=by
 rw [Qa1,QX (by omega) (by omega)];omega
theorem e6(i:Nat)(h:i<1000000):wr .i64 ((i:Int)+6)=((i+6:Nat):Int):=by
 rw [QX (by omega) (by omega)];omega
theorem Qg8(l:List UInt8)(hl:l.length<100000)(i n k:Nat)(hk:k<i+6)(hi:i<1000000)(hn:n<1000) :
  QH.l1 (ob l) i n k=QH.l1 (ob l) i ((2*n+QhR l k:Nat):Int) ((k+1:Nat):Int):=by
 have c1:decide ((k:Int)<((i+6:Nat):Int))=true:=by simp;omega
 have e1:wr .i64 ((k:Int)+1)=((k+1:Nat):Int):=by rw [QX (by omega) (by omega)];omega
 have e2:wr .i64 (2*(n:Int))=((2*n:Nat):Int):=by rw [QX (by omega) (by omega)];omega
 rw [QH.l1.eq_def,e6 i hi,e8 l hl,e1,e2]
 unfold QhR
 by_cases h:k<8*l.length
 ·have c2:decide ((k:Int)<((8*l.length:Nat):Int))=true:=by simp;omega
  have hb:Qs7 l k<2:=by unfold Qs7;omega
  have e3:wr .i64 (((2*n:Nat):Int)+((Qs7 l k:Nat):Int))=((2*n+Qs7 l k:Nat):Int):=by rw [QX (by omega) (by omega)];omega
  simp only [c1,c2,↓reduceIte,Qv7 l k h hl,Qa,e3,if_pos h]
 ·have c2:decide ((k:Int)<((8*l.length:Nat):Int))=false:=by simp;omega
  simp only [c1,c2,↓reduceIte,Bool.false_eq_true,if_neg h,Nat.add_zero]
def six(l:List UInt8)(i:Nat):Nat:=32*QhR l i+16*QhR l (i+1)+8*QhR l (i+2)+4*QhR l (i+3)+2*QhR l (i+4)+QhR l (i+5)
theorem Qvc(l:List UInt8)(i:Nat):six l i<64:=by
 have h0:=Qft l i
 have h1:=Qft l (i+1)
 have h2:=Qft l (i+2)
 have h3:=Qft l (i+3)
 have h4:=Qft l (i+4)
 have h5:=Qft l (i+5)
 unfold six;omega
theorem Qvk(l:List UInt8)(hl:l.length<100000)(i:Nat)(hi:i<1000000):QH.l1 (ob l) i 0 i=some ((six l i:Nat):Int):=by
 have h0:=Qft l i
 have h1:=Qft l (i+1)
 have h2:=Qft l (i+2)
 have h3:=Qft l (i+3)
 have h4:=Qft l (i+4)
 have s0:=Qg8 l hl i 0 i (by omega) hi (by omega)
 have s1:=Qg8 l hl i (2*0+QhR l i) (i+1) (by omega) hi (by omega)
 have s2:=Qg8 l hl i (2*(2*0+QhR l i)+QhR l (i+1)) (i+2) (by omega) hi (by omega)
 have s3:=Qg8 l hl i (2*(2*(2*0+QhR l i)+QhR l (i+1))+QhR l (i+2)) (i+3) (by omega) hi (by omega)
 have s4:=Qg8 l hl i (2*(2*(2*(2*0+QhR l i)+QhR l (i+1))+QhR l (i+2))+QhR l (i+3)) (i+4) (by omega) hi (by omega)
 have s5:=Qg8 l hl i (2*(2*(2*(2*(2*0+QhR l i)+QhR l (i+1))+QhR l (i+2))+QhR l (i+3))+QhR l (i+4)) (i+5) (by omega) hi (by omega)
 refine s0.trans (s1.trans (s2.trans (s3.trans (s4.trans (s5.trans ?_)))))
 have c1:decide (((i+5+1:Nat):Int)<((i+6:Nat):Int))=false:=decide_eq_false (by omega)
 rw [QH.l1.eq_def,e6 i hi]
 simp only [c1,Bool.false_eq_true,↓reduceIte]
 congr 2
 unfold six;omega
def Qjm(l:List UInt8):Nat→Nat→List UInt8
 | 0,_=>[]
 | f+1,t=>if 6*t<8*l.length then sg (six l (6*t))::Qjm l f (t+1) else []
theorem Qvl(l:List UInt8)(hl:l.length<10000)(f:Nat):∀ (t:Nat) (o:ByteArray),8*l.length≤6*(t+f)→6*t≤8*l.length+6→o.size+f≤100000 →
  QH.l0 (ob l) o ((6*t:Nat):Int)=some (o++str (Qjm l f t)):=by
 have nil:∀ o:ByteArray,o=o++str []:=fun o=>by apply ByteArray.ext;simp [str]
 induction f with
 | zero =>
  intro t o h1 h3 h2
  have c1:decide (((6*t:Nat):Int)<((8*l.length:Nat):Int))=false:=by simp;omega
  rw [QH.l0.eq_def,e8 l (by omega)]
  simp only [c1,Bool.false_eq_true,↓reduceIte,Qjm,←nil]
 | succ f ih =>
  intro t o h1 h3 h2
  rw [QH.l0.eq_def,e8 l (by omega)]
  by_cases h:6*t<8*l.length
  ·have c1:decide (((6*t:Nat):Int)<((8*l.length:Nat):Int))=true:=by simp;omega
   have hs:=Qvc l (6*t)
   have e1:wr .i64 (((six l (6*t):Nat):Int)+1)=((six l (6*t)+1:Nat):Int):=by rw [QX (by omega) (by omega)];omega
   have hS:Qcx=some tab:=rfl
   simp only [c1,↓reduceIte,Qvk l (by omega) (6*t) (by omega),Qa,hS,e1,e6 (6*t) (by omega)]
   have ht:(tab.size:Int)=64:=rfl
   rw [if_pos (by rw [ht];omega),Int.toNat_natCast,Int.toNat_natCast,QtN _ hs,if_pos (by rw [QbH];simp;omega)]
   rw [show 6*t+6=6*(t+1) by omega,ih (t+1) _ (by omega) (by omega) (by rw [ByteArray.size_append,QbH];simp;omega)]
   rw [Qjm,if_pos h,ByteArray.append_assoc,←Qdg];rfl
  ·have c1:decide (((6*t:Nat):Int)<((8*l.length:Nat):Int))=false:=by simp;omega
   simp only [c1,Bool.false_eq_true,↓reduceIte,Qjm,if_neg h,←nil]
theorem QrP(l:List UInt8)(k:Nat):QhR l (24+k)=QhR (l.drop 3) k:=by
 unfold QhR Qs7
 rw [List.length_drop]
 rw [show (24+k)/8=3+k/8 by omega,show (24+k)%8=k%8 by omega]
 have:(l.drop 3).getD (k/8) 0=l.getD (3+k/8) 0:=by simp [List.getD_eq_getElem?_getD]
 rw [this]
 by_cases h:24+k<8*l.length
 ·rw [if_pos h,if_pos (by omega)]
 ·rw [if_neg h,if_neg (by omega)]
theorem Qsh(l:List UInt8)(k:Nat):six l (24+k)=six (l.drop 3) k:=by
 unfold six
 simp only [Nat.add_assoc,QrP]
theorem Qqv(l:List UInt8)(f:Nat):∀ t,Qjm l f (4+t)=Qjm (l.drop 3) f t:=by
 induction f with
 | zero=>intro t;rfl
 | succ f ih =>
  intro t
  rw [Qjm,Qjm,List.length_drop]
  rw [show 4+t+1=4+(t+1) by omega,ih,show 6*(4+t)=24+6*t by omega,Qsh]
  by_cases h:24+6*t<8*l.length
  ·rw [if_pos h,if_pos (by omega)]
  ·rw [if_neg h,if_neg (by omega)]
theorem Qs6(l:List UInt8)(k:Nat):QhR l k=(l.getD (k/8) 0).toNat/2 ^ (7-k%8)%2:=by
 unfold QhR Qs7
 split
 ·rfl
 ·rw [List.getD_eq_getElem?_getD,List.getElem?_eq_none (by omega)];simp
theorem Qvd(l:List UInt8):∀ t,t<4→sg (six l (6*t))=sx (gX l) t:=by
 have ha:=(l.getD 0 0).toNat_lt
 have hb:=(l.getD 1 0).toNat_lt
 have hc:=(l.getD 2 0).toNat_lt
 intro t ht
 unfold sx
 congr 1
 have h:t=0∨t=1∨t=2∨t=3:=by omega
 unfold six gX
 rcases h with rfl | rfl | rfl | rfl<;>simp only [Qs6,Nat.reduceMul,Nat.reduceAdd,Nat.reduceDiv,Nat.reduceMod,Nat.reduceSub,Nat.reducePow]<;>omega
theorem Qsp(l:List UInt8):∀ f,(4*l.length+2)/3≤f→Qjm l f 0=enc l:=by
 generalize hn:l.length=n
 induction n using Nat.strongRecOn generalizing l with
 | _ n ih =>
  intro f hf
  rw [enc]
  by_cases h:l=[]
  ·subst h
   simp only [dif_pos]
   cases f with
   | zero=>rfl
   | succ f=>rw [Qjm,if_neg (by simp)]
  ·have hl:0<l.length:=List.length_pos_iff.2 h
   have g:=Qvd l
   have g0:=g 0 (by omega)
   have g1:=g 1 (by omega)
   have g2:=g 2 (by omega)
   have g3:=g 3 (by omega)
   simp only [Nat.mul_zero,Nat.mul_one,Nat.reduceMul] at g0 g1 g2 g3
   simp only [dif_neg h,QuR]
   by_cases h1:l.length=1
   ·obtain ⟨f,rfl⟩:∃ k,f=k+2:=⟨f-2,by omega⟩
    rw [h1,List.drop_eq_nil_of_le (by omega),enc,Qjm,if_pos (by omega),Qjm,if_pos (by omega)]
    have:Qjm l f 2=[]:=by
     cases f with
     | zero=>rfl
     | succ f=>rw [Qjm,if_neg (by omega)]
    simp only [Nat.zero_add,Nat.reduceAdd,Nat.mul_zero,Nat.mul_one,this,g0,g1,dif_pos,List.append_nil]
    rfl
   ·by_cases h2:l.length=2
    ·obtain ⟨f,rfl⟩:∃ k,f=k+3:=⟨f-3,by omega⟩
     rw [h2,List.drop_eq_nil_of_le (by omega),enc,Qjm,if_pos (by omega),Qjm,if_pos (by omega),Qjm,if_pos (by omega)]
     have:Qjm l f 3=[]:=by
      cases f with
      | zero=>rfl
      | succ f=>rw [Qjm,if_neg (by omega)]
     simp only [Nat.zero_add,Nat.reduceAdd,Nat.mul_zero,Nat.mul_one,Nat.reduceMul,this,g0,g1,g2,dif_pos,List.append_nil]
     rfl
    ·obtain ⟨f,rfl⟩:∃ k,f=k+4:=⟨f-4,by omega⟩
     rw [Nat.min_eq_right (by omega),Qjm,if_pos (by omega),Qjm,if_pos (by omega),Qjm,if_pos (by omega),Qjm,if_pos (by omega)]
     have:=Qqv l f 0
     simp only [Nat.zero_add,Nat.reduceAdd,Nat.mul_zero,Nat.mul_one,Nat.reduceMul,g0,g1,g2,g3,Nat.add_zero] at this ⊢
     rw [this,ih (l.drop 3).length (by simp;omega) _ rfl f (by simp;omega)]
     rfl
theorem Qvj(k:Nat):∀ s:List UInt8,s.length+k≤1000000→(s.length+k)%4=0→k<4→QH.l2 (str s)=some (str (s++List.replicate k 61)):=by
 have tm:∀ n:Nat,(Int.tmod (n:Int) 4 != 0)=decide (n%4≠0):=fun n=>by
  rw [Int.tmod_eq_emod_of_nonneg (by omega)]
  by_cases h:n%4=0
  ·have:((n:Int)%4)=0:=by omega
   simp [h,this]
  ·have:¬ ((n:Int)%4)=0:=by omega
   simp [h,this]
 induction k with
 | zero =>
  intro s h1 h2 h3
  rw [QH.l2.eq_def,QbH,tm,if_neg (by simp;omega)]
  simp
 | succ k ih =>
  intro s h1 h2 h3
  rw [QH.l2.eq_def,QbH,tm,if_pos (by simp;omega)]
  have hz:(⟨#[61]⟩:ByteArray).size=1:=rfl
  have hp:str s++(⟨#[61]⟩:ByteArray)=str (s++[61]):=by rw [Qdg];rfl
  rw [hz,if_pos (by omega),hp,ih _ (by simp;omega) (by simp;omega) (by omega),List.append_assoc]
  rfl
theorem refEncode_eq(l:List UInt8)(h:l.length<5000):QH (ob l)=some (str (encP l)):=by
 unfold QH
 have h0:=Qvl l (by omega) ((4*l.length+2)/3) 0 (⟨#[]⟩) (by omega) (by omega) (by show 0+_≤_;omega)
 rw [show ((6*0:Nat):Int)=0 from rfl,Qsp l _ (Nat.le_refl _)] at h0
 have e0:(⟨#[]⟩:ByteArray)++str (enc l)=str (enc l):=by apply ByteArray.ext;simp [str]
 have hm:(enc l).length+(3-l.length%3)%3=(l.length+2)/3*4:=by
  have:=encP_length l
  rw [Qjv,List.length_append,List.length_replicate] at this
  exact this
 rw [h0,Qa,e0,Qvj ((3-l.length%3)%3) (enc l) (by omega) (by rw [hm];omega) (by omega),Qa,Qjv]
end Go.Proofs.YtnekckhjmnhinaaGreatDoor.Six
namespace Go.Proofs.YtnekckhjmnhinaaGreatDoor.Six
open E Go.RowKit
open Hex (str QbH Qdg)
def sv(c:Nat):Int:=Lib.indexByte sgn c.toUInt8
theorem Qqb:∀ c:Fin 256,-1≤sv c.1∧sv c.1<64:=by decide +kernel
theorem Qwn:∀ n:Fin 64,sv (sg n.1).toNat=n.1:=by decide +kernel
theorem sv61:sv 61 = -1:=by decide +kernel
theorem value_eq(c:Nat):Qeg (c:Int)=some (wr .u32 (sv c),decide (sv c≥0)):=rfl
def vals:List UInt8→Option (List Nat)
 | []=>some []
 | c::l=>if sv c.toNat<0 then none else (vals l).map ((sv c.toNat).toNat::·)
theorem Qg5:vals []=some []:=rfl
theorem QeJ(c:UInt8)(l:List UInt8):vals (c::l)=if sv c.toNat<0 then none else (vals l).map ((sv c.toNat).toNat::·):=rfl
theorem QjB(l k:List UInt8):vals (l++k)=(vals l).bind fun a=>(vals k).map (a++·):=by
 induction l with
 | nil=>simp [Qg5]
 | cons c l ih =>
  rw [List.cons_append,QeJ,QeJ,ih]
  split
  ·rfl
  ·cases vals l with
   | none=>rfl
   | some a=>cases vals k<;>rfl
theorem Qff:∀ (l:List UInt8) (vs:List Nat),vals l=some vs→vs.length=l.length
 | [],vs,h=>by simp [Qg5] at h;subst h;rfl
 | c::l,vs,h=>by
  rw [QeJ] at h
  split at h
  ·cases h
  ·cases hv:vals l with
   | none=>rw [hv] at h;cases h
   | some a=>rw [hv] at h;cases h;simp [Qff l a hv]
theorem Qna:∀ (l:List UInt8) (vs:List Nat),vals l=some vs→∀ v∈vs,v<64
 | [],vs,h=>by simp [Qg5] at h;subst h;simp
 | c::l,vs,h=>by
  rw [QeJ] at h
  split at h
  ·cases h
  ·cases hv:vals l with
   | none=>rw [hv] at h;cases h
   | some a =>
    rw [hv] at h;cases h
    have:=(Qqb ⟨c.toNat,c.toNat_lt⟩).2
    simp only at this
    intro v hm
    rcases List.mem_cons.1 hm with rfl | hm
    ·omega
    ·exact Qna l a hv v hm
theorem Qsb(vs:List Nat)(h:∀ v∈vs,v<64):vals (vs.map sg)=some vs:=by
 induction vs with
 | nil=>rfl
 | cons v vs ih =>
  have:=Qwn ⟨v,h v (List.mem_cons_self ..)⟩
  simp only at this
  rw [List.map_cons,QeJ,ih fun u hu=>h u (List.mem_cons_of_mem _ hu),this,if_neg (by omega)]
  simp
def cat(vs:List Nat)(y:Nat):Nat:=vs.foldl (fun n v=>64*n+v) y
theorem QoV(v:Nat)(vs:List Nat)(y:Nat):cat (v::vs) y=cat vs (64*y+v):=rfl
theorem Qv0(vs:List Nat)(h:∀ v∈vs,v<64):∀ y i,y<64 ^ i→cat vs y<64 ^ (i+vs.length):=by
 induction vs with
 | nil=>intro y i hy;simpa [cat] using hy
 | cons v vs ih =>
  intro y i hy
  rw [QoV,List.length_cons,show i+(vs.length+1)=(i+1)+vs.length by omega]
  have:=h v (List.mem_cons_self ..)
  exact ih (fun u hu=>h u (List.mem_cons_of_mem _ hu)) _ _ (by rw [Nat.pow_succ];omega)
def gY(vs:List Nat):Nat:=cat vs 0*2 ^ (24-6*vs.length)
def zf(vs:List Nat):Bool:=decide (gY vs*2 ^ (8*vs.length)%2 ^ 32=0)
def bys(X:Nat):Nat→Nat→List UInt8
 | _,0=>[]
 | i,k+1=>UInt8.ofNat (X/2 ^ (16-8*i))::bys X (i+1) k
theorem QiP(X:Nat):∀ i k,(bys X i k).length=k
 | _,0=>rfl
 | i,k+1=>by simp [bys,QiP X (i+1) k]
theorem Qnb(s:List UInt8)(i:Nat)(c:UInt8)(h:s[i]? = some c):bt (str s) i=c.toNat:=by
 rw [QoW];simp [str,h]
theorem Quu(s:List UInt8)(hs:s.length≤4)(f:Nat):∀ (i y:Nat),i+f=s.length→y<64 ^ i →
  QaQ.l0 (str s) ((y*2 ^ (24-6*i):Nat):Int) i=some (match vals (s.drop i) with | none=>.ret ([],false,5) | some vs=>.nx (((cat vs y*2 ^ (24-6*s.length):Nat)):Int)):=by
 induction f with
 | zero =>
  intro i y hi hy
  have hi':i=s.length:=by omega
  subst hi'
  have c1:decide ((s.length:Int)<((str s).size:Int))=false:=by rw [QbH];simp
  rw [QaQ.l0.eq_def,List.drop_eq_nil_of_le (by omega)]
  simp only [c1,Bool.false_eq_true,↓reduceIte,Qg5,cat,List.foldl_nil]
 | succ f ih =>
  intro i y hi hy
  obtain ⟨c,hc,hd⟩:=QcC s i (by omega)
  have hcl:=c.toNat_lt
  have h1:=(Qqb ⟨c.toNat,hcl⟩).1
  have h2:=(Qqb ⟨c.toNat,hcl⟩).2
  simp only at h1 h2
  have c1:decide ((i:Int)<((str s).size:Int))=true:=by rw [QbH];simp;omega
  have e0:wr .i64 ((i:Int)+1)=((i+1:Nat):Int):=by rw [QX (by omega) (by omega)];omega
  rw [QaQ.l0.eq_def,hd,QeJ]
  simp only [c1,↓reduceIte,Qnb s i c hc,value_eq,Qa,e0,sh18 i (by omega)]
  rw [if_pos (by rw [QbH];omega)]
  by_cases hneg:sv c.toNat<0
  ·have g1:(!decide (sv c.toNat≥0))=true:=by simp;omega
   simp only [g1,↓reduceIte,hneg]
  ·have g1:(!decide (sv c.toNat≥0))=false:=by simp;omega
   obtain ⟨v,hv⟩:∃ v:Nat,sv c.toNat=v:=⟨(sv c.toNat).toNat,by omega⟩
   rw [hv] at h2 hneg
   have e1:wr .u32 (v:Int)=v:=QpZ (by omega) (by omega)
   have hp:2 ^ (18-6*i)≤2 ^ 18:=Nat.pow_le_pow_right (by decide) (by omega)
   have hvp:v*2 ^ (18-6*i)<2 ^ (24-6*i):=by
    rw [show 24-6*i=6+(18-6*i) by omega,Nat.pow_add]
    exact Nat.mul_lt_mul_of_pos_right (by omega) (Nat.two_pow_pos _)
   have hyp:y*2 ^ (24-6*i)<2 ^ 24:=by
    have:(64:Nat) ^ i=2 ^ (6*i):=by rw [Nat.pow_mul]
    calc y*2 ^ (24-6*i)<2 ^ (6*i)*2 ^ (24-6*i):=Nat.mul_lt_mul_of_pos_right (by rw [←this];exact hy) (Nat.two_pow_pos _)
     _=2 ^ 24:=by rw [←Nat.pow_add];congr 1;omega
   have hp24:2 ^ (24-6*i)≤2 ^ 24:=Nat.pow_le_pow_right (by decide) (by omega)
   have e2:Qh9 .u32 (v:Int) ((18-6*i:Nat):Int)=((v*2 ^ (18-6*i):Nat):Int):=by
    rw [Qfy .u32 rfl v _ (by show 18-6*i≤32;omega),Nat.mod_eq_of_lt (by show _<2 ^ 32;omega)]
   have e3:ior .u32 ((y*2 ^ (24-6*i):Nat):Int) ((v*2 ^ (18-6*i):Nat):Int)=(((64*y+v)*2 ^ (24-6*(i+1)):Nat):Int):=by
    rw [QhH .u32 rfl _ _ (by show _<2 ^ 32;omega) (by show _<2 ^ 32;omega),Qto _ _ _ hvp]
    congr 1
    rw [show 24-6*i=6+(18-6*i) by omega,Nat.pow_add,show 24-6*(i+1)=18-6*i by omega,Nat.add_mul]
    rw [show 64*y=y*2 ^ 6 by omega,Nat.mul_assoc]
   simp only [hv] at g1
   simp only [hv,g1,↓reduceIte,Bool.false_eq_true,hneg,e1,e2,e3]
   rw [if_pos (by omega),ih (i+1) (64*y+v) (by omega) (by rw [Nat.pow_succ];omega)]
   cases vals (s.drop (i+1)) with
   | none=>rfl
   | some vs=>simp [QoV]
theorem sh16(i:Nat)(h:i≤2):wr .u64 (wr .i64 (16-(wr .i64 (8*(i:Int)))))=((16-8*i:Nat):Int):=by
 have:∀ i:Fin 3,wr .u64 (wr .i64 (16-(wr .i64 (8*(i.1:Int)))))=((16-8*i.1:Nat):Int):=by decide +kernel
 exact this ⟨i,by omega⟩
theorem Qut(s:List UInt8)(hs:1≤s.length∧s.length≤4)(X:Nat)(hX:X<2 ^ 24)(f:Nat):∀ (i:Nat) (o:List UInt8),i+f=s.length-1→o.length≤i →
  QaQ.l1 (str s) X (ob o) i=some (ob (o++bys X i f)):=by
 have e1:wr .i64 (((str s).size:Int)-1)=((s.length-1:Nat):Int):=by rw [QbH,QX (by omega) (by omega)];omega
 induction f with
 | zero =>
  intro i o hi ho
  have c1:decide ((i:Int)<((s.length-1:Nat):Int))=false:=by simp;omega
  rw [QaQ.l1.eq_def,e1]
  simp only [c1,Bool.false_eq_true,↓reduceIte,bys,List.append_nil]
 | succ f ih =>
  intro i o hi ho
  have c1:decide ((i:Int)<((s.length-1:Nat):Int))=true:=by simp;omega
  have e0:wr .i64 ((i:Int)+1)=((i+1:Nat):Int):=by rw [QX (by omega) (by omega)];omega
  have e2:Qh8 .u32 (X:Int) ((16-8*i:Nat):Int)=((X/2 ^ (16-8*i):Nat):Int):=Qhe .u32 X _ (by show 16-8*i≤32;omega)
  have hob:ob o++[wr .u8 ((X/2 ^ (16-8*i):Nat):Int)]=ob (o++[UInt8.ofNat (X/2 ^ (16-8*i))]):=by
   rw [Qh5,QhT];congr 1
  rw [QaQ.l1.eq_def,e1]
  simp only [c1,↓reduceIte,sh16 i (by omega),e0,e2,hob,Qa1]
  rw [if_pos (by omega),if_pos (by omega),ih (i+1) _ (by omega) (by simp;omega)]
  simp [bys]
theorem QwG(vs:List Nat)(h:∀ v∈vs,v<64)(hl:vs.length≤4):gY vs<2 ^ 24:=by
 unfold gY
 have h1:=Qv0 vs h 0 0 (by decide)
 have:(64:Nat) ^ (0+vs.length)=2 ^ (6*vs.length):=by rw [Nat.zero_add,Nat.pow_mul]
 calc cat vs 0*2 ^ (24-6*vs.length)<2 ^ (6*vs.length)*2 ^ (24-6*vs.length):=Nat.mul_lt_mul_of_pos_right (by rw [←this];exact h1) (Nat.two_pow_pos _)
  _=2 ^ 24:=by rw [←Nat.pow_add];congr 1;omega
theorem four_eq(s:List UInt8)(hs:1≤s.length∧s.length≤4) :
  QaQ (str s)=some (match vals s with | none=>([],false,5) | some vs=>(ob (bys (gY vs) 0 (s.length-1)),zf vs,0)):=by
 unfold QaQ
 have h0:=Quu s hs.2 s.length 0 0 (by omega) (by decide)
 rw [show ((0*2 ^ (24-6*0):Nat):Int)=0 from rfl,List.drop_zero] at h0
 rw [h0,Qa]
 cases hv:vals s with
 | none=>rfl
 | some vs =>
  have hl:=Qff _ _ hv
  have hg:cat vs 0*2 ^ (24-6*s.length)=gY vs:=by unfold gY;rw [hl]
  have hlt:=QwG vs (Qna _ _ hv) (by omega)
  simp only [hg]
  have h1:=Qut s hs (gY vs) hlt (s.length-1) 0 [] (by omega) (by simp)
  rw [show ((0:Nat):Int)=0 from rfl,show ob []=([]:List Int) from rfl,List.nil_append] at h1
  have e1:wr .u64 (wr .i64 (8+wr .i64 (8*wr .i64 (((str s).size:Int)-1))))=((8*vs.length:Nat):Int):=by
   rw [QbH,QX (x:=(s.length:Int)-1) (by omega) (by omega),QX (x:=8*((s.length:Int)-1)) (by omega) (by omega),QX (by omega) (by omega),QcI (by omega) (by omega)]
   omega
  have e2:Qh9 .u32 ((gY vs:Nat):Int) ((8*vs.length:Nat):Int)=((gY vs*2 ^ (8*vs.length)%2 ^ 32:Nat):Int):=Qfy .u32 rfl _ _ (by show 8*vs.length≤32;omega)
  have e3:(((gY vs*2 ^ (8*vs.length)%2 ^ 32:Nat):Int)==0)=zf vs:=by
   unfold zf
   rw [Bool.eq_iff_iff];simp only [beq_iff_eq,decide_eq_true_eq];omega
  simp only [h1,Qa,e1,e2,e3]
  rw [if_pos (by omega)]
def dv(vs:List Nat):List UInt8×Bool:=if h:vs=[] then ([],true) else
 (bys (gY (vs.take 4)) 0 (min vs.length 4-1)++(dv (vs.drop 4)).1,zf (vs.take 4)&&(dv (vs.drop 4)).2)
termination_by vs.length
decreasing_by
 all_goals
  have:0<vs.length:=List.length_pos_iff.2 h
  simp;omega
theorem QjE(l:List UInt8)(i j:Nat):(str l).extract i j=str ((l.take j).drop i):=by
 apply ByteArray.ext
 simp only [str,ByteArray.data_extract]
 apply Array.toList_inj.1
 simp only [Array.toList_extract,List.extract_eq_take_drop]
 rw [List.drop_take]
theorem Qt8(l:List UInt8):(if 4<((str l).size:Int) then (4:Int) else ((str l).size:Int))=((min l.length 4:Nat):Int):=by
 rw [QbH]
 split<;>omega
theorem QvR(b:List UInt8):∀ (o:List UInt8) (cl:Bool),o.length+b.length≤100000 →
  QaK.l0 (str b) (ob o) cl=some (match vals b with | none=>.ret ([],5) | some vs=>.nx (ob (o++(dv vs).1),cl&&(dv vs).2)):=by
 generalize hn:b.length=n
 induction n using Nat.strongRecOn generalizing b with
 | _ n ih =>
  intro o cl ho
  rw [QaK.l0.eq_def,Qt8]
  by_cases h:b=[]
  ·subst h
   have c1:decide (((str []).size:Int)>0)=false:=rfl
   rw [Qg5]
   simp only [c1,↓reduceIte,Bool.false_eq_true]
   rw [dv];simp
  ·have hl:0<b.length:=List.length_pos_iff.2 h
   have c1:decide (((str b).size:Int)>0)=true:=by rw [QbH];simp;omega
   have e1:(str b).extract (Int.toNat 0) (Int.toNat ((min b.length 4:Nat):Int))=str (b.take 4):=by
    rw [Int.toNat_natCast,QjE]
    show str ((b.take (min b.length 4)).drop 0)=_
    rw [List.drop_zero]
    congr 1
    by_cases h4:b.length≤4
    ·rw [Nat.min_eq_left h4,List.take_length,List.take_of_length_le h4]
    ·rw [Nat.min_eq_right (by omega)]
   have e2:(str b).extract (Int.toNat ((min b.length 4:Nat):Int)) (Int.toNat ((str b).size:Int))=str (b.drop 4):=by
    rw [Int.toNat_natCast,Int.toNat_natCast,QjE,QbH,List.take_length]
    congr 1
    by_cases h4:b.length≤4
    ·rw [Nat.min_eq_left h4,List.drop_length,List.drop_eq_nil_of_le h4]
    ·rw [Nat.min_eq_right (by omega)]
   have hb:b=b.take 4++b.drop 4:=(List.take_append_drop 4 b).symm
   have htl:(b.take 4).length=min b.length 4:=by rw [List.length_take,Nat.min_comm]
   have hva:vals b=(vals (b.take 4)).bind fun a=>(vals (b.drop 4)).map (a++·):=by rw [←QjB,←hb]
   have c2:(0:Int)≤0∧(0:Int)≤((min b.length 4:Nat):Int)∧((min b.length 4:Nat):Int)≤((str b).size:Int):=by rw [QbH];omega
   have c3:(0:Int)≤((min b.length 4:Nat):Int)∧((min b.length 4:Nat):Int)≤((str b).size:Int)∧((str b).size:Int)≤((str b).size:Int):=by rw [QbH];omega
   rw [if_pos c1,if_pos c2,e1,e2,four_eq (b.take 4) (by omega),Qa,hva]
   cases hv:vals (b.take 4) with
   | none=>rfl
   | some vs =>
    have hvl:=Qff _ _ hv
    have hvn:vs≠[]:=by intro he;subst he;simp at hvl;omega
    simp only [Option.bind_some,bne_self_eq_false,Bool.false_eq_true,↓reduceIte,Qa1,QiP,htl]
    rw [if_pos (by omega),if_pos c3,if_pos c3]
    have hi:=fun cl'=>ih (b.drop 4).length (by simp;omega) (b.drop 4) rfl (o++bys (gY vs) 0 (min b.length 4-1)) cl' (by simp [QiP];omega)
    rw [←Qh5,hi,hi]
    cases hw:vals (b.drop 4) with
    | none=>cases cl<;>rfl
    | some us =>
     have hus:=Qff _ _ hw
     simp only [Option.map_some]
     have hdv:dv (vs++us)=(bys (gY vs) 0 (min b.length 4-1)++(dv us).1,zf vs&&(dv us).2):=by
      rw [dv]
      by_cases h4:4≤b.length
      ·have h5:vs.length=4:=by omega
       have t1:(vs++us).take 4=vs:=by rw [←h5];simp
       have t2:(vs++us).drop 4=us:=by rw [←h5];simp
       simp only [dif_neg (show ¬ vs++us=[] by simp [hvn]),t1,t2]
       rw [Nat.min_eq_right (by simp;omega),Nat.min_eq_right h4]
      ·have h6:us=[]:=List.eq_nil_of_length_eq_zero (by rw [hus];simp;omega)
       subst h6
       simp only [List.append_nil,dif_neg hvn]
       rw [List.take_of_length_le (by omega),List.drop_eq_nil_of_le (by omega),Nat.min_eq_left (by omega),Nat.min_eq_left (by omega)]
       rw [show vs.length=b.length by omega]
     rw [hdv]
     cases cl<;>simp [Bool.and_assoc]
def strip(l:List UInt8):List UInt8:=Lib.trimSuffix (Lib.trimSuffix l [61]) [61]
theorem tm4(n:Nat):(Int.tmod (n:Int) 4 != 0)=decide (n%4≠0):=by
 rw [Int.tmod_eq_emod_of_nonneg (by omega)]
 by_cases h:n%4=0
 ·have:((n:Int)%4)=0:=by omega
  simp [h,this]
 ·have:¬ ((n:Int)%4)=0:=by omega
  simp [h,this]
theorem Qn5(l:List UInt8):(Lib.trimSuffix l [61]).length≤l.length:=by
 unfold Lib.trimSuffix;split<;>simp
def fin(z:Option (List Nat)):List Int×Int:=match z with | none=>([],5) | some vs=>if (dv vs).2 then (ob (dv vs).1,0) else ([],10)
theorem decode_eq(l:List UInt8)(h:l.length≤100000):QaK (str l)=some (if l.length%4≠0 then ([],5) else fin (vals (strip l))):=by
 unfold QaK
 rw [QbH,tm4]
 by_cases h4:l.length%4=0
 ·have t1:=Qn5 l
  have t2:=Qn5 (Lib.trimSuffix l [61])
  have e1:(⟨(Lib.trimSuffix (str l).data.toList (⟨#[61]⟩:ByteArray).data.toList).toArray⟩:ByteArray)=str (Lib.trimSuffix l [61]):=rfl
  have e2:(⟨(Lib.trimSuffix (str (Lib.trimSuffix l [61])).data.toList (⟨#[61]⟩:ByteArray).data.toList).toArray⟩:ByteArray)=str (strip l):=rfl
  rw [if_neg (by simp [h4]),e1,if_pos (by omega),QbH,if_pos (by omega),e2,show ([]:List Int)=ob [] from rfl,QvR (strip l) [] true (by unfold strip;simp;omega),Qa,if_neg (by omega)]
  cases vals (strip l) with
  | none=>rfl
  | some vs =>
   simp only [List.nil_append,Bool.true_and,fin]
   cases (dv vs).2<;>rfl
 ·rw [if_pos (by simp [h4]),if_pos h4]
end Go.Proofs.YtnekckhjmnhinaaGreatDoor.Six
namespace Go.Proofs.YtnekckhjmnhinaaGreatDoor.Six
open E Go.RowKit
open Hex (str QbH Qdg)
def vf(c:Nat):Nat→Nat→Int
 | 0,_=>-1
 | f+1,i=>if (sg i).toNat=c then (i:Int) else vf c f (i+1)
theorem Qwm:∀ c:Fin 256,vf c.1 64 0=sv c.1:=by decide +kernel
theorem QtR(c:Nat)(f:Nat):∀ i:Nat,i+f=64→QaV.l0 c tab i=some (if vf c f i = -1 then .nx () else .ret (vf c f i)):=by
 induction f with
 | zero =>
  intro i hi
  obtain rfl:i=64:=by omega
  rw [QaV.l0.eq_def]
  simp [vf]
 | succ f ih =>
  intro i hi
  have h1:decide ((i:Int)<64)=true:=by simp;omega
  have e1:wr .i64 ((i:Int)+1)=((i+1:Nat):Int):=by rw [QX (by omega) (by omega)];omega
  rw [QaV.l0.eq_def,if_pos h1,tab_size,if_pos (by omega),tab_bt i (by omega),e1,ih (i+1) (by omega)]
  have hv:vf c (f+1) i=if (sg i).toNat=c then (i:Int) else vf c f (i+1):=rfl
  by_cases hA:(sg i).toNat=c
  ·have hA':(((sg i).toNat:Int)==(c:Int))=true:=by simp;omega
   rw [if_pos hA] at hv
   have:¬ (i:Int) = -1:=by omega
   simp only [hA',hv,this,↓reduceIte]
  ·have hA':(((sg i).toNat:Int)==(c:Int))=false:=by simp;omega
   rw [if_neg hA] at hv
   simp only [hA',hv,↓reduceIte,Bool.false_eq_true]
theorem refValue_eq(c:Nat)(hc:c<256):QaV c=some (sv c):=by
 unfold QaV
 have:=QtR c 64 0 rfl
 rw [show ((0:Nat):Int)=0 from rfl] at this
 have hS:Qcx=some tab:=rfl
 rw [hS,Qa,this,Qa]
 have h2:=Qwm ⟨c,hc⟩
 simp only at h2
 rw [h2]
 by_cases hv:sv c = -1
 ·simp only [hv,↓reduceIte]
 ·simp only [hv,↓reduceIte]
def vb(v:Nat):List Nat:=[v/32%2,v/16%2,v/8%2,v/4%2,v/2%2,v%2]
def bi(L:List Nat):List Int:=L.map fun (n:Nat)=>(n:Int)
theorem Qen(L:List Nat):(bi L).length=L.length:=by simp [bi]
theorem QrQ(L M:List Nat):bi (L++M)=bi L++bi M:=by simp [bi]
theorem Qq9(L:List Nat)(i:Nat)(h:i<L.length):QO (bi L) i=((L.getD i 0:Nat):Int):=by
 unfold QO bi
 rw [Int.toNat_natCast,List.getD_eq_getElem?_getD,List.getElem?_map,List.getD_eq_getElem?_getD,List.getElem?_eq_getElem h]
 rfl
theorem QfJ(v:Nat)(hv:v<64)(B:List Nat)(d:Nat)(hd:0<d∧d≤32)(hB:B.length≤1000000) :
  Qy.l1 (v:Int) (bi B) (d:Int)=Qy.l1 (v:Int) (bi (B++[v/d%2])) ((d/2:Nat):Int):=by
 have c1:decide ((d:Int)>0)=true:=by simp;omega
 have hq:v/d≤v:=Nat.div_le_self _ _
 have e1:wr .i64 (Int.tdiv (v:Int) (d:Int))=((v/d:Nat):Int):=by
  rw [Int.tdiv_eq_ediv_of_nonneg (by omega),←Int.natCast_ediv]
  exact QX (Int.le_trans (by decide) (Int.natCast_nonneg _)) (Int.lt_of_le_of_lt (Int.ofNat_le.2 hq) (by omega))
 have e2:Int.tmod ((v/d:Nat):Int) 2=((v/d%2:Nat):Int):=by rw [Int.tmod_eq_emod_of_nonneg (Int.natCast_nonneg _)];rfl
 rw [Qy.l1.eq_def,if_pos c1,if_pos (by omega),Qen,if_pos (by omega),e1,e2,Qu4 d (by omega),QrQ]
 rfl
theorem Qt0(v:Nat)(hv:v<64)(B:List Nat)(hB:B.length≤100000):Qy.l1 (v:Int) (bi B) 32=some (bi (B++vb v)):=by
 have s0:=QfJ v hv B 32 (by omega) (by omega)
 have s1:=QfJ v hv (B++[v/32%2]) 16 (by omega) (by simp;omega)
 have s2:=QfJ v hv (B++[v/32%2]++[v/16%2]) 8 (by omega) (by simp;omega)
 have s3:=QfJ v hv (B++[v/32%2]++[v/16%2]++[v/8%2]) 4 (by omega) (by simp;omega)
 have s4:=QfJ v hv (B++[v/32%2]++[v/16%2]++[v/8%2]++[v/4%2]) 2 (by omega) (by simp;omega)
 have s5:=QfJ v hv (B++[v/32%2]++[v/16%2]++[v/8%2]++[v/4%2]++[v/2%2]) 1 (by omega) (by simp;omega)
 refine s0.trans (s1.trans (s2.trans (s3.trans (s4.trans (s5.trans ?_)))))
 rw [Qy.l1.eq_def,if_neg (by decide)]
 simp [vb]
theorem Qt1(s:List UInt8)(n:Nat)(hs:n≤s.length)(hl:s.length≤10000)(f:Nat):∀ (i:Nat) (B:List Nat),i+f=n→B.length≤6*i →
  Qy.l0 (str s) n (bi B) i=some (match vals ((s.take n).drop i) with | none=>.ret ([],5) | some vs=>.nx (bi (B++vs.flatMap vb))):=by
 induction f with
 | zero =>
  intro i B hi hB
  have c1:decide ((i:Int)<(n:Int))=false:=by simp;omega
  rw [Qy.l0.eq_def,List.drop_eq_nil_of_le (by simp;omega)]
  simp only [c1,Bool.false_eq_true,↓reduceIte,Qg5,List.flatMap_nil,List.append_nil]
 | succ f ih =>
  intro i B hi hB
  have c1:decide ((i:Int)<(n:Int))=true:=by simp;omega
  obtain ⟨c,hc,hd⟩:=QcC (s.take n) i (by simp;omega)
  have hc':s[i]? = some c:=by rw [List.getElem?_take,if_pos (by omega)] at hc;exact hc
  have hcl:=c.toNat_lt
  have h1:=(Qqb ⟨c.toNat,hcl⟩).1
  have h2:=(Qqb ⟨c.toNat,hcl⟩).2
  simp only at h1 h2
  have e0:wr .i64 ((i:Int)+1)=((i+1:Nat):Int):=by rw [QX (by omega) (by omega)];omega
  rw [Qy.l0.eq_def,hd,QeJ,if_pos c1,if_pos (by rw [QbH];omega),Qnb s i c hc',refValue_eq _ hcl,Qa,e0]
  by_cases hneg:sv c.toNat<0
  ·simp only [↓reduceIte,hneg,decide_true]
  ·have g1:decide (sv c.toNat<0)=false:=by simp;omega
   obtain ⟨v,hv⟩:∃ v:Nat,sv c.toNat=v:=⟨(sv c.toNat).toNat,by omega⟩
   rw [hv] at h2 hneg g1
   simp only [hv,g1,↓reduceIte,Bool.false_eq_true,hneg,Qt0 v (by omega) B (by omega),Qa]
   rw [ih (i+1) _ (by omega) (by simp [vb];omega)]
   cases vals ((s.take n).drop (i+1)) with
   | none=>rfl
   | some vs=>simp
def c8(L:List Nat)(i:Nat):Nat:=128*L.getD i 0+64*L.getD (i+1) 0+32*L.getD (i+2) 0+16*L.getD (i+3) 0+8*L.getD (i+4) 0+4*L.getD (i+5) 0+2*L.getD (i+6) 0+L.getD (i+7) 0
theorem Qg0(L:List Nat)(hb:∀ b∈L,b<2)(i:Nat):L.getD i 0<2:=by
 rw [List.getD_eq_getElem?_getD]
 cases h:L[i]? with
 | none=>simp
 | some b=>simp only [Option.getD_some];exact hb b (List.mem_of_getElem? h)
theorem QeN(L:List Nat)(hL:L.length<100000)(hb:∀ b∈L,b<2)(i n k:Nat)(hk:k<i+8)(hkL:k<L.length)(hn:n<1000)(hi:i<100000) :
  Qy.l3 (bi L) i n k=Qy.l3 (bi L) i ((2*n+L.getD k 0:Nat):Int) ((k+1:Nat):Int):=by
 have e8:wr .i64 ((i:Int)+8)=((i+8:Nat):Int):=by rw [QX (by omega) (by omega)];omega
 have c1:decide ((k:Int)<((i+8:Nat):Int))=true:=by simp;omega
 have e1:wr .i64 ((k:Int)+1)=((k+1:Nat):Int):=by rw [QX (by omega) (by omega)];omega
 have e2:wr .i64 (2*(n:Int))=((2*n:Nat):Int):=by rw [QX (by omega) (by omega)];omega
 have hg:=Qg0 L hb k
 have e3:wr .i64 (((2*n:Nat):Int)+((L.getD k 0:Nat):Int))=((2*n+L.getD k 0:Nat):Int):=by rw [QX (by omega) (by omega)];omega
 rw [Qy.l3.eq_def,e8,if_pos c1,if_pos (by rw [Qen];omega),Qq9 L k hkL,e1,e2,e3]
theorem QtY(L:List Nat)(hL:L.length<100000)(hb:∀ b∈L,b<2)(i:Nat)(hi:i+8≤L.length):Qy.l3 (bi L) i 0 i=some ((c8 L i:Nat):Int):=by
 have h0:=Qg0 L hb i
 have h1:=Qg0 L hb (i+1)
 have h2:=Qg0 L hb (i+2)
 have h3:=Qg0 L hb (i+3)
 have h4:=Qg0 L hb (i+4)
 have h5:=Qg0 L hb (i+5)
 have h6:=Qg0 L hb (i+6)
 have s0:=QeN L hL hb i 0 i (by omega) (by omega) (by omega) (by omega)
 have s1:=QeN L hL hb i (2*0+L.getD i 0) (i+1) (by omega) (by omega) (by omega) (by omega)
 have s2:=QeN L hL hb i (2*(2*0+L.getD i 0)+L.getD (i+1) 0) (i+2) (by omega) (by omega) (by omega) (by omega)
 have s3:=QeN L hL hb i (2*(2*(2*0+L.getD i 0)+L.getD (i+1) 0)+L.getD (i+2) 0) (i+3) (by omega) (by omega) (by omega) (by omega)
 have s4:=QeN L hL hb i (2*(2*(2*(2*0+L.getD i 0)+L.getD (i+1) 0)+L.getD (i+2) 0)+L.getD (i+3) 0) (i+4) (by omega) (by omega) (by omega) (by omega)
 have s5:=QeN L hL hb i (2*(2*(2*(2*(2*0+L.getD i 0)+L.getD (i+1) 0)+L.getD (i+2) 0)+L.getD (i+3) 0)+L.getD (i+4) 0) (i+5) (by omega) (by omega) (by omega) (by omega)
 have s6:=QeN L hL hb i (2*(2*(2*(2*(2*(2*0+L.getD i 0)+L.getD (i+1) 0)+L.getD (i+2) 0)+L.getD (i+3) 0)+L.getD (i+4) 0)+L.getD (i+5) 0) (i+6) (by omega) (by omega) (by omega) (by omega)
 have s7:=QeN L hL hb i (2*(2*(2*(2*(2*(2*(2*0+L.getD i 0)+L.getD (i+1) 0)+L.getD (i+2) 0)+L.getD (i+3) 0)+L.getD (i+4) 0)+L.getD (i+5) 0)+L.getD (i+6) 0) (i+7) (by omega) (by omega) (by omega) (by omega)
 refine s0.trans (s1.trans (s2.trans (s3.trans (s4.trans (s5.trans (s6.trans (s7.trans ?_)))))))
 have e8:wr .i64 ((i:Int)+8)=((i+8:Nat):Int):=by rw [QX (by omega) (by omega)];omega
 have c1:decide (((i+7+1:Nat):Int)<((i+8:Nat):Int))=false:=decide_eq_false (by omega)
 rw [Qy.l3.eq_def,e8]
 simp only [c1,Bool.false_eq_true,↓reduceIte]
 congr 2
 unfold c8;omega
def chs(L:List Nat):Nat→Nat→List UInt8
 | 0,_=>[]
 | f+1,t=>if 8*t+8≤L.length then UInt8.ofNat (c8 L (8*t))::chs L f (t+1) else []
theorem QtZ(L:List Nat)(hL:L.length<60000)(hb:∀ b∈L,b<2)(f:Nat):∀ (t:Nat) (o:List UInt8),L.length≤8*(t+f)+7→8*t≤L.length+8→o.length=t →
  Qy.l2 (bi L) (ob o) ((8*t:Nat):Int)=some (ob (o++chs L f t)):=by
 have e8:∀ t:Nat,8*t≤L.length+8→wr .i64 (((8*t:Nat):Int)+8)=((8*t+8:Nat):Int):=fun t ht=>by rw [QX (by omega) (by omega)];omega
 induction f with
 | zero =>
  intro t o h1 h3 h2
  have c1:decide (((8*t+8:Nat):Int)≤((bi L).length:Int))=false:=decide_eq_false (by rw [Qen];omega)
  rw [Qy.l2.eq_def,e8 t h3]
  simp only [c1,Bool.false_eq_true,↓reduceIte,chs,List.append_nil]
 | succ f ih =>
  intro t o h1 h3 h2
  rw [Qy.l2.eq_def,e8 t h3]
  by_cases h:8*t+8≤L.length
  ·have c1:decide (((8*t+8:Nat):Int)≤((bi L).length:Int))=true:=decide_eq_true (by rw [Qen];omega)
   have hob:ob o++[wr .u8 ((c8 L (8*t):Nat):Int)]=ob (o++[UInt8.ofNat (c8 L (8*t))]):=by
    rw [Qh5,QhT];congr 1
   simp only [c1,↓reduceIte,QtY L (by omega) hb (8*t) h,Qa,hob,Qa1]
   rw [if_pos (by omega),show 8*t+8=8*(t+1) by omega,ih (t+1) _ (by omega) (by omega) (by simp;omega),chs,if_pos h]
   simp
  ·have c1:decide (((8*t+8:Nat):Int)≤((bi L).length:Int))=false:=decide_eq_false (by rw [Qen];omega)
   simp only [c1,Bool.false_eq_true,↓reduceIte,chs,if_neg h,List.append_nil]
def nul(L:List Nat):Bool:=L.all (·==0)
theorem QtX(L:List Nat)(hL:L.length<60000)(f:Nat):∀ i:Nat,L.length≤i+f→i≤100000 →
  Qy.l4 (bi L) i=some (if nul (L.drop i) then .nx () else .ret ([],10)):=by
 induction f with
 | zero =>
  intro i hi h2
  have c1:decide ((i:Int)<((bi L).length:Int))=false:=decide_eq_false (by rw [Qen];omega)
  rw [Qy.l4.eq_def,List.drop_eq_nil_of_le (by omega)]
  simp only [c1,Bool.false_eq_true,↓reduceIte,nul,List.all_nil]
 | succ f ih =>
  intro i hi h2
  rw [Qy.l4.eq_def]
  by_cases h:i<L.length
  ·have c1:decide ((i:Int)<((bi L).length:Int))=true:=decide_eq_true (by rw [Qen];omega)
   obtain ⟨b,hb,hd⟩:=QcC L i h
   have e0:wr .i64 ((i:Int)+1)=((i+1:Nat):Int):=by rw [QX (by omega) (by omega)];omega
   have hg:L.getD i 0=b:=by rw [List.getD_eq_getElem?_getD,hb];rfl
   rw [if_pos c1,if_pos (by rw [Qen];omega),Qq9 L i h,hg,e0,ih (i+1) (by omega) (by omega),hd]
   by_cases hb0:b=0
   ·subst hb0;simp [nul]
   ·have c2:((b:Int) != 0)=true:=by simp;omega
    simp [c2,nul,hb0]
  ·have c1:decide ((i:Int)<((bi L).length:Int))=false:=decide_eq_false (by rw [Qen];omega)
   rw [List.drop_eq_nil_of_le (by omega)]
   simp only [c1,Bool.false_eq_true,↓reduceIte,nul,List.all_nil]
theorem Qv1(A L:List Nat)(i:Nat):c8 (A++L) (A.length+i)=c8 L i:=by
 have:∀ k,(A++L).getD (A.length+k) 0=L.getD k 0:=fun k=>by rw [List.getD_eq_getElem?_getD,List.getElem?_append_right (Nat.le_add_right _ _),Nat.add_sub_cancel_left,List.getD_eq_getElem?_getD]
 unfold c8
 simp only [Nat.add_assoc,this]
theorem QuE(A L:List Nat)(hA:A.length=24)(f:Nat):∀ t,chs (A++L) f (3+t)=chs L f t:=by
 induction f with
 | zero=>intro t;rfl
 | succ f ih =>
  intro t
  rw [chs,chs,List.length_append,hA,show 3+t+1=3+(t+1) by omega,ih]
  have:c8 (A++L) (8*(3+t))=c8 L (8*t):=by
   rw [show 8*(3+t)=A.length+8*t by omega];exact Qv1 A L _
  rw [this]
  by_cases h:8*t+8≤L.length
  ·rw [if_pos h,if_pos (by omega)]
  ·rw [if_neg h,if_neg (by omega)]
theorem Qwk(v:Nat):∀ b∈vb v,b<2:=by
 intro b hb
 simp only [vb,List.mem_cons,List.not_mem_nil,or_false] at hb
 omega
theorem Quv(vs:List Nat):∀ b∈vs.flatMap vb,b<2:=by
 intro b hb
 obtain ⟨v,_,hv⟩:=List.mem_flatMap.1 hb
 exact Qwk v b hv
theorem Qj8(vs:List Nat):(vs.flatMap vb).length=6*vs.length:=by
 induction vs with
 | nil=>rfl
 | cons v vs ih=>rw [List.flatMap_cons,List.length_append,ih];simp [vb];omega
theorem QsU(A L:List Nat)(i:Nat)(h:i<A.length):(A++L).getD i 0=A.getD i 0:=by
 simp [List.getD_eq_getElem?_getD,List.getElem?_append_left h]
theorem QpJ(L:List Nat)(f:Nat):∀ t,L.length<8*(t+f)+8→8*t≤L.length→(chs L f t).length=L.length/8-t:=by
 induction f with
 | zero=>intro t h1 h2;simp [chs];omega
 | succ f ih =>
  intro t h1 h2
  rw [chs]
  split
  ·rw [List.length_cons,ih (t+1) (by omega) (by omega)];omega
  ·simp;omega
theorem n1(a b:Nat)(ha:a<64)(hb:b<64):128*(a/32%2)+64*(a/16%2)+32*(a/8%2)+16*(a/4%2)+8*(a/2%2)+4*(a%2)+2*(b/32%2)+b/16%2=a*4+b/16:=by omega
theorem n2(b c:Nat)(hb:b<64)(hc:c<64):128*(b/8%2)+64*(b/4%2)+32*(b/2%2)+16*(b%2)+8*(c/32%2)+4*(c/16%2)+2*(c/8%2)+c/4%2=b%16*16+c/4:=by omega
theorem n3(c d:Nat)(hc:c<64)(hd:d<64):128*(c/2%2)+64*(c%2)+32*(d/32%2)+16*(d/16%2)+8*(d/8%2)+4*(d/4%2)+2*(d/2%2)+d%2=c%4*64+d:=by omega
theorem gY2(a b:Nat):gY [a,b]=(a*64+b)*4096:=by
 unfold gY cat
 simp only [List.foldl_cons,List.foldl_nil,List.length_cons,List.length_nil,Nat.reduceAdd,Nat.reduceMul,Nat.reduceSub,Nat.reducePow,Nat.mul_zero,Nat.zero_add]
 omega
theorem gY3(a b c:Nat):gY [a,b,c]=((a*64+b)*64+c)*64:=by
 unfold gY cat
 simp only [List.foldl_cons,List.foldl_nil,List.length_cons,List.length_nil,Nat.reduceAdd,Nat.reduceMul,Nat.reduceSub,Nat.reducePow,Nat.mul_zero,Nat.zero_add]
 omega
theorem gY4(a b c d:Nat):gY [a,b,c,d]=((a*64+b)*64+c)*64+d:=by
 unfold gY cat
 simp only [List.foldl_cons,List.foldl_nil,List.length_cons,List.length_nil,Nat.reduceAdd,Nat.reduceMul,Nat.reduceSub,Nat.reducePow,Nat.mul_zero,Nat.zero_add]
 omega
theorem zf4(vs:List Nat)(h:vs.length=4):zf vs=true:=by
 unfold zf
 rw [h]
 exact decide_eq_true (Nat.mul_mod_left _ _)
theorem QvQ(A L:List Nat)(hA:A.length=24)(m:Nat):(A++L).drop (8*(6*(m+4)/8))=L.drop (8*(6*m/8)):=by
 rw [List.drop_append,List.drop_eq_nil_of_le (by omega),List.nil_append]
 congr 1;omega
set_option maxHeartbeats 1000000 in
theorem Qty:∀ (vs:List Nat),(∀ v∈vs,v<64)→∀ f,6*vs.length<8*f+8→chs (vs.flatMap vb) f 0=(dv vs).1∧nul ((vs.flatMap vb).drop (8*(6*vs.length/8)))=(dv vs).2
 | [],_,f,_=>by rw [dv];cases f<;>simp [chs,nul]
 | [a],h,f,hf=>by
  have ha:=h a (by simp)
  rw [dv,dv]
  have h1:chs ([a].flatMap vb) f 0=[]:=by
   cases f with
   | zero=>rfl
   | succ f=>rw [chs,if_neg (by simp [vb])]
  refine ⟨by rw [h1];simp [bys],?_⟩
  have hz:zf [a]=decide (a=0):=by
   unfold zf gY cat
   simp only [List.foldl_cons,List.foldl_nil,List.length_singleton,Nat.reduceMul,Nat.reduceSub,Nat.reducePow,Nat.mul_zero,Nat.zero_add]
   rw [decide_eq_decide];omega
  simp only [List.flatMap_cons,List.flatMap_nil,List.append_nil,vb,List.length_singleton,Nat.reduceMul,Nat.reduceDiv,List.drop_zero,List.take_succ_cons,List.take_nil,List.drop_succ_cons,List.drop_nil,dif_pos,Bool.and_true,hz,nul,List.all_cons,List.all_nil,dif_neg (show ¬ [a]=[] by simp)]
  rw [Bool.eq_iff_iff];simp only [Bool.and_eq_true,beq_iff_eq,decide_eq_true_eq];omega
 | [a,b],h,f,hf=>by
  have ha:=h a (by simp)
  have hb:=h b (by simp)
  obtain ⟨f,rfl⟩:∃ k,f=k+1:=⟨f-1,by simp at hf;omega⟩
  rw [dv,dv]
  have h1:chs ([a,b].flatMap vb) (f+1) 0=[UInt8.ofNat (c8 ([a,b].flatMap vb) 0)]:=by
   rw [chs,if_pos (by simp [vb])]
   cases f with
   | zero=>rfl
   | succ f=>rw [chs,if_neg (by simp [vb])]
  have h2:c8 ([a,b].flatMap vb) 0=gY [a,b]/2 ^ 16:=by
   unfold c8
   simp only [List.flatMap_cons,List.flatMap_nil,List.append_nil,vb,List.cons_append,List.nil_append,List.getD_cons_zero,List.getD_cons_succ,Nat.zero_add,Nat.reduceAdd]
   rw [gY2,n1 a b ha hb]
   omega
  have hz:zf [a,b]=decide (b%16=0):=by
   unfold zf gY cat
   simp only [List.foldl_cons,List.foldl_nil,List.length_cons,List.length_nil,Nat.reduceAdd,Nat.reduceMul,Nat.reduceSub,Nat.reducePow,Nat.mul_zero,Nat.zero_add]
   rw [decide_eq_decide];omega
  refine ⟨by rw [h1,h2];simp [bys],?_⟩
  simp only [List.flatMap_cons,List.flatMap_nil,List.append_nil,vb,List.cons_append,List.nil_append,List.length_cons,List.length_nil,Nat.reduceAdd,Nat.reduceMul,Nat.reduceDiv,List.take_succ_cons,List.take_nil,List.drop_succ_cons,List.drop_nil,List.drop_zero,dif_pos,Bool.and_true,hz,nul,List.all_cons,List.all_nil,dif_neg (show ¬ [a,b]=[] by simp)]
  rw [Bool.eq_iff_iff];simp only [Bool.and_eq_true,beq_iff_eq,decide_eq_true_eq];omega
 | [a,b,c],h,f,hf=>by
  have ha:=h a (by simp)
  have hb:=h b (by simp)
  have hc:=h c (by simp)
  obtain ⟨f,rfl⟩:∃ k,f=k+2:=⟨f-2,by simp at hf;omega⟩
  rw [dv,dv]
  have h1:chs ([a,b,c].flatMap vb) (f+2) 0=[UInt8.ofNat (c8 ([a,b,c].flatMap vb) 0),UInt8.ofNat (c8 ([a,b,c].flatMap vb) 8)]:=by
   rw [chs,if_pos (by simp [vb]),chs,if_pos (by simp [vb])]
   cases f with
   | zero=>rfl
   | succ f=>rw [chs,if_neg (by simp [vb])]
  have h2:c8 ([a,b,c].flatMap vb) 0=gY [a,b,c]/2 ^ 16:=by
   unfold c8
   simp only [List.flatMap_cons,List.flatMap_nil,List.append_nil,vb,List.cons_append,List.nil_append,List.getD_cons_zero,List.getD_cons_succ,Nat.zero_add,Nat.reduceAdd]
   rw [gY3,n1 a b ha hb]
   omega
  have h3:c8 ([a,b,c].flatMap vb) 8=gY [a,b,c]/2 ^ 8%256:=by
   unfold c8
   simp only [List.flatMap_cons,List.flatMap_nil,List.append_nil,vb,List.cons_append,List.nil_append,List.getD_cons_zero,List.getD_cons_succ,Nat.zero_add,Nat.reduceAdd]
   rw [gY3,n2 b c hb hc]
   omega
  have h4:UInt8.ofNat (gY [a,b,c]/2 ^ 8%256)=UInt8.ofNat (gY [a,b,c]/2 ^ 8):=by
   apply UInt8.toNat_inj.1;simp
  have hz:zf [a,b,c]=decide (c%4=0):=by
   unfold zf gY cat
   simp only [List.foldl_cons,List.foldl_nil,List.length_cons,List.length_nil,Nat.reduceAdd,Nat.reduceMul,Nat.reduceSub,Nat.reducePow,Nat.mul_zero,Nat.zero_add]
   rw [decide_eq_decide];omega
  refine ⟨by rw [h1,h2,h3,h4];simp [bys],?_⟩
  simp only [List.flatMap_cons,List.flatMap_nil,List.append_nil,vb,List.cons_append,List.nil_append,List.length_cons,List.length_nil,Nat.reduceAdd,Nat.reduceMul,Nat.reduceDiv,List.take_succ_cons,List.take_nil,List.drop_succ_cons,List.drop_nil,List.drop_zero,dif_pos,Bool.and_true,hz,nul,List.all_cons,List.all_nil,dif_neg (show ¬ [a,b,c]=[] by simp)]
  rw [Bool.eq_iff_iff];simp only [Bool.and_eq_true,beq_iff_eq,decide_eq_true_eq];omega
 | a::b::c::d::vs,h,f,hf=>by
  have ha:=h a (by simp)
  have hb:=h b (by simp)
  have hc:=h c (by simp)
  have hd:=h d (by simp)
  obtain ⟨f,rfl⟩:∃ k,f=k+3:=⟨f-3,by simp at hf;omega⟩
  have ih:=Qty vs (fun v hv=>h v (by simp [hv])) f (by simp at hf;omega)
  have hfl:(a::b::c::d::vs).flatMap vb=([a,b,c,d].flatMap vb)++vs.flatMap vb:=by simp
  have hA:([a,b,c,d].flatMap vb).length=24:=by rw [Qj8];rfl
  rw [dv,hfl]
  have h1:chs (([a,b,c,d].flatMap vb)++vs.flatMap vb) (f+3) 0=UInt8.ofNat (c8 ([a,b,c,d].flatMap vb) 0)::UInt8.ofNat (c8 ([a,b,c,d].flatMap vb) 8)::UInt8.ofNat (c8 ([a,b,c,d].flatMap vb) 16)::chs (vs.flatMap vb) f 0:=by
   have hc8:∀ i,i+8≤24→c8 (([a,b,c,d].flatMap vb)++vs.flatMap vb) i=c8 ([a,b,c,d].flatMap vb) i:=fun i hi=>by
    have hg:∀ j,j<24→(([a,b,c,d].flatMap vb)++vs.flatMap vb).getD j 0=([a,b,c,d].flatMap vb).getD j 0:=fun j hj=>QsU _ _ _ (by rw [hA];exact hj)
    unfold c8;rw [hg i (by omega),hg (i+1) (by omega),hg (i+2) (by omega),hg (i+3) (by omega),hg (i+4) (by omega),hg (i+5) (by omega),hg (i+6) (by omega),hg (i+7) (by omega)]
   have ht:=QuE ([a,b,c,d].flatMap vb) (vs.flatMap vb) hA f 0
   rw [chs,if_pos (by rw [List.length_append,hA];omega),chs,if_pos (by rw [List.length_append,hA];omega),chs,if_pos (by rw [List.length_append,hA];omega)]
   simp only [Nat.mul_zero,Nat.zero_add,Nat.mul_one,Nat.reduceAdd,Nat.reduceMul,Nat.add_zero] at ht ⊢
   rw [ht,hc8 0 (by omega),hc8 8 (by omega),hc8 16 (by omega)]
  have h2:c8 ([a,b,c,d].flatMap vb) 0=gY [a,b,c,d]/2 ^ 16:=by
   unfold c8
   simp only [List.flatMap_cons,List.flatMap_nil,List.append_nil,vb,List.cons_append,List.nil_append,List.getD_cons_zero,List.getD_cons_succ,Nat.zero_add,Nat.reduceAdd]
   rw [gY4,n1 a b ha hb]
   omega
  have h3:c8 ([a,b,c,d].flatMap vb) 8=gY [a,b,c,d]/2 ^ 8%256:=by
   unfold c8
   simp only [List.flatMap_cons,List.flatMap_nil,List.append_nil,vb,List.cons_append,List.nil_append,List.getD_cons_zero,List.getD_cons_succ,Nat.zero_add,Nat.reduceAdd]
   rw [gY4,n2 b c hb hc]
   omega
  have h4:c8 ([a,b,c,d].flatMap vb) 16=gY [a,b,c,d]%256:=by
   unfold c8
   simp only [List.flatMap_cons,List.flatMap_nil,List.append_nil,vb,List.cons_append,List.nil_append,List.getD_cons_zero,List.getD_cons_succ,Nat.zero_add,Nat.reduceAdd]
   rw [gY4,n3 c d hc hd]
   omega
  have h5:UInt8.ofNat (gY [a,b,c,d]/2 ^ 8%256)=UInt8.ofNat (gY [a,b,c,d]/2 ^ 8):=by
   apply UInt8.toNat_inj.1;simp
  have h6:UInt8.ofNat (gY [a,b,c,d]%256)=UInt8.ofNat (gY [a,b,c,d]):=by
   apply UInt8.toNat_inj.1;simp
  have hz:zf [a,b,c,d]=true:=zf4 _ rfl
  have hm:min (vs.length+1+1+1+1) 4-1=3:=by omega
  have hdr:=QvQ ([a,b,c,d].flatMap vb) (vs.flatMap vb) hA vs.length
  generalize [a,b,c,d].flatMap vb=A at *
  simp only [dif_neg (show ¬ a::b::c::d::vs=[] by simp),List.take_succ_cons,List.take_zero,List.drop_succ_cons,List.drop_zero,hz,Bool.true_and,List.length_cons,hm]
  refine ⟨by rw [h1,h2,h3,h4,h5,h6,ih.1];simp [bys],?_⟩
  rw [show vs.length+1+1+1+1=vs.length+4 from rfl,hdr]
  exact ih.2
theorem Qu1(l:List UInt8):Lib.trimSuffix l [61]=if l.getLast? = some 61 then l.take (l.length-1) else l:=by
 unfold Lib.trimSuffix
 rw [←Lib.hasSuffix_of_drop l [61]]
 rcases List.eq_nil_or_concat l with rfl | ⟨k,x,rfl⟩
 ·rfl
 ·have hd:(k++[x]).drop ((k++[x]).length-1)=[x]:=by
   rw [List.length_append,List.length_singleton,Nat.add_sub_cancel]
   simp
  simp only [List.length_singleton,hd]
  by_cases hx:x=61
  ·subst hx;simp
  ·simp [hx]
end Go.Proofs.YtnekckhjmnhinaaGreatDoor.Six
namespace Go.Proofs.YtnekckhjmnhinaaGreatDoor.Six
open E Go.RowKit
open Hex (str QbH Qdg)
theorem Qiw(l:List UInt8):l=[]∨∃ k x,l=k++[x]:=by
 rcases List.eq_nil_or_concat l with h | ⟨k,x,h⟩
 ·exact .inl h
 ·exact .inr ⟨k,x,by rw [h,List.concat_eq_append]⟩
theorem Qfh(k:List UInt8)(x:UInt8):Lib.trimSuffix (k++[x]) [61]=if x=61 then k else k++[x]:=by
 rw [Qu1];simp
theorem QrN(k m:List UInt8)(x:UInt8)(n:Int)(h:n=k.length):bt (str (k++x::m)) n=x.toNat:=by
 subst h
 exact Qnb _ _ _ (by simp)
theorem QvF(l:List UInt8)(h4:l.length%4=0)(hl:l.length≤100000) :
  (if (decide (((str l).size:Int)>0))=true then (if (0:Int)≤wr .i64 (((str l).size:Int)-1)∧wr .i64 (((str l).size:Int)-1)<((str l).size:Int) then if (bt (str l) (wr .i64 (((str l).size:Int)-1))==61)=true then (if (0:Int)≤wr .i64 ((wr .i64 (((str l).size:Int)-1))-1)∧wr .i64 ((wr .i64 (((str l).size:Int)-1))-1)<((str l).size:Int) then if (bt (str l) (wr .i64 ((wr .i64 (((str l).size:Int)-1))-1))==61)=true then (some (wr .i64 ((wr .i64 (((str l).size:Int)-1))-1))) else (some (wr .i64 (((str l).size:Int)-1))) else none) else (some ((str l).size:Int)) else none) else (some ((str l).size:Int)))
  =some (((strip l).length:Nat):Int)∧strip l=l.take (strip l).length∧(l=strip l++List.replicate (l.length-(strip l).length) 61)∧l.length-(strip l).length≤2∧(strip l).length≤l.length:=by
 rcases Qiw l with rfl | ⟨k,x,rfl⟩
 ·refine ⟨rfl,rfl,rfl,by decide,by decide⟩
 ·rcases Qiw k with rfl | ⟨k,y,rfl⟩
  ·simp at h4
  ·have hz:(str (k++[y]++[x])).size=k.length+2:=by rw [QbH];simp
   simp only [List.length_append,List.length_singleton] at hl
   have e1:wr .i64 (((k.length+2:Nat):Int)-1)=((k.length+1:Nat):Int):=by rw [QX (by omega) (by omega)];omega
   have e2:wr .i64 (((k.length+1:Nat):Int)-1)=((k.length:Nat):Int):=by rw [QX (by omega) (by omega)];omega
   have b1:bt (str (k++[y]++[x])) ((k.length+1:Nat):Int)=x.toNat:=by exact QrN (k++[y]) [] x _ (by simp)
   have b2:bt (str (k++[y]++[x])) ((k.length:Nat):Int)=y.toNat:=by
    rw [List.append_assoc];exact QrN k [x] y _ rfl
   have hq:∀ z:UInt8,((z.toNat:Int)==61)=decide (z=61):=fun z=>by
    rw [Bool.eq_iff_iff];simp only [beq_iff_eq,decide_eq_true_eq]
    constructor
    ·intro h;apply UInt8.toNat_inj.1;show z.toNat=61;omega
    ·rintro rfl;rfl
   rw [hz,e1,e2,b1,b2,hq,hq,if_pos (decide_eq_true (by omega)),if_pos (by omega)]
   unfold strip
   rw [Qfh]
   by_cases hx:x=61
   ·subst hx
    rw [if_pos rfl,Qfh]
    by_cases hy:y=61
    ·subst hy
     rw [if_pos (by decide),if_pos (by omega),if_pos (by decide),if_pos rfl]
     refine ⟨rfl,by simp,?_,by simp,by simp⟩
     simp only [List.length_append,List.length_singleton]
     rw [show k.length+1+1-k.length=2 by omega]
     simp [List.replicate]
    ·rw [if_pos (by decide),if_pos (by omega),if_neg (by simpa using hy),if_neg hy]
     refine ⟨by simp,?_,by simp,by simp,by simp⟩
     rw [List.take_append_of_le_length (by simp),List.take_length]
   ·rw [if_neg hx,Qfh,if_neg hx]
    rw [if_neg (by simpa using hx)]
    refine ⟨by simp,by rw [List.take_length],by simp,by simp,by simp⟩
theorem refDecode_eq(l:List UInt8)(h:l.length≤9500):Qy (str l)=some (if l.length%4≠0 then ([],5) else fin (vals (strip l))):=by
 unfold Qy
 by_cases h4:l.length%4=0
 ·obtain ⟨h1,h2,_,_,h3⟩:=QvF l h4 (by omega)
  have c1:(Int.tmod ((str l).size:Int) 4 != 0)=false:=by rw [QbH,tm4,h4];rfl
  rw [if_neg (by rw [c1];decide),h1,Qa,if_neg (by omega)]
  have r0:=Qt1 l (strip l).length h3 (by omega) (strip l).length 0 [] (by omega) (by simp)
  rw [←h2,List.drop_zero,show bi []=([]:List Int) from rfl] at r0
  simp only [List.nil_append] at r0
  rw [show ((0:Nat):Int)=0 from rfl] at r0
  rw [r0,Qa]
  cases hv:vals (strip l) with
  | none=>rfl
  | some vs =>
   have hvl:=Qff _ _ hv
   have hlt:=Qna _ _ hv
   have hfl:=Qj8 vs
   simp only [List.nil_append]
   have r2:=QtZ (vs.flatMap vb) (by omega) (Quv vs) ((vs.flatMap vb).length/8) 0 [] (by omega) (by omega) rfl
   rw [show ob []=([]:List Int) from rfl,List.nil_append] at r2
   have hch:=QpJ (vs.flatMap vb) ((vs.flatMap vb).length/8) 0 (by omega) (by omega)
   obtain ⟨d1,d2⟩:=Qty vs hlt ((vs.flatMap vb).length/8) (by omega)
   have e1:wr .i64 (8*((ob (chs (vs.flatMap vb) ((vs.flatMap vb).length/8) 0)).length:Int))=((8*(6*vs.length/8):Nat):Int):=by
    rw [Qa1,hch,QX (by omega) (by omega)];omega
   have r4:=QtX (vs.flatMap vb) (by omega) (vs.flatMap vb).length (8*(6*vs.length/8)) (by omega) (by omega)
   rw [show ((8*0:Nat):Int)=0 from rfl] at r2
   rw [r2,Qa,e1,r4,Qa,d2,d1]
   unfold fin
   cases hz:(dv vs).2<;>simp [hz]
 ·have c1:(Int.tmod ((str l).size:Int) 4 != 0)=true:=by rw [QbH,tm4];simpa using h4
  rw [if_pos c1,if_pos h4]
def sgV(X:Nat):Nat→Nat→List Nat
 | _,0=>[]
 | i,k+1=>(X/2 ^ (18-6*i)%64)::sgV X (i+1) k
theorem QtP(X:Nat)(k:Nat):∀ i,sgs X i k=(sgV X i k).map sg:=by
 induction k with
 | zero=>intro i;rfl
 | succ k ih=>intro i;rw [sgs,sgV,List.map_cons,ih];rfl
def Qm6(l:List UInt8):List Nat:=if h:l=[] then [] else sgV (gX l) 0 (min l.length 3+1)++Qm6 (l.drop 3)
termination_by l.length
decreasing_by
 have:0<l.length:=List.length_pos_iff.2 h
 simp;omega
theorem Quy(l:List UInt8):enc l=(Qm6 l).map sg:=by
 generalize hn:l.length=n
 induction n using Nat.strongRecOn generalizing l with
 | _ n ih =>
  rw [enc,Qm6]
  by_cases h:l=[]
  ·simp [h]
  ·have hl:0<l.length:=List.length_pos_iff.2 h
   simp only [dif_neg h,List.map_append,QuR,QtP]
   rw [ih (l.drop 3).length (by simp;omega) _ rfl]
theorem Quz(l:List UInt8):∀ v∈Qm6 l,v<64:=by
 generalize hn:l.length=n
 induction n using Nat.strongRecOn generalizing l with
 | _ n ih =>
  rw [Qm6]
  by_cases h:l=[]
  ·simp [h]
  ·have hl:0<l.length:=List.length_pos_iff.2 h
   simp only [dif_neg h]
   intro v hv
   rcases List.mem_append.1 hv with hv | hv
   ·have:∀ k i,∀ v∈sgV (gX l) i k,v<64:=by
     intro k
     induction k with
     | zero=>intro i v hv;simp [sgV] at hv
     | succ k ih =>
      intro i v hv
      rcases List.mem_cons.1 hv with rfl | hv
      ·exact Nat.mod_lt _ (by decide)
      ·exact ih _ v hv
    exact this _ _ v hv
   ·exact ih (l.drop 3).length (by simp;omega) _ rfl v hv
theorem Qn3(l:List UInt8):vals (enc l)=some (Qm6 l):=by
 rw [Quy,Qsb _ (Quz l)]
theorem QuQ(x:UInt8)(n:Nat)(h:n%256=x.toNat):UInt8.ofNat n=x:=by
 apply UInt8.toNat_inj.1;rw [UInt8.toNat_ofNat'];exact h
theorem zf2(a b:Nat)(ha:a<64)(hb:b<64):zf [a,b]=decide (b%16=0):=by
 unfold zf
 rw [gY2,decide_eq_decide]
 simp only [List.length_cons,List.length_nil,Nat.reduceAdd,Nat.reduceMul,Nat.reducePow]
 omega
theorem zf3(a b c:Nat)(ha:a<64)(hb:b<64)(hc:c<64):zf [a,b,c]=decide (c%4=0):=by
 unfold zf
 rw [gY3,decide_eq_decide]
 simp only [List.length_cons,List.length_nil,Nat.reduceAdd,Nat.reduceMul,Nat.reducePow]
 omega
theorem QrB:dv []=([],true):=by rw [dv];simp
theorem dv2(a b:Nat):dv [a,b]=([UInt8.ofNat (gY [a,b]/2 ^ 16)],zf [a,b]):=by
 rw [dv,dif_neg (by simp)]
 simp [QrB,bys]
theorem dv3(a b c:Nat):dv [a,b,c]=([UInt8.ofNat (gY [a,b,c]/2 ^ 16),UInt8.ofNat (gY [a,b,c]/2 ^ 8)],zf [a,b,c]):=by
 rw [dv,dif_neg (by simp)]
 simp [QrB,bys]
theorem dv4(a b c d:Nat)(vs:List Nat):dv (a::b::c::d::vs)=(UInt8.ofNat (gY [a,b,c,d]/2 ^ 16)::UInt8.ofNat (gY [a,b,c,d]/2 ^ 8)::UInt8.ofNat (gY [a,b,c,d])::(dv vs).1,(dv vs).2):=by
 rw [dv,dif_neg (by simp)]
 have hm:min (a::b::c::d::vs).length 4-1=3:=by simp only [List.length_cons];omega
 have hz:zf ((a::b::c::d::vs).take 4)=true:=zf4 _ (by simp)
 rw [hm,hz]
 simp [bys]
theorem gX1(a:UInt8):gX [a]=a.toNat*65536:=by simp [gX]
theorem gX2(a b:UInt8):gX [a,b]=a.toNat*65536+b.toNat*256:=by simp [gX]
theorem gX3(a b c:UInt8)(r:List UInt8):gX (a::b::c::r)=a.toNat*65536+b.toNat*256+c.toNat:=by simp [gX]
theorem QlO:Qm6 []=[]:=by rw [Qm6];simp
theorem QwK(a:UInt8):Qm6 [a]=[a.toNat/4,a.toNat%4*16]:=by
 have ha:=a.toNat_lt
 rw [Qm6,dif_neg (by simp),gX1]
 simp only [List.length_singleton,List.drop_succ_cons,List.drop_nil,QlO,List.append_nil,Nat.reduceLeDiff,Nat.min_eq_left,Nat.reduceAdd,sgV,Nat.mul_zero,Nat.mul_one,Nat.reduceSub,Nat.reducePow]
 simp only [List.cons.injEq,and_true]
 omega
theorem QwJ(a b:UInt8):Qm6 [a,b]=[a.toNat/4,a.toNat%4*16+b.toNat/16,b.toNat%16*4]:=by
 have ha:=a.toNat_lt
 have hb:=b.toNat_lt
 rw [Qm6,dif_neg (by simp),gX2]
 simp only [List.length_cons,List.length_nil,List.drop_succ_cons,List.drop_nil,QlO,List.append_nil,Nat.reduceLeDiff,Nat.min_eq_left,Nat.reduceAdd,sgV,Nat.mul_zero,Nat.mul_one,Nat.reduceMul,Nat.reduceSub,Nat.reducePow]
 simp only [List.cons.injEq,and_true]
 omega
theorem QwI(a b c:UInt8)(r:List UInt8):Qm6 (a::b::c::r)=(a.toNat/4)::(a.toNat%4*16+b.toNat/16)::(b.toNat%16*4+c.toNat/64)::(c.toNat%64)::Qm6 r:=by
 have ha:=a.toNat_lt
 have hb:=b.toNat_lt
 have hc:=c.toNat_lt
 have hm:min (a::b::c::r).length 3=3:=by simp only [List.length_cons];omega
 rw [Qm6,dif_neg (by simp),gX3,hm]
 simp only [List.drop_succ_cons,List.drop_zero,Nat.reduceAdd,sgV,Nat.mul_zero,Nat.mul_one,Nat.reduceMul,Nat.reduceSub,Nat.reducePow,List.cons_append,List.nil_append,Nat.div_one]
 simp only [List.cons.injEq,and_true]
 omega
theorem QrC:∀ l:List UInt8,dv (Qm6 l)=(l,true)
 | []=>by rw [QlO,QrB]
 | [a]=>by
  have ha:=a.toNat_lt
  rw [QwK,dv2,zf2 _ _ (by omega) (by omega),gY2]
  have h1:UInt8.ofNat ((a.toNat/4*64+a.toNat%4*16)*4096/2 ^ 16)=a:=QuQ _ _ (by omega)
  rw [h1,decide_eq_true (by omega)]
 | [a,b]=>by
  have ha:=a.toNat_lt
  have hb:=b.toNat_lt
  rw [QwJ,dv3,zf3 _ _ _ (by omega) (by omega) (by omega),gY3]
  have h1:UInt8.ofNat (((a.toNat/4*64+(a.toNat%4*16+b.toNat/16))*64+b.toNat%16*4)*64/2 ^ 16)=a:=QuQ _ _ (by omega)
  have h2:UInt8.ofNat (((a.toNat/4*64+(a.toNat%4*16+b.toNat/16))*64+b.toNat%16*4)*64/2 ^ 8)=b:=QuQ _ _ (by omega)
  rw [h1,h2,decide_eq_true (by omega)]
 | a::b::c::r=>by
  have ha:=a.toNat_lt
  have hb:=b.toNat_lt
  have hc:=c.toNat_lt
  rw [QwI,dv4,gY4,QrC r]
  have h1:UInt8.ofNat ((((a.toNat/4*64+(a.toNat%4*16+b.toNat/16))*64+(b.toNat%16*4+c.toNat/64))*64+c.toNat%64)/2 ^ 16)=a:=QuQ _ _ (by omega)
  have h2:UInt8.ofNat ((((a.toNat/4*64+(a.toNat%4*16+b.toNat/16))*64+(b.toNat%16*4+c.toNat/64))*64+c.toNat%64)/2 ^ 8)=b:=QuQ _ _ (by omega)
  have h3:UInt8.ofNat ((((a.toNat/4*64+(a.toNat%4*16+b.toNat/16))*64+(b.toNat%16*4+c.toNat/64))*64+c.toNat%64))=c:=QuQ _ _ (by omega)
  rw [h1,h2,h3]
theorem QuX(l k:List UInt8):vals (l++61::k)=none:=by
 rw [QjB,QeJ,if_pos (by rw [show (61:UInt8).toNat=61 from rfl,sv61];decide)]
 cases vals l<;>rfl
theorem Qqc(l:List UInt8)(p:Nat)(hp:p≤2):strip (enc l++List.replicate p 61)=enc l:=by
 have hno:∀ k,enc l≠k++[61]:=fun k hk=>by
  have:=Qn3 l
  rw [hk,QuX] at this
  cases this
 have h0:Lib.trimSuffix (enc l) [61]=enc l:=by
  rcases Qiw (enc l) with h | ⟨k,x,h⟩
  ·rw [h];rfl
  ·rw [h,Qfh,if_neg (by rintro rfl;exact hno k h)]
 have hp':p=0∨p=1∨p=2:=by omega
 unfold strip
 rcases hp' with rfl | rfl | rfl
 ·simp only [List.replicate_zero,List.append_nil,h0]
 ·rw [show List.replicate 1 (61:UInt8)=[61] from rfl,Qfh,if_pos rfl,h0]
 ·rw [show List.replicate 2 (61:UInt8)=[61]++[61] from rfl,←List.append_assoc,Qfh,if_pos rfl,Qfh,if_pos rfl]
theorem decode_enc(l:List UInt8)(h:l.length≤5000):QaK (str (encP l))=some (ob l,0):=by
 have hl:=encP_length l
 rw [decode_eq _ (by omega),if_neg (by omega),Qjv,Qqc _ _ (by omega),Qn3]
 unfold fin
 simp only [QrC,↓reduceIte]
end Go.Proofs.YtnekckhjmnhinaaGreatDoor.Six
namespace Go.Proofs.YtnekckhjmnhinaaGreatDoor.Key
open E Go.RowKit
open Hex (str QbH Qdg)
theorem Qji{m:Nat}(v:Vector Int m)(i:Nat)(h:i<m):Qbb v (i:Int)=v[i]:=by
 unfold Qbb;rw [Int.toNat_natCast];simp [List.getD_eq_getElem?_getD,h]
theorem Qr8{m:Nat}(v:Vector Int m)(i j:Nat)(z:Int)(hi:i<m)(hj:j<m):Qbb (Qb2 v (i:Int) z) (j:Int)=if i=j then z else Qbb v (j:Int):=by
 rw [Qji _ j hj,Qji _ j hj]
 unfold Qb2
 simp only [Int.toNat_natCast]
 rw [Vector.getElem_setIfInBounds]
def IsB{m:Nat}(v:Vector Int m):Prop:=∀ n∈v.toList,(Lit.int .u8 n).wf=true
theorem IsB.ob{m:Nat}{v:Vector Int m}(h:IsB v):∃ l:List UInt8,v.toList=ob l∧l.length=m:=by
 obtain ⟨l,hl⟩:=QmR v.toList h
 refine ⟨l,hl,?_⟩
 have:=congrArg List.length hl
 rw [Qa1,Vector.length_toList] at this
 exact this.symm
theorem unb_ob(l:List UInt8):unb (ob l)=l:=by
 unfold unb ob
 rw [List.map_map]
 conv=>rhs;rw [←List.map_id l]
 apply List.map_congr_left
 intro b _
 simp [Function.comp]
end Go.Proofs.YtnekckhjmnhinaaGreatDoor.Key
namespace Go.Proofs.YtnekckhjmnhinaaGreatDoor.Key
open E Go.RowKit
open Hex (str QbH Qdg)
abbrev zk:Vector Int 32:=(Vector.replicate 32 (0:Int):Vector Int 32)
theorem QsF(v:Vector Int 32):Qjc 32 v.toList=v:=by
 rw [←Vector.toList_inj,Qda _ _ (by simp),List.take_of_length_le (by simp)]
def ofR(xs:List Int):Vector Int 32×Int:=if xs.length<32 then (zk,3) else if xs.length>32 then (zk,4) else (Qjc 32 xs,0)
theorem keysOf_eq(xs:List Int):QhG xs=some (ofR xs):=by
 unfold QhG ofR
 by_cases h1:xs.length<32
 ·rw [if_pos (decide_eq_true (by omega)),if_pos h1]
 ·by_cases h2:xs.length>32
  ·rw [if_neg (by simp;omega),if_pos (decide_eq_true (by omega)),if_neg h1,if_pos h2]
  ·rw [if_neg (by simp;omega),if_neg (by simp;omega),if_pos (by omega),if_neg h1,if_neg h2]
theorem Qsn(xs:List Int)(hx:xs.length=32)(f:Nat):∀ (i:Nat) (v:Vector Int 32),i+f=32→(∀ j,j<i→Qbb v (j:Int)=QO xs j)→Qbf.l0 xs i v=some (Qjc 32 xs):=by
 induction f with
 | zero =>
  intro i v hi hv
  obtain rfl:i=32:=by omega
  rw [Qbf.l0.eq_def,if_neg (by decide)]
  refine congrArg some (Vector.ext fun j hj=>?_)
  have:=hv j hj
  rw [Qji v j hj] at this
  rw [this]
  simp [Qjc,QO]
 | succ f ih =>
  intro i v hi hv
  have e1:wr .i64 ((i:Int)+1)=((i+1:Nat):Int):=by rw [QX (by omega) (by omega)];omega
  rw [Qbf.l0.eq_def,if_pos (decide_eq_true (by omega)),if_pos (by omega),if_pos (by omega),e1]
  refine ih (i+1) _ (by omega) fun j hj=>?_
  rw [Qr8 v i j _ (by omega) (by omega)]
  by_cases h:i=j
  ·subst h;rw [if_pos rfl]
  ·rw [if_neg h];exact hv j (by omega)
theorem Qso(xs:List Int):Qbf xs=some (ofR xs):=by
 unfold Qbf ofR
 by_cases h1:xs.length<32
 ·rw [if_pos (decide_eq_true (by omega)),if_pos h1]
 ·by_cases h2:xs.length>32
  ·rw [if_neg (by simp;omega),if_pos (decide_eq_true (by omega)),if_neg h1,if_pos h2]
  ·have:=Qsn xs (by omega) 32 0 zk rfl (fun j hj=>by omega)
   rw [show ((0:Nat):Int)=0 from rfl] at this
   rw [if_neg (by simp;omega),if_neg (by simp;omega),this,Qa,if_neg h1,if_neg h2]
theorem Qs1(v:Vector Int 32)(f:Nat):∀ i:Nat,i+f=32→QaU.l0 v (v.toList.take i) i=some v.toList:=by
 induction f with
 | zero =>
  intro i hi
  obtain rfl:i=32:=by omega
  rw [QaU.l0.eq_def,if_neg (by decide),List.take_of_length_le (by simp)]
 | succ f ih =>
  intro i hi
  have e1:wr .i64 ((i:Int)+1)=((i+1:Nat):Int):=by rw [QX (by omega) (by omega)];omega
  have e2:v.toList.take i++[Qbb v (i:Int)]=v.toList.take (i+1):=by
   rw [Qji v i (by omega),List.take_add_one]
   simp [show i<32 by omega]
  rw [QaU.l0.eq_def,if_pos (decide_eq_true (by omega)),if_pos (by omega),if_pos (by simp;omega),e1,e2,ih (i+1) (by omega)]
theorem bytes_eq(v:Vector Int 32):QaU v=some v.toList:=by
 unfold QaU
 have:=Qs1 v 32 0 rfl
 rw [show ((0:Nat):Int)=0 from rfl,List.take_zero] at this
 rw [this,Qa]
def par(D:List Int×Int):Vector Int 32×Int:=if D.2≠0 then (zk,D.2) else ofR D.1
theorem parse_of(D:List Int×Int)(hO:∀ xs,QhG xs=some (ofR xs)):(if (D.2 != 0)=true then (some (zk,D.2)) else (QhG D.1>>=fun t6=>some (t6.1,t6.2)))=some (par D):=by
 unfold par
 by_cases h:D.2=0
 ·rw [if_neg (by simp [h]),if_neg (by simp [h]),keysOf_eq,Qa]
 ·rw [if_pos (by simpa using h),if_pos h]
theorem parse_ref(D:List Int×Int):(if (D.2 != 0)=true then (some (zk,D.2)) else (Qbf D.1>>=fun t6=>some (t6.1,t6.2)))=some (par D):=by
 unfold par
 by_cases h:D.2=0
 ·rw [if_neg (by simp [h]),if_neg (by simp [h]),Qso,Qa]
 ·rw [if_pos (by simpa using h),if_pos h]
theorem ofR_vec(v:Vector Int 32):ofR v.toList=(v,0):=by
 unfold ofR
 rw [if_neg (by simp),if_neg (by simp),QsF]
end Go.Proofs.YtnekckhjmnhinaaGreatDoor.Key
namespace Go.Proofs.YtnekckhjmnhinaaGreatDoor
def num(l:List UInt8):Nat:=l.foldl (fun a b=>a*256+b.toNat) 0
theorem QsB(l:List UInt8)(x:UInt8):num (l++[x])=num l*256+x.toNat:=by simp [num]
theorem QsC(l:List UInt8)(a:Nat):l.foldl (fun a b=>a*256+b.toNat) a=a*256 ^ l.length+num l:=by
 induction l generalizing a with
 | nil=>simp [num]
 | cons x r ih =>
  unfold num
  rw [List.foldl_cons,List.foldl_cons,ih,ih (0*256+x.toNat),List.length_cons,Nat.pow_succ]
  rw [Nat.add_mul,Nat.zero_mul,Nat.zero_add,Nat.mul_assoc,Nat.mul_comm 256,Nat.add_assoc]
theorem QkT(l k:List UInt8):num (l++k)=num l*256 ^ k.length+num k:=by
 unfold num;rw [List.foldl_append,QsC];rfl
theorem Qhc(x:UInt8)(r:List UInt8):num (x::r)=x.toNat*256 ^ r.length+num r:=by
 rw [show x::r=[x]++r from rfl,QkT];simp [num]
theorem QiY:∀ l:List UInt8,num l<256 ^ l.length
 | []=>by simp [num]
 | x::r=>by
  rw [Qhc,List.length_cons,Nat.pow_succ]
  have h1:=QiY r
  have h2:=x.toNat_lt
  have h3:(x.toNat+1)*256 ^ r.length≤256*256 ^ r.length:=Nat.mul_le_mul_right _ (by omega)
  rw [Nat.add_mul,Nat.one_mul] at h3
  rw [Nat.mul_comm (256 ^ r.length)]
  omega
theorem QnP:∀ (a b:List UInt8),a.length=b.length→(Lib.compareBytes a b<0↔num a<num b)
 | [],[],_=>by simp [Lib.compareBytes,num]
 | x::a,y::b,h=>by
  have hl:a.length=b.length:=by simpa using h
  have ha:=QiY a
  have hb:=QiY b
  rw [Qhc,Qhc,←hl]
  rw [←hl] at hb
  unfold Lib.compareBytes
  by_cases h1:x<y
  ·rw [if_pos h1]
   have h2:x.toNat+1≤y.toNat:=UInt8.lt_iff_toNat_lt.1 h1
   have h3:(x.toNat+1)*256 ^ a.length≤y.toNat*256 ^ a.length:=Nat.mul_le_mul_right _ h2
   rw [Nat.add_mul,Nat.one_mul] at h3
   constructor
   ·intro _;omega
   ·intro _;decide
  ·rw [if_neg h1]
   by_cases h2:y<x
   ·rw [if_pos h2]
    have h4:y.toNat+1≤x.toNat:=UInt8.lt_iff_toNat_lt.1 h2
    have h3:(y.toNat+1)*256 ^ a.length≤x.toNat*256 ^ a.length:=Nat.mul_le_mul_right _ h4
    rw [Nat.add_mul,Nat.one_mul] at h3
    constructor
    ·intro h;exact absurd h (by decide)
    ·intro _;omega
   ·rw [if_neg h2]
    have he:x.toNat=y.toNat:=by
     have e1:=mt UInt8.lt_iff_toNat_lt.2 h1
     have e2:=mt UInt8.lt_iff_toNat_lt.2 h2
     omega
    rw [QnP a b hl,he]
    omega
theorem QqS:∀ {a b:List UInt8},a.length=b.length→num a=num b→a=b
 | [],[],_,_=>rfl
 | x::a,y::b,h,e=>by
  have hl:a.length=b.length:=by simpa using h
  rw [Qhc,Qhc,←hl] at e
  have ha:=QiY a
  have hb:=QiY b
  rw [←hl] at hb
  have hx:x.toNat=y.toNat:=by
   rcases Nat.lt_trichotomy x.toNat y.toNat with h | h | h
   ·have h3:(x.toNat+1)*256 ^ a.length≤y.toNat*256 ^ a.length:=Nat.mul_le_mul_right _ h
    rw [Nat.add_mul,Nat.one_mul] at h3;omega
   ·exact h
   ·have h3:(y.toNat+1)*256 ^ a.length≤x.toNat*256 ^ a.length:=Nat.mul_le_mul_right _ h
    rw [Nat.add_mul,Nat.one_mul] at h3;omega
  rw [hx] at e
  rw [UInt8.toNat_inj.1 hx,QqS hl (by omega)]
def QpV:Nat→Nat→List UInt8
 | 0,_=>[]
 | m+1,n=>QpV m (n/256)++[UInt8.ofNat (n%256)]
theorem Qdb:∀ m n,(QpV m n).length=m
 | 0,_=>rfl
 | m+1,n=>by simp [QpV,Qdb m]
theorem Qlr:∀ m n,n<256 ^ m→num (QpV m n)=n
 | 0,n,h=>by simp at h;subst h;rfl
 | m+1,n,h=>by
  rw [QpV,QsB,Qlr m (n/256) (by rw [Nat.pow_succ] at h;omega),UInt8.toNat_ofNat',Nat.mod_mod]
  omega
theorem QoR(l:List UInt8):QpV l.length (num l)=l:=QqS (Qdb _ _) (Qlr _ _ (QiY l))
theorem QoS:∀ (m n i:Nat),i<m→(QpV m n)[i]? = some (UInt8.ofNat (n/256 ^ (m-1-i)%256))
 | m+1,n,i,h=>by
  rw [QpV]
  by_cases hi:i=m
  ·subst hi
   rw [List.getElem?_append_right (by rw [Qdb];exact Nat.le_refl _),Qdb]
   simp
  ·rw [List.getElem?_append_left (by rw [Qdb];omega),QoS m (n/256) i (by omega),Nat.div_div_eq_div_mul]
   congr 4
   rw [show m+1-1-i=m-1-i+1 by omega,Nat.pow_succ,Nat.mul_comm]
end Go.Proofs.YtnekckhjmnhinaaGreatDoor
namespace Go.Proofs.YtnekckhjmnhinaaGreatDoor.Adr
open E Go.RowKit Cid
def QlC:List UInt8→List UInt8→Bool
 | x::a,y::b=>if x≠y then decide (x<y) else QlC a b
 | _,_=>false
theorem QoE:∀ (a b:List UInt8),a.length=b.length→decide (Lib.compareBytes a b<0)=QlC a b
 | [],[],_=>rfl
 | [],_::_,h=>by simp at h
 | _::_,[],h=>by simp at h
 | x::a,y::b,h=>by
  unfold Lib.compareBytes QlC
  by_cases hxy:x=y
  ·subst hxy
   have:¬ x<x:=UInt8.lt_irrefl x
   simp only [this,if_false,ne_eq,not_true_eq_false]
   exact QoE a b (by simpa using h)
  ·by_cases hlt:x<y
   ·simp [hxy,hlt]
   ·have:y<x:=UInt8.lt_of_le_of_ne (UInt8.not_lt.1 hlt) (Ne.symm hxy)
    simp [hxy,hlt,this]
def Quj(V:Int)(l:List UInt8)(W:Int)(k:List UInt8):Bool:=if V=W then QlC l k else decide (V<W)
theorem Qmo{V W:Int}{l k:List UInt8}(hl:l.length=16)(hk:k.length=16)(f:Nat):∀ i:Nat,i+f=16 →
  ∃ q,QaD.l0 (mkA V l) (mkA W k) i=some q∧(match q with | .ret r=>r=QlC (l.drop i) (k.drop i) | .nx _=>QlC (l.drop i) (k.drop i)=false):=by
 induction f with
 | zero =>
  intro i hi
  have hz:decide ((i:Int)<16)=false:=decide_eq_false (by omega)
  rw [QaD.l0.eq_def,hz]
  refine ⟨_,rfl,?_⟩
  rw [List.drop_eq_nil_of_le (by omega)];rfl
 | succ f ih =>
  intro i hi
  have hz:decide ((i:Int)<16)=true:=decide_eq_true (by omega)
  obtain ⟨x,hx,hdx⟩:=QcC l i (by omega)
  obtain ⟨y,hy,hdy⟩:=QcC k i (by omega)
  have hg:(0:Int)≤(i:Int)∧(i:Int)<16:=by omega
  have ex:Qbb (mkA V l).f_B (i:Int)=x.toNat:=by show Qbb (vb l) (i:Int)=_;rw [QfB hl i (by omega),Qi4 hx]
  have ey:Qbb (mkA W k).f_B (i:Int)=y.toNat:=by show Qbb (vb k) (i:Int)=_;rw [QfB hk i (by omega),Qi4 hy]
  rw [QaD.l0.eq_def,hz,if_pos rfl,if_pos hg,if_pos hg,ex,ey,hdx,hdy]
  unfold QlC
  by_cases hxy:x=y
  ·subst hxy
   have h1:((x.toNat:Int) != (x.toNat:Int))=false:=by simp
   obtain ⟨q,hq,hm⟩:=ih (i+1) (by omega)
   rw [h1,if_neg Bool.false_ne_true,QX (by omega) (by omega),show ((i:Int)+1)=((i+1:Nat):Int) by omega]
   refine ⟨q,hq,?_⟩
   rw [if_neg (by simp)]
   exact hm
  ·have hne:x.toNat≠y.toNat:=fun e=>hxy (UInt8.toNat.inj e)
   have h1:((x.toNat:Int) != (y.toNat:Int))=true:=by rw [bne_iff_ne];omega
   rw [h1,if_pos rfl,if_pos hg,if_pos hg]
   refine ⟨_,rfl,?_⟩
   show decide ((x.toNat:Int)<(y.toNat:Int))=_
   rw [if_pos hxy,Bool.eq_iff_iff,decide_eq_true_eq,decide_eq_true_eq,UInt8.lt_iff_toNat_lt]
   omega
theorem QsL{V W:Int}{l k:List UInt8}(hl:l.length=16)(hk:k.length=16):QaD (mkA V l) (mkA W k)=some (Quj V l W k):=by
 unfold QaD Quj
 show (if (V != W)=true then some (decide (V<W)) else _)=_
 by_cases h:V=W
 ·have hne:(V != W)=false:=by simpa using h
  obtain ⟨q,hq,hm⟩:=Qmo (V:=V) (W:=W) hl hk 16 0 rfl
  rw [show ((0:Nat):Int)=0 from rfl] at hq
  rw [hne,if_neg Bool.false_ne_true,if_pos h,hq,Qa]
  rw [List.drop_zero,List.drop_zero] at hm
  cases q with
  | ret r=>show some r=_;rw [show r=_ from hm]
  | nx u=>show some false=_;rw [show QlC l k=false from hm]
 ·have hne:(V != W)=true:=by simpa using h
  rw [hne,if_pos rfl,if_neg h]
end Go.Proofs.YtnekckhjmnhinaaGreatDoor.Adr
namespace Go.Proofs.YtnekckhjmnhinaaGreatDoor
open E Go.RowKit
theorem Qp8(l:List Int):(unb l).length=l.length:=by simp [unb]
def Qrc(a b:Qj):Bool:=if a.f_V=b.f_V then decide (num (unb a.f_B.toList)<num (unb b.f_B.toList)) else decide (a.f_V<b.f_V)
theorem QlB(a b:Qj):QfY a b=some (Qrc a b):=by
 unfold QfY Qrc
 by_cases h:a.f_V=b.f_V
 ·have hne:(a.f_V != b.f_V)=false:=by simpa using h
  rw [hne,if_neg Bool.false_ne_true,if_pos h]
  unfold Qe9
  show some (decide (Lib.compareBytes _ _<0))=_
  congr 1
  rw [decide_eq_decide]
  exact QnP _ _ (by rw [Qp8,Qp8,Vector.length_toList,Vector.length_toList])
 ·have hne:(a.f_V != b.f_V)=true:=by simpa using h
  rw [hne,if_pos rfl,if_neg h]
def QiH(x y:Qo):Bool:=if x.f_A=y.f_A then decide (x.f_Bits<y.f_Bits) else Qrc x.f_A y.f_A
theorem QrJ(x y:Qo):QfV x y=some (QiH x y):=by
 unfold QfV QiH
 by_cases h:x.f_A=y.f_A
 ·rw [decide_eq_true h,if_pos rfl,if_pos h]
 ·rw [decide_eq_false h,if_neg Bool.false_ne_true,if_neg h,QlB];rfl
end Go.Proofs.YtnekckhjmnhinaaGreatDoor
namespace Go.Proofs.YtnekckhjmnhinaaGreatDoor.Agg
open E Go.RowKit Adr Cid
def wd(V:Int):Nat:=if V=4 then 32 else 128
def wb(V:Int):Nat:=if V=4 then 4 else 16
def fam(V:Int):Prop:=V=4∨V=6
theorem QuV(V:Int):wd V=8*wb V:=by unfold wd wb;split<;>rfl
theorem Qwj(V:Int):wb V≤16:=by unfold wb;split<;>omega
theorem QqH(V:Int):256 ^ wb V=2 ^ wd V:=by rw [QuV,Nat.pow_mul]
def bt(V:Int)(N:Nat):List UInt8:=QpV (wb V) N++List.replicate (16-wb V) 0
theorem QhA(V:Int)(N:Nat):(bt V N).length=16:=by
 have:=Qwj V
 unfold bt;rw [List.length_append,Qdb,List.length_replicate];omega
def adr(V:Int)(N:Nat):Qj:=mkA V (bt V N)
theorem Qv9(V:Int)(N i:Nat):bg (bt V N) i=if i<wb V then N/256 ^ (wb V-1-i)%256 else 0:=by
 unfold bg bt
 rw [List.getD_eq_getElem?_getD]
 split
 ·next h =>
  rw [List.getElem?_append_left (by rw [Qdb];exact h),QoS _ _ _ h,Option.getD_some,UInt8.toNat_ofNat',Nat.mod_mod]
 ·next h =>
  rw [List.getElem?_append_right (by rw [Qdb];omega),List.getElem?_replicate]
  split<;>rfl
theorem Qv8{l k:List UInt8}(hl:l.length=16)(hk:k.length=16)(h:∀ i,i<16→bg l i=bg k i):l=k:=by
 apply List.ext_getElem?
 intro i
 by_cases hi:i<16
 ·have e:=h i hi
  unfold bg at e
  rw [List.getD_eq_getElem?_getD,List.getD_eq_getElem?_getD,List.getElem?_eq_getElem (by omega),List.getElem?_eq_getElem (by omega)] at e
  rw [List.getElem?_eq_getElem (by omega),List.getElem?_eq_getElem (by omega)]
  exact congrArg some (UInt8.toNat_inj.1 e)
 ·rw [List.getElem?_eq_none (by omega),List.getElem?_eq_none (by omega)]
theorem Qor{V:Int}{N:Nat}(h:N<2 ^ wd V):num (bt V N)=N*256 ^ (16-wb V):=by
 have hz:∀ m,num (List.replicate m 0)=0:=by
  intro m
  induction m with
  | zero=>rfl
  | succ m ih=>rw [List.replicate_succ,Qhc,ih];simp
 unfold bt
 rw [QkT,Qlr _ _ (by rw [QqH];exact h),hz,List.length_replicate,Nat.add_zero]
theorem QtA{V:Int}{N M:Nat}(hN:N<2 ^ wd V)(hM:M<2 ^ wd V)(h:bt V N=bt V M):N=M:=by
 have:=congrArg num h
 rw [Qor hN,Qor hM] at this
 exact Nat.eq_of_mul_eq_mul_right (Nat.pow_pos (by omega)) this
theorem Qs2{V:Int}(hf:fam V)(N:Nat):QbW V (bt V N)=true:=by
 unfold QbW
 rcases hf with rfl | rfl
 ·have:low (bt 4 N)=true:=by
   unfold low bt
   rw [show wb 4=4 from rfl,List.drop_append_of_le_length (by rw [Qdb];exact Nat.le_refl _),List.drop_of_length_le (by rw [Qdb];exact Nat.le_refl _)]
   rfl
  rw [this];rfl
 ·rfl
theorem Qr5{V:Int}(hf:fam V)(N:Nat):QbL V (bt V N)=wd V:=by
 unfold QbL wd
 rw [Qs2 hf,if_pos rfl]
theorem Qsl{V:Int}{l:List UInt8}(hl:l.length=16)(h:QbW V l=true):fam V∧∃ N,N<2 ^ wd V∧l=bt V N:=by
 rcases Qd6 h with rfl | ⟨rfl,hlow⟩
 ·refine ⟨.inr rfl,num l,?_,?_⟩
  ·have:=QiY l;rw [hl] at this
   rw [←QqH];exact this
  ·have:=QoR l
   rw [hl] at this
   show l=QpV 16 (num l)++[]
   rw [List.append_nil,this]
 ·refine ⟨.inl rfl,num (l.take 4),?_,?_⟩
  ·have:=QiY (l.take 4)
   rw [List.length_take,hl] at this
   rw [←QqH];exact this
  ·have h4:=(Qj1 hl).1 hlow
   have:=QoR (l.take 4)
   rw [List.length_take,hl] at this
   show l=QpV 4 (num (l.take 4))++List.replicate 12 0
   rw [show QpV 4 (num (l.take 4))=l.take 4 from this]
   exact h4
theorem QnW{V W:Int}{N M:Nat}(hN:N<2 ^ wd V)(hM:M<2 ^ wd W):adr V N=adr W M↔V=W∧N=M:=by
 unfold adr
 rw [Qlw (QhA V N) (QhA W M)]
 constructor
 ·rintro ⟨rfl,h⟩;exact ⟨rfl,QtA hN hM h⟩
 ·rintro ⟨rfl,rfl⟩;exact ⟨rfl,rfl⟩
def ltA(V:Int)(N:Nat)(W:Int)(M:Nat):Bool:=if V=W then decide (N<M) else decide (V<W)
theorem Qrb(l k:List UInt8)(h:l.length=k.length):QlC l k=decide (num l<num k):=by
 rw [←QoE l k h,decide_eq_decide];exact QnP l k h
theorem Qo0{V W:Int}{N M:Nat}(hN:N<2 ^ wd V)(hM:M<2 ^ wd W):QfY (adr V N) (adr W M)=some (ltA V N W M)∧QaD (adr V N) (adr W M)=some (ltA V N W M):=by
 have hk:∀ (V:Int) (N:Nat),num (unb (vb (bt V N)).toList)=num (bt V N):=fun V N=>by
  rw [QdX (QhA V N)]
  congr 1
  unfold unb ob
  rw [List.map_map]
  conv=>rhs;rw [←List.map_id (bt V N)]
  apply List.map_congr_left
  intro b _
  show UInt8.ofNat ((b.toNat:Int).toNat)=b
  rw [Int.toNat_natCast];exact UInt8.ofNat_toNat
 have hn:∀ h:V=W,(num (bt V N)<num (bt W M)↔N<M):=fun h=>by
  subst h
  rw [Qor hN,Qor hM]
  exact Nat.mul_lt_mul_right (Nat.pow_pos (by omega))
 constructor
 ·rw [QlB]
  unfold Qrc ltA adr mkA
  simp only [hk]
  split
  ·next h=>rw [decide_eq_decide.2 (hn h)]
  ·rfl
 ·unfold adr
  rw [QsL (QhA V N) (QhA W M)]
  unfold Quj ltA
  rw [Qrb _ _ (by rw [QhA,QhA])]
  split
  ·next h=>rw [decide_eq_decide.2 (hn h)]
  ·rfl
theorem QrM(Y t:Nat)(ht:t≤8):(Y/2 ^ t*2 ^ t)%256=Y%256-Y%256%2 ^ t:=by
 have:t=0∨t=1∨t=2∨t=3∨t=4∨t=5∨t=6∨t=7∨t=8:=by omega
 rcases this with rfl | rfl | rfl | rfl | rfl | rfl | rfl | rfl | rfl<;>omega
theorem QpL(N c s:Nat):N/2 ^ c*2 ^ c/2 ^ (8*s)%256=N/2 ^ (8*s)%256-N/2 ^ (8*s)%256%2 ^ (min (c-8*s) 8):=by
 by_cases h1:c≤8*s
 ·have e:2 ^ (8*s)=2 ^ c*2 ^ (8*s-c):=by rw [←Nat.pow_add];congr 1;omega
  rw [show min (c-8*s) 8=0 by omega,Nat.pow_zero,Nat.mod_one,Nat.sub_zero,e,←Nat.div_div_eq_div_mul,←Nat.div_div_eq_div_mul,Nat.mul_div_cancel _ (Nat.pow_pos (by omega))]
 ·have e:2 ^ c=2 ^ (8*s)*2 ^ (c-8*s):=by rw [←Nat.pow_add];congr 1;omega
  have e2:N/2 ^ c*2 ^ c/2 ^ (8*s)=N/2 ^ (8*s)/2 ^ (c-8*s)*2 ^ (c-8*s):=by
   rw [Nat.div_div_eq_div_mul,←e]
   generalize N/2 ^ c=A
   rw [e,Nat.mul_comm (2 ^ (8*s)),←Nat.mul_assoc,Nat.mul_div_cancel _ (Nat.pow_pos (by omega))]
  rw [e2]
  generalize N/2 ^ (8*s)=Y
  by_cases h2:c-8*s≤8
  ·rw [Nat.min_eq_left h2];exact QrM Y _ h2
  ·rw [Nat.min_eq_right (by omega),show (2:Nat) ^ 8=256 from rfl,Nat.mod_mod,Nat.sub_self]
   have:2 ^ (c-8*s)=256*2 ^ (c-8*s-8):=by rw [show (256:Nat)=2 ^ 8 from rfl,←Nat.pow_add];congr 1;omega
   rw [this,←Nat.mul_assoc,Nat.mul_right_comm]
   exact Nat.mul_mod_left _ _
theorem Qvu(s:Nat):256 ^ s=2 ^ (8*s):=by rw [Nat.pow_mul]
theorem QsE{V:Int}{N b:Nat}(hb:b≤wd V):QdD (bt V N) (b:Int)=bt V (N/2 ^ (wd V-b)*2 ^ (wd V-b)):=by
 refine Qv8 (by rw [Qj0,QhA]) (QhA _ _) fun i hi=>?_
 rw [Qv9]
 have hx:(bt V N)[i]? = some ((bt V N).getD i 0):=by
  rw [List.getD_eq_getElem?_getD,List.getElem?_eq_getElem (by rw [QhA];exact hi)];rfl
 have hg:=QfP (bt V N) (b:Int) i
 rw [hx,Option.map_some] at hg
 rw [Qi4 hg,Qfx]
 have hbg:((bt V N).getD i 0).toNat=bg (bt V N) i:=rfl
 rw [hbg,Qv9]
 split
 ·next h =>
  rw [Qvu,QpL]
  congr 3
  unfold lft
  rw [QuV] at hb ⊢
  omega
 ·simp
def prf(V:Int)(N k:Nat):Qo:=mkP (adr V N) ((wd V-k:Nat):Int)
theorem Qqp{V b:Int}{l:List UInt8}(hl:l.length=16)(h:rightP V l b=true):fam V∧∃ N k,N<2 ^ wd V∧k≤wd V∧2 ^ k ∣ N∧mkP (mkA V l) b=prf V N k:=by
 obtain ⟨⟨h1,h2,h3⟩,h4⟩:=rightP_iff.1 h
 obtain ⟨hf,N,hN,rfl⟩:=Qsl hl h1
 rw [Qr5 hf] at h3
 obtain ⟨m,rfl⟩:=Int.eq_ofNat_of_zero_le h2
 have hm:m≤wd V:=by omega
 refine ⟨hf,N,wd V-m,hN,by omega,?_,?_⟩
 ·have h5:QdD (bt V N) (m:Int)=bt V N:=h4
  rw [QsE hm] at h5
  have h6:N/2 ^ (wd V-m)*2 ^ (wd V-m)<2 ^ wd V:=Nat.lt_of_le_of_lt (Nat.div_mul_le_self _ _) hN
  exact ⟨N/2 ^ (wd V-m),by rw [Nat.mul_comm];exact (QtA h6 hN h5).symm⟩
 ·unfold prf adr
  rw [show wd V-(wd V-m)=m by omega]
end Go.Proofs.YtnekckhjmnhinaaGreatDoor.Agg
namespace Go.Proofs.YtnekckhjmnhinaaGreatDoor.Agg
open E Go.RowKit Adr Cid
end Go.Proofs.YtnekckhjmnhinaaGreatDoor.Agg
namespace Go.Proofs.YtnekckhjmnhinaaGreatDoor.Agg
open E Go.RowKit Adr Cid
end Go.Proofs.YtnekckhjmnhinaaGreatDoor.Agg
namespace Go.Proofs.YtnekckhjmnhinaaGreatDoor.Agg
open E Go.RowKit Adr Cid
def rgt(x:Qo):Bool:=(Qed x).getD false
theorem Qra{V W:Int}{N M k j:Nat}(hN:N<2 ^ wd V)(hM:M<2 ^ wd W):QiH (prf V N k) (prf W M j)=if V=W∧N=M then decide (((wd V-k:Nat):Int)<((wd W-j:Nat):Int)) else ltA V N W M:=by
 have h1:=(Qo0 hN hM).1
 rw [QlB] at h1
 unfold QiH
 show (if adr V N=adr W M then decide (((wd V-k:Nat):Int)<((wd W-j:Nat):Int)) else Qrc (adr V N) (adr W M))=_
 simp only [QnW hN hM]
 split
 ·rfl
 ·exact Option.some.inj h1
theorem QvE{V W:Int}{N M k j:Nat}(hN:N<2 ^ wd V)(hM:M<2 ^ wd W):Qci (prf V N k) (prf W M j)=some (QiH (prf V N k) (prf W M j)):=by
 rw [Qra hN hM]
 unfold Qci
 show (if (!decide (adr V N=adr W M))=true then (QaD (adr V N) (adr W M)>>=fun t4=>some t4) else (some (decide (((wd V-k:Nat):Int)<((wd W-j:Nat):Int)))))=_
 rw [(Qo0 hN hM).2,Qa]
 by_cases h:V=W∧N=M
 ·rw [if_pos h,decide_eq_true ((QnW hN hM).2 h),if_neg (by decide)]
 ·rw [if_neg h,decide_eq_false (mt (QnW hN hM).1 h),if_pos (by decide)]
structure Good (t:Int×Nat×Nat):Prop where
 fam:fam t.1
 lt:t.2.1<2 ^ wd t.1
 le:t.2.2≤wd t.1
 dvd:2 ^ t.2.2 ∣ t.2.1
def pf(t:Int×Nat×Nat):Qo:=prf t.1 t.2.1 t.2.2
def Qwd(x:Qo):Prop:=∃ t,Good t∧x=pf t
theorem Qwd.less{x y:Qo}(hx:Qwd x)(hy:Qwd y):Qci x y=some (QiH x y):=by
 obtain ⟨t,ht,rfl⟩:=hx
 obtain ⟨u,hu,rfl⟩:=hy
 exact QvE ht.lt hu.lt
end Go.Proofs.YtnekckhjmnhinaaGreatDoor.Agg
namespace Go.Proofs.YtnekckhjmnhinaaGreatDoor.Agg
open E Go.RowKit Adr Cid
theorem Qjk(x:Qo)(h:Qbx x):Qed x=some (rgt x)∧Qb7 x=some (rgt x)∧(rgt x=true→Qwd x):=by
 obtain ⟨V,l,b,rfl,hl,_⟩:=exists_mkP x h
 unfold rgt
 rw [cright_code hl,Qk0 hl]
 refine ⟨rfl,rfl,fun h2=>?_⟩
 obtain ⟨hf,N,k,a1,a2,a3,a4⟩:=Qqp hl h2
 exact ⟨(V,N,k),⟨hf,a1,a2,a3⟩,a4⟩
end Go.Proofs.YtnekckhjmnhinaaGreatDoor.Agg
namespace Go.Proofs.YtnekckhjmnhinaaGreatDoor
open E Go.RowKit _root_.Go.Proofs.Tryz
theorem QnG:(Tryz.prog.info? 74).isSome=true:=by kernel_rfl
noncomputable def Qpx:TypeInfo:=(Tryz.prog.info? 74).get QnG
theorem QsQ:Tryz.prog.info? 74=some Qpx:=(Option.some_get _).symm
def Qd7.l0(x0:Qx)(i4:Int):Option (Ctl (Bool) (Unit)) :=
 if (decide (i4<(x0.f_Peers.length:Int)))=true then (if (0:Int)≤i4∧i4<(x0.f_Peers.length:Int) then if (decide ((((QO x0.f_Peers i4).f_Allowed).length:Int)>80))=true then (some (.ret true)) else (Qd7.l0 x0 (wr .i64 (i4+1))) else none) else (some (.nx ()))
 partial_fixpoint
def Qd7(x0:Qx):Option (Bool) :=
 if (decide ((x0.f_Peers.length:Int)>20))=true then (some true) else (Qd7.l0 x0 0>>=fun q3=>match q3 with | .ret r'=>some r' | .nx sq3=>(some false))
def QcD(x0:Int):Option (Bool) :=
 if (decide (x0≥0))=true then (some (decide (x0≤65535))) else (some false)
theorem QeQ(x0:Int)(r:Bool)(hF:QcD x0=some r)(w:World) :
    Calls Tryz.prog 34 #[.int .i64 x0] w (fun e w'=>e=.returned (.bool r)∧w'=w):=by
 unfold QcD at hF
 refine ce (l:=[.int .i64 x0]) func34 rfl rfl ?_
 refine sr (aa (nwx [0] ?_))
 refine am ?_
 refine aw (QfM rfl rfl) ?_
 refine am ?_
 obtain ⟨h1,hF⟩|⟨h1,hF⟩:=oi hF
 ·refine fx 5 h1 ?_
  refine gy (am (gy ?_))
  refine aw (Qhw rfl rfl) ?_
  refine aw xp (aa (nwq [2] ?_))
  refine qt ?_
  have K:=os hF
  subst K
  exact r1 (fun w1 hw=>⟨rfl,hw⟩)
 refine fx 5 h1 ?_
 refine gn ?_
 refine gn ?_
 refine aw xp (aa (nwq [2] ?_))
 refine qt ?_
 have K:=os hF
 subst K
 exact r1 (fun w1 hw=>⟨rfl,hw⟩)
def QB.l1(x0:Qx)(i11:Int)(i37:Int):Option (Ctl (Bool) (Unit)) :=
 if (decide (i37<i11))=true then (if (0:Int)≤i37∧i37<(x0.f_Peers.length:Int) then if (decide ((QO x0.f_Peers i37).f_Key=(QO x0.f_Peers i11).f_Key))=true then (some (.ret false)) else (QB.l1 x0 i11 (wr .i64 (i37+1))) else none) else (some (.nx ()))
 partial_fixpoint
def QB.l3(x0:Qx)(i11:Int)(i53:List Qo)(i54:Int)(i77:Int):Option (Ctl (Bool) (Unit)) :=
 if (decide (i77<(i53.length:Int)))=true then (if (0:Int)≤i77∧i77<(i53.length:Int) then if (decide (QO i53 i77=QO ((QO x0.f_Peers i11).f_Allowed) i54))=true then (some (.ret false)) else (QB.l3 x0 i11 i53 i54 (wr .i64 (i77+1))) else none) else (some (.nx ()))
 partial_fixpoint
def QB.l2(x0:Qx)(i11:Int)(i53:List Qo)(i54:Int):Option (Ctl (Bool) (List Qo)) :=
 if (decide (i54<(((QO x0.f_Peers i11).f_Allowed).length:Int)))=true then (if (0:Int)≤i54∧i54<(((QO x0.f_Peers i11).f_Allowed).length:Int) then (Qb7 (QO ((QO x0.f_Peers i11).f_Allowed) i54)>>=fun t67=>if (!t67)=true then (some (.ret false)) else (if (decide (i54>0))=true then (if (0:Int)≤wr .i64 (i54-1)∧wr .i64 (i54-1)<(((QO x0.f_Peers i11).f_Allowed).length:Int) then Qci (QO ((QO x0.f_Peers i11).f_Allowed) (wr .i64 (i54-1))) (QO ((QO x0.f_Peers i11).f_Allowed) i54)>>=fun t74=>if (!t74)=true then (some (.ret false)) else (some (.nx ())) else none) else (some (.nx ()))):Option (Ctl (Bool) (Unit)))>>=fun q65=>match q65 with | .ret r'=>some (.ret r') | .nx sq65=>(QB.l3 x0 i11 i53 i54 0>>=fun q76=>match q76 with | .ret r'=>some (.ret r') | .nx sq76=>(if (i53.length+1)*32≤140737488355328 then QB.l2 x0 i11 (i53++[QO ((QO x0.f_Peers i11).f_Allowed) i54]) (wr .i64 (i54+1)) else none)) else none) else (some (.nx i53))
 partial_fixpoint
def QB.l0(x0:Qx)(i10:List Qo)(i11:Int):Option (Ctl (Bool) (List Qo)) :=
 if (decide (i11<(x0.f_Peers.length:Int)))=true then (if (0:Int)≤i11∧i11<(x0.f_Peers.length:Int) then (if (decide ((QO x0.f_Peers i11).f_Key=(Vector.replicate 32 (0:Int):(Vector Int 32))))=true then (some (.ret false)) else (QcD ((QO x0.f_Peers i11).f_Keep)>>=fun t31=>if (!t31)=true then (some (.ret false)) else (if (!decide ((QO x0.f_Peers i11).f_End=({ f_A:=({ f_V:=(0:Int),f_B:=(Vector.replicate 16 (0:Int):(Vector Int 16)) }:Qj),f_Port:=(0:Int) }:Qr)))=true then (Qb6 ((QO x0.f_Peers i11).f_End)>>=fun t34=>if (!t34)=true then (some (.ret false)) else (some (.nx ()))) else (some (.nx ())))):Option (Ctl (Bool) (Unit)))>>=fun q28=>match q28 with | .ret r'=>some (.ret r') | .nx sq28=>(QB.l1 x0 i11 0>>=fun q36=>match q36 with | .ret r'=>some (.ret r') | .nx sq36=>(QB.l2 x0 i11 i10 0>>=fun q52=>match q52 with | .ret r'=>some (.ret r') | .nx sq52=>(QB.l0 x0 sq52 (wr .i64 (i11+1))))) else none) else (some (.nx i10))
 partial_fixpoint
def QB(x0:Qx):Option (Bool) :=
 (QcD x0.f_Port>>=fun t4=>if (!t4)=true then (some (.ret false)) else (if (decide ((x0.f_Peers.length:Int)>16))=true then (some (.ret false)) else (some (.nx ()))):Option (Ctl (Bool) (Unit)))>>=fun q2=>match q2 with | .ret r'=>some r' | .nx sq2=>(QB.l0 x0 ([]:List Qo) 0>>=fun q9=>match q9 with | .ret r'=>some r' | .nx sq9=>(some (decide ((sq9.length:Int)≤64))))
set_option maxHeartbeats 3200000 in
theorem Qgt(g0_:Qbs)(x0:Qx)(r:Bool)(hF:QB x0=some r)(w:World)(hn0:Qdk w (g0_,x0)) :
    Calls Tryz.prog 12 #[.agg (Cd.cs Qh (g0_,x0)).toArray] w (fun e w'=>e=.returned (.bool r)∧Below w.heap.size w w'):=by
 unfold QB at hF
 refine ce (l:=[.agg (Cd.cs Qh (g0_,x0)).toArray]) func12 rfl rfl ?_
 refine QN ?_
 refine sr ?_
 refine Qbv (cs:=Cd.cs Qh (g0_,x0)) rfl rfl rfl ?_
 intro b1
 refine aa (nwq [1] ?_)
 obtain ⟨q2,hq2,hF⟩:=bM hF
 refine QhQ (q:=q2) (r:=r) (A:=fun (_:Unit) Y=>At 117 [(1,.pointer (some ⟨b1,0,none⟩))] (Wd w [Qi b1 (Cd.cs Qh (g0_,x0)) 28]) Y) ?_ ?_
 ·intro Y K
  replace hF:=hq2
  refine sr (fa 32 underlying28 rfl sizeOf3 ?_)
  refine aw (Qe isAgg3 rfl (Qm (c:=(Qv .i64)) (y:=x0.f_Port) .z (Qce g0_ x0) rfl)) ?_
  obtain ⟨t4,ht4,hF⟩:=bM hF
  refine Qav func34 rfl (by kernel_rfl) rfl rfl (fun w=>QeQ _ _ ht4 w) ?_
  refine aw (Qcq rfl) ?_
  refine am ?_
  obtain ⟨h5,hF⟩|⟨h5,hF⟩:=oi hF
  ·refine fx 14 h5 ?_
   refine gn ?_
   refine gn ?_
   refine gn ?_
   refine gn ?_
   refine aw xp (nwq [19,1] ?_)
   refine ct rfl ?_
   refine sr (aa (qn (dz (wq [2] ?_))))
   refine tn (rt ?_)
   obtain rfl:=os hF
   subst K
   exact r1 wb
  refine fx 14 h5 ?_
  refine gy (fa 34 underlying28 rfl sizeOf26 (gy ?_))
  refine aw (Qe isAgg26 rfl (Qm (c:=cHd) (y:=⟨g0_.1,List.length x0.f_Peers,g0_.2⟩) .z (QV g0_ x0) rfl)) ?_
  refine gy ?_
  refine aw (QZ underlying26 rfl) ?_
  refine gy ?_
  refine aw (QbI rfl rfl) ?_
  refine aw xp (nwq [19,1] ?_)
  obtain ⟨h6,hF⟩|⟨h6,hF⟩:=oi hF
  ·refine ct h6 ?_
   refine sr (aa (qn (dz (wq [2] ?_))))
   refine tn (rt ?_)
   obtain rfl:=os hF
   subst K
   exact r1 wb
  refine cf h6 ?_
  refine sn ?_
  obtain rfl:=os hF
  exact Qk K ⟨rfl,trivial⟩
 cases q2 with
 | ret r' =>
  exact os hF
 | nx sq2 =>
  skip
  refine sr (aa (nt (qs (sr (aa (nwq [4,3,1] ?_))))))
  refine qb ?_
  refine Qco Qc 74 ?_
  obtain ⟨q9,hq9,hF⟩:=bM hF
  refine wq [4,3,1] ?_
  refine Qbn (B:=0) (r:=r) (q:=q9) (A:=fun sq9 Y=>∀ (p14:Option Addr) (c15:Nat),At 117 [(3,.slice p14 sq9.length c15)] (Wd w [Qbm Qc 74 p14 c15 sq9]) Y) ?_ ?_
  ·intro K
   refine QB.l0.partial_correctness x0 (motive:=fun i10 i11 x=>KR (fun sq9 Y=>∀ (p14:Option Addr) (c15:Nat),At 117 [(3,.slice p14 sq9.length c15)] (Wd w [Qbm Qc 74 p14 c15 sq9]) Y) _ 0 r x→QbB (fun Y=>∀ (p12:Option Addr) (c13:Nat),At 117 [(1,.pointer (some ⟨b1,0,none⟩)),(3,.slice p12 i10.length c13),(4,.int .i64 i11)] (Wd w [Qbm Qc 74 p12 c13 i10,Qi b1 (Cd.cs Qh (g0_,x0)) 28]) Y) _ _ _) ?_ _ _ _ hq9 K none 0
   ·clear K hF
    intro g ih i10 i11 x hF K p12 c13
    refine QW ?_
    refine qs (sr (am (fa 34 underlying28 rfl sizeOf26 ?_)))
    refine aw (Qe isAgg26 rfl (Qm (c:=cHd) (y:=⟨g0_.1,List.length x0.f_Peers,g0_.2⟩) (.s .z) (QV g0_ x0) rfl)) ?_
    refine aw (QZ underlying26 rfl) ?_
    refine aw xl (nwq [24,4,3,1] ?_)
    obtain ⟨h16,hF⟩|⟨h16,hF⟩:=oi hF
    ·refine ct h16 ?_
     refine sn (qs (qb (sr (fa 34 underlying28 rfl sizeOf26 ?_))))
     refine aw (Qe isAgg26 rfl (Qm (c:=cHd) (y:=⟨g0_.1,List.length x0.f_Peers,g0_.2⟩) (.s .z) (QV g0_ x0) rfl)) ?_
     refine am ?_
     obtain ⟨h17,hF⟩:=gd hF
     obtain ⟨zs21,hz22,hr23,hn24⟩:=id hn0
     obtain ⟨b19,o20,hp18⟩:=Qaa hr23 (QiT hz22 h17)
     obtain ⟨g25,hg26⟩:=QtH hz22 i11
     refine aw (QbD underlying26 sizeOf60 rfl rfl h17 hp18) ?_
     refine aw (Qg (c:=Qf) (z:=(g25,QO x0.f_Peers i11)) isAgg60 sizeOf60 rfl (Qpk (fun _ h=>h.below) hr23 (QiT hz22 h17) hp18 hg26)) ?_
     refine al (cs:=Cd.cs Qf QeF) zeroValue60 ?_
     intro b27
     refine Qn (c:=Qf) (z:=(g25,QO x0.f_Peers i11)) .z lw sizeOf60 rfl rfl rfl ?_
     refine nwq [5,4,3,1] ?_
     obtain ⟨q28,hq28,hF⟩:=bM hF
     refine QhQ (q:=q28) (r:=r) (A:=fun (_:Unit) Y=>At 117 [(1,.pointer (some ⟨b1,0,none⟩)),(3,.slice p12 i10.length c13),(4,.int .i64 i11),(5,.pointer (some ⟨b27,0,none⟩))] (Wd w [Qi b27 (Cd.cs Qf (g25,QO x0.f_Peers i11)) 60,Qbm Qc 74 p12 c13 i10,Qi b1 (Cd.cs Qh (g0_,x0)) 28]) Y) ?_ ?_
     ·intro Y K
      replace hF:=hq28
      refine sr (fa 0 underlying60 rfl sizeOf24 ?_)
      refine aw (Qg (c:=(QQ (Qv .u8) 32 (by decide))) (z:=(QO x0.f_Peers i11).f_Key) isAgg24 sizeOf24 rfl (Qp .z (Qbo g25 (QO x0.f_Peers i11)))) ?_
      refine aw (Qb3 (zs:=Cd.cs (QQ (Qv .u8) 32 (by decide)) zv4) (cs:=Cd.cs (QQ (Qv .u8) 32 (by decide)) zv4) underlying24 zeroValue24 rfl sizeOf5 rfl rfl) ?_
      refine aw (QdR (c:=(QQ (Qv .u8) 32 (by decide))) (a:=(QO x0.f_Peers i11).f_Key) (b:=zv4) (Qgb underlying24 Qia sizeOf5 isAgg5 (.inr rfl) (QeX underlying5)) rfl Tryz.eqGuardType24 rfl rfl (.inl rfl) rfl) ?_
      refine am ?_
      obtain ⟨h30,hF⟩|⟨h30,hF⟩:=oi hF
      ·refine fx 36 h30 ?_
       refine gn ?_
       refine gn ?_
       refine gn ?_
       refine gn ?_
       refine aw xp (am ?_)
       refine gn ?_
       refine gn ?_
       refine gn ?_
       refine gn ?_
       refine gn ?_
       refine Q9 rfl rfl rfl rfl ?_
       refine Q9 rfl rfl rfl rfl ?_
       refine Q9 rfl rfl rfl rfl ?_
       refine Q9 rfl rfl rfl rfl ?_
       refine gn ?_
       refine aw xp (nwq [53,5,4,3,1] ?_)
       refine ct rfl ?_
       refine sr (aa (qn (dz (dz (dz (wq [2] ?_))))))
       refine tn (qt ?_)
       refine tr (br (tr (tr (br (tr ?_)))))
       obtain rfl:=os hF
       subst K
       exact r1 wb
      ·refine fx 36 h30 ?_
       refine gy (fa 82 underlying60 rfl sizeOf3 (gy ?_))
       refine aw (Qe isAgg3 rfl (Qm (c:=(Qv .i64)) (y:=(QO x0.f_Peers i11).f_Keep) .z (Qbr g25 (QO x0.f_Peers i11)) rfl)) ?_
       refine gy ?_
       obtain ⟨t31,ht31,hF⟩:=bM hF
       refine Qav func34 rfl (by kernel_rfl) rfl rfl (fun w=>QeQ _ _ ht31 w) ?_
       refine gy ?_
       refine aw (Qcq rfl) ?_
       refine aw xp (am ?_)
       obtain ⟨h32,hF⟩|⟨h32,hF⟩:=oi hF
       ·refine fx 42 h32 ?_
        refine gn ?_
        refine gn ?_
        refine gn ?_
        refine gn ?_
        refine gn ?_
        refine Q9 rfl rfl rfl rfl ?_
        refine Q9 rfl rfl rfl rfl ?_
        refine Q9 rfl rfl rfl rfl ?_
        refine Q9 rfl rfl rfl rfl ?_
        refine gn ?_
        refine aw xp (nwq [53,5,4,3,1] ?_)
        refine ct rfl ?_
        refine sr (aa (qn (dz (dz (dz (wq [2] ?_))))))
        refine tn (qt ?_)
        refine tr (br (tr (tr (br (tr ?_)))))
        obtain rfl:=os hF
        subst K
        exact r1 wb
       ·refine fx 42 h32 ?_
        refine gy (fa 64 underlying60 rfl sizeOf57 (gy ?_))
        refine aw (Qg (c:=Qb) (z:=(QO x0.f_Peers i11).f_End) isAgg57 sizeOf57 rfl (Qp .z (QbE g25 (QO x0.f_Peers i11)))) ?_
        refine gy ?_
        refine aw (Qw (zs:=Cd.cs Qb zv9) (cs:=Cd.cs Qb zv9) underlying57 zeroValue57 rfl (Qz) rfl rfl) ?_
        refine gy ?_
        refine aw (QdR (c:=Qb) (a:=(QO x0.f_Peers i11).f_End) (b:=zv9) (QdC) rfl Tryz.eqGuardType57 rfl rfl (.inr rfl) rfl) ?_
        refine gy (am ?_)
        obtain ⟨h33,hF⟩|⟨h33,hF⟩:=oi hF
        ·refine fx 47 h33 ?_
         refine gy (fa 64 underlying60 rfl sizeOf57 (gy ?_))
         refine aw (Qg (c:=Qb) (z:=(QO x0.f_Peers i11).f_End) isAgg57 sizeOf57 rfl (Qp .z (QbE g25 (QO x0.f_Peers i11)))) ?_
         refine gy ?_
         obtain ⟨t34,ht34,hF⟩:=bM hF
         refine cB func35 rfl (fun w hw=>Qet _ _ ht34 w) ?_
         refine gy ?_
         refine aw (Qcq rfl) ?_
         refine gy (aw xp (aw xp (nwq [53,5,4,3,1] ?_)))
         obtain ⟨h35,hF⟩|⟨h35,hF⟩:=oi hF
         ·refine ct h35 ?_
          refine sr (aa (qn (dz (dz (dz (wq [2] ?_))))))
          refine tn (qt ?_)
          refine tr (br (tr (tr (br (tr ?_)))))
          obtain rfl:=os hF
          subst K
          exact r1 wb
         ·refine cf h35 ?_
          refine sn ?_
          obtain rfl:=os hF
          exact Qk K ⟨rfl,rfl,rfl,rfl,trivial⟩
        ·refine fx 47 h33 ?_
         refine gn ?_
         refine gn ?_
         refine gn ?_
         refine gn ?_
         refine gy (aw xp (aw xp (nwq [53,5,4,3,1] ?_)))
         refine cf rfl ?_
         refine sn ?_
         obtain rfl:=os hF
         exact Qk K ⟨rfl,rfl,rfl,rfl,trivial⟩
     ·cases q28 with
      | ret r' =>
       obtain rfl:=os hF;exact K
      | nx sq28 =>
       skip
       refine qs (sr (aa (nwq [6,5,4,3,1] ?_)))
       refine qb ?_
       obtain ⟨q36,hq36,hF⟩:=bM hF
       refine wq [6,5,4,3,1] ?_
       refine Qbn (B:=2) (r:=r) (q:=q36) (A:=fun (_:Unit) Y=>At 117 [(1,.pointer (some ⟨b1,0,none⟩)),(3,.slice p12 i10.length c13),(4,.int .i64 i11),(5,.pointer (some ⟨b27,0,none⟩))] (Wd w [Qi b27 (Cd.cs Qf (g25,QO x0.f_Peers i11)) 60,Qbm Qc 74 p12 c13 i10,Qi b1 (Cd.cs Qh (g0_,x0)) 28]) Y) ?_ ?_
       ·intro K
        refine QB.l1.partial_correctness x0 i11 (motive:=fun i37 x=>KR (fun (_:Unit) Y=>At 117 [(1,.pointer (some ⟨b1,0,none⟩)),(3,.slice p12 i10.length c13),(4,.int .i64 i11),(5,.pointer (some ⟨b27,0,none⟩))] (Wd w [Qi b27 (Cd.cs Qf (g25,QO x0.f_Peers i11)) 60,Qbm Qc 74 p12 c13 i10,Qi b1 (Cd.cs Qh (g0_,x0)) 28]) Y) _ 2 r x→QbB (fun Y=>At 117 [(1,.pointer (some ⟨b1,0,none⟩)),(3,.slice p12 i10.length c13),(4,.int .i64 i11),(5,.pointer (some ⟨b27,0,none⟩)),(6,.int .i64 i37)] (Wd w [Qi b27 (Cd.cs Qf (g25,QO x0.f_Peers i11)) 60,Qbm Qc 74 p12 c13 i10,Qi b1 (Cd.cs Qh (g0_,x0)) 28]) Y) _ _ _) ?_ _ _ hq36 K
        ·clear K hF
         intro g ih i37 x hF K
         refine QW ?_
         refine qs (sr (am (am (aw xl (nwq [56,6,5,4,3,1] ?_)))))
         obtain ⟨h38,hF⟩|⟨h38,hF⟩:=oi hF
         ·refine ct h38 ?_
          refine sn (qs (qb (qs ?_)))
          refine Qdd (by kernel_rfl) (by kernel_rfl) (fun _ h=>h.drew) ?_
          refine Ql rfl rfl rfl (Q4 (fo:=34) underlying28 rfl rfl (fun w=>⟨_,sizeOf26 w⟩) rfl) ?_
          refine Ql rfl rfl rfl (Qe isAgg26 rfl (Qm (c:=cHd) (y:=⟨g0_.1,List.length x0.f_Peers,g0_.2⟩) (.s (.s .z)) (QV g0_ x0) rfl)) ?_
          refine Ql rfl rfl rfl (Qbz rfl) ?_
          obtain ⟨h39,hF⟩:=gd hF
          obtain ⟨zs43,hz44,hr45,hn46⟩:=id hn0
          obtain ⟨b41,o42,hp40⟩:=Qaa hr45 (QiT hz44 h39)
          obtain ⟨g47,hg48⟩:=QtH hz44 i37
          refine Ql rfl rfl rfl (QbD underlying26 sizeOf60 rfl rfl h39 hp40) ?_
          refine Ql rfl rfl rfl (Q4 (fo:=0) underlying60 rfl rfl (fun w=>⟨_,sizeOf24 w⟩) rfl) ?_
          refine Ql rfl rfl rfl (Qg (c:=(QQ (Qv .u8) 32 (by decide))) (z:=(QO x0.f_Peers i37).f_Key) isAgg24 sizeOf24 rfl (Qww (y:=(QO x0.f_Peers i37).f_Key) (fun _ h=>h.below) hr45 (QiT hz44 h39) hp40 hg48 (Qbo g47 (QO x0.f_Peers i37)))) ?_
          refine Ql rfl rfl rfl (Q4 (fo:=0) underlying60 rfl rfl (fun w=>⟨_,sizeOf24 w⟩) rfl) ?_
          refine Ql rfl rfl rfl (Qg (c:=(QQ (Qv .u8) 32 (by decide))) (z:=(QO x0.f_Peers i11).f_Key) isAgg24 sizeOf24 rfl (Qp .z (Qbo g25 (QO x0.f_Peers i11)))) ?_
          refine Ql rfl rfl rfl (QdR (c:=(QQ (Qv .u8) 32 (by decide))) (a:=(QO x0.f_Peers i37).f_Key) (b:=(QO x0.f_Peers i11).f_Key) (Qgb underlying24 Qia sizeOf5 isAgg5 (.inr rfl) (QeX underlying5)) rfl Tryz.eqGuardType24 rfl rfl (.inl rfl) rfl) ?_
          refine Qck ?_
          refine wq [67,6,5,4,3,1] ?_
          refine tn ?_
          obtain ⟨h49,hF⟩|⟨h49,hF⟩:=oi hF
          ·refine ct h49 ?_
           refine sr (aa (qn (dz (dz (dz (wq [2] ?_))))))
           refine tn (qt ?_)
           refine br (tr (tr (br (tr (br (tr (tr (br (tr ?_)))))))))
           obtain rfl:=os hF
           subst K
           exact r1 wb
          ·refine cf h49 ?_
           refine QbQ ?_
           refine bm ?_
           refine qr (am (aw xa (aa (nwq [6,5,4,3,1] ?_))))
           exact Qk (ih _ _ hF K) ⟨rfl,rfl,rfl,rfl,rfl,trivial⟩
         ·refine cf h38 ?_
          refine Q7 ?_
          refine te (te ?_)
          obtain rfl:=os hF
          exact Qk K ⟨rfl,rfl,rfl,rfl,trivial⟩
       ·cases q36 with
        | ret r'=>obtain rfl:=os hF;exact K
        | nx sq36 =>
         skip
         refine QD ?_
         refine tn (sr (aa (nwq [7,5,4,3,1] ?_)))
         refine qb ?_
         obtain ⟨q52,hq52,hF⟩:=bM hF
         refine wq [7,5,4,3,1] ?_
         refine Qbn (B:=4) (r:=r) (q:=q52) (A:=fun sq52 Y=>∀ (p57:Option Addr) (c58:Nat),At 117 [(1,.pointer (some ⟨b1,0,none⟩)),(3,.slice p57 sq52.length c58),(4,.int .i64 i11)] (Wd w [Qbm Qc 74 p57 c58 sq52,Qi b1 (Cd.cs Qh (g0_,x0)) 28]) Y) ?_ ?_
         ·intro K
          refine QB.l2.partial_correctness x0 i11 (motive:=fun i53 i54 x=>KR (fun sq52 Y=>∀ (p57:Option Addr) (c58:Nat),At 117 [(1,.pointer (some ⟨b1,0,none⟩)),(3,.slice p57 sq52.length c58),(4,.int .i64 i11)] (Wd w [Qbm Qc 74 p57 c58 sq52,Qi b1 (Cd.cs Qh (g0_,x0)) 28]) Y) _ 4 r x→QbB (fun Y=>∀ (p55:Option Addr) (c56:Nat),At 117 [(1,.pointer (some ⟨b1,0,none⟩)),(3,.slice p55 i53.length c56),(4,.int .i64 i11),(5,.pointer (some ⟨b27,0,none⟩)),(7,.int .i64 i54)] (Wd w [Qi b27 (Cd.cs Qf (g25,QO x0.f_Peers i11)) 60,Qbm Qc 74 p55 c56 i53,Qi b1 (Cd.cs Qh (g0_,x0)) 28]) Y) _ _ _) ?_ _ _ _ hq52 K p12 c13
          ·clear K hF
           intro g ih i53 i54 x hF K p55 c56
           refine QW ?_
           refine qs (sr (am (fa 85 underlying60 rfl sizeOf58 ?_)))
           refine aw (Qe isAgg58 rfl (Qm (c:=cHd) (y:=⟨g25.1,List.length ((QO x0.f_Peers i11).f_Allowed),g25.2⟩) .z (QaP g25 (QO x0.f_Peers i11)) rfl)) ?_
           refine aw (QZ underlying58 rfl) ?_
           refine aw xl (nwq [72,7,5,4,3,1] ?_)
           obtain ⟨h59,hF⟩|⟨h59,hF⟩:=oi hF
           ·refine ct h59 ?_
            refine sn (qs (qb (sr (fa 85 underlying60 rfl sizeOf58 ?_))))
            refine aw (Qe isAgg58 rfl (Qm (c:=cHd) (y:=⟨g25.1,List.length ((QO x0.f_Peers i11).f_Allowed),g25.2⟩) .z (QaP g25 (QO x0.f_Peers i11)) rfl)) ?_
            refine am ?_
            obtain ⟨h60,hF⟩:=gd hF
            obtain ⟨b62,o63,hp61⟩:=Qaa (nz hg26 hn24 (QiT hz22 h17)) h60
            refine aw (QbD underlying58 sizeOf74 rfl rfl h60 hp61) ?_
            refine aw (Qg (c:=Qc) (z:=QO ((QO x0.f_Peers i11).f_Allowed) i54) isAgg74 sizeOf74 rfl (QdB (fun _ h=>h.below) (nz hg26 hn24 (QiT hz22 h17)) h60 hp61)) ?_
            refine al (cs:=Cd.cs Qc Qdl) zeroValue74 ?_
            intro b64
            refine Qn (c:=Qc) (z:=QO ((QO x0.f_Peers i11).f_Allowed) i54) .z lw sizeOf74 rfl rfl rfl ?_
            refine nwq [8,7,5,4,3,1] ?_
            obtain ⟨q65,hq65,hF⟩:=bM hF
            refine QhQ (q:=q65) (r:=r) (A:=fun (_:Unit) Y=>At 117 [(1,.pointer (some ⟨b1,0,none⟩)),(3,.slice p55 i53.length c56),(4,.int .i64 i11),(5,.pointer (some ⟨b27,0,none⟩)),(7,.int .i64 i54),(8,.pointer (some ⟨b64,0,none⟩))] (Wd w [Qi b64 (Cd.cs Qc (QO ((QO x0.f_Peers i11).f_Allowed) i54)) 74,Qi b27 (Cd.cs Qf (g25,QO x0.f_Peers i11)) 60,Qbm Qc 74 p55 c56 i53,Qi b1 (Cd.cs Qh (g0_,x0)) 28]) Y) ?_ ?_
            ·intro Y K
             replace hF:=hq65
             refine qs ?_
             refine Qdd (by kernel_rfl) (by kernel_rfl) (fun _ h=>h.drew) ?_
             refine Ql rfl rfl rfl (Qg (c:=Qc) (z:=QO ((QO x0.f_Peers i11).f_Allowed) i54) isAgg74 sizeOf74 rfl (Qp .z lw)) ?_
             obtain ⟨t67,ht67,hF⟩:=bM hF
             refine Qbl func36 rfl (by kernel_rfl) rfl rfl (fun w hw=>(Qeu _ _ ht67 w).mono fun _ _ h=>⟨h.1,hw.call h.2⟩) ?_
             refine Ql rfl rfl rfl (Qcq rfl) ?_
             refine Ql rfl rfl rfl (Qbz rfl) ?_
             obtain ⟨h68,hF⟩|⟨h68,hF⟩:=oi hF
             ·refine QdV (g:=83) rfl h68 ?_
              refine QJ rfl rfl rfl rfl rfl ?_
              refine QJ rfl rfl rfl rfl rfl ?_
              refine QJ rfl rfl rfl rfl rfl ?_
              refine Qad rfl rfl rfl rfl ?_
              refine Qad rfl rfl rfl rfl ?_
              refine Qad rfl rfl rfl rfl ?_
              refine Qad rfl rfl rfl rfl ?_
              refine Qad rfl rfl rfl rfl ?_
              refine Qad rfl rfl rfl rfl ?_
              refine Qad rfl rfl rfl rfl ?_
              refine Qad rfl rfl rfl rfl ?_
              refine Qad rfl rfl rfl rfl ?_
              refine QJ rfl rfl rfl rfl rfl ?_
              refine Ql rfl rfl rfl (QdZ rfl rfl rfl) ?_
              refine Qck ?_
              refine wq [97,8,7,5,4,3,1] ?_
              refine tn ?_
              refine ct rfl ?_
              refine sr (aa (qn (dz (dz (dz (dz (wq [2] ?_)))))))
              refine tn (qt ?_)
              refine tr (br (tr (tr (br (br (tr (tr (br (tr ?_)))))))))
              obtain rfl:=os hF
              subst K
              exact r1 wb
             ·refine QdV (g:=83) rfl h68 ?_
              refine QI rfl rfl rfl ?_
              refine Ql rfl rfl rfl (Qbz rfl) ?_
              refine QI rfl rfl rfl ?_
              refine Ql rfl rfl rfl (QbI rfl rfl) ?_
              refine QI rfl rfl rfl ?_
              refine Ql rfl rfl rfl (Qbz rfl) ?_
              obtain ⟨h69,hF⟩|⟨h69,hF⟩:=oi hF
              ·refine QdV (g:=86) rfl h69 ?_
               refine QI rfl rfl rfl ?_
               refine Ql rfl rfl rfl (Q4 (fo:=85) underlying60 rfl rfl (fun w=>⟨_,sizeOf58 w⟩) rfl) ?_
               refine QI rfl rfl rfl ?_
               refine Ql rfl rfl rfl (Qe isAgg58 rfl (Qm (c:=cHd) (y:=⟨g25.1,List.length ((QO x0.f_Peers i11).f_Allowed),g25.2⟩) (.s .z) (QaP g25 (QO x0.f_Peers i11)) rfl)) ?_
               refine QI rfl rfl rfl ?_
               refine Ql rfl rfl rfl (Qbz rfl) ?_
               refine QI rfl rfl rfl ?_
               refine Ql rfl rfl rfl (Qdh rfl rfl) ?_
               refine QI rfl rfl rfl ?_
               obtain ⟨h70,hF⟩:=gd hF
               obtain ⟨b72,o73,hp71⟩:=Qaa (nz hg26 hn24 (QiT hz22 h17)) h70
               refine Ql rfl rfl rfl (QbD underlying58 sizeOf74 rfl rfl h70 hp71) ?_
               refine QI rfl rfl rfl ?_
               refine Ql rfl rfl rfl (Qg (c:=Qc) (z:=QO ((QO x0.f_Peers i11).f_Allowed) (wr .i64 (i54-1))) isAgg74 sizeOf74 rfl (QdB (fun _ h=>h.below) (nz hg26 hn24 (QiT hz22 h17)) h70 hp71)) ?_
               refine QI rfl rfl rfl ?_
               refine Ql rfl rfl rfl (Qg (c:=Qc) (z:=QO ((QO x0.f_Peers i11).f_Allowed) i54) isAgg74 sizeOf74 rfl (Qp .z lw)) ?_
               refine QI rfl rfl rfl ?_
               obtain ⟨t74,ht74,hF⟩:=bM hF
               refine Qbl func37 rfl (by kernel_rfl) rfl rfl (fun w hw=>(QgU _ _ _ ht74 w).mono fun _ _ h=>⟨h.1,hw.call h.2⟩) ?_
               refine QI rfl rfl rfl ?_
               refine Ql rfl rfl rfl (Qcq rfl) ?_
               refine QI rfl rfl rfl ?_
               refine Ql rfl rfl rfl (QdZ rfl rfl rfl) ?_
               refine Ql rfl rfl rfl (QdZ rfl rfl rfl) ?_
               refine Qck ?_
               refine wq [97,8,7,5,4,3,1] ?_
               refine tn ?_
               obtain ⟨h75,hF⟩|⟨h75,hF⟩:=oi hF
               ·refine ct h75 ?_
                refine sr (aa (qn (dz (dz (dz (dz (wq [2] ?_)))))))
                refine tn (qt ?_)
                refine tr (br (tr (tr (br (br (tr (tr (br (tr ?_)))))))))
                obtain rfl:=os hF
                subst K
                exact r1 wb
               ·refine cf h75 ?_
                refine sn ?_
                obtain rfl:=os hF
                exact Qk K ⟨rfl,rfl,rfl,rfl,rfl,rfl,trivial⟩
              ·refine QdV (g:=86) rfl h69 ?_
               refine QJ rfl rfl rfl rfl rfl ?_
               refine QJ rfl rfl rfl rfl rfl ?_
               refine QJ rfl rfl rfl rfl rfl ?_
               refine QJ rfl rfl rfl rfl rfl ?_
               refine QJ rfl rfl rfl rfl rfl ?_
               refine QJ rfl rfl rfl rfl rfl ?_
               refine QJ rfl rfl rfl rfl rfl ?_
               refine QJ rfl rfl rfl rfl rfl ?_
               refine QJ rfl rfl rfl rfl rfl ?_
               refine QI rfl rfl rfl ?_
               refine Ql rfl rfl rfl (QdZ rfl rfl rfl) ?_
               refine Ql rfl rfl rfl (QdZ rfl rfl rfl) ?_
               refine Qck ?_
               refine wq [97,8,7,5,4,3,1] ?_
               refine tn ?_
               refine cf rfl ?_
               refine sn ?_
               obtain rfl:=os hF
               exact Qk K ⟨rfl,rfl,rfl,rfl,rfl,rfl,trivial⟩
            ·cases q65 with
             | ret r' =>
              obtain rfl:=os hF;exact K
             | nx sq65 =>
              skip
              refine qs (sr (aa (nwq [9,8,7,5,4,3,1] ?_)))
              refine qb ?_
              obtain ⟨q76,hq76,hF⟩:=bM hF
              refine wq [9,8,7,5,4,3,1] ?_
              refine Qbn (B:=6) (r:=r) (q:=q76) (A:=fun (_:Unit) Y=>At 117 [(1,.pointer (some ⟨b1,0,none⟩)),(3,.slice p55 i53.length c56),(4,.int .i64 i11),(5,.pointer (some ⟨b27,0,none⟩)),(7,.int .i64 i54),(8,.pointer (some ⟨b64,0,none⟩))] (Wd w [Qi b64 (Cd.cs Qc (QO ((QO x0.f_Peers i11).f_Allowed) i54)) 74,Qi b27 (Cd.cs Qf (g25,QO x0.f_Peers i11)) 60,Qbm Qc 74 p55 c56 i53,Qi b1 (Cd.cs Qh (g0_,x0)) 28]) Y) ?_ ?_
              ·intro K
               refine QB.l3.partial_correctness x0 i11 i53 i54 (motive:=fun i77 x=>KR (fun (_:Unit) Y=>At 117 [(1,.pointer (some ⟨b1,0,none⟩)),(3,.slice p55 i53.length c56),(4,.int .i64 i11),(5,.pointer (some ⟨b27,0,none⟩)),(7,.int .i64 i54),(8,.pointer (some ⟨b64,0,none⟩))] (Wd w [Qi b64 (Cd.cs Qc (QO ((QO x0.f_Peers i11).f_Allowed) i54)) 74,Qi b27 (Cd.cs Qf (g25,QO x0.f_Peers i11)) 60,Qbm Qc 74 p55 c56 i53,Qi b1 (Cd.cs Qh (g0_,x0)) 28]) Y) _ 6 r x→QbB (fun Y=>At 117 [(1,.pointer (some ⟨b1,0,none⟩)),(3,.slice p55 i53.length c56),(4,.int .i64 i11),(5,.pointer (some ⟨b27,0,none⟩)),(7,.int .i64 i54),(8,.pointer (some ⟨b64,0,none⟩)),(9,.int .i64 i77)] (Wd w [Qi b64 (Cd.cs Qc (QO ((QO x0.f_Peers i11).f_Allowed) i54)) 74,Qi b27 (Cd.cs Qf (g25,QO x0.f_Peers i11)) 60,Qbm Qc 74 p55 c56 i53,Qi b1 (Cd.cs Qh (g0_,x0)) 28]) Y) _ _ _) ?_ _ _ hq76 K
               ·clear K hF
                intro g ih i77 x hF K
                refine QW ?_
                refine qs (sr (am (am ?_)))
                refine aw (QZ underlying58 rfl) ?_
                refine aw xl (nwq [101,9,8,7,5,4,3,1] ?_)
                obtain ⟨h78,hF⟩|⟨h78,hF⟩:=oi hF
                ·refine ct h78 ?_
                 refine sn (qs (qb (qs (wq [9,8,7,5,4,3,1] ?_))))
                 obtain ⟨h79,hF⟩:=gd hF
                 refine Qae (φ:=∃ b o,p55=some ⟨b,o,none⟩) (fun _ hw=>Qaa (hw.own (.s (.s .z))).row h79) ?_
                 rintro ⟨b81,o82,hp80⟩
                 refine Qey [.q 104 (fun g83=>.slice p55 i53.length c56) [] 0 0,.q 105 (fun g83=>.int .i64 i77) [] 0 0,.q 106 (fun g83=>.pointer (some ⟨b81,o82+Int.toNat i77*18,none⟩)) [0,1] 0 0,.q 107 (fun g83=>.agg (Cd.cs Qc (QO i53 i77)).toArray) [2] 0 0,.q 108 (fun g83=>.agg (Cd.cs Qc (QO ((QO x0.f_Peers i11).f_Allowed) i54)).toArray) [] 0 0,.q 109 (fun g83=>.bool (decide (QO i53 i77=QO ((QO x0.f_Peers i11).f_Allowed) i54))) [3,4] 0 0] (fun g83 s=>match s with | _=>(Wd w [Qi b64 (Cd.cs Qc (QO ((QO x0.f_Peers i11).f_Allowed) i54)) 74,Qi b27 (Cd.cs Qf (g25,QO x0.f_Peers i11)) 60,Qbm Qc 74 p55 c56 i53,Qi b1 (Cd.cs Qh (g0_,x0)) 28])) 0 (by kernel_rfl) (by kernel_rfl) (by kernel_rfl) (by kernel_rfl) (by kernel_rfl) ⟨fun _ _ _=>rfl,fun _ _ _=>rfl,fun _ _ _=>rfl,fun _ _ _=>rfl,fun _ _ _=>rfl,fun _ _ _=>rfl,trivial⟩ (by kernel_rfl) (fun w_ h=>⟨fun _=>g3 0 none 0 none w_,h.drew⟩) ⟨?_,?_,?_,?_,?_,?_,trivial⟩ ?_
                 ·intro Lx g83 s K hl hh k
                  show At 117 ((1,_)::(3,_)::(4,_)::(5,_)::(7,_)::(8,_)::(9,_)::Lx) _ _
                  refine am ?_
                  exact Qs k
                 ·intro Lx g83 s K hl hh k
                  show At 117 ((1,_)::(3,_)::(4,_)::(5,_)::(7,_)::(8,_)::(9,_)::Lx) _ _
                  refine am ?_
                  exact Qs k
                 ·intro Lx g83 s K hl hh k
                  show At 117 ((104,_)::(105,_)::(1,_)::(3,_)::(4,_)::(5,_)::(7,_)::(8,_)::(9,_)::Lx) _ _
                  refine aw (QbD underlying58 sizeOf74 rfl rfl h79 hp80) ?_
                  exact Qs k
                 ·intro Lx g83 s K hl hh k
                  show At 117 ((106,_)::(1,_)::(3,_)::(4,_)::(5,_)::(7,_)::(8,_)::(9,_)::Lx) _ _
                  obtain rfl:s=0:=by omega
                  refine aw (Qg (c:=Qc) (z:=QO i53 i77) isAgg74 sizeOf74 rfl (fun w1 hw=>QdB (W:=fun w1=>w1=_) (fun w1 h=>by subst h;exact Below.refl _ _) (hw.own (.s (.s .z))).row h79 hp80 _ rfl)) ?_
                  exact Qs k
                 ·intro Lx g83 s K hl hh k
                  show At 117 ((1,_)::(3,_)::(4,_)::(5,_)::(7,_)::(8,_)::(9,_)::Lx) _ _
                  obtain rfl:s=0:=by omega
                  refine aw (Qg (c:=Qc) (z:=QO ((QO x0.f_Peers i11).f_Allowed) i54) isAgg74 sizeOf74 rfl (Qp .z lw)) ?_
                  exact Qs k
                 ·intro Lx g83 s K hl hh k
                  show At 117 ((107,_)::(108,_)::(1,_)::(3,_)::(4,_)::(5,_)::(7,_)::(8,_)::(9,_)::Lx) _ _
                  refine aw (QdR (c:=Qc) (a:=QO i53 i77) (b:=QO ((QO x0.f_Peers i11).f_Allowed) i54) (Qds) rfl Tryz.eqGuardType74 rfl rfl (.inl rfl) rfl) ?_
                  exact Qs k
                 intro g83
                 show At 117 [(104,_),(105,_),(106,_),(107,_),(108,_),(109,_),(1,_),(3,_),(4,_),(5,_),(7,_),(8,_),(9,_)] _ _
                 refine wq [109,9,8,7,5,4,3,1] ?_
                 refine tn ?_
                 obtain ⟨h84,hF⟩|⟨h84,hF⟩:=oi hF
                 ·refine ct h84 ?_
                  refine sr (aa (qn (dz (dz (dz (dz (wq [2] ?_)))))))
                  refine tn (qt ?_)
                  refine br (tr (tr (br (tr (br (tr (tr (br (br (tr (tr (br (tr ?_)))))))))))))
                  obtain rfl:=os hF
                  subst K
                  exact r1 wb
                 ·refine cf h84 ?_
                  refine QbQ ?_
                  refine bm ?_
                  refine qr (am (aw xa (aa (nwq [9,8,7,5,4,3,1] ?_))))
                  exact Qk (ih _ _ hF K) ⟨rfl,rfl,rfl,rfl,rfl,rfl,rfl,trivial⟩
                ·refine cf h78 ?_
                 refine Q7 ?_
                 refine te (te ?_)
                 obtain rfl:=os hF
                 exact Qk K ⟨rfl,rfl,rfl,rfl,rfl,rfl,trivial⟩
              ·cases q76 with
               | ret r'=>obtain rfl:=os hF;exact K
               | nx sq76 =>
                skip
                refine QD ?_
                refine tn (qr (am ?_))
                refine aw (Qg (c:=Qc) (z:=QO ((QO x0.f_Peers i11).f_Allowed) i54) isAgg74 sizeOf74 rfl (Qp .z lw)) ?_
                refine QhP (c:=Qc) ([Qdl]:List Qo) ([QO ((QO x0.f_Peers i11).f_Allowed) i54]:List Qo) underlying58 sizeOf74 zeroValue74 rfl rfl rfl (by kernel_rfl) (QaB (c:=Qc) (z:=QO ((QO x0.f_Peers i11).f_Allowed) i54) rfl (Qaf.all Qc ([Qdl]:List Qo) 0 (by first | decide | exact Nat.le_of_ble_eq_true rfl)) rfl rfl) rfl ?_
                intro b85
                obtain ⟨h86,hF⟩:=gd hF
                refine Qcl (z:=.agg (Cd.cs Qc Qdl).toArray) (c:=Qc) (ys:=([QO ((QO x0.f_Peers i11).f_Allowed) i54]:List Qo)) (.s (.s (.s .z))) underlying58 QsQ (by kernel_rfl) (by kernel_rfl) rfl rfl rfl rfl (fun _ hw=>QbX (hw.ok (Upd.mem .z))) (by kernel_rfl) h86 (QbR h86) rfl ?_
                intro p87 c88
                refine aa (qn (dz (dz (wq [7,5,4,3,1] ?_))))
                refine bm ?_
                refine qr (am (aw xa (aa (nwq [7,5,4,3,1] ?_))))
                exact Qk (ih _ _ _ hF K p87 c88) ⟨rfl,rfl,rfl,rfl,rfl,trivial⟩
           ·refine cf h59 ?_
            refine Q7 ?_
            refine te (te ?_)
            refine dz ?_
            obtain rfl:=os hF
            exact Qk (K p55 c56) ⟨rfl,rfl,rfl,trivial⟩
         ·cases q52 with
          | ret r'=>obtain rfl:=os hF;exact K
          | nx sq52 =>
           intro p57 c58
           refine QD ?_
           refine bm ?_
           refine qr (am (aw xa (aa (nwq [4,3,1] ?_))))
           exact Qk (ih _ _ _ hF K p57 c58) ⟨rfl,rfl,rfl,trivial⟩
    ·refine cf h16 ?_
     refine Q7 ?_
     refine te (te ?_)
     refine Qam (H:=_) (.s .z) ?_
     obtain rfl:=os hF
     exact Qk (K p12 c13) ⟨rfl,trivial⟩
  ·cases q9 with
   | ret r'=>exact os hF
   | nx sq9 =>
    intro p14 c15
    refine QD ?_
    refine tn (sr (am ?_))
    refine aw (QZ underlying58 rfl) ?_
    refine aw (Qhw rfl rfl) ?_
    refine aa (qn (dz (wq [2] ?_)))
    refine tn (qt ?_)
    have K:=os hF
    subst K
    exact r1 wb
def Qfb(x0:Int):Option (Bool) :=
 if (decide (x0≥0))=true then (some (decide (x0≤65535))) else (some false)
theorem QhU(x0:Int)(r:Bool)(hF:Qfb x0=some r)(w:World) :
    Calls Tryz.prog 58 #[.int .i64 x0] w (fun e w'=>e=.returned (.bool r)∧w'=w):=by
 unfold Qfb at hF
 refine ce (l:=[.int .i64 x0]) func58 rfl rfl ?_
 refine sr (aa (nwx [0] ?_))
 refine am ?_
 refine aw (QfM rfl rfl) ?_
 refine am ?_
 obtain ⟨h1,hF⟩|⟨h1,hF⟩:=oi hF
 ·refine fx 5 h1 ?_
  refine gy (am (gy ?_))
  refine aw (Qhw rfl rfl) ?_
  refine aw xp (aa (nwq [2] ?_))
  refine qt ?_
  have K:=os hF
  subst K
  exact r1 (fun w1 hw=>⟨rfl,hw⟩)
 refine fx 5 h1 ?_
 refine gn ?_
 refine gn ?_
 refine aw xp (aa (nwq [2] ?_))
 refine qt ?_
 have K:=os hF
 subst K
 exact r1 (fun w1 hw=>⟨rfl,hw⟩)
def Qct.l0(x0:List Qo)(i2:Int):Option (Ctl (Bool) (Unit)) :=
 if (decide (i2<(x0.length:Int)))=true then (if (0:Int)≤i2∧i2<(x0.length:Int) then Qed (QO x0 i2)>>=fun t9=>if (!t9)=true then (some (.ret false)) else (if (decide (i2>0))=true then (if (0:Int)≤wr .i64 (i2-1)∧wr .i64 (i2-1)<(x0.length:Int) then QfV (QO x0 (wr .i64 (i2-1))) (QO x0 i2)>>=fun t16=>if (!t16)=true then (some (.ret false)) else (Qct.l0 x0 (wr .i64 (i2+1))) else none) else (Qct.l0 x0 (wr .i64 (i2+1)))) else none) else (some (.nx ()))
 partial_fixpoint
def Qct(x0:List Qo):Option (Bool) :=
 Qct.l0 x0 0>>=fun q1=>match q1 with | .ret r'=>some r' | .nx sq1=>(some true)
theorem Qkq(x0:List Qo)(p0_:Option Addr)(c0_:Nat)(r:Bool)(hF:Qct x0=some r)(w:World)(hr0:Row Qc w p0_ c0_ x0) :
    Calls Tryz.prog 59 #[.slice p0_ x0.length c0_] w (fun e w'=>e=.returned (.bool r)∧Below w.heap.size w w'):=by
 unfold Qct at hF
 refine ce (l:=[.slice p0_ x0.length c0_]) func59 rfl rfl ?_
 refine QN ?_
 refine sr (aa (nt (qs (sr (am ?_)))))
 refine aw (QZ underlying58 rfl) ?_
 refine am (nwq [7,6,5,0] ?_)
 refine qb ?_
 obtain ⟨q1,hq1,hF⟩:=bM hF
 refine wq [7,6,5,0] ?_
 refine Qbn (B:=0) (r:=r) (q:=q1) (A:=fun (_:Unit) Y=>At 30 [] (Wd w []) Y) ?_ ?_
 ·intro K
  refine Qct.l0.partial_correctness x0 (motive:=fun i2 x=>KR (fun (_:Unit) Y=>At 30 [] (Wd w []) Y) _ 0 r x→QbB (fun Y=>At 30 [(0,.slice p0_ x0.length c0_),(5,.slice p0_ x0.length c0_),(6,.int .i64 (x0.length:Int)),(7,.int .i64 i2)] (Wd w []) Y) _ _ _) ?_ _ _ hq1 K
  ·clear K hF
   intro g ih i2 x hF K
   refine QW ?_
   refine sr (aw xl (nwq [8,7,6,5,0] ?_))
   refine qs ?_
   obtain ⟨h3,hF⟩|⟨h3,hF⟩:=oi hF
   ·refine ct h3 ?_
    refine sn (qs (qb (sr (am ?_))))
    obtain ⟨h4,hF⟩:=gd hF
    obtain ⟨b6,o7,hp5⟩:=Qaa hr0 h4
    refine aw (QbD underlying58 sizeOf74 rfl rfl h4 hp5) ?_
    refine aw (Qg (c:=Qc) (z:=QO x0 i2) isAgg74 sizeOf74 rfl (QdB (fun _ h=>h.below) hr0 h4 hp5)) ?_
    refine al (cs:=Cd.cs Qc Qdl) zeroValue74 ?_
    intro b8
    refine aa ?_
    refine Qn (c:=Qc) (z:=QO x0 i2) .z lw sizeOf74 rfl rfl rfl ?_
    refine nwq [7,6,5,4,3,0] ?_
    refine qs ?_
    refine Qdd (by kernel_rfl) (by kernel_rfl) (fun _ h=>h.drew) ?_
    refine Ql rfl rfl rfl (Qg (c:=Qc) (z:=QO x0 i2) isAgg74 sizeOf74 rfl (Qp .z lw)) ?_
    obtain ⟨t9,ht9,hF⟩:=bM hF
    refine Qbl func90 rfl (by kernel_rfl) rfl rfl (fun w hw=>(Qij _ _ ht9 w).mono fun _ _ h=>⟨h.1,hw.call h.2⟩) ?_
    refine Ql rfl rfl rfl (Qcq rfl) ?_
    refine Ql rfl rfl rfl (Qbz rfl) ?_
    obtain ⟨h10,hF⟩|⟨h10,hF⟩:=oi hF
    ·refine QdV (g:=15) rfl h10 ?_
     refine QJ rfl rfl rfl rfl rfl ?_
     refine QJ rfl rfl rfl rfl rfl ?_
     refine QJ rfl rfl rfl rfl rfl ?_
     refine Qad rfl rfl rfl rfl ?_
     refine Qad rfl rfl rfl rfl ?_
     refine Qad rfl rfl rfl rfl ?_
     refine Qad rfl rfl rfl rfl ?_
     refine Qad rfl rfl rfl rfl ?_
     refine Qad rfl rfl rfl rfl ?_
     refine Qad rfl rfl rfl rfl ?_
     refine Qad rfl rfl rfl rfl ?_
     refine QJ rfl rfl rfl rfl rfl ?_
     refine Ql rfl rfl rfl (QdZ rfl rfl rfl) ?_
     refine Qck ?_
     refine dz (wq [28,7,6,5,0] ?_)
     refine tn ?_
     refine ct rfl ?_
     refine sr (aa (nwq [2] ?_))
     refine qt ?_
     refine br (tr (tr (br (tr ?_))))
     obtain rfl:=os hF
     subst K
     exact r1 wb
    refine QdV (g:=15) rfl h10 ?_
    refine QI rfl rfl rfl ?_
    refine Ql rfl rfl rfl (Qbz rfl) ?_
    refine QI rfl rfl rfl ?_
    refine Ql rfl rfl rfl (QbI rfl rfl) ?_
    refine QI rfl rfl rfl ?_
    refine Ql rfl rfl rfl (Qbz rfl) ?_
    obtain ⟨h11,hF⟩|⟨h11,hF⟩:=oi hF
    ·refine QdV (g:=18) rfl h11 ?_
     refine QI rfl rfl rfl ?_
     refine Ql rfl rfl rfl (Qbz rfl) ?_
     refine QI rfl rfl rfl ?_
     refine Ql rfl rfl rfl (Qbz rfl) ?_
     refine QI rfl rfl rfl ?_
     refine Ql rfl rfl rfl (Qdh rfl rfl) ?_
     refine QI rfl rfl rfl ?_
     obtain ⟨h12,hF⟩:=gd hF
     obtain ⟨b14,o15,hp13⟩:=Qaa hr0 h12
     refine Ql rfl rfl rfl (QbD underlying58 sizeOf74 rfl rfl h12 hp13) ?_
     refine QI rfl rfl rfl ?_
     refine Ql rfl rfl rfl (Qg (c:=Qc) (z:=QO x0 (wr .i64 (i2-1))) isAgg74 sizeOf74 rfl (QdB (fun _ h=>h.below) hr0 h12 hp13)) ?_
     refine QI rfl rfl rfl ?_
     refine Ql rfl rfl rfl (Qg (c:=Qc) (z:=QO x0 i2) isAgg74 sizeOf74 rfl (Qp .z lw)) ?_
     refine QI rfl rfl rfl ?_
     obtain ⟨t16,ht16,hF⟩:=bM hF
     refine Qbl func91 rfl (by kernel_rfl) rfl rfl (fun w hw=>(QmV _ _ _ ht16 w).mono fun _ _ h=>⟨h.1,hw.call h.2⟩) ?_
     refine QI rfl rfl rfl ?_
     refine Ql rfl rfl rfl (Qcq rfl) ?_
     refine QI rfl rfl rfl ?_
     refine Ql rfl rfl rfl (QdZ rfl rfl rfl) ?_
     refine Ql rfl rfl rfl (QdZ rfl rfl rfl) ?_
     refine Qck ?_
     refine dz (wq [28,7,6,5,0] ?_)
     refine tn ?_
     obtain ⟨h17,hF⟩|⟨h17,hF⟩:=oi hF
     ·refine ct h17 ?_
      refine sr (aa (nwq [2] ?_))
      refine qt ?_
      refine br (tr (tr (br (tr ?_))))
      obtain rfl:=os hF
      subst K
      exact r1 wb
     refine cf h17 ?_
     refine QbQ ?_
     refine bm ?_
     refine qr (aw xa (am (nwq [7,6,5,0] ?_)))
     exact Qk (ih _ _ hF K) ⟨rfl,rfl,rfl,rfl,trivial⟩
    refine QdV (g:=18) rfl h11 ?_
    refine QJ rfl rfl rfl rfl rfl ?_
    refine QJ rfl rfl rfl rfl rfl ?_
    refine QJ rfl rfl rfl rfl rfl ?_
    refine QJ rfl rfl rfl rfl rfl ?_
    refine QJ rfl rfl rfl rfl rfl ?_
    refine QJ rfl rfl rfl rfl rfl ?_
    refine QJ rfl rfl rfl rfl rfl ?_
    refine QJ rfl rfl rfl rfl rfl ?_
    refine QI rfl rfl rfl ?_
    refine Ql rfl rfl rfl (QdZ rfl rfl rfl) ?_
    refine Ql rfl rfl rfl (QdZ rfl rfl rfl) ?_
    refine Qck ?_
    refine dz (wq [28,7,6,5,0] ?_)
    refine tn ?_
    refine cf rfl ?_
    refine QbQ ?_
    refine bm ?_
    refine qr (aw xa (am (nwq [7,6,5,0] ?_)))
    exact Qk (ih _ _ hF K) ⟨rfl,rfl,rfl,rfl,trivial⟩
   refine cf h3 ?_
   refine Q7 ?_
   refine te (te ?_)
   obtain rfl:=os hF
   exact Qk K trivial
 cases q1 with
 | ret r'=>exact os hF
 | nx sq1 =>
  skip
  refine QD ?_
  refine tn (sr (aa (nwq [2] ?_)))
  refine qt ?_
  have K:=os hF
  subst K
  exact r1 wb
def Qbd.l1(x0:Qx)(i10:Int)(i39:Int)(i40:List (Qo×Bool)):Option (Ctl (Bool) (List (Qo×Bool))) :=
 if (decide (i39<(((QO x0.f_Peers i10).f_Allowed).length:Int)))=true then (if (0:Int)≤i39∧i39<(((QO x0.f_Peers i10).f_Allowed).length:Int) then if (QsD i40 (QO ((QO x0.f_Peers i10).f_Allowed) i39) false)=true then (some (.ret false)) else (Qbd.l1 x0 i10 (wr .i64 (i39+1)) (QlZ i40 (QO ((QO x0.f_Peers i10).f_Allowed) i39) true)) else none) else (some (.nx i40))
 partial_fixpoint
def Qbd.l0(x0:Qx)(i10:Int)(i11:List (Qo×Bool))(i12:List ((Vector Int 32)×Bool)):Option (Ctl (Bool) (List (Qo×Bool))) :=
 if (decide (i10<(x0.f_Peers.length:Int)))=true then (if (0:Int)≤i10∧i10<(x0.f_Peers.length:Int) then (if (QsD i12 ((QO x0.f_Peers i10).f_Key) false)=true then (some (.ret false)) else (Qfb ((QO x0.f_Peers i10).f_Keep)>>=fun t28=>if (!t28)=true then (some (.ret false)) else (Qct ((QO x0.f_Peers i10).f_Allowed)>>=fun t30=>if (!t30)=true then (some (.ret false)) else (some (.nx ())))):Option (Ctl (Bool) (Unit)))>>=fun q25=>match q25 with | .ret r'=>some (.ret r') | .nx sq25=>((QdL ((QO x0.f_Peers i10).f_End)>>=fun t34=>if (!t34)=true then (QcO ((QO x0.f_Peers i10).f_End)>>=fun t36=>if (!t36)=true then (some (.ret false)) else (some (.nx ()))) else (some (.nx ())):Option (Ctl (Bool) (Unit)))>>=fun q32=>match q32 with | .ret r'=>some (.ret r') | .nx sq32=>(Qbd.l1 x0 i10 0 i11>>=fun q38=>match q38 with | .ret r'=>some (.ret r') | .nx sq38=>(Qbd.l0 x0 (wr .i64 (i10+1)) sq38 (QlZ i12 ((QO x0.f_Peers i10).f_Key) true)))) else none) else (some (.nx i11))
 partial_fixpoint
def Qbd(x0:Qx):Option (Bool) :=
 (Qfb x0.f_Port>>=fun t4=>if (!t4)=true then (some (.ret false)) else (if (decide ((x0.f_Peers.length:Int)>16))=true then (some (.ret false)) else (some (.nx ()))):Option (Ctl (Bool) (Unit)))>>=fun q2=>match q2 with | .ret r'=>some r' | .nx sq2=>(Qbd.l0 x0 0 ([]:List (Qo×Bool)) (QlZ ([]:List ((Vector Int 32)×Bool)) (Vector.replicate 32 (0:Int):(Vector Int 32)) true)>>=fun q9=>match q9 with | .ret r'=>some r' | .nx sq9=>(some (decide ((List.length sq9:Int)≤64))))
theorem Qla(g0_:Qbs)(x0:Qx)(r:Bool)(hF:Qbd x0=some r)(w:World)(hn0:Qdk w (g0_,x0)) :
    Calls Tryz.prog 24 #[.agg (Cd.cs Qh (g0_,x0)).toArray] w (fun e w'=>e=.returned (.bool r)∧Below w.heap.size w w'):=by
 unfold Qbd at hF
 refine ce (l:=[.agg (Cd.cs Qh (g0_,x0)).toArray]) func24 rfl rfl ?_
 refine QN ?_
 refine sr ?_
 refine Qbv (cs:=Cd.cs Qh (g0_,x0)) rfl rfl rfl ?_
 intro b1
 refine aa (nwq [1] ?_)
 obtain ⟨q2,hq2,hF⟩:=bM hF
 refine QhQ (q:=q2) (r:=r) (A:=fun (_:Unit) Y=>At 76 [(1,.pointer (some ⟨b1,0,none⟩))] (Wd w [Qi b1 (Cd.cs Qh (g0_,x0)) 28]) Y) ?_ ?_
 ·intro Y K
  replace hF:=hq2
  refine sr (fa 32 underlying28 rfl sizeOf3 ?_)
  refine aw (Qe isAgg3 rfl (Qm (c:=(Qv .i64)) (y:=x0.f_Port) .z (Qce g0_ x0) rfl)) ?_
  obtain ⟨t4,ht4,hF⟩:=bM hF
  refine Qav func58 rfl (by kernel_rfl) rfl rfl (fun w=>QhU _ _ ht4 w) ?_
  refine aw (Qcq rfl) ?_
  refine am ?_
  obtain ⟨h5,hF⟩|⟨h5,hF⟩:=oi hF
  ·refine fx 13 h5 ?_
   refine gn ?_
   refine gn ?_
   refine gn ?_
   refine gn ?_
   refine aw xp (nwq [18,1] ?_)
   refine ct rfl ?_
   refine sr (aa (qn (dz (wq [2] ?_))))
   refine tn (rt ?_)
   obtain rfl:=os hF
   subst K
   exact r1 wb
  refine fx 13 h5 ?_
  refine gy (fa 34 underlying28 rfl sizeOf26 (gy ?_))
  refine aw (Qe isAgg26 rfl (Qm (c:=cHd) (y:=⟨g0_.1,List.length x0.f_Peers,g0_.2⟩) .z (QV g0_ x0) rfl)) ?_
  refine gy ?_
  refine aw (QZ underlying26 rfl) ?_
  refine gy ?_
  refine aw (QbI rfl rfl) ?_
  refine aw xp (nwq [18,1] ?_)
  obtain ⟨h6,hF⟩|⟨h6,hF⟩:=oi hF
  ·refine ct h6 ?_
   refine sr (aa (qn (dz (wq [2] ?_))))
   refine tn (rt ?_)
   obtain rfl:=os hF
   subst K
   exact r1 wb
  refine cf h6 ?_
  refine sn ?_
  obtain rfl:=os hF
  exact Qk K ⟨rfl,trivial⟩
 cases q2 with
 | ret r' =>
  exact os hF
 | nx sq2 =>
  skip
  refine sr ?_
  refine Qk6 (QQ (Qv .u8) 32 (by decide)) QgD false rfl ?_
  intro b7
  refine aw (Qb3 (zs:=Cd.cs (QQ (Qv .u8) 32 (by decide)) zv4) (cs:=Cd.cs (QQ (Qv .u8) 32 (by decide)) zv4) underlying24 zeroValue24 rfl sizeOf5 rfl rfl) ?_
  refine QrU (k:=zv4) (v:=true) .z underlying95 (QiI underlying24 underlying5 sizeOf5 isAgg5 (Qgb underlying24 Qia sizeOf5 isAgg5 (.inr rfl) (QeX underlying5)) (by decide)) rfl rfl rfl rfl ?_
  refine am ?_
  refine Qk6 Qc QgD false rfl ?_
  intro b8
  refine aa (aa (nt (qs (sr (fa 34 underlying28 rfl sizeOf26 ?_)))))
  refine aw (Qe isAgg26 rfl (Qm (c:=cHd) (y:=⟨g0_.1,List.length x0.f_Peers,g0_.2⟩) (.s (.s .z)) (QV g0_ x0) rfl)) ?_
  refine aw (QZ underlying26 rfl) ?_
  refine am (qn ?_)
  refine Qam (H:=_) (.s (.s .z)) ?_
  refine wq [26,25,24,4,3] ?_
  refine tn (qb ?_)
  obtain ⟨q9,hq9,hF⟩:=bM hF
  refine wq [26,25,24,4,3] ?_
  refine Qbn (B:=0) (r:=r) (q:=q9) (A:=fun sq9 Y=>At 76 [(4,.map (some b8))] (Wd w [Qjb b8 Qc QgD false sq9]) Y) ?_ ?_
  ·intro K
   refine Qbd.l0.partial_correctness x0 (motive:=fun i10 i11 i12 x=>KR (fun sq9 Y=>At 76 [(4,.map (some b8))] (Wd w [Qjb b8 Qc QgD false sq9]) Y) _ 0 r x→QbB (fun Y=>At 76 [(3,.map (some b7)),(4,.map (some b8)),(24,.slice g0_.1 x0.f_Peers.length g0_.2),(25,.int .i64 (x0.f_Peers.length:Int)),(26,.int .i64 i10)] (Wd w [Qjb b8 Qc QgD false i11,Qjb b7 (QQ (Qv .u8) 32 (by decide)) QgD false i12]) Y) _ _ _) ?_ _ _ _ _ hq9 K
   ·clear K hF
    intro g ih i10 i11 i12 x hF K
    refine QW ?_
    refine sr (aw xl (nwq [27,26,25,24,4,3] ?_))
    refine qs ?_
    obtain ⟨h13,hF⟩|⟨h13,hF⟩:=oi hF
    ·refine ct h13 ?_
     refine sn (qs (qb (sr ?_)))
     obtain ⟨h14,hF⟩:=gd hF
     obtain ⟨zs18,hz19,hr20,hn21⟩:=id hn0
     obtain ⟨b16,o17,hp15⟩:=Qaa hr20 (QiT hz19 h14)
     obtain ⟨g22,hg23⟩:=QtH hz19 i10
     refine aw (QbD underlying26 sizeOf60 rfl rfl h14 hp15) ?_
     refine aw (Qg (c:=Qf) (z:=(g22,QO x0.f_Peers i10)) isAgg60 sizeOf60 rfl (Qpk (fun _ h=>h.below) hr20 (QiT hz19 h14) hp15 hg23)) ?_
     refine al (cs:=Cd.cs Qf QeF) zeroValue60 ?_
     intro b24
     refine Qn (c:=Qf) (z:=(g22,QO x0.f_Peers i10)) .z lw sizeOf60 rfl rfl rfl ?_
     refine nwq [26,25,24,6,4,3] ?_
     obtain ⟨q25,hq25,hF⟩:=bM hF
     refine QhQ (q:=q25) (r:=r) (A:=fun (_:Unit) Y=>At 76 [(3,.map (some b7)),(4,.map (some b8)),(6,.pointer (some ⟨b24,0,none⟩)),(24,.slice g0_.1 x0.f_Peers.length g0_.2),(25,.int .i64 (x0.f_Peers.length:Int)),(26,.int .i64 i10)] (Wd w [Qi b24 (Cd.cs Qf (g22,QO x0.f_Peers i10)) 60,Qjb b8 Qc QgD false i11,Qjb b7 (QQ (Qv .u8) 32 (by decide)) QgD false i12]) Y) ?_ ?_
     ·intro Y K
      replace hF:=hq25
      refine sr (am (fa 0 underlying60 rfl sizeOf24 ?_))
      refine aw (Qg (c:=(QQ (Qv .u8) 32 (by decide))) (z:=(QO x0.f_Peers i10).f_Key) isAgg24 sizeOf24 rfl (Qp .z (Qbo g22 (QO x0.f_Peers i10)))) ?_
      refine aw (Qoh (d:=QgD) (va:=false) (k:=(QO x0.f_Peers i10).f_Key) (zv:=false) underlying95 (QiI underlying24 underlying5 sizeOf5 isAgg5 (Qgb underlying24 Qia sizeOf5 isAgg5 (.inr rfl) (QeX underlying5)) (by decide)) zeroValue4 rfl rfl (fun w1 hw=>hw.ok (Upd.mem (.s (.s .z))))) ?_
      refine am ?_
      obtain ⟨h27,hF⟩|⟨h27,hF⟩:=oi hF
      ·refine fx 34 h27 ?_
       refine gn ?_
       refine gn ?_
       refine gn ?_
       refine gn ?_
       refine aw xp (am ?_)
       refine gn ?_
       refine gn ?_
       refine gn ?_
       refine gn ?_
       refine aw xp (nwq [45,26,25,24,6,4,3] ?_)
       refine ct rfl ?_
       refine sr (aa (qn (dz (dz (dz (wq [2] ?_))))))
       refine tn (qt ?_)
       refine tr (br (tr (tr (br (tr ?_)))))
       obtain rfl:=os hF
       subst K
       exact r1 wb
      ·refine fx 34 h27 ?_
       refine gy (fa 82 underlying60 rfl sizeOf3 (gy ?_))
       refine aw (Qe isAgg3 rfl (Qm (c:=(Qv .i64)) (y:=(QO x0.f_Peers i10).f_Keep) .z (Qbr g22 (QO x0.f_Peers i10)) rfl)) ?_
       refine gy ?_
       obtain ⟨t28,ht28,hF⟩:=bM hF
       refine Qav func58 rfl (by kernel_rfl) rfl rfl (fun w=>QhU _ _ ht28 w) ?_
       refine gy ?_
       refine aw (Qcq rfl) ?_
       refine aw xp (am ?_)
       obtain ⟨h29,hF⟩|⟨h29,hF⟩:=oi hF
       ·refine fx 40 h29 ?_
        refine gn ?_
        refine gn ?_
        refine gn ?_
        refine gn ?_
        refine aw xp (nwq [45,26,25,24,6,4,3] ?_)
        refine ct rfl ?_
        refine sr (aa (qn (dz (dz (dz (wq [2] ?_))))))
        refine tn (qt ?_)
        refine tr (br (tr (tr (br (tr ?_)))))
        obtain rfl:=os hF
        subst K
        exact r1 wb
       ·refine fx 40 h29 ?_
        refine gy (fa 85 underlying60 rfl sizeOf58 (gy ?_))
        refine aw (Qe isAgg58 rfl (Qm (c:=cHd) (y:=⟨g22.1,List.length ((QO x0.f_Peers i10).f_Allowed),g22.2⟩) .z (QaP g22 (QO x0.f_Peers i10)) rfl)) ?_
        refine gy ?_
        obtain ⟨t30,ht30,hF⟩:=bM hF
        refine cB func59 rfl (fun w hw=>Qkq _ _ _ _ ht30 w ((nz hg23 hn21 (QiT hz19 h14)).below hw.below)) ?_
        refine gy ?_
        refine aw (Qcq rfl) ?_
        refine aw xp (nwq [45,26,25,24,6,4,3] ?_)
        obtain ⟨h31,hF⟩|⟨h31,hF⟩:=oi hF
        ·refine ct h31 ?_
         refine sr (aa (qn (dz (dz (dz (wq [2] ?_))))))
         refine tn (qt ?_)
         refine tr (br (tr (tr (br (tr ?_)))))
         obtain rfl:=os hF
         subst K
         exact r1 wb
        ·refine cf h31 ?_
         refine sn ?_
         obtain rfl:=os hF
         exact Qk K ⟨rfl,rfl,rfl,rfl,rfl,rfl,trivial⟩
     ·cases q25 with
      | ret r' =>
       obtain rfl:=os hF;exact K
      | nx sq25 =>
       skip
       obtain ⟨q32,hq32,hF⟩:=bM hF
       refine QhQ (q:=q32) (r:=r) (A:=fun (_:Unit) Y=>At 76 [(3,.map (some b7)),(4,.map (some b8)),(6,.pointer (some ⟨b24,0,none⟩)),(24,.slice g0_.1 x0.f_Peers.length g0_.2),(25,.int .i64 (x0.f_Peers.length:Int)),(26,.int .i64 i10)] (Wd w [Qi b24 (Cd.cs Qf (g22,QO x0.f_Peers i10)) 60,Qjb b8 Qc QgD false i11,Qjb b7 (QQ (Qv .u8) 32 (by decide)) QgD false i12]) Y) ?_ ?_
       ·intro Y K
        replace hF:=hq32
        refine sr (fa 64 underlying60 rfl sizeOf57 ?_)
        refine aw (Qg (c:=Qb) (z:=(QO x0.f_Peers i10).f_End) isAgg57 sizeOf57 rfl (Qp .z (QbE g22 (QO x0.f_Peers i10)))) ?_
        obtain ⟨t34,ht34,hF⟩:=bM hF
        refine cB func60 rfl (fun w hw=>Qgo _ _ ht34 w) ?_
        refine aw (Qcq rfl) ?_
        refine am ?_
        obtain ⟨h35,hF⟩|⟨h35,hF⟩:=oi hF
        ·refine fx 50 h35 ?_
         refine gy (fa 64 underlying60 rfl sizeOf57 (gy ?_))
         refine aw (Qg (c:=Qb) (z:=(QO x0.f_Peers i10).f_End) isAgg57 sizeOf57 rfl (Qp .z (QbE g22 (QO x0.f_Peers i10)))) ?_
         refine gy ?_
         obtain ⟨t36,ht36,hF⟩:=bM hF
         refine cB func61 rfl (fun w hw=>QfS _ _ ht36 w) ?_
         refine gy ?_
         refine aw (Qcq rfl) ?_
         refine aw xp (nwq [55,26,25,24,6,4,3] ?_)
         obtain ⟨h37,hF⟩|⟨h37,hF⟩:=oi hF
         ·refine ct h37 ?_
          refine sr (aa (qn (dz (dz (dz (wq [2] ?_))))))
          refine tn (qt ?_)
          refine tr (br (tr (tr (br (tr ?_)))))
          obtain rfl:=os hF
          subst K
          exact r1 wb
         ·refine cf h37 ?_
          refine sn ?_
          obtain rfl:=os hF
          exact Qk K ⟨rfl,rfl,rfl,rfl,rfl,rfl,trivial⟩
        ·refine fx 50 h35 ?_
         refine gn ?_
         refine gn ?_
         refine gn ?_
         refine gn ?_
         refine aw xp (nwq [55,26,25,24,6,4,3] ?_)
         refine cf rfl ?_
         refine sn ?_
         obtain rfl:=os hF
         exact Qk K ⟨rfl,rfl,rfl,rfl,rfl,rfl,trivial⟩
       ·cases q32 with
        | ret r' =>
         obtain rfl:=os hF;exact K
        | nx sq32 =>
         skip
         refine sr (am (fa 0 underlying60 rfl sizeOf24 ?_))
         refine aw (Qg (c:=(QQ (Qv .u8) 32 (by decide))) (z:=(QO x0.f_Peers i10).f_Key) isAgg24 sizeOf24 rfl (Qp .z (Qbo g22 (QO x0.f_Peers i10)))) ?_
         refine Qg1 (k:=(QO x0.f_Peers i10).f_Key) (v:=true) (.s (.s .z)) underlying95 (QiI underlying24 underlying5 sizeOf5 isAgg5 (Qgb underlying24 Qia sizeOf5 isAgg5 (.inr rfl) (QeX underlying5)) (by decide)) rfl rfl rfl rfl ?_
         refine ns (fa 85 underlying60 rfl sizeOf58 ?_)
         refine aw (Qe isAgg58 rfl (Qm (c:=cHd) (y:=⟨g22.1,List.length ((QO x0.f_Peers i10).f_Allowed),g22.2⟩) .z (QaP g22 (QO x0.f_Peers i10)) rfl)) ?_
         refine aw (QZ underlying58 rfl) ?_
         refine am (qn (dz (wq [62,61,60,26,25,24,4,3] ?_)))
         refine tn (qb ?_)
         obtain ⟨q38,hq38,hF⟩:=bM hF
         refine wq [62,61,60,26,25,24,4,3] ?_
         refine Qbn (B:=2) (r:=r) (q:=q38) (A:=fun sq38 Y=>At 76 [(3,.map (some b7)),(4,.map (some b8)),(24,.slice g0_.1 x0.f_Peers.length g0_.2),(25,.int .i64 (x0.f_Peers.length:Int)),(26,.int .i64 i10)] (Wd w [Qjb b8 Qc QgD false sq38,Qjb b7 (QQ (Qv .u8) 32 (by decide)) QgD false (QlZ i12 ((QO x0.f_Peers i10).f_Key) true)]) Y) ?_ ?_
         ·intro K
          refine Qbd.l1.partial_correctness x0 i10 (motive:=fun i39 i40 x=>KR (fun sq38 Y=>At 76 [(3,.map (some b7)),(4,.map (some b8)),(24,.slice g0_.1 x0.f_Peers.length g0_.2),(25,.int .i64 (x0.f_Peers.length:Int)),(26,.int .i64 i10)] (Wd w [Qjb b8 Qc QgD false sq38,Qjb b7 (QQ (Qv .u8) 32 (by decide)) QgD false (QlZ i12 ((QO x0.f_Peers i10).f_Key) true)]) Y) _ 2 r x→QbB (fun Y=>At 76 [(3,.map (some b7)),(4,.map (some b8)),(24,.slice g0_.1 x0.f_Peers.length g0_.2),(25,.int .i64 (x0.f_Peers.length:Int)),(26,.int .i64 i10),(60,.slice g22.1 ((QO x0.f_Peers i10).f_Allowed).length g22.2),(61,.int .i64 (((QO x0.f_Peers i10).f_Allowed).length:Int)),(62,.int .i64 i39)] (Wd w [Qjb b8 Qc QgD false i40,Qjb b7 (QQ (Qv .u8) 32 (by decide)) QgD false (QlZ i12 ((QO x0.f_Peers i10).f_Key) true)]) Y) _ _ _) ?_ _ _ _ hq38 K
          ·clear K hF
           intro g ih i39 i40 x hF K
           refine QW ?_
           refine sr (aw xl (nwq [63,62,61,60,26,25,24,4,3] ?_))
           refine qs ?_
           obtain ⟨h41,hF⟩|⟨h41,hF⟩:=oi hF
           ·refine ct h41 ?_
            refine sn (qs (qb (sr ?_)))
            obtain ⟨h42,hF⟩:=gd hF
            obtain ⟨b44,o45,hp43⟩:=Qaa (nz hg23 hn21 (QiT hz19 h14)) h42
            refine aw (QbD underlying58 sizeOf74 rfl rfl h42 hp43) ?_
            refine aw (Qg (c:=Qc) (z:=QO ((QO x0.f_Peers i10).f_Allowed) i39) isAgg74 sizeOf74 rfl (QdB (fun _ h=>h.below) (nz hg23 hn21 (QiT hz19 h14)) h42 hp43)) ?_
            refine al (cs:=Cd.cs Qc Qdl) zeroValue74 ?_
            intro b46
            refine Qn (c:=Qc) (z:=QO ((QO x0.f_Peers i10).f_Allowed) i39) .z lw sizeOf74 rfl rfl rfl ?_
            refine nt (qs (sr (am ?_)))
            refine aw (Qg (c:=Qc) (z:=QO ((QO x0.f_Peers i10).f_Allowed) i39) isAgg74 sizeOf74 rfl (Qp .z lw)) ?_
            refine aw (Qoh (d:=QgD) (va:=false) (k:=QO ((QO x0.f_Peers i10).f_Allowed) i39) (zv:=false) underlying96 (QmK underlying74 (Qhj (k:=2) underlying74 (fun n x hn=>(QeT (Qai x) rfl rfl isAgg55 sizeOf55 (.inl rfl) (Qhj (k:=1) underlying55 (fun n x hn=>(QeT (Q5 x) rfl rfl isAgg3 sizeOf3 (.inr rfl) (QiO underlying3) (by omega) (QeT (Q1 x) rfl rfl isAgg53 sizeOf53 (.inl rfl) (QrK underlying53 sizeOf5 isAgg5 (.inr rfl) (QiO underlying5)) (by omega) Qjw)))) (by omega) (QeT (Qan x) rfl rfl isAgg3 sizeOf3 (.inr rfl) (QiO underlying3) (by omega) Qjw)))) (by decide) (Qds) (by decide) Qgn) zeroValue4 rfl rfl (fun w1 hw=>hw.ok (Upd.mem (.s .z)))) ?_
            refine nwq [68,62,61,60,26,25,24,8,4,3] ?_
            obtain ⟨h47,hF⟩|⟨h47,hF⟩:=oi hF
            ·refine ct h47 ?_
             refine sr (aa (qn (dz (dz (dz (wq [2] ?_))))))
             refine tn (qt ?_)
             refine tr (br (tr (tr (br (br (tr (tr (br (tr ?_)))))))))
             obtain rfl:=os hF
             subst K
             exact r1 wb
            ·refine cf h47 ?_
             refine sn (qr (am ?_))
             refine aw (Qg (c:=Qc) (z:=QO ((QO x0.f_Peers i10).f_Allowed) i39) isAgg74 sizeOf74 rfl (Qp .z lw)) ?_
             refine Qg1 (k:=QO ((QO x0.f_Peers i10).f_Allowed) i39) (v:=true) (.s .z) underlying96 (QmK underlying74 (Qhj (k:=2) underlying74 (fun n x hn=>(QeT (Qai x) rfl rfl isAgg55 sizeOf55 (.inl rfl) (Qhj (k:=1) underlying55 (fun n x hn=>(QeT (Q5 x) rfl rfl isAgg3 sizeOf3 (.inr rfl) (QiO underlying3) (by omega) (QeT (Q1 x) rfl rfl isAgg53 sizeOf53 (.inl rfl) (QrK underlying53 sizeOf5 isAgg5 (.inr rfl) (QiO underlying5)) (by omega) Qjw)))) (by omega) (QeT (Qan x) rfl rfl isAgg3 sizeOf3 (.inr rfl) (QiO underlying3) (by omega) Qjw)))) (by decide) (Qds) (by decide) Qgn) rfl rfl rfl rfl ?_
             refine qn (dz (wq [62,61,60,26,25,24,4,3] ?_))
             refine bm ?_
             refine qr (aw xa (am (nwq [62,61,60,26,25,24,4,3] ?_)))
             exact Qk (ih _ _ _ hF K) ⟨rfl,rfl,rfl,rfl,rfl,rfl,rfl,rfl,trivial⟩
           ·refine cf h41 ?_
            refine Q7 ?_
            refine te (te ?_)
            obtain rfl:=os hF
            exact Qk K ⟨rfl,rfl,rfl,rfl,rfl,trivial⟩
         ·cases q38 with
          | ret r'=>obtain rfl:=os hF;exact K
          | nx sq38 =>
           skip
           refine QD ?_
           refine bm ?_
           refine qr (aw xa (am (nwq [26,25,24,4,3] ?_)))
           exact Qk (ih _ _ _ _ hF K) ⟨rfl,rfl,rfl,rfl,rfl,trivial⟩
    ·refine cf h13 ?_
     refine Q7 ?_
     refine te (te ?_)
     refine Qam (H:=_) (.s .z) ?_
     obtain rfl:=os hF
     exact Qk K ⟨rfl,trivial⟩
  ·cases q9 with
   | ret r'=>exact os hF
   | nx sq9 =>
    skip
    refine QD ?_
    refine tn (sr (am ?_))
    refine aw (Qqz underlying96 rfl (fun w1 hw=>hw.ok (Upd.mem .z))) ?_
    refine aw (Qhw rfl rfl) ?_
    refine aa (qn (dz (wq [2] ?_)))
    refine tn (qt ?_)
    have K:=os hF
    subst K
    exact r1 wb
def Qcr(x0:Qq)(x1:Qq):Option (Bool) :=
 if (decide (x0.f_Key=x1.f_Key))=true then (if (decide (x0.f_Psk=x1.f_Psk))=true then (if (decide (x0.f_End=x1.f_End))=true then (if (x0.f_Keep==x1.f_Keep)=true then (if (x0.f_Sent==x1.f_Sent)=true then (if (x0.f_Got==x1.f_Got)=true then (Qa6 x0.f_Allowed x1.f_Allowed>>=fun t9=>some t9) else (some false)) else (some false)) else (some false)) else (some false)) else (some false)) else (some false)
theorem QfC(g0_:QR)(x0:Qq)(g1_:QR)(x1:Qq)(r:Bool)(hF:Qcr x0 x1=some r)(w:World)(hn0:Qdx w (g0_,x0))(hn1:Qdx w (g1_,x1)) :
    Calls Tryz.prog 23 #[.agg (Cd.cs Qf (g0_,x0)).toArray,.agg (Cd.cs Qf (g1_,x1)).toArray] w (fun e w'=>e=.returned (.bool r)∧Below w.heap.size w w'):=by
 unfold Qcr at hF
 refine ce (l:=[.agg (Cd.cs Qf (g0_,x0)).toArray,.agg (Cd.cs Qf (g1_,x1)).toArray]) func23 rfl rfl ?_
 refine QN ?_
 refine sr ?_
 refine Qbv (cs:=Cd.cs Qf (g0_,x0)) rfl rfl rfl ?_
 intro b1
 refine Qbv (cs:=Cd.cs Qf (g1_,x1)) rfl rfl rfl ?_
 intro b2
 refine aa (nwx [3,2] ?_)
 refine fa 0 underlying60 rfl sizeOf24 ?_
 refine aw (Qg (c:=(QQ (Qv .u8) 32 (by decide))) (z:=x0.f_Key) isAgg24 sizeOf24 rfl (Qp (.s .z) (Qbo g0_ x0))) ?_
 refine fa 0 underlying60 rfl sizeOf24 ?_
 refine aw (Qg (c:=(QQ (Qv .u8) 32 (by decide))) (z:=x1.f_Key) isAgg24 sizeOf24 rfl (Qp .z (Qbo g1_ x1))) ?_
 refine aw (QdR (c:=(QQ (Qv .u8) 32 (by decide))) (a:=x0.f_Key) (b:=x1.f_Key) (Qgb underlying24 Qia sizeOf5 isAgg5 (.inr rfl) (QeX underlying5)) rfl Tryz.eqGuardType24 rfl rfl (.inl rfl) rfl) ?_
 refine am ?_
 obtain ⟨h3,hF⟩|⟨h3,hF⟩:=oi hF
 ·refine fx 10 h3 ?_
  refine gy (fa 32 underlying60 rfl sizeOf24 (gy ?_))
  refine aw (Qg (c:=(QQ (Qv .u8) 32 (by decide))) (z:=x0.f_Psk) isAgg24 sizeOf24 rfl (Qp (.s .z) (QcG g0_ x0))) ?_
  refine gy (fa 32 underlying60 rfl sizeOf24 (gy ?_))
  refine aw (Qg (c:=(QQ (Qv .u8) 32 (by decide))) (z:=x1.f_Psk) isAgg24 sizeOf24 rfl (Qp .z (QcG g1_ x1))) ?_
  refine gy ?_
  refine aw (QdR (c:=(QQ (Qv .u8) 32 (by decide))) (a:=x0.f_Psk) (b:=x1.f_Psk) (Qgb underlying24 Qia sizeOf5 isAgg5 (.inr rfl) (QeX underlying5)) rfl Tryz.eqGuardType24 rfl rfl (.inl rfl) rfl) ?_
  refine aw xp (am ?_)
  obtain ⟨h4,hF⟩|⟨h4,hF⟩:=oi hF
  ·refine fx 17 h4 ?_
   refine gy (fa 64 underlying60 rfl sizeOf57 (gy ?_))
   refine aw (Qg (c:=Qb) (z:=x0.f_End) isAgg57 sizeOf57 rfl (Qp (.s .z) (QbE g0_ x0))) ?_
   refine gy (fa 64 underlying60 rfl sizeOf57 (gy ?_))
   refine aw (Qg (c:=Qb) (z:=x1.f_End) isAgg57 sizeOf57 rfl (Qp .z (QbE g1_ x1))) ?_
   refine gy ?_
   refine aw (QdR (c:=Qb) (a:=x0.f_End) (b:=x1.f_End) (QdC) rfl Tryz.eqGuardType57 rfl rfl (.inl rfl) rfl) ?_
   refine aw xp (am ?_)
   obtain ⟨h5,hF⟩|⟨h5,hF⟩:=oi hF
   ·refine fx 24 h5 ?_
    refine gy (fa 82 underlying60 rfl sizeOf3 (gy ?_))
    refine aw (Qe isAgg3 rfl (Qm (c:=(Qv .i64)) (y:=x0.f_Keep) (.s .z) (Qbr g0_ x0) rfl)) ?_
    refine gy (fa 82 underlying60 rfl sizeOf3 (gy ?_))
    refine aw (Qe isAgg3 rfl (Qm (c:=(Qv .i64)) (y:=x1.f_Keep) .z (Qbr g1_ x1) rfl)) ?_
    refine gy (aw xq (aw xp (am ?_)))
    obtain ⟨h6,hF⟩|⟨h6,hF⟩:=oi hF
    ·refine fx 31 h6 ?_
     refine gy (fa 83 underlying60 rfl sizeOf41 (gy ?_))
     refine aw (Qe isAgg41 rfl (Qm (c:=(Qv .u64)) (y:=x0.f_Sent) (.s .z) (QbT g0_ x0) rfl)) ?_
     refine gy (fa 83 underlying60 rfl sizeOf41 (gy ?_))
     refine aw (Qe isAgg41 rfl (Qm (c:=(Qv .u64)) (y:=x1.f_Sent) .z (QbT g1_ x1) rfl)) ?_
     refine gy (aw xq (aw xp (am ?_)))
     obtain ⟨h7,hF⟩|⟨h7,hF⟩:=oi hF
     ·refine fx 38 h7 ?_
      refine gy (fa 84 underlying60 rfl sizeOf41 (gy ?_))
      refine aw (Qe isAgg41 rfl (Qm (c:=(Qv .u64)) (y:=x0.f_Got) (.s .z) (Qb4 g0_ x0) rfl)) ?_
      refine gy (fa 84 underlying60 rfl sizeOf41 (gy ?_))
      refine aw (Qe isAgg41 rfl (Qm (c:=(Qv .u64)) (y:=x1.f_Got) .z (Qb4 g1_ x1) rfl)) ?_
      refine gy (aw xq (aw xp (am ?_)))
      obtain ⟨h8,hF⟩|⟨h8,hF⟩:=oi hF
      ·refine fx 45 h8 ?_
       refine gy (fa 85 underlying60 rfl sizeOf58 (gy ?_))
       refine aw (Qe isAgg58 rfl (Qm (c:=cHd) (y:=⟨g0_.1,List.length x0.f_Allowed,g0_.2⟩) (.s .z) (QaP g0_ x0) rfl)) ?_
       refine gy (fa 85 underlying60 rfl sizeOf58 (gy ?_))
       refine aw (Qe isAgg58 rfl (Qm (c:=cHd) (y:=⟨g1_.1,List.length x1.f_Allowed,g1_.2⟩) .z (QaP g1_ x1) rfl)) ?_
       refine gy ?_
       obtain ⟨t9,ht9,hF⟩:=bM hF
       refine cB func57 rfl (fun w hw=>QgT _ _ _ _ _ _ _ ht9 w (hn0.below hw.below) (hn1.below hw.below)) ?_
       refine aw xp (aa (qn (dz (dz (wq [4] ?_)))))
       refine tn (qt ?_)
       have K:=os hF
       subst K
       exact r1 wb
      refine fx 45 h8 ?_
      refine gn ?_
      refine gn ?_
      refine gn ?_
      refine gn ?_
      refine gn ?_
      refine aw xp (aa (qn (dz (dz (wq [4] ?_)))))
      refine tn (qt ?_)
      have K:=os hF
      subst K
      exact r1 wb
     refine fx 38 h7 ?_
     refine gn ?_
     refine gn ?_
     refine gn ?_
     refine gn ?_
     refine gn ?_
     refine aw xp (am ?_)
     refine gn ?_
     refine gn ?_
     refine gn ?_
     refine gn ?_
     refine gn ?_
     refine aw xp (aa (qn (dz (dz (wq [4] ?_)))))
     refine tn (qt ?_)
     have K:=os hF
     subst K
     exact r1 wb
    refine fx 31 h6 ?_
    refine gn ?_
    refine gn ?_
    refine gn ?_
    refine gn ?_
    refine gn ?_
    refine aw xp (am ?_)
    refine gn ?_
    refine gn ?_
    refine gn ?_
    refine gn ?_
    refine gn ?_
    refine aw xp (am ?_)
    refine gn ?_
    refine gn ?_
    refine gn ?_
    refine gn ?_
    refine gn ?_
    refine aw xp (aa (qn (dz (dz (wq [4] ?_)))))
    refine tn (qt ?_)
    have K:=os hF
    subst K
    exact r1 wb
   refine fx 24 h5 ?_
   refine gn ?_
   refine gn ?_
   refine gn ?_
   refine gn ?_
   refine gn ?_
   refine aw xp (am ?_)
   refine gn ?_
   refine gn ?_
   refine gn ?_
   refine gn ?_
   refine gn ?_
   refine aw xp (am ?_)
   refine gn ?_
   refine gn ?_
   refine gn ?_
   refine gn ?_
   refine gn ?_
   refine aw xp (am ?_)
   refine gn ?_
   refine gn ?_
   refine gn ?_
   refine gn ?_
   refine gn ?_
   refine aw xp (aa (qn (dz (dz (wq [4] ?_)))))
   refine tn (qt ?_)
   have K:=os hF
   subst K
   exact r1 wb
  refine fx 17 h4 ?_
  refine gn ?_
  refine gn ?_
  refine gn ?_
  refine gn ?_
  refine gn ?_
  refine aw xp (am ?_)
  refine gn ?_
  refine gn ?_
  refine gn ?_
  refine gn ?_
  refine gn ?_
  refine aw xp (am ?_)
  refine gn ?_
  refine gn ?_
  refine gn ?_
  refine gn ?_
  refine gn ?_
  refine aw xp (am ?_)
  refine gn ?_
  refine gn ?_
  refine gn ?_
  refine gn ?_
  refine gn ?_
  refine aw xp (am ?_)
  refine gn ?_
  refine gn ?_
  refine gn ?_
  refine gn ?_
  refine gn ?_
  refine aw xp (aa (qn (dz (dz (wq [4] ?_)))))
  refine tn (qt ?_)
  have K:=os hF
  subst K
  exact r1 wb
 refine fx 10 h3 ?_
 refine gn ?_
 refine gn ?_
 refine gn ?_
 refine gn ?_
 refine gn ?_
 refine aw xp (am ?_)
 refine gn ?_
 refine gn ?_
 refine gn ?_
 refine gn ?_
 refine gn ?_
 refine aw xp (am ?_)
 refine gn ?_
 refine gn ?_
 refine gn ?_
 refine gn ?_
 refine gn ?_
 refine aw xp (am ?_)
 refine gn ?_
 refine gn ?_
 refine gn ?_
 refine gn ?_
 refine gn ?_
 refine aw xp (am ?_)
 refine gn ?_
 refine gn ?_
 refine gn ?_
 refine gn ?_
 refine gn ?_
 refine aw xp (am ?_)
 refine gn ?_
 refine gn ?_
 refine gn ?_
 refine gn ?_
 refine gn ?_
 refine aw xp (aa (qn (dz (dz (wq [4] ?_)))))
 refine tn (qt ?_)
 have K:=os hF
 subst K
 exact r1 wb
def Qa5.l0(x0:Qx)(x1:Qx)(i10:Int):Option (Ctl (Bool) (Unit)) :=
 if (decide (i10<(x0.f_Peers.length:Int)))=true then (if (0:Int)≤i10∧i10<(x0.f_Peers.length:Int) then if (0:Int)≤i10∧i10<(x1.f_Peers.length:Int) then Qcr (QO x0.f_Peers i10) (QO x1.f_Peers i10)>>=fun t32=>if (!t32)=true then (some (.ret false)) else (Qa5.l0 x0 x1 (wr .i64 (i10+1))) else none else none) else (some (.nx ()))
 partial_fixpoint
def Qa5(x0:Qx)(x1:Qx):Option (Bool) :=
 (if (!decide (x0.f_Private=x1.f_Private))=true then (some (.ret false)) else (if (x0.f_Port != x1.f_Port)=true then (some (.ret false)) else (if (x0.f_Mark != x1.f_Mark)=true then (some (.ret false)) else (if ((x0.f_Peers.length:Int) != (x1.f_Peers.length:Int))=true then (some (.ret false)) else (some (.nx ()))))):Option (Ctl (Bool) (Unit)))>>=fun q3=>match q3 with | .ret r'=>some r' | .nx sq3=>(Qa5.l0 x0 x1 0>>=fun q9=>match q9 with | .ret r'=>some r' | .nx sq9=>(some true))
theorem QgR(g0_:Qbs)(x0:Qx)(g1_:Qbs)(x1:Qx)(r:Bool)(hF:Qa5 x0 x1=some r)(w:World)(hn0:Qdk w (g0_,x0))(hn1:Qdk w (g1_,x1)) :
    Calls Tryz.prog 8 #[.agg (Cd.cs Qh (g0_,x0)).toArray,.agg (Cd.cs Qh (g1_,x1)).toArray] w (fun e w'=>e=.returned (.bool r)∧Below w.heap.size w w'):=by
 unfold Qa5 at hF
 refine ce (l:=[.agg (Cd.cs Qh (g0_,x0)).toArray,.agg (Cd.cs Qh (g1_,x1)).toArray]) func8 rfl rfl ?_
 refine QN ?_
 refine sr ?_
 refine Qbv (cs:=Cd.cs Qh (g0_,x0)) rfl rfl rfl ?_
 intro b1
 refine Qbv (cs:=Cd.cs Qh (g1_,x1)) rfl rfl rfl ?_
 intro b2
 refine aa (nwq [3,2] ?_)
 obtain ⟨q3,hq3,hF⟩:=bM hF
 refine QhQ (q:=q3) (r:=r) (A:=fun (_:Unit) Y=>At 53 [(2,.pointer (some ⟨b1,0,none⟩)),(3,.pointer (some ⟨b2,0,none⟩))] (Wd w [Qi b2 (Cd.cs Qh (g1_,x1)) 28,Qi b1 (Cd.cs Qh (g0_,x0)) 28]) Y) ?_ ?_
 ·intro Y K
  replace hF:=hq3
  refine sr (fa 0 underlying28 rfl sizeOf24 ?_)
  refine aw (Qg (c:=(QQ (Qv .u8) 32 (by decide))) (z:=x0.f_Private) isAgg24 sizeOf24 rfl (Qp (.s .z) (Qcm g0_ x0))) ?_
  refine fa 0 underlying28 rfl sizeOf24 ?_
  refine aw (Qg (c:=(QQ (Qv .u8) 32 (by decide))) (z:=x1.f_Private) isAgg24 sizeOf24 rfl (Qp .z (Qcm g1_ x1))) ?_
  refine aw (QdR (c:=(QQ (Qv .u8) 32 (by decide))) (a:=x0.f_Private) (b:=x1.f_Private) (Qgb underlying24 Qia sizeOf5 isAgg5 (.inr rfl) (QeX underlying5)) rfl Tryz.eqGuardType24 rfl rfl (.inr rfl) rfl) ?_
  refine am ?_
  obtain ⟨h5,hF⟩|⟨h5,hF⟩:=oi hF
  ·refine fx 11 h5 ?_
   refine gn ?_
   refine gn ?_
   refine gn ?_
   refine gn ?_
   refine gn ?_
   refine aw xp (am ?_)
   refine gn ?_
   refine gn ?_
   refine gn ?_
   refine gn ?_
   refine gn ?_
   refine aw xp (am ?_)
   refine gn ?_
   refine gn ?_
   refine gn ?_
   refine gn ?_
   refine gn ?_
   refine gn ?_
   refine gn ?_
   refine aw xp (nwq [33,3,2] ?_)
   refine ct rfl ?_
   refine sr (aa (qn (dz (dz (wq [4] ?_)))))
   refine tn (rt ?_)
   obtain rfl:=os hF
   subst K
   exact r1 wb
  refine fx 11 h5 ?_
  refine gy (fa 32 underlying28 rfl sizeOf3 (gy ?_))
  refine aw (Qe isAgg3 rfl (Qm (c:=(Qv .i64)) (y:=x0.f_Port) (.s .z) (Qce g0_ x0) rfl)) ?_
  refine gy (fa 32 underlying28 rfl sizeOf3 (gy ?_))
  refine aw (Qe isAgg3 rfl (Qm (c:=(Qv .i64)) (y:=x1.f_Port) .z (Qce g1_ x1) rfl)) ?_
  refine gy (aw xn (aw xp (am ?_)))
  obtain ⟨h6,hF⟩|⟨h6,hF⟩:=oi hF
  ·refine fx 18 h6 ?_
   refine gn ?_
   refine gn ?_
   refine gn ?_
   refine gn ?_
   refine gn ?_
   refine aw xp (am ?_)
   refine gn ?_
   refine gn ?_
   refine gn ?_
   refine gn ?_
   refine gn ?_
   refine gn ?_
   refine gn ?_
   refine aw xp (nwq [33,3,2] ?_)
   refine ct rfl ?_
   refine sr (aa (qn (dz (dz (wq [4] ?_)))))
   refine tn (rt ?_)
   obtain rfl:=os hF
   subst K
   exact r1 wb
  refine fx 18 h6 ?_
  refine gy (fa 33 underlying28 rfl sizeOf25 (gy ?_))
  refine aw (Qe isAgg25 rfl (Qm (c:=(Qv .u32)) (y:=x0.f_Mark) (.s .z) (QcR g0_ x0) rfl)) ?_
  refine gy (fa 33 underlying28 rfl sizeOf25 (gy ?_))
  refine aw (Qe isAgg25 rfl (Qm (c:=(Qv .u32)) (y:=x1.f_Mark) .z (QcR g1_ x1) rfl)) ?_
  refine gy (aw xn (aw xp (am ?_)))
  obtain ⟨h7,hF⟩|⟨h7,hF⟩:=oi hF
  ·refine fx 25 h7 ?_
   refine gn ?_
   refine gn ?_
   refine gn ?_
   refine gn ?_
   refine gn ?_
   refine gn ?_
   refine gn ?_
   refine aw xp (nwq [33,3,2] ?_)
   refine ct rfl ?_
   refine sr (aa (qn (dz (dz (wq [4] ?_)))))
   refine tn (rt ?_)
   obtain rfl:=os hF
   subst K
   exact r1 wb
  refine fx 25 h7 ?_
  refine gy (fa 34 underlying28 rfl sizeOf26 (gy ?_))
  refine aw (Qe isAgg26 rfl (Qm (c:=cHd) (y:=⟨g0_.1,List.length x0.f_Peers,g0_.2⟩) (.s .z) (QV g0_ x0) rfl)) ?_
  refine gy ?_
  refine aw (QZ underlying26 rfl) ?_
  refine gy (fa 34 underlying28 rfl sizeOf26 (gy ?_))
  refine aw (Qe isAgg26 rfl (Qm (c:=cHd) (y:=⟨g1_.1,List.length x1.f_Peers,g1_.2⟩) .z (QV g1_ x1) rfl)) ?_
  refine gy ?_
  refine aw (QZ underlying26 rfl) ?_
  refine gy (aw xn (aw xp (nwq [33,3,2] ?_)))
  obtain ⟨h8,hF⟩|⟨h8,hF⟩:=oi hF
  ·refine ct h8 ?_
   refine sr (aa (qn (dz (dz (wq [4] ?_)))))
   refine tn (rt ?_)
   obtain rfl:=os hF
   subst K
   exact r1 wb
  refine cf h8 ?_
  refine sn ?_
  obtain rfl:=os hF
  exact Qk K ⟨rfl,rfl,trivial⟩
 cases q3 with
 | ret r' =>
  exact os hF
 | nx sq3 =>
  skip
  refine qs (sr (aa (nwq [5,3,2] ?_)))
  refine qb ?_
  obtain ⟨q9,hq9,hF⟩:=bM hF
  refine wq [5,3,2] ?_
  refine Qbn (B:=0) (r:=r) (q:=q9) (A:=fun (_:Unit) Y=>At 53 [] (Wd w []) Y) ?_ ?_
  ·intro K
   refine Qa5.l0.partial_correctness x0 x1 (motive:=fun i10 x=>KR (fun (_:Unit) Y=>At 53 [] (Wd w []) Y) _ 0 r x→QbB (fun Y=>At 53 [(2,.pointer (some ⟨b1,0,none⟩)),(3,.pointer (some ⟨b2,0,none⟩)),(5,.int .i64 i10)] (Wd w [Qi b2 (Cd.cs Qh (g1_,x1)) 28,Qi b1 (Cd.cs Qh (g0_,x0)) 28]) Y) _ _ _) ?_ _ _ hq9 K
   ·clear K hF
    intro g ih i10 x hF K
    refine QW ?_
    refine qs (sr (am (fa 34 underlying28 rfl sizeOf26 ?_)))
    refine aw (Qe isAgg26 rfl (Qm (c:=cHd) (y:=⟨g0_.1,List.length x0.f_Peers,g0_.2⟩) (.s .z) (QV g0_ x0) rfl)) ?_
    refine aw (QZ underlying26 rfl) ?_
    refine aw xl (nwq [38,5,3,2] ?_)
    obtain ⟨h11,hF⟩|⟨h11,hF⟩:=oi hF
    ·refine ct h11 ?_
     refine sn (qs (qb (qs ?_)))
     refine Qdd (by kernel_rfl) (by kernel_rfl) (fun _ h=>h.drew) ?_
     refine Ql rfl rfl rfl (Q4 (fo:=34) underlying28 rfl rfl (fun w=>⟨_,sizeOf26 w⟩) rfl) ?_
     refine Ql rfl rfl rfl (Qe isAgg26 rfl (Qm (c:=cHd) (y:=⟨g0_.1,List.length x0.f_Peers,g0_.2⟩) (.s .z) (QV g0_ x0) rfl)) ?_
     refine Ql rfl rfl rfl (Qbz rfl) ?_
     obtain ⟨h12,hF⟩:=gd hF
     obtain ⟨zs16,hz17,hr18,hn19⟩:=id hn0
     obtain ⟨b14,o15,hp13⟩:=Qaa hr18 (QiT hz17 h12)
     obtain ⟨g20,hg21⟩:=QtH hz17 i10
     refine Ql rfl rfl rfl (QbD underlying26 sizeOf60 rfl rfl h12 hp13) ?_
     refine Ql rfl rfl rfl (Qg (c:=Qf) (z:=(g20,QO x0.f_Peers i10)) isAgg60 sizeOf60 rfl (Qpk (fun _ h=>h.below) hr18 (QiT hz17 h12) hp13 hg21)) ?_
     refine Ql rfl rfl rfl (Q4 (fo:=34) underlying28 rfl rfl (fun w=>⟨_,sizeOf26 w⟩) rfl) ?_
     refine Ql rfl rfl rfl (Qe isAgg26 rfl (Qm (c:=cHd) (y:=⟨g1_.1,List.length x1.f_Peers,g1_.2⟩) .z (QV g1_ x1) rfl)) ?_
     refine Ql rfl rfl rfl (Qbz rfl) ?_
     obtain ⟨h22,hF⟩:=gd hF
     obtain ⟨zs26,hz27,hr28,hn29⟩:=id hn1
     obtain ⟨b24,o25,hp23⟩:=Qaa hr28 (QiT hz27 h22)
     obtain ⟨g30,hg31⟩:=QtH hz27 i10
     refine Ql rfl rfl rfl (QbD underlying26 sizeOf60 rfl rfl h22 hp23) ?_
     refine Ql rfl rfl rfl (Qg (c:=Qf) (z:=(g30,QO x1.f_Peers i10)) isAgg60 sizeOf60 rfl (Qpk (fun _ h=>h.below) hr28 (QiT hz27 h22) hp23 hg31)) ?_
     obtain ⟨t32,ht32,hF⟩:=bM hF
     refine Qbl func23 rfl (by kernel_rfl) rfl rfl (fun w hw=>(QfC _ _ _ _ _ ht32 w (Qdx.below (nz hg21 hn19 (QiT hz17 h12)) hw.below) (Qdx.below (nz hg31 hn29 (QiT hz27 h22)) hw.below)).mono fun _ _ h=>⟨h.1,hw.call h.2⟩) ?_
     refine Ql rfl rfl rfl (Qcq rfl) ?_
     refine Qck ?_
     refine wq [52,5,3,2] ?_
     refine tn ?_
     obtain ⟨h33,hF⟩|⟨h33,hF⟩:=oi hF
     ·refine ct h33 ?_
      refine sr (aa (qn (dz (dz (wq [4] ?_)))))
      refine tn (qt ?_)
      refine br (tr (tr (br (tr ?_))))
      obtain rfl:=os hF
      subst K
      exact r1 wb
     ·refine cf h33 ?_
      refine QbQ ?_
      refine bm ?_
      refine qr (am (aw xa (aa (nwq [5,3,2] ?_))))
      exact Qk (ih _ _ hF K) ⟨rfl,rfl,rfl,trivial⟩
    ·refine cf h11 ?_
     refine Q7 ?_
     refine te (te ?_)
     refine dz (dz ?_)
     obtain rfl:=os hF
     exact Qk K trivial
  ·cases q9 with
   | ret r'=>exact os hF
   | nx sq9 =>
    skip
    refine QD ?_
    refine tn (sr (aa (nwq [4] ?_)))
    refine qt ?_
    have K:=os hF
    subst K
    exact r1 wb
end Go.Proofs.YtnekckhjmnhinaaGreatDoor
set_option maxRecDepth 20000
namespace Go.Proofs.YtnekckhjmnhinaaGreatDoor.Sho
open E Go.RowKit Adr Cid Agg
theorem QcL{α:Type}[Inhabited α]{xs:List α}{i:Nat}(h:i<xs.length):QO xs (i:Int)=xs[i]:=by
 unfold QO
 rw [Int.toNat_natCast,List.getD_eq_getElem?_getD,List.getElem?_eq_getElem h];rfl
theorem wr1{i:Nat}(h:i≤1000000):wr .i64 ((i:Int)+1)=((i+1:Nat):Int):=by rw [QX (by omega) (by omega)];omega
theorem wrm{i:Nat}(h:i≤1000000)(h0:0<i):wr .i64 ((i:Int)-1)=((i-1:Nat):Int):=by rw [QX (by omega) (by omega)];omega
section
variable {κ : Type} [DecidableEq κ]
def tm(L:List κ):List (κ×Bool):=L.map fun k=>(k,true)
theorem Qlx:∀ (L:List κ) (k:κ),Qpm (tm L) k=if k∈L then some true else none
 | [],k=>by rw [if_neg (by simp)];rfl
 | a::L,k=>by
  show (if k=a then some true else Qpm (tm L) k)=_
  by_cases h:k=a
  ·rw [if_pos h,if_pos (by rw [h];exact List.mem_cons_self ..)]
  ·rw [if_neg h,Qlx L k]
   by_cases h2:k∈L
   ·rw [if_pos h2,if_pos (List.mem_cons_of_mem _ h2)]
   ·rw [if_neg h2,if_neg (fun hm=>(List.mem_cons.1 hm).elim h h2)]
theorem Qoy{L:List κ}{k:κ}(h:k∈L):QsD (tm L) k false=true:=by
 unfold QsD
 rw [Qlx,if_pos h];rfl
theorem QqW{L:List κ}{k:κ}(h:k∉L):QsD (tm L) k false=false:=by
 unfold QsD
 rw [Qlx,if_neg h];rfl
theorem Qnq:∀ (L:List κ) (k:κ),k∉L→QlZ (tm L) k true=tm (L++[k])
 | [],k,_=>rfl
 | a::L,k,h=>by
  show (if k=a then (k,true)::tm L else (a,true)::QlZ (tm L) k true)=(a,true)::tm (L++[k])
  rw [if_neg (fun e=>h (by rw [e];exact List.mem_cons_self ..)),Qnq L k (fun hm=>h (List.mem_cons_of_mem _ hm))]
omit [DecidableEq κ] in
theorem Qu3(L:List κ):(tm L).length=L.length:=List.length_map ..
end
abbrev Px:=Qo
def QmB:Option Px→Px→Bool
 | none,_=>true
 | some p,q=>QiH p q
def Qr1:Option Px→List Px→Bool
 | _,[]=>true
 | pv,q::r=>rgt q&&(QmB pv q&&Qr1 (some q) r)
theorem Qmi(pv:Option Px)(q:Px)(r:List Px):Qr1 pv (q::r)=(rgt q&&(QmB pv q&&Qr1 (some q) r)):=rfl
def Qi1:List Px→List Px→Option (List Px)
 | all,[]=>some all
 | all,q::r=>if q∈all then none else Qi1 (all++[q]) r
theorem Qj7(all:List Px)(q:Px)(r:List Px):Qi1 all (q::r)=if q∈all then none else Qi1 (all++[q]) r:=rfl
def Qo1:Option Px→List Px→List Px→Option (List Px)
 | _,all,[]=>some all
 | pv,all,q::r=>if rgt q=true∧QmB pv q=true∧q∉all then Qo1 (some q) (all++[q]) r else none
theorem Qkm(pv:Option Px)(all:List Px)(q:Px)(r:List Px):Qo1 pv all (q::r)=if rgt q=true∧QmB pv q=true∧q∉all then Qo1 (some q) (all++[q]) r else none:=rfl
theorem QnZ:∀ (l:List Px) (pv:Option Px) (all:List Px),Qo1 pv all l=if Qr1 pv l=true then Qi1 all l else none
 | [],pv,all=>rfl
 | q::r,pv,all=>by
  rw [Qkm,Qmi,Qj7]
  cases h1:rgt q with
  | false=>rw [if_neg (fun h=>by cases h.1),Bool.false_and,if_neg Bool.false_ne_true]
  | true =>
   cases h2:QmB pv q with
   | false=>rw [if_neg (fun h=>by cases h.2.1),Bool.false_and,Bool.and_false,if_neg Bool.false_ne_true]
   | true =>
    rw [Bool.true_and,Bool.true_and]
    by_cases h3:q∈all
    ·rw [if_neg (fun h=>h.2.2 h3),if_pos h3];split<;>rfl
    ·rw [if_pos ⟨rfl,rfl,h3⟩,if_neg h3,QnZ r]
theorem Qis:∀ (l:List Px) (pv:Option Px) (all a:List Px),Qo1 pv all l=some a→a=all++l∧(∀ q∈l,rgt q=true)∧(all.Nodup→a.Nodup)
 | [],pv,all,a,h=>by cases h;exact ⟨by simp,fun q hq=>(by cases hq),id⟩
 | q::r,pv,all,a,h=>by
  rw [Qkm] at h
  split at h
  ·next hc =>
   obtain ⟨h1,h2,h3⟩:=Qis r (some q) (all++[q]) a h
   refine ⟨by rw [h1];simp,fun x hx=>?_,fun hn=>h3 ?_⟩
   ·rcases List.mem_cons.1 hx with rfl | hx
    ·exact hc.1
    ·exact h2 x hx
   ·rw [List.nodup_append]
    refine ⟨hn,by simp,fun x hx y hy=>?_⟩
    rw [List.mem_singleton.1 hy]
    exact fun e=>hc.2.2 (e▸hx)
  ·cases h
def Qnl(l:List Px)(i:Nat):Option Px:=if i=0 then none else l[i-1]?
theorem QmA(l:List Px):Qnl l 0=none:=rfl
theorem Qh1(l:List Px)(i:Nat)(h:i<l.length):Qnl l (i+1)=some l[i]:=by
 unfold Qnl
 rw [if_neg (by omega),Nat.add_sub_cancel,List.getElem?_eq_getElem h]
theorem QmH{p q:Px}(hp:rgt p=true)(hq:rgt q=true)(op:Qbx p)(oq:Qbx q):QfV p q=some (QiH p q)∧Qci p q=some (QiH p q) :=
 ⟨QrJ p q,Qwd.less ((Qjk p op).2.2 hp) ((Qjk q oq).2.2 hq)⟩
theorem QjM(l:List Px)(hok:∀ x∈l,Qbx x)(hn:l.length≤10000):∀ (k i:Nat),i+k=l.length→(∀ p,Qnl l i=some p→rgt p=true) →
  Qct.l0 l (i:Int)=some (if Qr1 (Qnl l i) (l.drop i)=true then .nx () else .ret false)
 | 0,i,h,_=>by
  rw [Qct.l0.eq_def,decide_eq_false (by omega),if_neg Bool.false_ne_true,List.drop_eq_nil_of_le (by omega)];rfl
 | k+1,i,h,hp=>by
  have hi:i<l.length:=by omega
  have oi:=hok l[i] (List.getElem_mem hi)
  rw [Qct.l0.eq_def,decide_eq_true (by omega),if_pos rfl,if_pos (by omega),QcL hi,(Qjk _ oi).1,Qa,wr1 (by omega),List.drop_eq_getElem_cons hi,Qmi]
  cases hr:rgt l[i] with
  | false=>rw [if_pos (by decide),Bool.false_and,if_neg Bool.false_ne_true]
  | true =>
   have ih:=QjM l hok hn k (i+1) (by omega) (fun p e=>by rw [Qh1 l i hi] at e;cases e;exact hr)
   rw [Qh1 l i hi] at ih
   rw [if_neg (by decide),Bool.true_and]
   by_cases h0:i=0
   ·have hpv:Qnl l i=none:=by unfold Qnl;rw [if_pos h0]
    rw [decide_eq_false (by omega),if_neg Bool.false_ne_true,hpv,ih]
    show _=some (if (true&&Qr1 (some l[i]) (List.drop (i+1) l))=true then _ else _)
    rw [Bool.true_and]
   ·have hi1:i-1<l.length:=by omega
    have hpv:Qnl l i=some l[i-1]:=by unfold Qnl;rw [if_neg h0,List.getElem?_eq_getElem hi1]
    have hless:=(QmH (hp _ hpv) hr (hok _ (List.getElem_mem hi1)) oi).1
    rw [decide_eq_true (by omega),if_pos rfl,wrm (by omega) (by omega),if_pos (by omega),QcL hi1,hless,Qa,hpv]
    show _=some (if (QiH l[i-1] l[i]&&Qr1 (some l[i]) (List.drop (i+1) l))=true then _ else _)
    cases QiH l[i-1] l[i] with
    | false=>rw [if_pos (by decide),Bool.false_and,if_neg Bool.false_ne_true]
    | true=>rw [if_neg (by decide),Bool.true_and,ih]
theorem Qng(l:List Px)(hok:∀ x∈l,Qbx x)(hn:l.length≤10000):Qct l=some (Qr1 none l):=by
 unfold Qct
 have:=QjM l hok hn l.length 0 (by omega) (fun p e=>by cases e)
 rw [show ((0:Nat):Int)=0 from rfl,List.drop_zero,QmA] at this
 rw [this,Qa]
 cases Qr1 none l<;>rfl
def shB(n:Int):Bool:=decide (n≥0)&&decide (n≤65535)
theorem Qfc(n:Int):Qfb n=some (shB n)∧QcD n=some (shB n):=by
 unfold Qfb QcD shB
 cases decide (n≥0)<;>exact ⟨rfl,rfl⟩
abbrev Qko:Qr:=({ f_A:=({ f_V:=(0:Int),f_B:=(Vector.replicate 16 (0:Int):(Vector Int 16)) }:Qj),f_Port:=(0:Int) }:Qr)
abbrev QtI:Vector Int 32:=(Vector.replicate 32 (0:Int):(Vector Int 32))
def rE(e:Qr):Bool:=(QcO e).getD false
theorem QqC(e:Qr)(h:QcU e):QcO e=some (rE e)∧Qb6 e=some (rE e):=by
 obtain ⟨V,l,n,rfl,hl,_⟩:=Host.exists_mkE e h
 unfold rE
 rw [Host.right_code12 hl,Host.right_ref12 hl];exact ⟨rfl,rfl⟩
def Qgr(e:Qr):Bool:=decide (e=Qko)||rE e
def Qwf:Option (List Px)→Ctl Bool (List (Px×Bool))
 | none=>.ret false
 | some a=>.nx (tm a)
def QvX:Option (List Px)→Ctl Bool (List Px)
 | none=>.ret false
 | some a=>.nx a
theorem Qom(c:Qx)(i10:Int)(l:List Px)(hl:(QO c.f_Peers i10).f_Allowed=l)(hn:l.length≤10000):∀ (k j:Nat) (all:List Px),j+k=l.length→all.length≤600000+j→Qbd.l1 c i10 (j:Int) (tm all)=some (Qwf (Qi1 all (l.drop j)))
 | 0,j,all,h,ha=>by
  rw [Qbd.l1.eq_def,hl,decide_eq_false (by omega),if_neg Bool.false_ne_true,List.drop_eq_nil_of_le (by omega)];rfl
 | k+1,j,all,h,ha=>by
  have hj:j<l.length:=by omega
  rw [Qbd.l1.eq_def,hl,decide_eq_true (by omega),if_pos rfl,if_pos (by omega),QcL hj,wr1 (by omega),List.drop_eq_getElem_cons hj,Qj7]
  by_cases hm:l[j]∈all
  ·rw [Qoy hm,if_pos rfl,if_pos hm];rfl
  ·rw [QqW hm,if_neg Bool.false_ne_true,if_neg hm,Qnq _ _ hm]
   exact Qom c i10 l hl hn k (j+1) (all++[l[j]]) (by omega) (by rw [List.length_append,List.length_singleton];omega)
theorem QrD(c:Qx)(i10:Int)(l:List Px)(hl:(QO c.f_Peers i10).f_Allowed=l)(all:List Px)(ha:all.length≤700000)(j:Nat)(hj:j<l.length):∀ (k m:Nat),m+k=all.length→QB.l3 c i10 all (j:Int) (m:Int)=some (if l[j]∈all.drop m then .ret false else .nx ())
 | 0,m,h=>by
  rw [QB.l3.eq_def,decide_eq_false (by omega),if_neg Bool.false_ne_true,List.drop_eq_nil_of_le (by omega),if_neg (by simp)]
 | k+1,m,h=>by
  have hm:m<all.length:=by omega
  have ih:=QrD c i10 l hl all ha j hj k (m+1) (by omega)
  rw [QB.l3.eq_def,decide_eq_true (by omega),if_pos rfl,if_pos (by omega),QcL hm,hl,QcL hj,wr1 (by omega),List.drop_eq_getElem_cons hm]
  by_cases he:all[m]=l[j]
  ·rw [decide_eq_true he,if_pos rfl,if_pos (by rw [he];exact List.mem_cons_self ..)]
  ·have hmem:l[j]∈all[m]::all.drop (m+1)↔l[j]∈all.drop (m+1):=by
    rw [List.mem_cons]
    exact ⟨fun h=>h.elim (fun e=>absurd e.symm he) id,.inr⟩
   rw [decide_eq_false he,if_neg Bool.false_ne_true,ih]
   by_cases h2:l[j]∈all.drop (m+1)
   ·rw [if_pos h2,if_pos (hmem.2 h2)]
   ·rw [if_neg h2,if_neg (mt hmem.1 h2)]
theorem Qtv(c:Qx)(i:Nat)(hi:i<c.f_Peers.length)(hn:c.f_Peers.length≤10000):∀ (k m:Nat),m+k=i→QB.l1 c (i:Int) (m:Int)=some (if ((c.f_Peers.take i).drop m).any (fun p=>decide (p.f_Key=c.f_Peers[i].f_Key))=true then .ret false else .nx ())
 | 0,m,h=>by
  rw [QB.l1.eq_def,decide_eq_false (by omega),if_neg Bool.false_ne_true,List.drop_eq_nil_of_le (by rw [List.length_take];omega)];rfl
 | k+1,m,h=>by
  have hm:m<(c.f_Peers.take i).length:=by rw [List.length_take];omega
  have hm2:m<c.f_Peers.length:=by omega
  have ih:=Qtv c i hi hn k (m+1) (by omega)
  rw [QB.l1.eq_def,decide_eq_true (by omega),if_pos rfl,if_pos (by omega),QcL hm2,QcL hi,wr1 (by omega),List.drop_eq_getElem_cons hm,List.any_cons,List.getElem_take]
  by_cases he:c.f_Peers[m].f_Key=c.f_Peers[i].f_Key
  ·rw [decide_eq_true he,if_pos rfl,Bool.true_or,if_pos rfl]
  ·rw [decide_eq_false he,if_neg Bool.false_ne_true,ih,Bool.false_or]
theorem QtD(c:Qx)(i10:Int)(l:List Px)(hl:(QO c.f_Peers i10).f_Allowed=l)(hok:∀ x∈l,Qbx x)(hn:l.length≤10000):∀ (k j:Nat) (all:List Px),j+k=l.length→all.length≤600000+j→(∀ p,Qnl l j=some p→rgt p=true) →
  QB.l2 c i10 all (j:Int)=some (QvX (Qo1 (Qnl l j) all (l.drop j)))
 | 0,j,all,h,ha,_=>by
  rw [QB.l2.eq_def,hl,decide_eq_false (by omega),if_neg Bool.false_ne_true,List.drop_eq_nil_of_le (by omega)];rfl
 | k+1,j,all,h,ha,hp=>by
  have hj:j<l.length:=by omega
  have oj:=hok l[j] (List.getElem_mem hj)
  rw [QB.l2.eq_def,hl,decide_eq_true (by omega),if_pos rfl,if_pos (by omega),QcL hj,(Qjk _ oj).2.1,Qa,wr1 (by omega),List.drop_eq_getElem_cons hj,Qkm]
  cases hr:rgt l[j] with
  | false =>
   rw [if_pos (by decide),Qa]
   dsimp only
   rw [if_neg (fun h=>by cases h.1)];rfl
  | true =>
   have ih:=QtD c i10 l hl hok hn k (j+1) (all++[l[j]]) (by omega) (by rw [List.length_append,List.length_singleton];omega) (fun p e=>by rw [Qh1 l j hj] at e;cases e;exact hr)
   rw [Qh1 l j hj] at ih
   rw [if_neg (by decide)]
   by_cases h0:j=0
   ·have hpv:Qnl l j=none:=by unfold Qnl;rw [if_pos h0]
    have hd:=QrD c i10 l hl all (by omega) j hj all.length 0 (by omega)
    rw [show ((0:Nat):Int)=0 from rfl,List.drop_zero] at hd
    rw [decide_eq_false (by omega),if_neg Bool.false_ne_true,Qa,hpv]
    dsimp only
    rw [hd,Qa,if_pos (show (all.length+1)*32≤140737488355328 by omega)]
    by_cases hm:l[j]∈all
    ·rw [if_pos hm,if_neg (fun h=>h.2.2 hm)];rfl
    ·rw [if_neg hm,if_pos ⟨rfl,rfl,hm⟩]
     exact ih
   ·have hj1:j-1<l.length:=by omega
    have hpv:Qnl l j=some l[j-1]:=by unfold Qnl;rw [if_neg h0,List.getElem?_eq_getElem hj1]
    have hless:=(QmH (hp _ hpv) hr (hok _ (List.getElem_mem hj1)) oj).2
    have hd:=QrD c i10 l hl all (by omega) j hj all.length 0 (by omega)
    rw [show ((0:Nat):Int)=0 from rfl,List.drop_zero] at hd
    rw [decide_eq_true (by omega),if_pos rfl,wrm (by omega) (by omega),if_pos (by omega),QcL hj1,hless,Qa,hpv]
    cases hlt:QiH l[j-1] l[j] with
    | false =>
     rw [if_pos (by decide),Qa]
     dsimp only
     rw [if_neg (fun h=>by have h2:QiH l[j-1] l[j]=true:=h.2.1;rw [hlt] at h2;cases h2)];rfl
    | true =>
     rw [if_neg (by decide),Qa]
     dsimp only
     rw [hd,Qa,if_pos (show (all.length+1)*32≤140737488355328 by omega)]
     by_cases hm:l[j]∈all
     ·rw [if_pos hm,if_neg (fun h=>h.2.2 hm)];rfl
     ·rw [if_neg hm,if_pos ⟨rfl,hlt,hm⟩]
      exact ih
def goR:List (Vector Int 32)→List Px→List Qq→Option (List Px)
 | _,all,[]=>some all
 | ks,all,p::r=>if p.f_Key∉ks∧shB p.f_Keep=true∧Qgr p.f_End=true then (Qo1 none all p.f_Allowed).bind fun a=>goR (ks++[p.f_Key]) a r else none
theorem QlL(ks:List (Vector Int 32))(all:List Px)(p:Qq)(r:List Qq):goR ks all (p::r)=if p.f_Key∉ks∧shB p.f_Keep=true∧Qgr p.f_End=true then (Qo1 none all p.f_Allowed).bind fun a=>goR (ks++[p.f_Key]) a r else none:=rfl
def QmJ(c:Qx)(i:Nat):List (Vector Int 32):=QtI::(c.f_Peers.take i).map Qq.f_Key
theorem QmI(c:Qx)(i:Nat)(h:i<c.f_Peers.length):QmJ c (i+1)=QmJ c i++[c.f_Peers[i].f_Key]:=by
 unfold QmJ
 rw [List.take_succ_eq_append_getElem h,List.map_append];rfl
structure Mod (c:Qx):Prop where
 ok:∀ p∈c.f_Peers,Qfm p
 len:c.f_Peers.length≤20
 each:∀ p∈c.f_Peers,p.f_Allowed.length≤10000
theorem QmE{p:Qq}(h:Qfm p):∀ x∈p.f_Allowed,Qbx x:=h.2.2.2.2.2.2
theorem Ql3{c:Qx}(hc:Mod c):∀ (k i:Nat) (all:List Px),i+k=c.f_Peers.length→all.length≤10000*i →
  Qbd.l0 c (i:Int) (tm all) (tm (QmJ c i))=some (Qwf (goR (QmJ c i) all (c.f_Peers.drop i)))
 | 0,i,all,h,_=>by
  rw [Qbd.l0.eq_def,decide_eq_false (by omega),if_neg Bool.false_ne_true,List.drop_eq_nil_of_le (by omega)];rfl
 | k+1,i,all,h,ha=>by
  have hlen:=hc.len
  have hi:i<c.f_Peers.length:=by omega
  have hm:=List.getElem_mem hi
  have op:=hc.ok _ hm
  have h80:=hc.each _ hm
  have hg:=QcL hi
  have hon:=QmE op
  have hris:=Qng c.f_Peers[i].f_Allowed hon (by omega)
  have hright:=(QqC c.f_Peers[i].f_End op.2.2.1).1
  have hnone:QdL c.f_Peers[i].f_End=some (decide (c.f_Peers[i].f_End=Qko)):=rfl
  rw [Qbd.l0.eq_def,decide_eq_true (by omega),if_pos rfl,if_pos (by omega),hg,(Qfc _).1,hris,hnone,hright,wr1 (by omega),List.drop_eq_getElem_cons hi,QlL]
  by_cases hk:c.f_Peers[i].f_Key∈QmJ c i
  ·rw [Qoy hk,if_pos rfl,Qa,if_neg (fun h=>h.1 hk)];rfl
  ·have hks:=Qnq _ _ hk
   rw [QqW hk,if_neg Bool.false_ne_true,Qa,hks,←QmI c i hi]
   cases hs:shB c.f_Peers[i].f_Keep with
   | false=>rw [if_pos (by decide),Qa,if_neg (fun h=>by cases h.2.1)];rfl
   | true =>
    rw [if_neg (by decide),Qa,QnZ]
    cases hr:Qr1 none c.f_Peers[i].f_Allowed with
    | false =>
     rw [if_pos (by decide),Qa,if_neg Bool.false_ne_true]
     dsimp only
     split<;>rfl
    | true =>
     rw [if_neg (by decide),Qa,if_pos rfl]
     dsimp only
     have fin:∀ o:Ctl Bool (List (Px×Bool)),o=Qwf (Qi1 all c.f_Peers[i].f_Allowed)→(match o with | .ret r'=>some (.ret r') | .nx sq=>Qbd.l0 c ((i+1:Nat):Int) sq (tm (QmJ c (i+1))))=some (Qwf ((Qi1 all c.f_Peers[i].f_Allowed).bind fun a=>goR (QmJ c (i+1)) a (c.f_Peers.drop (i+1)))):=by
      intro o ho
      rw [ho]
      cases hf:Qi1 all c.f_Peers[i].f_Allowed with
      | none=>rfl
      | some a =>
       have hal:Qo1 none all c.f_Peers[i].f_Allowed=some a:=by rw [QnZ,hr,if_pos rfl,hf]
       have hlen2:a.length≤10000*(i+1):=by rw [(Qis _ _ _ _ hal).1,List.length_append];omega
       exact Ql3 hc k (i+1) a (by omega) hlen2
     have ho_l1:=Qom c (i:Int) c.f_Peers[i].f_Allowed (by rw [hg]) (by omega) c.f_Peers[i].f_Allowed.length 0 all (by omega) (by omega)
     rw [show ((0:Nat):Int)=0 from rfl,List.drop_zero] at ho_l1
     by_cases he:c.f_Peers[i].f_End=Qko
     ·have hek:Qgr c.f_Peers[i].f_End=true:=by unfold Qgr;rw [decide_eq_true he];rfl
      rw [Qa,decide_eq_true he,if_neg (by decide),Qa]
      dsimp only
      rw [if_pos ⟨hk,rfl,hek⟩,ho_l1,Qa]
      exact fin _ rfl
     ·rw [Qa,decide_eq_false he,if_pos (by decide),Qa]
      cases hre:rE c.f_Peers[i].f_End with
      | false =>
       have hek:Qgr c.f_Peers[i].f_End=false:=by unfold Qgr;rw [decide_eq_false he,hre];rfl
       rw [if_pos (by decide),Qa,if_neg (fun h=>by rw [hek] at h;cases h.2.2)];rfl
      | true =>
       have hek:Qgr c.f_Peers[i].f_End=true:=by unfold Qgr;rw [hre,Bool.or_true]
       rw [if_neg (by decide),Qa]
       dsimp only
       rw [if_pos ⟨hk,rfl,hek⟩,ho_l1,Qa]
       exact fin _ rfl
theorem Qof{c:Qx}(hc:Mod c):∀ (k i:Nat) (all:List Px),i+k=c.f_Peers.length→all.length≤10000*i →
  QB.l0 c all (i:Int)=some (QvX (goR (QmJ c i) all (c.f_Peers.drop i)))
 | 0,i,all,h,_=>by
  rw [QB.l0.eq_def,decide_eq_false (by omega),if_neg Bool.false_ne_true,List.drop_eq_nil_of_le (by omega)];rfl
 | k+1,i,all,h,ha=>by
  have hlen:=hc.len
  have hi:i<c.f_Peers.length:=by omega
  have hm:=List.getElem_mem hi
  have op:=hc.ok _ hm
  have h80:=hc.each _ hm
  have hg:=QcL hi
  have hon:=QmE op
  have hright:=(QqC c.f_Peers[i].f_End op.2.2.1).2
  have hkey:c.f_Peers[i].f_Key∈QmJ c i↔c.f_Peers[i].f_Key=QtI∨(c.f_Peers.take i).any (fun p=>decide (p.f_Key=c.f_Peers[i].f_Key))=true:=by
   unfold QmJ
   rw [List.mem_cons,List.any_eq_true]
   constructor
   ·rintro (h | h)
    ·exact .inl h
    ·obtain ⟨p,hp,e⟩:=List.mem_map.1 h
     exact .inr ⟨p,hp,decide_eq_true e⟩
   ·rintro (h | ⟨p,hp,e⟩)
    ·exact .inl h
    ·exact .inr (List.mem_map.2 ⟨p,hp,of_decide_eq_true e⟩)
  have hk_l1:=Qtv c i hi (by omega) i 0 (by omega)
  have ha_l2:=QtD c (i:Int) c.f_Peers[i].f_Allowed (by rw [hg]) hon (by omega) c.f_Peers[i].f_Allowed.length 0 all (by omega) (by omega) (fun p e=>by cases e)
  rw [show ((0:Nat):Int)=0 from rfl,List.drop_zero] at hk_l1
  rw [show ((0:Nat):Int)=0 from rfl,List.drop_zero,QmA] at ha_l2
  rw [QB.l0.eq_def,decide_eq_true (by omega),if_pos rfl,if_pos (by omega),hg,(Qfc _).2,hright,wr1 (by omega),List.drop_eq_getElem_cons hi,QlL]
  by_cases hz:c.f_Peers[i].f_Key=QtI
  ·rw [decide_eq_true hz,if_pos rfl,Qa,if_neg (fun h=>h.1 (hkey.2 (.inl hz)))];rfl
  ·rw [decide_eq_false hz,if_neg Bool.false_ne_true,Qa]
   cases hs:shB c.f_Peers[i].f_Keep with
   | false=>rw [if_pos (by decide),Qa,if_neg (fun h=>by cases h.2.1)];rfl
   | true =>
    rw [if_neg (by decide)]
    have fin:∀ o:Ctl Bool (List Px),o=QvX (Qo1 none all c.f_Peers[i].f_Allowed)→(match o with | .ret r'=>some (.ret r') | .nx sq=>QB.l0 c sq ((i+1:Nat):Int))=some (QvX ((Qo1 none all c.f_Peers[i].f_Allowed).bind fun a=>goR (QmJ c i++[c.f_Peers[i].f_Key]) a (c.f_Peers.drop (i+1)))):=by
     intro o ho
     rw [ho]
     cases hf:Qo1 none all c.f_Peers[i].f_Allowed with
     | none=>rfl
     | some a =>
      have hlen2:a.length≤10000*(i+1):=by rw [(Qis _ _ _ _ hf).1,List.length_append];omega
      have:=Qof hc k (i+1) a (by omega) hlen2
      rw [QmI c i hi] at this
      exact this
    have tail:Qgr c.f_Peers[i].f_End=true→(QB.l1 c (i:Int) 0>>=fun q36=>match q36 with | .ret r'=>some (.ret r') | .nx sq36=>(QB.l2 c (i:Int) all 0>>=fun q52=>match q52 with | .ret r'=>some (.ret r') | .nx sq52=>(QB.l0 c sq52 ((i+1:Nat):Int))))=some (QvX (if c.f_Peers[i].f_Key∉QmJ c i∧true=true∧Qgr c.f_Peers[i].f_End=true then (Qo1 none all c.f_Peers[i].f_Allowed).bind fun a=>goR (QmJ c i++[c.f_Peers[i].f_Key]) a (c.f_Peers.drop (i+1)) else none)):=by
     intro hek
     rw [hk_l1,Qa]
     cases hany:(c.f_Peers.take i).any (fun p=>decide (p.f_Key=c.f_Peers[i].f_Key)) with
     | true=>rw [if_pos rfl,if_neg (fun h=>h.1 (hkey.2 (.inr hany)))];rfl
     | false =>
      have hk:c.f_Peers[i].f_Key∉QmJ c i:=fun h=>by
       rcases hkey.1 h with h | h
       ·exact hz h
       ·rw [hany] at h;cases h
      rw [if_neg Bool.false_ne_true,if_pos ⟨hk,rfl,hek⟩]
      dsimp only
      rw [ha_l2,Qa]
      exact fin _ rfl
    by_cases he:c.f_Peers[i].f_End=Qko
    ·have hek:Qgr c.f_Peers[i].f_End=true:=by unfold Qgr;rw [decide_eq_true he];rfl
     rw [decide_eq_true he,if_neg (by decide),Qa]
     exact tail hek
    ·rw [decide_eq_false he,if_pos (by decide),Qa]
     cases hre:rE c.f_Peers[i].f_End with
     | false =>
      have hek:Qgr c.f_Peers[i].f_End=false:=by unfold Qgr;rw [decide_eq_false he,hre];rfl
      rw [if_pos (by decide),Qa,if_neg (fun h=>by rw [hek] at h;cases h.2.2)];rfl
     | true =>
      have hek:Qgr c.f_Peers[i].f_End=true:=by unfold Qgr;rw [hre,Bool.or_true]
      rw [if_neg (by decide),Qa]
      exact tail hek
def Qe0(c:Qx):Bool:=shB c.f_Port&&(decide (c.f_Peers.length≤16)&&(match goR [QtI] [] c.f_Peers with | none=>false | some a=>decide (a.length≤64)))
theorem right_code{c:Qx}(hc:Mod c):Qbd c=some (Qe0 c)∧QB c=some (Qe0 c):=by
 have h1:=Ql3 hc c.f_Peers.length 0 [] (by omega) (by simp)
 have h2:=Qof hc c.f_Peers.length 0 [] (by omega) (by simp)
 have hks:QmJ c 0=[QtI]:=by unfold QmJ;simp
 rw [show ((0:Nat):Int)=0 from rfl,List.drop_zero,hks] at h1 h2
 have h1:Qbd.l0 c 0 ([]:List (Qo×Bool)) (QlZ ([]:List ((Vector Int 32)×Bool)) (Vector.replicate 32 (0:Int):(Vector Int 32)) true)=_:=h1
 unfold Qbd QB Qe0
 rw [(Qfc _).1,(Qfc _).2,Qa]
 cases shB c.f_Port with
 | false=>exact ⟨rfl,rfl⟩
 | true =>
  have hnt:¬ (!true)=true:=by decide
  rw [if_neg hnt,Bool.true_and]
  by_cases h16:c.f_Peers.length≤16
  ·rw [decide_eq_false (show ¬ (c.f_Peers.length:Int)>16 by omega),if_neg Bool.false_ne_true,decide_eq_true h16,Bool.true_and,Qa,Qa]
   dsimp only
   rw [h1,h2,Qa,Qa]
   cases goR [QtI] [] c.f_Peers with
   | none=>exact ⟨rfl,rfl⟩
   | some a =>
    have e:decide ((a.length:Int)≤64)=decide (a.length≤64):=decide_eq_decide.2 (by omega)
    refine ⟨?_,?_⟩
    ·show some (decide (((tm a).length:Int)≤64))=_
     rw [Qu3,e]
    ·show some (decide ((a.length:Int)≤64))=_
     rw [e]
  ·rw [decide_eq_true (show (c.f_Peers.length:Int)>16 by omega),if_pos rfl,decide_eq_false h16];exact ⟨rfl,rfl⟩
theorem QoL:∀ (l:List Qq) (ks:List (Vector Int 32)) (all a:List Px),goR ks all l=some a→a=all++l.flatMap Qq.f_Allowed∧(∀ q∈l.flatMap Qq.f_Allowed,rgt q=true)∧∀ p∈l,shB p.f_Keep=true∧Qgr p.f_End=true
 | [],ks,all,a,h=>by cases h;exact ⟨by simp,fun q hq=>(by cases hq),fun p hp=>(by cases hp)⟩
 | p::r,ks,all,a,h=>by
  rw [QlL] at h
  split at h
  ·next hc =>
   cases hf:Qo1 none all p.f_Allowed with
   | none=>rw [hf] at h;cases h
   | some b =>
    rw [hf] at h
    obtain ⟨h1,h2,h3⟩:=Qis _ _ _ _ hf
    obtain ⟨k1,k2,k3⟩:=QoL r _ b a h
    refine ⟨by rw [k1,h1,List.flatMap_cons,List.append_assoc],fun q hq=>?_,fun p' hp'=>?_⟩
    ·rw [List.flatMap_cons] at hq
     rcases List.mem_append.1 hq with hq | hq
     ·exact h2 q hq
     ·exact k2 q hq
    ·rcases List.mem_cons.1 hp' with rfl | hp'
     ·exact hc.2
     ·exact k3 p' hp'
  ·cases h
theorem Qqq{c:Qx}(ok:∀ p∈c.f_Peers,Qfm p)(each:∀ p∈c.f_Peers,p.f_Allowed.length≤10000):Qbd c=some (Qe0 c)∧QB c=some (Qe0 c):=by
 by_cases h:c.f_Peers.length≤16
 ·exact right_code ⟨ok,by omega,each⟩
 ·unfold Qbd QB Qe0
  rw [(Qfc _).1,(Qfc _).2,Qa]
  cases shB c.f_Port with
  | false=>exact ⟨rfl,rfl⟩
  | true =>
   have hnt:¬ (!true)=true:=by decide
   rw [if_neg hnt,Bool.true_and,decide_eq_true (show (c.f_Peers.length:Int)>16 by omega),if_pos rfl,decide_eq_false h];exact ⟨rfl,rfl⟩
structure Rt (c:Qx):Prop where
 port:0≤c.f_Port∧c.f_Port≤65535
 len:c.f_Peers.length≤16
 each:∀ p∈c.f_Peers,p.f_Allowed.length≤64
 rgt:∀ p∈c.f_Peers,∀ q∈p.f_Allowed,rgt q=true
 keep:∀ p∈c.f_Peers,0≤p.f_Keep∧p.f_Keep≤65535
 end_:∀ p∈c.f_Peers,p.f_End=Qko∨rE p.f_End=true
theorem Qqj{n:Int}:shB n=true↔0≤n∧n≤65535:=by
 unfold shB
 rw [Bool.and_eq_true,decide_eq_true_iff,decide_eq_true_iff]
theorem Qrx{l:List Qq}{p:Qq}(h:p∈l):p.f_Allowed.length≤(l.flatMap Qq.f_Allowed).length:=by
 induction l with
 | nil=>cases h
 | cons a l ih =>
  rw [List.flatMap_cons,List.length_append]
  rcases List.mem_cons.1 h with rfl | h
  ·omega
  ·have:=ih h;omega
theorem QtU{c:Qx}(h:Qe0 c=true):Rt c:=by
 unfold Qe0 at h
 rw [Bool.and_eq_true,Bool.and_eq_true] at h
 obtain ⟨h1,h2,h3⟩:=h
 cases hg:goR [QtI] [] c.f_Peers with
 | none=>rw [hg] at h3;cases h3
 | some a =>
  rw [hg] at h3
  have h3:=of_decide_eq_true h3
  obtain ⟨k1,k2,k3⟩:=QoL _ _ _ _ hg
  rw [List.nil_append] at k1
  refine ⟨Qqj.1 h1,of_decide_eq_true h2,fun p hp=>?_,fun p hp q hq=>k2 q (List.mem_flatMap.2 ⟨p,hp,hq⟩),fun p hp=>Qqj.1 (k3 p hp).1,fun p hp=>?_⟩
  ·have:=Qrx hp
   rw [k1] at h3;omega
  ·have:=(k3 p hp).2
   unfold Qgr at this
   rw [Bool.or_eq_true,decide_eq_true_iff] at this
   exact this
end Go.Proofs.YtnekckhjmnhinaaGreatDoor.Sho
namespace Go.Proofs.YtnekckhjmnhinaaGreatDoor
open E Go.RowKit
def strings_Split(x0 x1:ByteArray):Option (List ByteArray):=if x0.size<4294967281∧1≤x1.size then some (Lib.splitB x1 0 (Lib.countB x0 x1) x0) else none
theorem QnV:∀ xs:List ByteArray,QbA.all xs=xs.map Value.string
 | []=>rfl
 | x::r=>by
  show QbA.cs x++QbA.all r=_
  rw [QnV r];rfl
theorem Qgk(x0:ByteArray)(x1:ByteArray)(r:List ByteArray)(hF:strings_Split x0 x1=some r)(w:World)(hg_bytealg_MaxLen:GV_bytealg_MaxLen w) :
  Calls Tryz.prog 46 #[.string x0,.string x1] w (fun e w'=>∃ p cap,e=.returned (.slice p r.length cap)∧Own QbA 9 w.heap.size w' p cap r∧Below w.heap.size w w'):=by
 unfold strings_Split at hF
 by_cases h:x0.size<4294967281∧1≤x1.size
 ·rw [if_pos h] at hF
  obtain rfl:=Option.some.inj hF
  obtain ⟨m,hm⟩:=hg_bytealg_MaxLen
  have hc:=Lib.countB_le x1 h.2 x0.size x0 (Nat.le_refl _)
  have hl:=Lib.splitB_all x1 h.2 0 _ x0 rfl
  refine (Tryz.strings_Split x0 x1 m w h.1 hm h.2).mono fun e w' h'=>?_
  obtain ⟨rfl,rfl⟩:=h'
  refine ⟨some ⟨w.heap.size,0,none⟩,Lib.countB x0 x1+1,by rw [hl],⟨by rw [QnV,List.length_map];show _=_*1;omega,.inr ⟨w.heap.size,Lib.countB x0 x1+1,_,rfl,Nat.le_refl _,by show (w.heap.push _)[w.heap.size]? = _;rw [Array.getElem?_push_size],by rw [hl];exact Nat.le_refl _,?_,?_,?_⟩⟩,(Below.refl _ _).alloc (Nat.le_refl _) _⟩
  ·unfold maxLen;omega
  ·simp only [List.size_toArray,List.length_map,hl];show _=_*1;omega
  ·rw [QnV,←List.length_map (f:=Value.string)]
   simp only [List.size_toArray,List.toList_toArray]
   show List.take (_*1) _=_
   rw [Nat.mul_one,List.take_length]
 ·rw [if_neg h] at hF;cases hF
end Go.Proofs.YtnekckhjmnhinaaGreatDoor
namespace Go.Proofs.YtnekckhjmnhinaaGreatDoor
open E Go.RowKit _root_.Go.Proofs.Tryz
def Qc0.l0(x0:List ByteArray)(i4:Int)(i5:ByteArray):Option (ByteArray) :=
 if (decide (i4<(x0.length:Int)))=true then (if (0:Int)≤i4∧i4<(x0.length:Int) then if i5.size+(QO x0 i4).size≤140737488355328 then if (i5++(QO x0 i4)).size+(⟨#[10]⟩:ByteArray).size≤140737488355328 then Qc0.l0 x0 (wr .i64 (i4+1)) ((i5++(QO x0 i4))++(⟨#[10]⟩:ByteArray)) else none else none else none) else (some i5)
 partial_fixpoint
def Qc0(x0:List ByteArray):Option (ByteArray) :=
 Qc0.l0 x0 0 ByteArray.empty>>=fun q3=>some q3
theorem Qlz(x0:List ByteArray)(p0_:Option Addr)(c0_:Nat)(r:ByteArray)(hF:Qc0 x0=some r)(w:World)(hr0:Row QbA w p0_ c0_ x0) :
    Calls Tryz.prog 31 #[.slice p0_ x0.length c0_] w (fun e w'=>e=.returned (.string r)∧Below w.heap.size w w'):=by
 unfold Qc0 at hF
 refine ce (l:=[.slice p0_ x0.length c0_]) func31 rfl rfl ?_
 refine QN ?_
 refine sr (aa (ns ?_))
 refine Qi5 (e:=5) zeroValue100 rfl ?_
 intro b1
 refine nt (qs (sr (am ?_)))
 refine aw (QZ underlying46 rfl) ?_
 refine am (nwq [8,7,6,3] ?_)
 refine qb ?_
 obtain ⟨q3,hq3,hF⟩:=bM hF
 refine wq [8,7,6,3] ?_
 refine Qal (B:=0) (A:=fun Y=>∀ (g7:Option Nat),At 17 [(3,.pointer (some ⟨b1,0,none⟩))] (Wd w [QfW 100 5 b1 g7 q3]) Y) ?_ ?_
 ·intro K
  refine Qc0.l0.partial_correctness x0 (motive:=fun i4 i5 x=>KN (fun Y=>∀ (g7:Option Nat),At 17 [(3,.pointer (some ⟨b1,0,none⟩))] (Wd w [QfW 100 5 b1 g7 x]) Y) _ 0→QbB (fun Y=>∀ (g6:Option Nat),At 17 [(3,.pointer (some ⟨b1,0,none⟩)),(6,.slice p0_ x0.length c0_),(7,.int .i64 (x0.length:Int)),(8,.int .i64 i4)] (Wd w [QfW 100 5 b1 g6 i5]) Y) _ _ _) ?_ _ _ _ hq3 K none
  ·clear K hF
   intro g ih i4 i5 x hF K g6
   refine QW ?_
   refine sr (aw xl (nwq [9,8,7,6,3] ?_))
   refine qs ?_
   obtain ⟨h8,hF⟩|⟨h8,hF⟩:=oi hF
   ·refine ct h8 ?_
    refine sn (qs (qb (sr ?_)))
    obtain ⟨h9,hF⟩:=gd hF
    obtain ⟨b11,o12,hp10⟩:=Qaa hr0 h9
    refine aw (QbD underlying46 sizeOf9 rfl rfl h9 hp10) ?_
    refine aw (Qe isAgg9 rfl (QP (fun _ h=>h.below) hr0 h9 hp10 rfl)) ?_
    refine aa (nwx [8,7,6,5,3] ?_)
    refine am ?_
    obtain ⟨h14,hF⟩:=gd hF
    refine QiQ (s:=(QO x0 i4)) .z trivial func63 rfl (by kernel_rfl) rfl rfl h14 Tryz.Builder_WriteString_k ?_
    intro g13
    refine nwq [8,7,6,3] ?_
    refine qr ?_
    obtain ⟨h16,hF⟩:=gd hF
    refine QiQ (s:=(⟨#[10]⟩:ByteArray)) .z trivial func63 rfl (by kernel_rfl) rfl rfl h16 Tryz.Builder_WriteString_k ?_
    intro g15
    refine qn (wq [8,7,6,3] ?_)
    refine bm ?_
    refine qr (aw xa (am (nwq [8,7,6,3] ?_)))
    exact Qk (ih _ _ _ hF K g15) ⟨rfl,rfl,rfl,rfl,trivial⟩
   refine cf h8 ?_
   refine Q7 ?_
   refine te (te ?_)
   obtain rfl:=os hF
   exact Qk (K g6) ⟨rfl,trivial⟩
 skip
 intro g7
 refine QD ?_
 refine tn (sr ?_)
 refine Qin .z trivial func64 rfl (by kernel_rfl) rfl rfl Tryz.Builder_String_any_k ?_
 intro g17
 refine aa (qn (dz (wq [2] ?_)))
 refine tn (qt ?_)
 have K:=os hF
 subst K
 exact r1 wb
def QeA(x0:ByteArray):Option (List ByteArray) :=
 if (seq x0 (⟨#[]⟩:ByteArray))=true then (some ([])) else (if x0.size≤9223372036854775807 then strings_Split (⟨(Lib.trimSuffix x0.data.toList (⟨#[10]⟩:ByteArray).data.toList).toArray⟩:ByteArray) (⟨#[10]⟩:ByteArray)>>=fun t3=>some t3 else none)
theorem Qkw(x0:ByteArray)(r:List ByteArray)(hF:QeA x0=some r)(w:World)(hg_bytealg_MaxLen:GV_bytealg_MaxLen w) :
    Calls Tryz.prog 17 #[.string x0] w (fun e w'=>∃ p cap,e=.returned (.slice p r.length cap)∧Own QbA 9 w.heap.size w' p cap r∧Below w.heap.size w w'):=by
 unfold QeA at hF
 refine ce (l:=[.string x0]) func17 rfl rfl ?_
 refine QN ?_
 refine sr (aa (nt (qs (sr (am ?_)))))
 refine aw (QfK rfl rfl) ?_
 refine nwq [4,0] ?_
 obtain ⟨h1,hF⟩|⟨h1,hF⟩:=oi hF
 ·refine ct h1 ?_
  refine sr (aa (nwq [2] ?_))
  refine rt ?_
  have K:=os hF
  subst K
  exact r1 (fun w1 hw=>⟨none,0,rfl,Own.nil _ _ _ _,hw.below⟩)
 refine cf h1 ?_
 refine sns (am ?_)
 obtain ⟨h2,hF⟩:=gd hF
 refine cB func51 rfl (fun w1 hw=>Qd1 (Tryz.strings_TrimSuffix _ _ w1 h2)) ?_
 obtain ⟨t3,ht3,hF⟩:=bM hF
 refine QbU (c:=QbA) (e:=9) (ys:=t3) (V:=fun p cap=>.slice p t3.length cap) func46 rfl (by kernel_rfl) rfl rfl (fun w hw=>Qgk _ _ _ ht3 w (hg_bytealg_MaxLen.on hw.below)) ?_
 intro p4 c5
 refine aa (nwq [2] ?_)
 refine qt ?_
 have K:=os hF
 subst K
 exact r1 (fun w1 hw=>⟨p4,c5,rfl,hw.own .z,hw.below⟩)
def Qcw(x0:ByteArray):Option (List ByteArray) :=
 QG x0 10>>=fun t1=>if (0:Int)≤wr .i64 ((t1.length:Int)-1)∧wr .i64 ((t1.length:Int)-1)<(t1.length:Int) then if (seq (QO t1 (wr .i64 ((t1.length:Int)-1))) (⟨#[]⟩:ByteArray))=true then (if (0:Int)≤wr .i64 ((t1.length:Int)-1)∧wr .i64 ((t1.length:Int)-1)≤(t1.length:Int) then some (List.take (Int.toNat (wr .i64 ((t1.length:Int)-1))) t1) else none) else (some t1) else none
theorem Qgz(x0:ByteArray)(r:List ByteArray)(hF:Qcw x0=some r)(w:World) :
    Calls Tryz.prog 18 #[.string x0] w (fun e w'=>∃ p cap,e=.returned (.slice p r.length cap)∧Own QbA 9 w.heap.size w' p cap r∧Below w.heap.size w w'):=by
 unfold Qcw at hF
 refine ce (l:=[.string x0]) func18 rfl rfl ?_
 refine QN ?_
 refine sr (aa (ns (am ?_)))
 obtain ⟨t1,ht1,hF⟩:=bM hF
 refine QbU (c:=QbA) (e:=9) (ys:=t1) (V:=fun p cap=>.slice p t1.length cap) func19 rfl (by kernel_rfl) rfl rfl (fun w hw=>Qak _ _ _ ht1 w) ?_
 intro p2 c3
 refine aa (nt (qs (sr (am (am ?_)))))
 refine aw (QZ underlying46 rfl) ?_
 refine aw (Qdh rfl rfl) ?_
 obtain ⟨h4,hF⟩:=gd hF
 refine Qae (φ:=∃ b o,p2=some ⟨b,o,none⟩) (fun _ hw=>Qaa (hw.own .z).row h4) ?_
 rintro ⟨b6,o7,hp5⟩
 refine aw (QbD underlying46 sizeOf9 rfl rfl h4 hp5) ?_
 refine aw (Qe isAgg9 rfl (fun _ hw=>QP (W:=fun w1=>w1=_) (fun w1 h=>by subst h;exact Below.refl _ _) (hw.own .z).row h4 hp5 rfl _ rfl)) ?_
 refine aw (QfK rfl rfl) ?_
 refine nwq [12,3] ?_
 obtain ⟨h8,hF⟩|⟨h8,hF⟩:=oi hF
 ·refine ct h8 ?_
  refine sr (am (am ?_))
  refine aw (QZ underlying46 rfl) ?_
  refine aw (Qdh rfl rfl) ?_
  obtain ⟨h9,hF⟩:=gd hF
  refine QrV (c:=QbA) .z underlying46 sizeOf9 rfl rfl h9 rfl ?_
  refine aa (nwq [2] ?_)
  refine rt ?_
  have K:=os hF
  subst K
  exact r1 (fun w1 hw=>⟨p2,c3,rfl,hw.own .z,hw.below⟩)
 refine cf h8 ?_
 refine sns (am (aa (nwq [2] ?_)))
 refine qt ?_
 have K:=os hF
 subst K
 exact r1 (fun w1 hw=>⟨p2,c3,rfl,hw.own .z,hw.below⟩)
end Go.Proofs.YtnekckhjmnhinaaGreatDoor
namespace Go.Proofs.YtnekckhjmnhinaaGreatDoor.Sho
open E Go.RowKit
open Adr AdrT
def jc(c:UInt8):List (List UInt8)→List UInt8
 | []=>[]
 | [a]=>a
 | a::b::r=>a++c::jc c (b::r)
def no(m:Nat)(l:List UInt8):Prop:=∀ x∈l,m<x.toNat
theorem no.ne{m:Nat}{l:List UInt8}(h:no m l)(c:UInt8)(hc:c.toNat≤m):∀ x∈l,x≠c:=fun x hx e=>by
 have:=h x hx
 rw [e] at this;omega
theorem no.mono{m k:Nat}{l:List UInt8}(h:no m l)(hk:k≤m):no k l:=fun x hx=>Nat.lt_of_le_of_lt hk (h x hx)
theorem Qh4(c:UInt8):∀ (W:List (List UInt8)),W≠[]→(∀ w∈W,∀ x∈w,x≠c)→QM c (jc c W)=W
 | [],h,_=>absurd rfl h
 | [a],_,h=>Qcc c a (h a (by simp))
 | a::b::r,_,h=>by
  show QM c (a++c::jc c (b::r))=_
  rw [Qbp c _ a (h a (by simp)),Qh4 c (b::r) (by simp) fun w hw=>h w (List.mem_cons_of_mem _ hw)]
theorem QnA(c:UInt8):∀ (W:List (List UInt8)),Lib.join W [c]=jc c W
 | []=>rfl
 | [a]=>Lib.join_one a [c]
 | a::b::r=>by
  rw [Lib.join_cons]
  show a++Lib.joinTail [c] (b::r)=a++c::jc c (b::r)
  rw [←QnA c (b::r),Lib.join_cons]
  simp [Lib.joinTail]
theorem Qs4(c:UInt8)(W:List (List UInt8))(s:ByteArray)(hs:s.data.toList=[c]):Qdp (W.map bs) s=bs (jc c W):=by
 apply Qde
 unfold Qdp
 rw [QaJ,←QnA,hs]
 show (Lib.join ((W.map bs).map (·.data.toList)) [c]).toArray.toList=_
 rw [List.map_map]
 have:((fun x:ByteArray=>x.data.toList)∘bs)=id:=by funext l;exact QaJ l
 rw [this,List.map_id]
theorem QvG{c:UInt8}{m:Nat}(hc:m<c.toNat):∀ (W:List (List UInt8)),(∀ w∈W,no m w)→no m (jc c W)
 | [],_=>fun x hx=>by cases hx
 | [a],h=>h a (by simp)
 | a::b::r,h=>fun x hx=>by
  have hx':x∈a++c::jc c (b::r):=hx
  rcases List.mem_append.1 hx' with h1 | h1
  ·exact h a (by simp) x h1
  ·rcases List.mem_cons.1 h1 with rfl | h1
   ·exact hc
   ·exact QvG hc (b::r) (fun w hw=>h w (List.mem_cons_of_mem _ hw)) x h1
theorem QvW:∀ n:Fin 16,44<(Hex.dg n.1).toNat:=by decide +kernel
theorem QvN(n:Nat):∀ x∈Col.g1 n,44<x.toNat:=by
 induction n using Nat.strongRecOn with
 | _ n ih =>
  intro x hx
  unfold Col.g1 Hex.grp at hx
  split at hx
  ·next h =>
   simp only [Hex.dig,List.mem_singleton] at hx
   subst hx
   exact QvW ⟨n,h⟩
  ·next h =>
   rw [Qa0] at hx
   rcases List.mem_append.1 hx with hx | hx
   ·exact ih _ (show n/16<n by omega) x hx
   ·simp only [Hex.dig,List.mem_singleton] at hx
    subst hx
    exact QvW ⟨n%16,by omega⟩
theorem Qlk:∀ (G:List Nat),∀ x∈Col.rowL G,44<x.toNat
 | [],x,h=>by cases h
 | [n],x,h=>QvN n x h
 | n::m::r,x,h=>by
  rcases List.mem_append.1 h with h | h
  ·exact QvN n x h
  ·rcases List.mem_cons.1 h with rfl | h
   ·decide
   ·exact Qlk (m::r) x h
theorem Qse(G:List Nat):∀ x∈Col.textL G,44<x.toNat:=by
 intro x h
 unfold Col.textL at h
 split at h
 ·exact Qlk _ x h
 ·rcases List.mem_append.1 h with h | h
  ·exact Qlk _ x h
  ·rcases List.mem_cons.1 h with rfl | h
   ·decide
   ·rcases List.mem_cons.1 h with rfl | h
    ·decide
    ·exact Qlk _ x h
theorem Qi2(n:Nat):no 44 (Lib.decDigits n):=fun x hx=>by
 have:=QdG.1 (List.all_eq_true.1 (QdN n) x hx)
 omega
theorem Qsv{m:List UInt8}(hm:m.length=4):no 44 (Qf4 m):=by
 intro x hx
 match m,hm with
 | [a,b,c,d],_ =>
  have hx':x∈Lib.decDigits a.toNat++46::(Lib.decDigits b.toNat++46::(Lib.decDigits c.toNat++46::Lib.decDigits d.toNat)):=hx
  simp only [List.mem_append,List.mem_cons] at hx'
  rcases hx' with h | h | h | h | h | h | h
  ·exact Qi2 _ x h
  ·subst h;decide
  ·exact Qi2 _ x h
  ·subst h;decide
  ·exact Qi2 _ x h
  ·subst h;decide
  ·exact Qi2 _ x h
theorem QnX{V:Int}{l:List UInt8}(hl:l.length=16):no 44 (Qk8 V l):=by
 intro x hx
 unfold Qk8 at hx
 split at hx
 ·split at hx
  ·exact Qsv (by rw [List.length_take];omega) x hx
  ·exact Qse _ x hx
 ·cases hx
theorem Quo{V:Int}{l:List UInt8}(hl:l.length=16)(k:Nat):no 44 (Host.hostL V l k):=by
 intro x hx
 unfold Host.hostL at hx
 split at hx
 ·simp only [List.mem_append,List.mem_cons] at hx
  rcases hx with h | h | h
  ·exact QnX hl x h
  ·subst h;decide
  ·exact Qi2 _ x h
 ·simp only [List.mem_append,List.mem_cons] at hx
  rcases hx with h | h | h | h | h
  ·subst h;decide
  ·exact QnX hl x h
  ·subst h;decide
  ·subst h;decide
  ·exact Qi2 _ x h
theorem QvZ{V:Int}{l:List UInt8}(hl:l.length=16)(b:Nat):no 44 (Cid.cidT V l b):=by
 intro x hx
 unfold Cid.cidT at hx
 rcases List.mem_append.1 hx with h | h
 ·exact QnX hl x h
 ·rcases List.mem_cons.1 h with rfl | h
  ·decide
  ·exact Qi2 _ x h
theorem Qwo:∀ n:Fin 64,32<(Six.sg n.1).toNat:=by decide +kernel
theorem Qti(X:Nat):∀ (k i:Nat),no 32 (Six.sgs X i k)
 | 0,i=>fun x hx=>by cases hx
 | k+1,i=>fun x hx=>by
  have hx':x∈Six.sx X i::Six.sgs X (i+1) k:=hx
  rcases List.mem_cons.1 hx' with rfl | h
  ·exact Qwo ⟨_,Nat.mod_lt _ (by omega)⟩
  ·exact Qti X k (i+1) x h
theorem QuA:∀ (n:Nat) (l:List UInt8),l.length≤n→no 32 (Six.encP l):=by
 intro n
 induction n with
 | zero =>
  intro l h
  obtain rfl:l=[]:=List.eq_nil_of_length_eq_zero (by omega)
  intro x hx
  rw [Six.encP,dif_pos rfl] at hx
  cases hx
 | succ n ih =>
  intro l hl x hx
  rw [Six.encP] at hx
  split at hx
  ·cases hx
  ·next h =>
   have h1:0<l.length:=List.length_pos_iff.2 h
   rcases List.mem_append.1 hx with hx | hx
   ·rcases List.mem_append.1 hx with hx | hx
    ·exact Qti _ _ _ x hx
    ·rw [(List.mem_replicate.1 hx).2];decide
   ·exact ih (l.drop 3) (by rw [List.length_drop];omega) x hx
theorem Ql9(c:UInt8):∀ (n:Nat) (l:List UInt8),l.length≤n→Lib.splitK [c] 0 (l.count c) l=QM c l:=by
 intro n
 induction n with
 | zero =>
  intro l h
  obtain rfl:l=[]:=List.eq_nil_of_length_eq_zero (by omega)
  rfl
 | succ n ih =>
  intro l hl
  rcases QdA c l with h | ⟨p,r,rfl,h⟩
  ·have h0:l.count c=0:=List.count_eq_zero.2 fun hc=>h c hc rfl
   rw [h0,Qcc c l h];rfl
  ·have h0:p.count c=0:=List.count_eq_zero.2 fun hc=>h c hc rfl
   have e:(p++c::r).count c=r.count c+1:=by rw [List.count_append,h0,List.count_cons_self];omega
   have hi:Lib.index (p++c::r) [c]=(p.length:Int):=by rw [Lib.index_one,QlG p r c h]
   rw [e,Qbp c r p h]
   unfold Lib.splitK
   rw [hi,if_neg (by simp),Int.toNat_natCast,Nat.add_zero,List.take_left' rfl]
   congr 1
   have:List.drop (p.length+[c].length) (p++c::r)=r:=by
    rw [List.length_singleton,←List.drop_drop,List.drop_left' rfl];rfl
   rw [this]
   exact ih r (by simp at hl;omega)
theorem Qiu(c:UInt8)(l:List UInt8)(s:ByteArray)(hs:s.data.toList=[c])(h:l.length<1000000000):strings_Split (bs l) s=some ((QM c l).map bs):=by
 have h1:s.size=1:=by rw [←QaY,hs];rfl
 unfold strings_Split
 rw [if_pos ⟨by rw [QT];omega,by omega⟩]
 congr 1
 have e1:=Lib.splitB_data s 0 (Lib.countB (bs l) s) (bs l)
 have e2:Lib.countB (bs l) s=l.count c:=by
  show Lib.count (bs l).data.toList s.data.toList=_
  rw [QaJ,hs,Lib.count_one]
 rw [QaJ,e2,hs] at e1
 rw [Ql9 c _ l (Nat.le_refl _)] at e1
 rw [e2,←e1,List.map_map]
 have:(bs∘fun x:ByteArray=>x.data.toList)=id:=by funext x;exact (QsX x).symm
 rw [this,List.map_id]
theorem QqM(c:UInt8):∀ (n:Nat) (l:List UInt8),l.length≤n→QM c (l++[c])=QM c l++[[]]:=by
 intro n
 induction n with
 | zero =>
  intro l h
  obtain rfl:l=[]:=List.eq_nil_of_length_eq_zero (by omega)
  show QM c ([]++c::[])=_
  rw [Qbp c [] [] (by simp)];rfl
 | succ n ih =>
  intro l hl
  rcases QdA c l with h | ⟨p,r,rfl,h⟩
  ·rw [show l++[c]=l++c::[] from rfl,Qbp c [] l h,Qcc c l h];rfl
  ·rw [List.append_assoc,List.cons_append,Qbp c _ p h,ih r (by simp at hl;omega),Qbp c r p h];rfl
theorem Qph(c x:UInt8)(hx:x≠c):∀ (n:Nat) (l:List UInt8),l.length≤n→∃ A p,QM c (l++[x])=A++[p]∧p≠[]:=by
 intro n
 induction n with
 | zero =>
  intro l h
  obtain rfl:l=[]:=List.eq_nil_of_length_eq_zero (by omega)
  exact ⟨[],[x],by rw [List.nil_append,Qcc c [x] (by simpa using hx)];rfl,by simp⟩
 | succ n ih =>
  intro l hl
  rcases QdA c l with h | ⟨p,r,rfl,h⟩
  ·have hno:∀ y∈l++[x],y≠c:=fun y hy=>by
    rcases List.mem_append.1 hy with hy | hy
    ·exact h y hy
    ·rw [List.mem_singleton.1 hy];exact hx
   exact ⟨[],l++[x],by rw [Qcc c _ hno];rfl,by simp⟩
  ·obtain ⟨A,q,e,hq⟩:=ih r (by simp at hl;omega)
   exact ⟨p::A,q,by rw [List.append_assoc,List.cons_append,Qbp c _ p h,e];rfl,hq⟩
def lns(l:List UInt8):List (List UInt8):=if l=[] then [] else if l.getLast? = some 10 then QM 10 l.dropLast else QM 10 l
theorem Qnv(r:List UInt8):lns (r++[10])=QM 10 r:=by
 unfold lns
 rw [if_neg (by simp),if_pos (by simp),List.dropLast_concat]
theorem QoC(r:List UInt8)(x:UInt8)(hx:x≠10):lns (r++[x])=QM 10 (r++[x]):=by
 unfold lns
 rw [if_neg (by simp),if_neg (by simpa using hx)]
theorem QkV(l:List UInt8):l=[]∨∃ r x,l=r++[x]:=by
 by_cases h:l=[]
 ·exact .inl h
 ·exact .inr ⟨l.dropLast,l.getLast h,(List.dropLast_concat_getLast h).symm⟩
theorem Qqk(a b:ByteArray):seq a b=decide (a=b):=by
 cases h:seq a b with
 | true=>exact (decide_eq_true ((QeW _ _).1 h)).symm
 | false=>exact (decide_eq_false fun e=>by rw [(QeW _ _).2 e] at h;cases h).symm
theorem QtB{l:List UInt8}(h:l≠[]):seq (bs l) (⟨#[]⟩:ByteArray)=false:=by
 rw [Qqk,decide_eq_false]
 exact fun e=>h (Qk1 (k:=[]) e)
theorem Qu2(r:List UInt8):Lib.trimSuffix (r++[10]) [10]=r:=by
 unfold Lib.trimSuffix Lib.hasSuffix
 rw [if_pos (by rw [List.isSuffixOf_iff_suffix];exact ⟨r,rfl⟩)]
 simp
theorem Qqa(r:List UInt8)(x:UInt8)(hx:x≠10):Lib.trimSuffix (r++[x]) [10]=r++[x]:=by
 unfold Lib.trimSuffix Lib.hasSuffix
 rw [if_neg]
 rw [List.isSuffixOf_iff_suffix]
 rintro ⟨t,e⟩
 have:=(List.append_inj' e rfl).2
 exact hx (List.cons.inj this).1.symm
theorem Qpn(l:List UInt8)(h:l.length<900000):QeA (bs l)=some ((lns l).map bs):=by
 rcases QkV l with rfl | ⟨r,x,rfl⟩
 ·unfold QeA
  have:seq (bs []) (⟨#[]⟩:ByteArray)=true:=Qg7 _
  rw [this];rfl
 ·have hr:r.length<900000:=by simp at h;omega
  unfold QeA
  rw [QtB (by simp),if_neg Bool.false_ne_true,if_pos (by rw [QT];omega),QaJ]
  show (strings_Split (bs (Lib.trimSuffix (r++[x]) [10])) _>>=_)=_
  by_cases hx:x=10
  ·subst hx
   rw [Qu2,Qiu 10 r _ rfl (by omega),Qa,Qnv]
  ·rw [Qqa r x hx,Qiu 10 _ _ rfl (by omega),Qa,QoC r x hx]
theorem Qq4(l:List UInt8)(h:l.length<900000):Qcw (bs l)=some ((lns l).map bs):=by
 rcases QkV l with rfl | ⟨r,x,rfl⟩
 ·unfold Qcw
  have e:=Qei 10 [] (by simp)
  rw [show ((10:UInt8).toNat:Int)=10 from rfl] at e
  rw [e,Qa]
  decide +kernel
 ·have hr:r.length<900000:=by simp at h;omega
  unfold Qcw
  have e:=Qei 10 (r++[x]) (by omega)
  rw [show ((10:UInt8).toNat:Int)=10 from rfl] at e
  rw [e,Qa]
  have fin:∀ (A:List (List UInt8)) (p:List UInt8),QM 10 (r++[x])=A++[p]→(if (0:Int)≤wr .i64 ((((QM 10 (r++[x])).map bs).length:Int)-1)∧wr .i64 ((((QM 10 (r++[x])).map bs).length:Int)-1)<(((QM 10 (r++[x])).map bs).length:Int) then if (seq (QO ((QM 10 (r++[x])).map bs) (wr .i64 ((((QM 10 (r++[x])).map bs).length:Int)-1))) (⟨#[]⟩:ByteArray))=true then (if (0:Int)≤wr .i64 ((((QM 10 (r++[x])).map bs).length:Int)-1)∧wr .i64 ((((QM 10 (r++[x])).map bs).length:Int)-1)≤(((QM 10 (r++[x])).map bs).length:Int) then some (List.take (Int.toNat (wr .i64 ((((QM 10 (r++[x])).map bs).length:Int)-1))) ((QM 10 (r++[x])).map bs)) else none) else (some ((QM 10 (r++[x])).map bs)) else none)=some ((if p=[] then A else A++[p]).map bs):=by
   intro A p ep
   have hn:=Qej 10 (r++[x])
   rw [ep] at hn ⊢
   rw [List.length_append,List.length_singleton] at hn
   have hl:(((A++[p]).map bs).length:Int)=(A.length:Int)+1:=by simp
   have hw:wr .i64 ((((A++[p]).map bs).length:Int)-1)=(A.length:Int):=by rw [hl,QX (by simp at hn;omega) (by simp at hn;omega)];omega
   have hg:QO ((A++[p]).map bs) (A.length:Int)=bs p:=by
    rw [QcL (by simp)]
    simp
   rw [hw,hl,if_pos (by omega),hg,if_pos (show (0:Int)≤(A.length:Int)∧(A.length:Int)≤(A.length:Int)+1 by omega),Int.toNat_natCast]
   by_cases hp:p=[]
   ·subst hp
    have hs:seq (bs []) (⟨#[]⟩:ByteArray)=true:=Qg7 _
    rw [hs,if_pos rfl,if_pos rfl,List.map_append,List.take_left' (by simp)]
   ·rw [QtB hp,if_neg Bool.false_ne_true,if_neg hp]
  by_cases hx:x=10
  ·subst hx
   have ep:=QqM 10 _ r (Nat.le_refl _)
   have:=fin _ _ ep
   rw [if_pos rfl] at this
   rw [Qnv]
   exact this
  ·obtain ⟨A,p,ep,hp⟩:=Qph 10 x hx _ r (Nat.le_refl _)
   have:=fin _ _ ep
   rw [if_neg hp] at this
   rw [QoC r x hx,ep] at *
   exact this
def lnT(W:List (List UInt8)):List UInt8:=W.flatMap fun w=>w++[10]
theorem Qh7(w:List UInt8)(W:List (List UInt8)):lnT (w::W)=w++10::lnT W:=by
 unfold lnT
 rw [List.flatMap_cons,List.append_assoc];rfl
theorem Qts:∀ (W:List (List UInt8)),W≠[]→lnT W=jc 10 W++[10]
 | [],h=>absurd rfl h
 | [a],_=>by rw [Qh7];rfl
 | a::b::r,_=>by
  rw [Qh7,Qts (b::r) (by simp)]
  show _=(a++10::jc 10 (b::r))++[10]
  rw [List.append_assoc,List.cons_append]
theorem Que(W:List (List UInt8))(hW:W≠[])(h:∀ w∈W,∀ x∈w,x≠10):lns (lnT W)=W:=by
 rw [Qts W hW,Qnv,Qh4 10 W hW h]
end Go.Proofs.YtnekckhjmnhinaaGreatDoor.Sho
