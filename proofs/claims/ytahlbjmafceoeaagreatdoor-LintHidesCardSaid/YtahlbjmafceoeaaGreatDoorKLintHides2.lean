/- Texts of this claim, those in one that belong together; printed by a program of this project. -/
import Derived.Test.YtahlbjmafceoeaaGreatDoorProg
import Derived.Lib.Bytealg
import Derived.Test.YtahlbjmafceoeaaGreatDoorKLintHides1
set_option linter.unusedVariables false
set_option linter.unusedSimpArgs false
set_option maxRecDepth 20000
namespace Go.Proofs.YtahlbjmafceoeaaGreatDoor
open E
def dig(c:UInt8):Bool:=decide (48≤c.toNat)&&decide (c.toNat≤57)
end Go.Proofs.YtahlbjmafceoeaaGreatDoor
namespace Go.Proofs.YtahlbjmafceoeaaGreatDoor
open E
end Go.Proofs.YtahlbjmafceoeaaGreatDoor
namespace Go.Proofs.YtahlbjmafceoeaaGreatDoor
open E Go.RowKit
def bs(l:List UInt8):ByteArray:=⟨l.toArray⟩
end Go.Proofs.YtahlbjmafceoeaaGreatDoor
namespace Go.Proofs.YtahlbjmafceoeaaGreatDoor
open E Go.RowKit
theorem set_step{α:Type}(A l:List α)(i:Nat)(x:α)(hA:A.length=l.length)(hx:A[i]? = some x):(A.take i++l.drop i).set i x=A.take (i+1)++l.drop (i+1):=by
 have hi:i<A.length:=(List.getElem?_eq_some_iff.1 hx).1
 apply List.ext_getElem?
 intro j
 have h1:(A.take i).length=i:=by simp;omega
 have h2:(A.take (i+1)).length=i+1:=by simp;omega
 rw [List.getElem?_set]
 by_cases hj:i=j
 ·subst hj
  have hl:i<(A.take i++l.drop i).length:=by simp;omega
  rw [if_pos rfl,if_pos hl,List.getElem?_append_left (by omega),List.getElem?_take,if_pos (by omega),hx]
 ·rw [if_neg hj]
  by_cases hlt:j<i
  ·rw [List.getElem?_append_left (by omega),List.getElem?_append_left (by omega),List.getElem?_take,List.getElem?_take,if_pos hlt,if_pos (by omega)]
  ·rw [List.getElem?_append_right (by omega),List.getElem?_append_right (by omega),List.getElem?_drop,List.getElem?_drop,h1,h2]
   congr 1;omega
def v4(m:List UInt8):Vector Int 4:=lvec 4 (ob m)
end Go.Proofs.YtahlbjmafceoeaaGreatDoor
namespace Go.Proofs.YtahlbjmafceoeaaGreatDoor.Hex
def dgl:List UInt8:=[48,49,50,51,52,53,54,55,56,57,97,98,99,100,101,102]
def dg(n:Nat):UInt8:=dgl.getD n 0
def dig(n:Nat):ByteArray:=ByteArray.mk #[dg n]
def grp(n:Nat):ByteArray:=if n<16 then dig n else grp (n/16)++dig (n%16)
end Go.Proofs.YtahlbjmafceoeaaGreatDoor.Hex
namespace Go.Proofs.YtahlbjmafceoeaaGreatDoor.Hex
open E Go.RowKit
end Go.Proofs.YtahlbjmafceoeaaGreatDoor.Hex
namespace Go.Proofs.YtahlbjmafceoeaaGreatDoor.Hex
open E Go.RowKit
end Go.Proofs.YtahlbjmafceoeaaGreatDoor.Hex
namespace Go.Proofs.YtahlbjmafceoeaaGreatDoor.Hex
open E Go.RowKit
end Go.Proofs.YtahlbjmafceoeaaGreatDoor.Hex
namespace Go.Proofs.YtahlbjmafceoeaaGreatDoor.Hex
open E Go.RowKit
end Go.Proofs.YtahlbjmafceoeaaGreatDoor.Hex
namespace Go.Proofs.YtahlbjmafceoeaaGreatDoor.Hex
open E Go.RowKit
def str(l:List UInt8):ByteArray:=⟨l.toArray⟩
theorem str_size(l:List UInt8):(str l).size=l.length:=by simp [str,ByteArray.size]
theorem str_append(l k:List UInt8):str (l++k)=str l++str k:=by
 apply ByteArray.ext;simp [str,ByteArray.data_append]
end Go.Proofs.YtahlbjmafceoeaaGreatDoor.Hex
namespace Go.Proofs.YtahlbjmafceoeaaGreatDoor.Col
open E Go.RowKit
def g1(n:Nat):List UInt8:=(Hex.grp n).data.toList
def q2(v:Vector Int 4):List Nat:=[256*(vget v 0).toNat+(vget v 1).toNat,256*(vget v 2).toNat+(vget v 3).toNat]
end Go.Proofs.YtahlbjmafceoeaaGreatDoor.Col
namespace Go.Proofs.YtahlbjmafceoeaaGreatDoor.Col
open E Go.RowKit
end Go.Proofs.YtahlbjmafceoeaaGreatDoor.Col
namespace Go.Proofs.YtahlbjmafceoeaaGreatDoor.Col
open E Go.RowKit
end Go.Proofs.YtahlbjmafceoeaaGreatDoor.Col
namespace Go.Proofs.YtahlbjmafceoeaaGreatDoor.Col
open E Go.RowKit
end Go.Proofs.YtahlbjmafceoeaaGreatDoor.Col
namespace Go.Proofs.YtahlbjmafceoeaaGreatDoor.AdrT
open E Go.RowKit
open Adr
end Go.Proofs.YtahlbjmafceoeaaGreatDoor.AdrT
namespace Go.Proofs.YtahlbjmafceoeaaGreatDoor.Cid
open E Go.RowKit
open Adr AdrT
end Go.Proofs.YtahlbjmafceoeaaGreatDoor.Cid
namespace Go.Proofs.YtahlbjmafceoeaaGreatDoor.Host
open E Go.RowKit
open Adr AdrT
def mkE(A:S_api_Addr)(n:Int):S_api_Endpoint:={ f_A:=A,f_Port:=n }
end Go.Proofs.YtahlbjmafceoeaaGreatDoor.Host
namespace Go.Proofs.YtahlbjmafceoeaaGreatDoor.Six
open E Go.RowKit
open Hex (str str_size str_append)
def sgn:List UInt8:=[65,66,67,68,69,70,71,72,73,74,75,76,77,78,79,80,81,82,83,84,85,86,87,88,89,90,97,98,99,100,101,102,103,104,105,106,107,108,109,110,111,112,113,114,115,116,117,118,119,120,121,122,48,49,50,51,52,53,54,55,56,57,43,47]
def sg(n:Nat):UInt8:=sgn.getD n 0
def gX(l:List UInt8):Nat:=(l.getD 0 0).toNat*65536+(l.getD 1 0).toNat*256+(l.getD 2 0).toNat
def sx(X i:Nat):UInt8:=sg (X/2 ^ (18-6*i)%64)
def sgs(X:Nat):Nat→Nat→List UInt8
 | _,0=>[]
 | i,k+1=>sx X i::sgs X (i+1) k
def grpS(l:List UInt8):List UInt8:=sgs (gX l) 0 (min l.length 3+1)
def enc(l:List UInt8):List UInt8:=if h:l=[] then [] else grpS l++enc (l.drop 3)
termination_by l.length
decreasing_by
 have:0<l.length:=List.length_pos_iff.2 h
 simp;omega
theorem lsub_ob(l:List UInt8)(n:Nat):lsub (ob l) (n:Int) (((ob l).length:Nat):Int)=ob (l.drop n):=by
 unfold lsub
 rw [Int.toNat_natCast,Int.toNat_natCast,List.take_length]
 simp [ob]
end Go.Proofs.YtahlbjmafceoeaaGreatDoor.Six
namespace Go.Proofs.YtahlbjmafceoeaaGreatDoor.Six
open E Go.RowKit
open Hex (str str_size str_append)
theorem e8(l:List UInt8)(hl:l.length<100000):wr .i64 (8*((ob l).length:Int))=((8*l.length:Nat):Int):=by
 rw [ob_length,wr_i64 (by omega) (by omega)];omega
theorem e6(i:Nat)(h:i<1000000):wr .i64 ((i:Int)+6)=((i+6:Nat):Int):=by
 rw [wr_i64 (by omega) (by omega)];omega
end Go.Proofs.YtahlbjmafceoeaaGreatDoor.Six
namespace Go.Proofs.YtahlbjmafceoeaaGreatDoor.Key
open E Go.RowKit
open Hex (str str_size str_append)
theorem vget_nat{m:Nat}(v:Vector Int m)(i:Nat)(h:i<m):vget v (i:Int)=v[i]:=by
 unfold vget;rw [Int.toNat_natCast];simp [List.getD_eq_getElem?_getD,h]
end Go.Proofs.YtahlbjmafceoeaaGreatDoor.Key
namespace Go.Proofs.YtahlbjmafceoeaaGreatDoor.Key
open E Go.RowKit
open Hex (str str_size str_append)
end Go.Proofs.YtahlbjmafceoeaaGreatDoor.Key
namespace Go.Proofs.YtahlbjmafceoeaaGreatDoor.Host
open E Go.RowKit
open Adr AdrT
theorem exists_mkE(a:S_api_Endpoint)(h:ok_api_Endpoint a):∃ V l n,a=mkE (mkA V l) n∧l.length=16∧(Lit.int .i64 n).wf=true:=by
 obtain ⟨V,l,hA,hl,_⟩:=exists_mkA a.f_A h.1
 refine ⟨V,l,a.f_Port,?_,hl,h.2⟩
 cases a with | mk A n =>
 simp only at hA
 subst hA;rfl
def rightE(V:Int)(l:List UInt8)(n:Int):Bool:=rightL V l&&(decide (1≤n)&&decide (n≤65535))
theorem right_code12{V n:Int}{l:List UInt8}(hl:l.length=16):hostport_Right (mkE (mkA V l) n)=some (rightE V l n):=by
 unfold hostport_Right rightE
 show (addr_Right (mkA V l)>>=fun t2=>if t2=true then (if decide (n≥1)=true then some (decide (n≤65535)) else some false) else some false)=_
 rw [right_code hl,bindM_some]
 cases rightL V l with
 | false=>rfl
 | true =>
  rw [if_pos rfl]
  by_cases h:1≤n
  ·rw [if_pos (decide_eq_true h),decide_eq_true h];rfl
  ·rw [if_neg (by rw [decide_eq_true_eq];exact h),decide_eq_false h];rfl
theorem right_ref12{V n:Int}{l:List UInt8}(hl:l.length=16):crawlwayref12_Right (mkE (mkA V l) n)=some (rightE V l n):=by
 unfold crawlwayref12_Right rightE
 show (crawlwayref10_Right (mkA V l)>>=fun t2=>if t2=true then (if decide (n≥1)=true then some (decide (n≤65535)) else some false) else some false)=_
 rw [right_ref hl,bindM_some]
 cases rightL V l with
 | false=>rfl
 | true =>
  rw [if_pos rfl]
  by_cases h:1≤n
  ·rw [if_pos (decide_eq_true h),decide_eq_true h];rfl
  ·rw [if_neg (by rw [decide_eq_true_eq];exact h),decide_eq_false h];rfl
end Go.Proofs.YtahlbjmafceoeaaGreatDoor.Host
namespace Go.Proofs.YtahlbjmafceoeaaGreatDoor
open E Go.RowKit _root_.Go.Proofs.Tryz
theorem infoA238_is:(Tryz.prog.info? 38).isSome=true:=by kernel_rfl
noncomputable def infoA238_v:TypeInfo:=(Tryz.prog.info? 38).get infoA238_is
theorem infoA238:Tryz.prog.info? 38=some infoA238_v:=(Option.some_get _).symm
def aggregate_Right(x0:S_aggregate_Range):Option (Bool) :=
 addr_Right x0.f_From>>=fun t2=>if t2=true then (addr_Right x0.f_To>>=fun t4=>if t4=true then (if (x0.f_From.f_V==x0.f_To.f_V)=true then (addr_Less x0.f_To x0.f_From>>=fun t7=>some (!t7)) else (some false)) else (some false)) else (some false)
theorem aggregate_Right_ok(x0:S_aggregate_Range)(r:Bool)(hF:aggregate_Right x0=some r)(w:World) :
    Calls Tryz.prog 106 #[.agg (Cd.cs c_aggregate_Range x0).toArray] w (fun e w'=>e=.returned (.bool r)∧Below w.heap.size w w'):=by
 unfold aggregate_Right at hF
 refine ce (l:=[.agg (Cd.cs c_aggregate_Range x0).toArray]) func106 rfl rfl ?_
 refine at_start ?_
 refine sr ?_
 refine at_box (cs:=Cd.cs c_aggregate_Range x0) rfl rfl rfl ?_
 intro b1
 refine aa (nwx [1] ?_)
 refine fa 0 underlying112 rfl sizeOf36 ?_
 refine aw (r_load_aggc (c:=c_api_Addr) (z:=x0.f_From) isAgg36 sizeOf36 rfl (lens_cell .z (Lens.comp lw (fun z=>{ x0 with f_From:=z }) (c_aggregate_Range_f_From x0)))) ?_
 obtain ⟨t2,ht2,hF⟩:=bM hF
 refine cB func71 rfl (fun w hw=>addr_Right_ok _ _ ht2 w) ?_
 refine am ?_
 obtain ⟨h3,hF⟩|⟨h3,hF⟩:=oi hF
 ·refine fx 6 h3 ?_
  refine gy ?_
  refine fa 17 underlying112 rfl sizeOf36 ?_
  refine gy ?_
  refine aw (r_load_aggc (c:=c_api_Addr) (z:=x0.f_To) isAgg36 sizeOf36 rfl (lens_cell .z (Lens.comp lw (fun z=>{ x0 with f_To:=z }) (c_aggregate_Range_f_To x0)))) ?_
  refine gy ?_
  obtain ⟨t4,ht4,hF⟩:=bM hF
  refine cB func71 rfl (fun w hw=>addr_Right_ok _ _ ht4 w) ?_
  refine aw xp (am ?_)
  obtain ⟨h5,hF⟩|⟨h5,hF⟩:=oi hF
  ·refine fx 11 h5 ?_
   refine gy ?_
   refine fa 0 underlying112 rfl sizeOf36 ?_
   refine gy ?_
   refine fa 0 underlying36 rfl sizeOf3 ?_
   refine gy ?_
   refine aw (r_load_cell isAgg3 rfl (lens_cell0 (c:=(cInt .i64)) (y:=x0.f_From.f_V) .z (Lens.comp (Lens.comp lw (fun z=>{ x0 with f_From:=z }) (c_aggregate_Range_f_From x0)) (fun z=>{ x0.f_From with f_V:=z }) (c_api_Addr_f_V x0.f_From)) rfl)) ?_
   refine gy ?_
   refine fa 17 underlying112 rfl sizeOf36 ?_
   refine gy ?_
   refine fa 0 underlying36 rfl sizeOf3 ?_
   refine gy ?_
   refine aw (r_load_cell isAgg3 rfl (lens_cell0 (c:=(cInt .i64)) (y:=x0.f_To.f_V) .z (Lens.comp (Lens.comp lw (fun z=>{ x0 with f_To:=z }) (c_aggregate_Range_f_To x0)) (fun z=>{ x0.f_To with f_V:=z }) (c_api_Addr_f_V x0.f_To)) rfl)) ?_
   refine gy ?_
   refine aw xq (aw xp (am ?_))
   obtain ⟨h6,hF⟩|⟨h6,hF⟩:=oi hF
   ·refine fx 20 h6 ?_
    refine gy ?_
    refine fa 17 underlying112 rfl sizeOf36 ?_
    refine gy ?_
    refine aw (r_load_aggc (c:=c_api_Addr) (z:=x0.f_To) isAgg36 sizeOf36 rfl (lens_cell .z (Lens.comp lw (fun z=>{ x0 with f_To:=z }) (c_aggregate_Range_f_To x0)))) ?_
    refine gy ?_
    refine fa 0 underlying112 rfl sizeOf36 ?_
    refine gy ?_
    refine aw (r_load_aggc (c:=c_api_Addr) (z:=x0.f_From) isAgg36 sizeOf36 rfl (lens_cell .z (Lens.comp lw (fun z=>{ x0 with f_From:=z }) (c_aggregate_Range_f_From x0)))) ?_
    refine gy ?_
    obtain ⟨t7,ht7,hF⟩:=bM hF
    refine cB func92 rfl (fun w hw=>addr_Less_ok _ _ _ ht7 w) ?_
    refine gy ?_
    refine aw (r_not rfl) ?_
    refine aw xp (aa (qn (dz (wq [2] ?_))))
    refine tn (qt ?_)
    have K:=os hF
    subst K
    exact r1 wb
   refine fx 20 h6 ?_
   refine gn ?_
   refine gn ?_
   refine gn ?_
   refine gn ?_
   refine gn ?_
   refine gn ?_
   refine aw xp (aa (qn (dz (wq [2] ?_))))
   refine tn (qt ?_)
   have K:=os hF
   subst K
   exact r1 wb
  refine fx 11 h5 ?_
  refine gn ?_
  refine gn ?_
  refine gn ?_
  refine gn ?_
  refine gn ?_
  refine gn ?_
  refine gn ?_
  refine aw xp (am ?_)
  refine gn ?_
  refine gn ?_
  refine gn ?_
  refine gn ?_
  refine gn ?_
  refine gn ?_
  refine aw xp (aa (qn (dz (wq [2] ?_))))
  refine tn (qt ?_)
  have K:=os hF
  subst K
  exact r1 wb
 refine fx 6 h3 ?_
 refine gn ?_
 refine gn ?_
 refine gn ?_
 refine aw xp (am ?_)
 refine gn ?_
 refine gn ?_
 refine gn ?_
 refine gn ?_
 refine gn ?_
 refine gn ?_
 refine gn ?_
 refine aw xp (am ?_)
 refine gn ?_
 refine gn ?_
 refine gn ?_
 refine gn ?_
 refine gn ?_
 refine gn ?_
 refine aw xp (aa (qn (dz (wq [2] ?_))))
 refine tn (qt ?_)
 have K:=os hF
 subst K
 exact r1 wb
def aggregate_Next.l0(i5:Int)(i6:S_api_Addr):Option (Ctl (S_api_Addr×Bool) (Unit)) :=
 if (decide (i5≥0))=true then (if (0:Int)≤i5∧i5<16 then if (0:Int)≤i5∧i5<16 then if (0:Int)≤i5∧i5<16 then if (vget (({ i6 with f_B:=vset i6.f_B i5 (wr .u8 ((vget i6.f_B i5)+1)) }).f_B) i5 != (0:Int))=true then (some (.ret ({ i6 with f_B:=vset i6.f_B i5 (wr .u8 ((vget i6.f_B i5)+1)) },true))) else (aggregate_Next.l0 (wr .i64 (i5-1)) ({ i6 with f_B:=vset i6.f_B i5 (wr .u8 ((vget i6.f_B i5)+1)) })) else none else none else none) else (some (.nx ()))
 partial_fixpoint
def aggregate_Next(x0:S_api_Addr):Option (S_api_Addr×Bool) :=
 addr_Width x0>>=fun t3=>aggregate_Next.l0 (wr .i64 ((ishr .i64 t3 3)-1)) x0>>=fun q4=>match q4 with | .ret r'=>some r' | .nx sq4=>(some (({ f_V:=(0:Int),f_B:=(Vector.replicate 16 (0:Int):(Vector Int 16)) }:S_api_Addr),false))
theorem aggregate_Next_ok(x0:S_api_Addr)(r:S_api_Addr×Bool)(hF:aggregate_Next x0=some r)(w:World) :
    Calls Tryz.prog 108 #[.agg (Cd.cs c_api_Addr x0).toArray] w (fun e w'=>e=.returned (.tuple #[.agg (Cd.cs c_api_Addr r.1).toArray,.bool r.2])∧Below w.heap.size w w'):=by
 unfold aggregate_Next at hF
 refine ce (l:=[.agg (Cd.cs c_api_Addr x0).toArray]) func108 rfl rfl ?_
 refine at_start ?_
 refine sr ?_
 refine at_box (cs:=Cd.cs c_api_Addr x0) rfl rfl rfl ?_
 intro b1
 refine al (cs:=Cd.cs c_api_Addr zv1) zeroValue36 ?_
 intro b2
 refine aa (nt (qs (sr ?_)))
 refine aw (r_load_aggc (c:=c_api_Addr) (z:=x0) isAgg36 sizeOf36 rfl (lens_cell (.s .z) lw)) ?_
 obtain ⟨t3,ht3,hF⟩:=bM hF
 refine cB func118 rfl (fun w hw=>addr_Width_ok _ _ ht3 w) ?_
 refine aw (r_ishr rfl rfl (by decide)) ?_
 refine aw (r_isub rfl rfl) ?_
 refine aa (nwq [4,2,1] ?_)
 refine qb ?_
 obtain ⟨q4,hq4,hF⟩:=bM hF
 refine wq [4,2,1] ?_
 refine at_loop_r (B:=0) (r:=r) (q:=q4) (A:=fun (_:Unit) Y=>At 27 [(2,.pointer (some ⟨b2,0,none⟩))] (Wd w [cellsE b2 (Cd.cs c_api_Addr zv1) 36]) Y) ?_ ?_
 ·intro K
  refine aggregate_Next.l0.partial_correctness  (motive:=fun i5 i6 x=>KR (fun (_:Unit) Y=>At 27 [(2,.pointer (some ⟨b2,0,none⟩))] (Wd w [cellsE b2 (Cd.cs c_api_Addr zv1) 36]) Y) _ 0 r x→Round (fun Y=>At 27 [(1,.pointer (some ⟨b1,0,none⟩)),(2,.pointer (some ⟨b2,0,none⟩)),(4,.int .i64 i5)] (Wd w [cellsE b2 (Cd.cs c_api_Addr zv1) 36,cellsE b1 (Cd.cs c_api_Addr i6) 36]) Y) _ _ _) ?_ _ _ _ hq4 K
  ·clear K hF
   intro g ih i5 i6 x hF K
   refine at_round ?_
   refine qs (sr (am ?_))
   refine aw (r_igeq rfl rfl) ?_
   refine nwq [10,4,2,1] ?_
   obtain ⟨h7,hF⟩|⟨h7,hF⟩:=oi hF
   ·refine ct h7 ?_
    refine sn (qs ?_)
    refine qb ?_
    refine sr (am (fa 1 underlying36 rfl sizeOf34 ?_))
    obtain ⟨h8,hF⟩:=gd hF
    refine aw (r_idxArr underlying34 sizeOf5 rfl rfl h8) ?_
    refine aw (r_load_cell isAgg5 rfl (lens_cell0 (c:=(cInt .u8)) (y:=vget i6.f_B i5) (.s .z) (Lens.comp (Lens.comp lw (fun z=>{ i6 with f_B:=z }) (c_api_Addr_f_B i6)) (fun z=>vset i6.f_B i5 z) (Lens.vec (cInt .u8) (by decide) i6.f_B i5 h8)) rfl)) ?_
    refine aw xa (fa 1 underlying36 rfl sizeOf34 ?_)
    obtain ⟨h9,hF⟩:=gd hF
    refine aw (r_idxArr underlying34 sizeOf5 rfl rfl h9) ?_
    refine at_store (c:=(cInt .u8)) (z:=wr .u8 ((vget i6.f_B i5)+1)) (.s .z) (Lens.comp (Lens.comp lw (fun z=>{ i6 with f_B:=z }) (c_api_Addr_f_B i6)) (fun z=>vset i6.f_B i5 z) (Lens.vec (cInt .u8) (by decide) i6.f_B i5 h9)) sizeOf5 rfl rfl rfl ?_
    refine ns (am (fa 1 underlying36 rfl sizeOf34 ?_))
    obtain ⟨h10,hF⟩:=gd hF
    refine aw (r_idxArr underlying34 sizeOf5 rfl rfl h10) ?_
    refine aw (r_load_cell isAgg5 rfl (lens_cell0 (c:=(cInt .u8)) (y:=vget (({ i6 with f_B:=vset i6.f_B i5 (wr .u8 ((vget i6.f_B i5)+1)) }).f_B) i5) (.s .z) (Lens.comp (Lens.comp lw (fun z=>{ { i6 with f_B:=vset i6.f_B i5 (wr .u8 ((vget i6.f_B i5)+1)) } with f_B:=z }) (c_api_Addr_f_B ({ i6 with f_B:=vset i6.f_B i5 (wr .u8 ((vget i6.f_B i5)+1)) }))) (fun z=>vset (({ i6 with f_B:=vset i6.f_B i5 (wr .u8 ((vget i6.f_B i5)+1)) }).f_B) i5 z) (Lens.vec (cInt .u8) (by decide) (({ i6 with f_B:=vset i6.f_B i5 (wr .u8 ((vget i6.f_B i5)+1)) }).f_B) i5 h10)) rfl)) ?_
    refine aw xn (nwq [24,4,2,1] ?_)
    obtain ⟨h11,hF⟩|⟨h11,hF⟩:=oi hF
    ·refine ct h11 ?_
     refine sr ?_
     refine aw (r_load_aggc (c:=c_api_Addr) (z:={ i6 with f_B:=vset i6.f_B i5 (wr .u8 ((vget i6.f_B i5)+1)) }) isAgg36 sizeOf36 rfl (lens_cell (.s .z) lw)) ?_
     refine at_store (c:=c_api_Addr) (z:={ i6 with f_B:=vset i6.f_B i5 (wr .u8 ((vget i6.f_B i5)+1)) }) .z lw sizeOf36 rfl rfl rfl ?_
     refine aa (qn ?_)
     refine at_drop (H:=_) (.s .z) ?_
     refine wq [3,2] ?_
     refine tn (qt ?_)
     refine br (tr (tr (br (tr ?_))))
     obtain rfl:=os hF
     subst K
     exact at_res2 rfl (res_cell (c:=c_api_Addr) (y:={ i6 with f_B:=vset i6.f_B i5 (wr .u8 ((vget i6.f_B i5)+1)) }) rfl .z lw isAgg36 sizeOf36 (.inl rfl)) (res_tmp rfl) wb
    refine cf h11 ?_
    refine at_skip ?_
    refine bm ?_
    refine qr (am ?_)
    refine aw (r_isub rfl rfl) ?_
    refine aa (nwq [4,2,1] ?_)
    exact at_weak_k (ih _ _ _ hF K) ⟨rfl,rfl,rfl,trivial⟩
   refine cf h7 ?_
   refine at_exit ?_
   refine te (te ?_)
   refine at_drop (H:=_) (.s .z) ?_
   obtain rfl:=os hF
   exact at_weak_k K ⟨rfl,trivial⟩
 cases q4 with
 | ret r'=>exact os hF
 | nx sq4 =>
  skip
  refine at_blk_same ?_
  refine tn (sr ?_)
  refine aw (r_build_struct (zs:=Cd.cs c_api_Addr zv1) (cs:=Cd.cs c_api_Addr zv1) underlying36 zeroValue36 rfl (places_api_Addr_36) rfl rfl) ?_
  refine at_store (c:=c_api_Addr) (z:=zv1) .z lw sizeOf36 rfl rfl rfl ?_
  refine aa (nwq [3,2] ?_)
  refine qt ?_
  have K:=os hF
  subst K
  exact at_res2 rfl (res_cell (c:=c_api_Addr) (y:=zv1) rfl .z lw isAgg36 sizeOf36 (.inl rfl)) (res_tmp rfl) wb
def aggregate_last.l0(x0:S_api_Prefix)(t4:Int)(i6:Int)(i7:S_api_Addr):Option (S_api_Addr) :=
 if (decide (i6<ishr .i64 t4 3))=true then (if (0:Int)≤i6∧i6<16 then if (0:Int)≤wr .u64 (if 8<(if wr .i64 (x0.f_Bits-(wr .i64 (8*i6)))<0 then 0 else wr .i64 (x0.f_Bits-(wr .i64 (8*i6)))) then 8 else (if wr .i64 (x0.f_Bits-(wr .i64 (8*i6)))<0 then 0 else wr .i64 (x0.f_Bits-(wr .i64 (8*i6))))) then if (0:Int)≤i6∧i6<16 then aggregate_last.l0 x0 t4 (wr .i64 (i6+1)) ({ i7 with f_B:=vset i7.f_B i6 (ior .u8 (vget i7.f_B i6) (ishr .u8 255 (wr .u64 (if 8<(if wr .i64 (x0.f_Bits-(wr .i64 (8*i6)))<0 then 0 else wr .i64 (x0.f_Bits-(wr .i64 (8*i6)))) then 8 else (if wr .i64 (x0.f_Bits-(wr .i64 (8*i6)))<0 then 0 else wr .i64 (x0.f_Bits-(wr .i64 (8*i6)))))))) }) else none else none else none) else (some i7)
 partial_fixpoint
def aggregate_last(x0:S_api_Prefix):Option (S_api_Addr) :=
 addr_Width x0.f_A>>=fun t4=>aggregate_last.l0 x0 t4 0 x0.f_A>>=fun q5=>some q5
theorem aggregate_last_ok(x0:S_api_Prefix)(r:S_api_Addr)(hF:aggregate_last x0=some r)(w:World) :
    Calls Tryz.prog 105 #[.agg (Cd.cs c_api_Prefix x0).toArray] w (fun e w'=>e=.returned (.agg (Cd.cs c_api_Addr r).toArray)∧Below w.heap.size w w'):=by
 unfold aggregate_last at hF
 refine ce (l:=[.agg (Cd.cs c_api_Prefix x0).toArray]) func105 rfl rfl ?_
 refine at_start ?_
 refine sr ?_
 refine at_box (cs:=Cd.cs c_api_Prefix x0) rfl rfl rfl ?_
 intro b1
 refine al (cs:=Cd.cs c_api_Addr zv1) zeroValue36 ?_
 intro b2
 refine ns (fa 0 underlying38 rfl sizeOf36 ?_)
 refine aw (r_load_aggc (c:=c_api_Addr) (z:=x0.f_A) isAgg36 sizeOf36 rfl (lens_cell (.s .z) (Lens.comp lw (fun z=>{ x0 with f_A:=z }) (c_api_Prefix_f_A x0)))) ?_
 refine al (cs:=Cd.cs c_api_Addr zv1) zeroValue36 ?_
 intro b3
 refine at_store (c:=c_api_Addr) (z:=x0.f_A) .z lw sizeOf36 rfl rfl rfl ?_
 refine nt (qs (sr ?_))
 refine aw (r_load_aggc (c:=c_api_Addr) (z:=x0.f_A) isAgg36 sizeOf36 rfl (lens_cell .z lw)) ?_
 obtain ⟨t4,ht4,hF⟩:=bM hF
 refine cB func118 rfl (fun w hw=>addr_Width_ok _ _ ht4 w) ?_
 refine aw (r_ishr rfl rfl (by decide)) ?_
 refine am (nwq [11,10,3,2,1] ?_)
 refine qb ?_
 obtain ⟨q5,hq5,hF⟩:=bM hF
 refine wq [11,10,3,2,1] ?_
 refine at_loop_n (B:=0) (A:=fun Y=>At 33 [(2,.pointer (some ⟨b2,0,none⟩)),(3,.pointer (some ⟨b3,0,none⟩))] (Wd w [cellsE b3 (Cd.cs c_api_Addr q5) 36,cellsE b2 (Cd.cs c_api_Addr zv1) 36]) Y) ?_ ?_
 ·intro K
  refine aggregate_last.l0.partial_correctness x0 t4 (motive:=fun i6 i7 x=>KN (fun Y=>At 33 [(2,.pointer (some ⟨b2,0,none⟩)),(3,.pointer (some ⟨b3,0,none⟩))] (Wd w [cellsE b3 (Cd.cs c_api_Addr x) 36,cellsE b2 (Cd.cs c_api_Addr zv1) 36]) Y) _ 0→Round (fun Y=>At 33 [(1,.pointer (some ⟨b1,0,none⟩)),(2,.pointer (some ⟨b2,0,none⟩)),(3,.pointer (some ⟨b3,0,none⟩)),(10,.int .i64 (ishr .i64 t4 3)),(11,.int .i64 i6)] (Wd w [cellsE b3 (Cd.cs c_api_Addr i7) 36,cellsE b2 (Cd.cs c_api_Addr zv1) 36,cellsE b1 (Cd.cs c_api_Prefix x0) 38]) Y) _ _ _) ?_ _ _ _ hq5 K
  ·clear K hF
   intro g ih i6 i7 x hF K
   refine at_round ?_
   refine sr (aw xl (nwq [12,11,10,3,2,1] ?_))
   refine qs ?_
   obtain ⟨h8,hF⟩|⟨h8,hF⟩:=oi hF
   ·refine ct h8 ?_
    refine sn (qs ?_)
    refine qb ?_
    refine sr (am (aa (ns (fa 17 underlying38 rfl sizeOf3 ?_))))
    refine aw (r_load_cell isAgg3 rfl (lens_cell0 (c:=(cInt .i64)) (y:=x0.f_Bits) (.s (.s .z)) (Lens.comp lw (fun z=>{ x0 with f_Bits:=z }) (c_api_Prefix_f_Bits x0)) rfl)) ?_
    refine am ?_
    refine aw (r_imul rfl rfl) ?_
    refine aw (r_isub rfl rfl) ?_
    refine aw (r_max rfl rfl) ?_
    refine aw (r_min rfl rfl) ?_
    refine aa (nt (qr (am (fa 1 underlying36 rfl sizeOf34 ?_))))
    obtain ⟨h9,hF⟩:=gd hF
    refine aw (r_idxArr underlying34 sizeOf5 rfl rfl h9) ?_
    refine aw (r_load_cell isAgg5 rfl (lens_cell0 (c:=(cInt .u8)) (y:=vget i7.f_B i6) .z (Lens.comp (Lens.comp lw (fun z=>{ i7 with f_B:=z }) (c_api_Addr_f_B i7)) (fun z=>vset i7.f_B i6 z) (Lens.vec (cInt .u8) (by decide) i7.f_B i6 h9)) rfl)) ?_
    refine am ?_
    refine aw (r_conv underlying3 underlying119 rfl) ?_
    obtain ⟨h10,hF⟩:=gd hF
    refine aw (r_ishr rfl rfl h10) ?_
    refine aw (r_ior rfl rfl) ?_
    refine fa 1 underlying36 rfl sizeOf34 ?_
    obtain ⟨h11,hF⟩:=gd hF
    refine aw (r_idxArr underlying34 sizeOf5 rfl rfl h11) ?_
    refine at_store (c:=(cInt .u8)) (z:=ior .u8 (vget i7.f_B i6) (ishr .u8 255 (wr .u64 (if 8<(if wr .i64 (x0.f_Bits-(wr .i64 (8*i6)))<0 then 0 else wr .i64 (x0.f_Bits-(wr .i64 (8*i6)))) then 8 else (if wr .i64 (x0.f_Bits-(wr .i64 (8*i6)))<0 then 0 else wr .i64 (x0.f_Bits-(wr .i64 (8*i6)))))))) .z (Lens.comp (Lens.comp lw (fun z=>{ i7 with f_B:=z }) (c_api_Addr_f_B i7)) (fun z=>vset i7.f_B i6 z) (Lens.vec (cInt .u8) (by decide) i7.f_B i6 h11)) sizeOf5 rfl rfl rfl ?_
    refine qn (wq [11,10,3,2,1] ?_)
    refine bm ?_
    refine qr (aw xa (am (nwq [11,10,3,2,1] ?_)))
    exact at_weak_k (ih _ _ _ hF K) ⟨rfl,rfl,rfl,rfl,rfl,trivial⟩
   refine cf h8 ?_
   refine at_exit ?_
   refine te (te ?_)
   refine at_drop (H:=_) (.s (.s .z)) ?_
   obtain rfl:=os hF
   exact at_weak_k K ⟨rfl,rfl,trivial⟩
 skip
 skip
 refine at_blk_same ?_
 refine tn (sr ?_)
 refine aw (r_load_aggc (c:=c_api_Addr) (z:=q5) isAgg36 sizeOf36 rfl (lens_cell .z lw)) ?_
 refine at_store (c:=c_api_Addr) (z:=q5) (.s .z) lw sizeOf36 rfl rfl rfl ?_
 refine qn (dz (wq [2] ?_))
 refine tn (qt ?_)
 have K:=os hF
 subst K
 exact at_res1 rfl (res_cell (c:=c_api_Addr) (y:=q5) rfl .z lw isAgg36 sizeOf36 (.inl rfl)) wb
def aggregate_low.l0(x0:S_api_Addr)(i4:Int)(i5:Int):Option (Int) :=
 if (decide (i5≥0))=true then (addr_Bit x0 i5>>=fun t7=>if (t7==0)=true then (aggregate_low.l0 x0 (wr .i64 (i4+1)) (wr .i64 (i5-1))) else (some i4)) else (some i4)
 partial_fixpoint
def aggregate_low(x0:S_api_Addr):Option (Int) :=
 addr_Width x0>>=fun t2=>aggregate_low.l0 x0 0 (wr .i64 (t2-1))>>=fun q3=>some q3
theorem aggregate_low_ok(x0:S_api_Addr)(r:Int)(hF:aggregate_low x0=some r)(w:World) :
    Calls Tryz.prog 130 #[.agg (Cd.cs c_api_Addr x0).toArray] w (fun e w'=>e=.returned (.int .i64 r)∧Below w.heap.size w w'):=by
 unfold aggregate_low at hF
 refine ce (l:=[.agg (Cd.cs c_api_Addr x0).toArray]) func130 rfl rfl ?_
 refine at_start ?_
 refine sr ?_
 refine at_box (cs:=Cd.cs c_api_Addr x0) rfl rfl rfl ?_
 intro b1
 refine aa (ns (aa (nt (qs (sr ?_)))))
 refine aw (r_load_aggc (c:=c_api_Addr) (z:=x0) isAgg36 sizeOf36 rfl (lens_cell .z lw)) ?_
 obtain ⟨t2,ht2,hF⟩:=bM hF
 refine cB func118 rfl (fun w hw=>addr_Width_ok _ _ ht2 w) ?_
 refine aw (r_isub rfl rfl) ?_
 refine aa (nwq [4,3,1] ?_)
 refine qb ?_
 obtain ⟨q3,hq3,hF⟩:=bM hF
 refine wq [4,3,1] ?_
 refine at_loop_n (B:=0) (A:=fun Y=>At 21 [(3,.int .i64 q3)] (Wd w []) Y) ?_ ?_
 ·intro K
  refine aggregate_low.l0.partial_correctness x0 (motive:=fun i4 i5 x=>KN (fun Y=>At 21 [(3,.int .i64 x)] (Wd w []) Y) _ 0→Round (fun Y=>At 21 [(1,.pointer (some ⟨b1,0,none⟩)),(3,.int .i64 i4),(4,.int .i64 i5)] (Wd w [cellsE b1 (Cd.cs c_api_Addr x0) 36]) Y) _ _ _) ?_ _ _ _ hq3 K
  ·clear K hF
   intro g ih i4 i5 x hF K
   refine at_round ?_
   refine qs (sr (am ?_))
   refine aw (r_igeq rfl rfl) ?_
   refine am ?_
   obtain ⟨h6,hF⟩|⟨h6,hF⟩:=oi hF
   ·refine fx 10 h6 ?_
    refine gy ?_
    refine aw (r_load_aggc (c:=c_api_Addr) (z:=x0) isAgg36 sizeOf36 rfl (lens_cell .z lw)) ?_
    refine gy ?_
    refine am ?_
    refine gy ?_
    obtain ⟨t7,ht7,hF⟩:=bM hF
    refine cB func164 rfl (fun w hw=>addr_Bit_ok _ _ _ ht7 w) ?_
    refine gy ?_
    refine aw xq (aw xp (nwq [15,4,3,1] ?_))
    obtain ⟨h8,hF⟩|⟨h8,hF⟩:=oi hF
    ·refine ct h8 ?_
     refine sn (qs ?_)
     refine qb ?_
     refine qr (am (aw xa (aa (qn (wq [4,3,1] ?_)))))
     refine bm ?_
     refine qr (am ?_)
     refine aw (r_isub rfl rfl) ?_
     refine aa (nwq [4,3,1] ?_)
     exact at_weak_k (ih _ _ _ hF K) ⟨rfl,rfl,rfl,trivial⟩
    refine cf h8 ?_
    refine at_exit ?_
    refine te (te ?_)
    refine dz ?_
    obtain rfl:=os hF
    exact at_weak_k K ⟨rfl,trivial⟩
   refine fx 10 h6 ?_
   refine gn ?_
   refine gn ?_
   refine gn ?_
   refine gn ?_
   refine aw xp (nwq [15,4,3,1] ?_)
   refine cf rfl ?_
   refine at_exit ?_
   refine te (te ?_)
   refine dz ?_
   obtain rfl:=os hF
   exact at_weak_k K ⟨rfl,trivial⟩
 skip
 skip
 refine at_blk_same ?_
 refine tn (sr (am (aa (nwq [2] ?_))))
 refine qt ?_
 have K:=os hF
 subst K
 exact r1 wb
def aggregate_greatest.l0(x0:S_api_Addr)(x1:S_api_Addr)(i9:Int)(i10:S_api_Prefix):Option (S_api_Prefix) :=
 aggregate_last i10>>=fun t11=>addr_Less x1 t11>>=fun t12=>if t12=true then (cidr_Of x0 (wr .i64 (i9+1))>>=fun t14=>aggregate_greatest.l0 x0 x1 (wr .i64 (i9+1)) t14.1) else (some i10)
 partial_fixpoint
def aggregate_greatest(x0:S_api_Addr)(x1:S_api_Addr):Option (S_api_Prefix) :=
 addr_Width x0>>=fun t4=>aggregate_low x0>>=fun t5=>cidr_Of x0 (wr .i64 (t4-t5))>>=fun t6=>aggregate_greatest.l0 x0 x1 (wr .i64 (t4-t5)) t6.1>>=fun q8=>some q8
theorem aggregate_greatest_ok(x0:S_api_Addr)(x1:S_api_Addr)(r:S_api_Prefix)(hF:aggregate_greatest x0 x1=some r)(w:World) :
    Calls Tryz.prog 107 #[.agg (Cd.cs c_api_Addr x0).toArray,.agg (Cd.cs c_api_Addr x1).toArray] w (fun e w'=>e=.returned (.agg (Cd.cs c_api_Prefix r).toArray)∧Below w.heap.size w w'):=by
 unfold aggregate_greatest at hF
 refine ce (l:=[.agg (Cd.cs c_api_Addr x0).toArray,.agg (Cd.cs c_api_Addr x1).toArray]) func107 rfl rfl ?_
 refine at_start ?_
 refine sr ?_
 refine at_box (cs:=Cd.cs c_api_Addr x0) rfl rfl rfl ?_
 intro b1
 refine at_box (cs:=Cd.cs c_api_Addr x1) rfl rfl rfl ?_
 intro b2
 refine al (cs:=Cd.cs c_api_Prefix zv8) zeroValue38 ?_
 intro b3
 refine ns ?_
 refine aw (r_load_aggc (c:=c_api_Addr) (z:=x0) isAgg36 sizeOf36 rfl (lens_cell (.s (.s .z)) lw)) ?_
 obtain ⟨t4,ht4,hF⟩:=bM hF
 refine cB func118 rfl (fun w hw=>addr_Width_ok _ _ ht4 w) ?_
 refine aa (ns (am ?_))
 refine aw (r_load_aggc (c:=c_api_Addr) (z:=x0) isAgg36 sizeOf36 rfl (lens_cell (.s (.s .z)) lw)) ?_
 obtain ⟨t5,ht5,hF⟩:=bM hF
 refine cB func130 rfl (fun w hw=>aggregate_low_ok _ _ ht5 w) ?_
 refine aw (r_isub rfl rfl) ?_
 refine aa (ns ?_)
 refine aw (r_load_aggc (c:=c_api_Addr) (z:=x0) isAgg36 sizeOf36 rfl (lens_cell (.s (.s .z)) lw)) ?_
 refine am ?_
 obtain ⟨t6,ht6,hF⟩:=bM hF
 refine cB func86 rfl (fun w hw=>cidr_Of_ok _ _ _ ht6 w) ?_
 refine am ?_
 refine aw xe (aw xe ?_)
 refine al (cs:=Cd.cs c_api_Prefix zv8) zeroValue38 ?_
 intro b7
 refine at_store (c:=c_api_Prefix) (z:=t6.1) .z lw sizeOf38 rfl rfl rfl ?_
 refine aa (nwq [7,6,4,3,2] ?_)
 refine qs ?_
 refine qb ?_
 obtain ⟨q8,hq8,hF⟩:=bM hF
 refine wq [7,6,4,3,2] ?_
 refine at_loop_n (B:=0) (A:=fun Y=>At 34 [(4,.pointer (some ⟨b3,0,none⟩)),(7,.pointer (some ⟨b7,0,none⟩))] (Wd w [cellsE b7 (Cd.cs c_api_Prefix q8) 38,cellsE b3 (Cd.cs c_api_Prefix zv8) 38]) Y) ?_ ?_
 ·intro K
  refine aggregate_greatest.l0.partial_correctness x0 x1 (motive:=fun i9 i10 x=>KN (fun Y=>At 34 [(4,.pointer (some ⟨b3,0,none⟩)),(7,.pointer (some ⟨b7,0,none⟩))] (Wd w [cellsE b7 (Cd.cs c_api_Prefix x) 38,cellsE b3 (Cd.cs c_api_Prefix zv8) 38]) Y) _ 0→Round (fun Y=>At 34 [(2,.pointer (some ⟨b1,0,none⟩)),(3,.pointer (some ⟨b2,0,none⟩)),(4,.pointer (some ⟨b3,0,none⟩)),(6,.int .i64 i9),(7,.pointer (some ⟨b7,0,none⟩))] (Wd w [cellsE b7 (Cd.cs c_api_Prefix i10) 38,cellsE b3 (Cd.cs c_api_Prefix zv8) 38,cellsE b2 (Cd.cs c_api_Addr x1) 36,cellsE b1 (Cd.cs c_api_Addr x0) 36]) Y) _ _ _) ?_ _ _ _ hq8 K
  ·clear K hF
   intro g ih i9 i10 x hF K
   refine at_round ?_
   refine qs (qs ?_)
   refine at_draw (by kernel_rfl) (by kernel_rfl) (fun _ h=>h.drew) ?_
   refine atq_val rfl rfl rfl (r_load_aggc (c:=c_api_Addr) (z:=x1) isAgg36 sizeOf36 rfl (lens_cell (.s (.s .z)) lw)) ?_
   refine atq_val rfl rfl rfl (r_load_aggc (c:=c_api_Prefix) (z:=i10) isAgg38 sizeOf38 rfl (lens_cell .z lw)) ?_
   obtain ⟨t11,ht11,hF⟩:=bM hF
   refine atq_call func105 rfl (by kernel_rfl) rfl rfl (fun w hw=>(aggregate_last_ok _ _ ht11 w).mono fun _ _ h=>⟨h.1,hw.call h.2⟩) ?_
   obtain ⟨t12,ht12,hF⟩:=bM hF
   refine atq_call func92 rfl (by kernel_rfl) rfl rfl (fun w hw=>(addr_Less_ok _ _ _ ht12 w).mono fun _ _ h=>⟨h.1,hw.call h.2⟩) ?_
   refine atq_nil ?_
   refine wq [24,7,6,4,3,2] ?_
   refine tn ?_
   obtain ⟨h13,hF⟩|⟨h13,hF⟩:=oi hF
   ·refine ct h13 ?_
    refine sn ?_
    refine qb ?_
    refine sr (am (aw xa (aa (nt (qr ?_)))))
    refine aw (r_load_aggc (c:=c_api_Addr) (z:=x0) isAgg36 sizeOf36 rfl (lens_cell (.s (.s (.s .z))) lw)) ?_
    refine am ?_
    obtain ⟨t14,ht14,hF⟩:=bM hF
    refine cB func86 rfl (fun w hw=>cidr_Of_ok _ _ _ ht14 w) ?_
    refine am ?_
    refine aw xe (aw xe ?_)
    refine at_store (c:=c_api_Prefix) (z:=t14.1) .z lw sizeOf38 rfl rfl rfl ?_
    refine qn (wq [7,6,4,3,2] ?_)
    refine bm ?_
    exact at_weak_k (ih _ _ _ hF K) ⟨rfl,rfl,rfl,rfl,rfl,trivial⟩
   refine cf h13 ?_
   refine at_exit ?_
   refine te (te ?_)
   refine at_drop (H:=_) (.s (.s .z)) ?_
   refine at_drop (H:=_) (.s (.s .z)) ?_
   obtain rfl:=os hF
   exact at_weak_k K ⟨rfl,rfl,trivial⟩
 skip
 skip
 refine at_blk_same ?_
 refine tn (sr ?_)
 refine aw (r_load_aggc (c:=c_api_Prefix) (z:=q8) isAgg38 sizeOf38 rfl (lens_cell .z lw)) ?_
 refine at_store (c:=c_api_Prefix) (z:=q8) (.s .z) lw sizeOf38 rfl rfl rfl ?_
 refine qn (dz (wq [4] ?_))
 refine tn (qt ?_)
 have K:=os hF
 subst K
 exact at_res1 rfl (res_cell (c:=c_api_Prefix) (y:=q8) rfl .z lw isAgg38 sizeOf38 (.inl rfl)) wb
def aggregate_Prefixes.l0(x0:S_aggregate_Range)(i9:List S_api_Prefix)(i10:S_api_Addr):Option (List S_api_Prefix) :=
 aggregate_greatest i10 x0.f_To>>=fun t13=>if (i9.length+1)*32≤140737488355328 then aggregate_last t13>>=fun t19=>aggregate_Next t19>>=fun t20=>if (!t20.2)=true then (some (i9++[t13])) else (addr_Less x0.f_To t20.1>>=fun t23=>if t23=true then (some (i9++[t13])) else (aggregate_Prefixes.l0 x0 (i9++[t13]) t20.1)) else none
 partial_fixpoint
def aggregate_Prefixes(x0:S_aggregate_Range):Option (List S_api_Prefix) :=
 aggregate_Right x0>>=fun t2=>if (!t2)=true then (some ([])) else (aggregate_Prefixes.l0 x0 ([]:List S_api_Prefix) x0.f_From>>=fun q7=>some q7)
theorem aggregate_Prefixes_ok(x0:S_aggregate_Range)(r:List S_api_Prefix)(hF:aggregate_Prefixes x0=some r)(w:World) :
    Calls Tryz.prog 76 #[.agg (Cd.cs c_aggregate_Range x0).toArray] w (fun e w'=>∃ p cap,e=.returned (.slice p r.length cap)∧Own c_api_Prefix 38 w.heap.size w' p cap r∧Below w.heap.size w w'):=by
 unfold aggregate_Prefixes at hF
 refine ce (l:=[.agg (Cd.cs c_aggregate_Range x0).toArray]) func76 rfl rfl ?_
 refine at_start ?_
 refine sr ?_
 refine at_box (cs:=Cd.cs c_aggregate_Range x0) rfl rfl rfl ?_
 intro b1
 refine aa (nt (qs (sr ?_)))
 refine aw (r_load_aggc (c:=c_aggregate_Range) (z:=x0) isAgg112 sizeOf112 rfl (lens_cell .z lw)) ?_
 obtain ⟨t2,ht2,hF⟩:=bM hF
 refine cB func106 rfl (fun w hw=>aggregate_Right_ok _ _ ht2 w) ?_
 refine aw (r_not rfl) ?_
 refine nwq [10,1] ?_
 obtain ⟨h3,hF⟩|⟨h3,hF⟩:=oi hF
 ·refine ct h3 ?_
  refine sr (aa (qn (dz (wq [2] ?_))))
  refine tn (rt ?_)
  have K:=os hF
  subst K
  exact r1 (fun w1 hw=>⟨none,0,rfl,Own.nil _ _ _ _,hw.below⟩)
 refine cf h3 ?_
 refine sns (aa (ns (fa 0 underlying112 rfl sizeOf36 ?_)))
 refine aw (r_load_aggc (c:=c_api_Addr) (z:=x0.f_From) isAgg36 sizeOf36 rfl (lens_cell .z (Lens.comp lw (fun z=>{ x0 with f_From:=z }) (c_aggregate_Range_f_From x0)))) ?_
 refine al (cs:=Cd.cs c_api_Addr zv1) zeroValue36 ?_
 intro b4
 refine at_store (c:=c_api_Addr) (z:=x0.f_From) .z lw sizeOf36 rfl rfl rfl ?_
 refine nwq [4,3,1] ?_
 refine qb ?_
 refine at_own_nil c_api_Prefix 38 ?_
 obtain ⟨q7,hq7,hF⟩:=bM hF
 refine wq [4,3,1] ?_
 refine at_loop_only (r:=r) (q:=q7) ?_ ?_
 ·intro K
  refine aggregate_Prefixes.l0.partial_correctness x0 (motive:=fun i9 i10 x=>x=r→Round (fun Y=>∀ (p11:Option Addr) (c12:Nat),At 37 [(1,.pointer (some ⟨b1,0,none⟩)),(3,.slice p11 i9.length c12),(4,.pointer (some ⟨b4,0,none⟩))] (Wd w [rowE c_api_Prefix 38 p11 c12 i9,cellsE b4 (Cd.cs c_api_Addr i10) 36,cellsE b1 (Cd.cs c_aggregate_Range x0) 112]) Y) _ _ _) ?_ _ _ _ hq7 K none 0
  ·clear K hF
   intro g ih i9 i10 x hF K p11 c12
   refine at_round ?_
   refine qb ?_
   refine sr ?_
   refine aw (r_load_aggc (c:=c_api_Addr) (z:=i10) isAgg36 sizeOf36 rfl (lens_cell (.s .z) lw)) ?_
   refine fa 17 underlying112 rfl sizeOf36 ?_
   refine aw (r_load_aggc (c:=c_api_Addr) (z:=x0.f_To) isAgg36 sizeOf36 rfl (lens_cell (.s (.s .z)) (Lens.comp lw (fun z=>{ x0 with f_To:=z }) (c_aggregate_Range_f_To x0)))) ?_
   obtain ⟨t13,ht13,hF⟩:=bM hF
   refine cB func107 rfl (fun w hw=>aggregate_greatest_ok _ _ _ ht13 w) ?_
   refine al (cs:=Cd.cs c_api_Prefix zv8) zeroValue38 ?_
   intro b14
   refine at_store (c:=c_api_Prefix) (z:=t13) .z lw sizeOf38 rfl rfl rfl ?_
   refine ns (am ?_)
   refine aw (r_load_aggc (c:=c_api_Prefix) (z:=t13) isAgg38 sizeOf38 rfl (lens_cell .z lw)) ?_
   refine at_litL (c:=c_api_Prefix) ([zv8]:List S_api_Prefix) ([t13]:List S_api_Prefix) underlying58 sizeOf38 zeroValue38 rfl rfl rfl (by kernel_rfl) (fill_step (c:=c_api_Prefix) (z:=t13) rfl (Lens.all c_api_Prefix ([zv8]:List S_api_Prefix) 0 (by first | decide | exact Nat.le_of_ble_eq_true rfl)) rfl rfl) rfl ?_
   intro b15
   obtain ⟨h16,hF⟩:=gd hF
   refine at_append (z:=.agg (Cd.cs c_api_Prefix zv8).toArray) (c:=c_api_Prefix) (ys:=([t13]:List S_api_Prefix)) (.s (.s .z)) underlying58 infoA238 (by kernel_rfl) (by kernel_rfl) rfl rfl rfl rfl (fun _ hw=>cells_src (hw.ok (Upd.mem .z))) (by kernel_rfl) h16 (app_small h16) rfl ?_
   intro p17 c18
   refine aa (qn (dz (tn (sr ?_))))
   refine aw (r_load_aggc (c:=c_api_Prefix) (z:=t13) isAgg38 sizeOf38 rfl (lens_cell .z lw)) ?_
   obtain ⟨t19,ht19,hF⟩:=bM hF
   refine cB func105 rfl (fun w hw=>aggregate_last_ok _ _ ht19 w) ?_
   obtain ⟨t20,ht20,hF⟩:=bM hF
   refine cB func108 rfl (fun w hw=>aggregate_Next_ok _ _ ht20 w) ?_
   refine am ?_
   refine aw xe (aw xe ?_)
   refine al (cs:=Cd.cs c_api_Addr zv1) zeroValue36 ?_
   intro b21
   refine at_store (c:=c_api_Addr) (z:=t20.1) .z lw sizeOf36 rfl rfl rfl ?_
   refine aa (qn ?_)
   refine at_drop (H:=_) (.s .z) ?_
   refine wq [7,6,4,3,1] ?_
   refine tn (qs (sr (am ?_)))
   refine aw (r_not rfl) ?_
   refine am ?_
   obtain ⟨h22,hF⟩|⟨h22,hF⟩:=oi hF
   ·refine fx 29 h22 ?_
    refine gn ?_
    refine gn ?_
    refine gn ?_
    refine gn ?_
    refine aw xp (nwq [34,6,4,3,1] ?_)
    refine ct rfl ?_
    refine sr (am (aa (qn (dz ?_))))
    refine at_drop (H:=_) (.s .z) ?_
    refine at_drop (H:=_) (.s .z) ?_
    refine wq [2] ?_
    refine tn (qt ?_)
    refine tr (br (tr (br ?_)))
    obtain rfl:=os hF
    subst K
    exact r1 (fun w1 hw=>⟨p17,c18,rfl,hw.own .z,hw.below⟩)
   refine fx 29 h22 ?_
   refine gy ?_
   refine fa 17 underlying112 rfl sizeOf36 ?_
   refine gy ?_
   refine aw (r_load_aggc (c:=c_api_Addr) (z:=x0.f_To) isAgg36 sizeOf36 rfl (lens_cell (.s (.s (.s .z))) (Lens.comp lw (fun z=>{ x0 with f_To:=z }) (c_aggregate_Range_f_To x0)))) ?_
   refine gy ?_
   refine aw (r_load_aggc (c:=c_api_Addr) (z:=t20.1) isAgg36 sizeOf36 rfl (lens_cell .z lw)) ?_
   refine gy ?_
   obtain ⟨t23,ht23,hF⟩:=bM hF
   refine cB func92 rfl (fun w hw=>addr_Less_ok _ _ _ ht23 w) ?_
   refine aw xp (nwq [34,6,4,3,1] ?_)
   obtain ⟨h24,hF⟩|⟨h24,hF⟩:=oi hF
   ·refine ct h24 ?_
    refine sr (am (aa (qn (dz ?_))))
    refine at_drop (H:=_) (.s .z) ?_
    refine at_drop (H:=_) (.s .z) ?_
    refine wq [2] ?_
    refine tn (qt ?_)
    refine tr (br (tr (br ?_)))
    obtain rfl:=os hF
    subst K
    exact r1 (fun w1 hw=>⟨p17,c18,rfl,hw.own .z,hw.below⟩)
   refine cf h24 ?_
   refine sn (qr ?_)
   refine aw (r_load_aggc (c:=c_api_Addr) (z:=t20.1) isAgg36 sizeOf36 rfl (lens_cell .z lw)) ?_
   refine at_store (c:=c_api_Addr) (z:=t20.1) (.s (.s .z)) lw sizeOf36 rfl rfl rfl ?_
   refine qn (dz (wq [4,3,1] ?_))
   refine bm ?_
   exact at_weak_k (ih _ _ _ hF K p17 c18) ⟨rfl,rfl,rfl,trivial⟩
 exact os hF
def aggregate_order(x0:S_api_Prefix)(x1:S_api_Prefix):Option (Int) :=
 cidr_Less x0 x1>>=fun t3=>if t3=true then (some (-1)) else (cidr_Less x1 x0>>=fun t5=>if t5=true then (some 1) else (some 0))
theorem aggregate_order_ok(x0:S_api_Prefix)(x1:S_api_Prefix)(r:Int)(hF:aggregate_order x0 x1=some r)(w:World) :
    Calls Tryz.prog 103 #[.agg (Cd.cs c_api_Prefix x0).toArray,.agg (Cd.cs c_api_Prefix x1).toArray] w (fun e w'=>e=.returned (.int .i64 r)∧Below w.heap.size w w'):=by
 unfold aggregate_order at hF
 refine ce (l:=[.agg (Cd.cs c_api_Prefix x0).toArray,.agg (Cd.cs c_api_Prefix x1).toArray]) func103 rfl rfl ?_
 refine at_start ?_
 refine sr ?_
 refine at_box (cs:=Cd.cs c_api_Prefix x0) rfl rfl rfl ?_
 intro b1
 refine at_box (cs:=Cd.cs c_api_Prefix x1) rfl rfl rfl ?_
 intro b2
 refine aa (nwq [3,2] ?_)
 refine qs ?_
 refine qb ?_
 refine sr ?_
 refine aw (r_load_aggc (c:=c_api_Prefix) (z:=x0) isAgg38 sizeOf38 rfl (lens_cell (.s .z) lw)) ?_
 refine aw (r_load_aggc (c:=c_api_Prefix) (z:=x1) isAgg38 sizeOf38 rfl (lens_cell .z lw)) ?_
 obtain ⟨t3,ht3,hF⟩:=bM hF
 refine cB func70 rfl (fun w hw=>cidr_Less_ok _ _ _ ht3 w) ?_
 refine aa (nwq [5,3,2] ?_)
 obtain ⟨h4,hF⟩|⟨h4,hF⟩:=oi hF
 ·refine ct h4 ?_
  refine sr (aa (qn (dz (dz (wq [4] ?_)))))
  refine tn (qt ?_)
  refine br (tr ?_)
  have K:=os hF
  subst K
  exact r1 wb
 refine cf h4 ?_
 refine sr ?_
 refine aw (r_load_aggc (c:=c_api_Prefix) (z:=x1) isAgg38 sizeOf38 rfl (lens_cell .z lw)) ?_
 refine aw (r_load_aggc (c:=c_api_Prefix) (z:=x0) isAgg38 sizeOf38 rfl (lens_cell (.s .z) lw)) ?_
 obtain ⟨t5,ht5,hF⟩:=bM hF
 refine cB func70 rfl (fun w hw=>cidr_Less_ok _ _ _ ht5 w) ?_
 refine aa (qn (dz (dz (wq [9] ?_))))
 refine tn ?_
 obtain ⟨h6,hF⟩|⟨h6,hF⟩:=oi hF
 ·refine ct h6 ?_
  refine sr (aa (nwq [4] ?_))
  refine qt ?_
  refine br (tr ?_)
  have K:=os hF
  subst K
  exact r1 wb
 refine cf h6 ?_
 refine at_skip ?_
 refine bm ?_
 refine sr (aa (nwq [4] ?_))
 refine qt ?_
 have K:=os hF
 subst K
 exact r1 wb
def aggregate_joins(x0:S_aggregate_Range)(x1:S_api_Prefix):Option (Bool) :=
 if (x0.f_From.f_V != x1.f_A.f_V)=true then (some false) else (aggregate_Next x0.f_To>>=fun t4=>if (!t4.2)=true then (some true) else (addr_Less t4.1 x1.f_A>>=fun t7=>some (!t7)))
theorem aggregate_joins_ok(x0:S_aggregate_Range)(x1:S_api_Prefix)(r:Bool)(hF:aggregate_joins x0 x1=some r)(w:World) :
    Calls Tryz.prog 104 #[.agg (Cd.cs c_aggregate_Range x0).toArray,.agg (Cd.cs c_api_Prefix x1).toArray] w (fun e w'=>e=.returned (.bool r)∧Below w.heap.size w w'):=by
 unfold aggregate_joins at hF
 refine ce (l:=[.agg (Cd.cs c_aggregate_Range x0).toArray,.agg (Cd.cs c_api_Prefix x1).toArray]) func104 rfl rfl ?_
 refine at_start ?_
 refine sr ?_
 refine at_box (cs:=Cd.cs c_aggregate_Range x0) rfl rfl rfl ?_
 intro b1
 refine at_box (cs:=Cd.cs c_api_Prefix x1) rfl rfl rfl ?_
 intro b2
 refine aa (nt (qs (sr (fa 0 underlying112 rfl sizeOf36 (fa 0 underlying36 rfl sizeOf3 ?_)))))
 refine aw (r_load_cell isAgg3 rfl (lens_cell0 (c:=(cInt .i64)) (y:=x0.f_From.f_V) (.s .z) (Lens.comp (Lens.comp lw (fun z=>{ x0 with f_From:=z }) (c_aggregate_Range_f_From x0)) (fun z=>{ x0.f_From with f_V:=z }) (c_api_Addr_f_V x0.f_From)) rfl)) ?_
 refine fa 0 underlying38 rfl sizeOf36 (fa 0 underlying36 rfl sizeOf3 ?_)
 refine aw (r_load_cell isAgg3 rfl (lens_cell0 (c:=(cInt .i64)) (y:=x1.f_A.f_V) .z (Lens.comp (Lens.comp lw (fun z=>{ x1 with f_A:=z }) (c_api_Prefix_f_A x1)) (fun z=>{ x1.f_A with f_V:=z }) (c_api_Addr_f_V x1.f_A)) rfl)) ?_
 refine aw xn (nwq [13,3,2] ?_)
 obtain ⟨h3,hF⟩|⟨h3,hF⟩:=oi hF
 ·refine ct h3 ?_
  refine sr (aa (qn (dz (dz (wq [4] ?_)))))
  refine tn (rt ?_)
  have K:=os hF
  subst K
  exact r1 wb
 refine cf h3 ?_
 refine sns (fa 17 underlying112 rfl sizeOf36 ?_)
 refine aw (r_load_aggc (c:=c_api_Addr) (z:=x0.f_To) isAgg36 sizeOf36 rfl (lens_cell (.s .z) (Lens.comp lw (fun z=>{ x0 with f_To:=z }) (c_aggregate_Range_f_To x0)))) ?_
 obtain ⟨t4,ht4,hF⟩:=bM hF
 refine cB func108 rfl (fun w hw=>aggregate_Next_ok _ _ ht4 w) ?_
 refine am ?_
 refine aw xe (aw xe ?_)
 refine al (cs:=Cd.cs c_api_Addr zv1) zeroValue36 ?_
 intro b5
 refine at_store (c:=c_api_Addr) (z:=t4.1) .z lw sizeOf36 rfl rfl rfl ?_
 refine aa (qn ?_)
 refine at_drop (H:=_) (.s (.s .z)) ?_
 refine wq [6,5,3] ?_
 refine tn (sr (am ?_))
 refine aw (r_not rfl) ?_
 refine am ?_
 obtain ⟨h6,hF⟩|⟨h6,hF⟩:=oi hF
 ·refine fx 22 h6 ?_
  refine gn ?_
  refine gn ?_
  refine gn ?_
  refine gn ?_
  refine gn ?_
  refine aw xp (aa (qn (dz (dz (wq [4] ?_)))))
  refine tn (qt ?_)
  have K:=os hF
  subst K
  exact r1 wb
 refine fx 22 h6 ?_
 refine gy ?_
 refine aw (r_load_aggc (c:=c_api_Addr) (z:=t4.1) isAgg36 sizeOf36 rfl (lens_cell .z lw)) ?_
 refine gy ?_
 refine fa 0 underlying38 rfl sizeOf36 ?_
 refine gy ?_
 refine aw (r_load_aggc (c:=c_api_Addr) (z:=x1.f_A) isAgg36 sizeOf36 rfl (lens_cell (.s .z) (Lens.comp lw (fun z=>{ x1 with f_A:=z }) (c_api_Prefix_f_A x1)))) ?_
 refine gy ?_
 obtain ⟨t7,ht7,hF⟩:=bM hF
 refine cB func92 rfl (fun w hw=>addr_Less_ok _ _ _ ht7 w) ?_
 refine gy ?_
 refine aw (r_not rfl) ?_
 refine aw xp (aa (qn (dz (dz (wq [4] ?_)))))
 refine tn (qt ?_)
 have K:=os hF
 subst K
 exact r1 wb
def crawlwayref53_last.l1(i6:Int)(i10:Int)(i11:Int):Option (Int) :=
 if (decide (i11<Int.tmod i6 8))=true then (crawlwayref53_last.l1 i6 (wr .i64 (Int.tdiv i10 2)) (wr .i64 (i11+1))) else (some i10)
 partial_fixpoint
def crawlwayref53_last.l0(t4:Int)(i6:Int)(i7:S_api_Addr):Option (S_api_Addr) :=
 if (decide (i6<t4))=true then (crawlwayref53_last.l1 i6 128 0>>=fun q9=>if (0:Int)≤wr .i64 (Int.tdiv i6 8)∧wr .i64 (Int.tdiv i6 8)<16 then if (0:Int)≤wr .i64 (Int.tdiv i6 8)∧wr .i64 (Int.tdiv i6 8)<16 then crawlwayref53_last.l0 t4 (wr .i64 (i6+1)) ({ i7 with f_B:=vset i7.f_B (wr .i64 (Int.tdiv i6 8)) (wr .u8 ((vget i7.f_B (wr .i64 (Int.tdiv i6 8)))+(wr .u8 q9))) }) else none else none) else (some i7)
 partial_fixpoint
def crawlwayref53_last(x0:S_api_Prefix):Option (S_api_Addr) :=
 crawlwayref10_Width x0.f_A>>=fun t4=>crawlwayref53_last.l0 t4 x0.f_Bits x0.f_A>>=fun q5=>some q5
def crawlwayref53_Right(x0:S_api_Addr)(x1:S_api_Addr):Option (Bool) :=
 crawlwayref10_Right x0>>=fun t3=>if t3=true then (crawlwayref10_Right x1>>=fun t5=>if t5=true then (if (x0.f_V==x1.f_V)=true then (crawlwayref10_Less x1 x0>>=fun t8=>some (!t8)) else (some false)) else (some false)) else (some false)
def crawlwayref53_Next.l0(i5:Int)(i6:S_api_Addr):Option (Ctl (S_api_Addr×Bool) (Unit)) :=
 if (decide (i5≥0))=true then (if (0:Int)≤i5∧i5<16 then if (decide (vget i6.f_B i5<255))=true then (if (0:Int)≤i5∧i5<16 then if (0:Int)≤i5∧i5<16 then some (.ret ({ i6 with f_B:=vset i6.f_B i5 (wr .u8 ((vget i6.f_B i5)+1)) },true)) else none else none) else (if (0:Int)≤i5∧i5<16 then crawlwayref53_Next.l0 (wr .i64 (i5-1)) ({ i6 with f_B:=vset i6.f_B i5 0 }) else none) else none) else (some (.nx ()))
 partial_fixpoint
def crawlwayref53_Next(x0:S_api_Addr):Option (S_api_Addr×Bool) :=
 crawlwayref10_Width x0>>=fun t3=>crawlwayref53_Next.l0 (wr .i64 ((wr .i64 (Int.tdiv t3 8))-1)) x0>>=fun q4=>match q4 with | .ret r'=>some r' | .nx sq4=>(some (({ f_V:=(0:Int),f_B:=(Vector.replicate 16 (0:Int):(Vector Int 16)) }:S_api_Addr),false))
def crawlwayref53_Prefixes.l1(x1:S_api_Addr)(i10:S_api_Addr)(i14:Int):Option (Int) :=
 crawlwayref10_Mask i10 i14>>=fun t15=>if (!decide (t15=i10))=true then (crawlwayref53_Prefixes.l1 x1 i10 (wr .i64 (i14+1))) else (crawlwayref53_last ({ { ({ f_A:=({ f_V:=(0:Int),f_B:=(Vector.replicate 16 (0:Int):(Vector Int 16)) }:S_api_Addr),f_Bits:=(0:Int) }:S_api_Prefix) with f_A:=i10 } with f_Bits:=i14 })>>=fun t17=>crawlwayref10_Less x1 t17>>=fun t18=>if t18=true then (crawlwayref53_Prefixes.l1 x1 i10 (wr .i64 (i14+1))) else (some i14))
 partial_fixpoint
def crawlwayref53_Prefixes.l0(x1:S_api_Addr)(i9:List S_api_Prefix)(i10:S_api_Addr):Option (List S_api_Prefix) :=
 crawlwayref53_Prefixes.l1 x1 i10 0>>=fun q13=>if (i9.length+1)*32≤140737488355328 then crawlwayref53_last ({ { ({ f_A:=({ f_V:=(0:Int),f_B:=(Vector.replicate 16 (0:Int):(Vector Int 16)) }:S_api_Addr),f_Bits:=(0:Int) }:S_api_Prefix) with f_A:=i10 } with f_Bits:=q13 })>>=fun t25=>crawlwayref53_Next t25>>=fun t26=>if (!t26.2)=true then (some (i9++[{ { ({ f_A:=({ f_V:=(0:Int),f_B:=(Vector.replicate 16 (0:Int):(Vector Int 16)) }:S_api_Addr),f_Bits:=(0:Int) }:S_api_Prefix) with f_A:=i10 } with f_Bits:=q13 }])) else (crawlwayref10_Less x1 t26.1>>=fun t29=>if t29=true then (some (i9++[{ { ({ f_A:=({ f_V:=(0:Int),f_B:=(Vector.replicate 16 (0:Int):(Vector Int 16)) }:S_api_Addr),f_Bits:=(0:Int) }:S_api_Prefix) with f_A:=i10 } with f_Bits:=q13 }])) else (crawlwayref53_Prefixes.l0 x1 (i9++[{ { ({ f_A:=({ f_V:=(0:Int),f_B:=(Vector.replicate 16 (0:Int):(Vector Int 16)) }:S_api_Addr),f_Bits:=(0:Int) }:S_api_Prefix) with f_A:=i10 } with f_Bits:=q13 }]) t26.1)) else none
 partial_fixpoint
def crawlwayref53_Prefixes(x0:S_api_Addr)(x1:S_api_Addr):Option (List S_api_Prefix) :=
 crawlwayref53_Right x0 x1>>=fun t3=>if (!t3)=true then (some ([])) else (crawlwayref53_Prefixes.l0 x1 ([]:List S_api_Prefix) x0>>=fun q7=>some q7)
end Go.Proofs.YtahlbjmafceoeaaGreatDoor
namespace Go.Proofs.YtahlbjmafceoeaaGreatDoor
open E Go.RowKit _root_.Go.Proofs.Tryz
theorem infoA338_is:(Tryz.prog.info? 38).isSome=true:=by kernel_rfl
noncomputable def infoA338_v:TypeInfo:=(Tryz.prog.info? 38).get infoA338_is
theorem infoA338:Tryz.prog.info? 38=some infoA338_v:=(Option.some_get _).symm
def aggregate_Ranges_1(x0:S_api_Prefix):Option (Bool) :=
 cidr_Right x0>>=fun t2=>some (!t2)
theorem aggregate_Ranges_1_ok(x0:S_api_Prefix)(r:Bool)(hF:aggregate_Ranges_1 x0=some r)(w:World) :
    Calls Tryz.prog 101 #[.agg (Cd.cs c_api_Prefix x0).toArray] w (fun e w'=>e=.returned (.bool r)∧Below w.heap.size w w'):=by
 unfold aggregate_Ranges_1 at hF
 refine ce (l:=[.agg (Cd.cs c_api_Prefix x0).toArray]) func101 rfl rfl ?_
 refine at_start ?_
 refine sr ?_
 refine at_box (cs:=Cd.cs c_api_Prefix x0) rfl rfl rfl ?_
 intro b1
 refine aa (ns ?_)
 refine aw (r_load_aggc (c:=c_api_Prefix) (z:=x0) isAgg38 sizeOf38 rfl (lens_cell .z lw)) ?_
 obtain ⟨t2,ht2,hF⟩:=bM hF
 refine cB func61 rfl (fun w hw=>cidr_Right_ok _ _ ht2 w) ?_
 refine aw (r_not rfl) ?_
 refine aa (qn (dz (wq [2] ?_)))
 refine tn (qt ?_)
 have K:=os hF
 subst K
 exact r1 wb
def slices_IndexFunc_api_Prefix__aggregate_Ranges_1.l0(x0:List S_api_Prefix)(i2:Int):Option (Ctl (Int) (Unit)) :=
 if (decide (i2<(x0.length:Int)))=true then (if (0:Int)≤i2∧i2<(x0.length:Int) then aggregate_Ranges_1 (lget x0 i2)>>=fun t8=>if t8=true then (some (.ret i2)) else (slices_IndexFunc_api_Prefix__aggregate_Ranges_1.l0 x0 (wr .i64 (i2+1))) else none) else (some (.nx ()))
 partial_fixpoint
def slices_IndexFunc_api_Prefix__aggregate_Ranges_1(x0:List S_api_Prefix):Option (Int) :=
 slices_IndexFunc_api_Prefix__aggregate_Ranges_1.l0 x0 0>>=fun q1=>match q1 with | .ret r'=>some r' | .nx sq1=>(some (-1))
theorem slices_IndexFunc_api_Prefix__aggregate_Ranges_1_ok(x0:List S_api_Prefix)(p0_:Option Addr)(c0_:Nat)(r:Int)(hF:slices_IndexFunc_api_Prefix__aggregate_Ranges_1 x0=some r)(w:World)(hr0:Row c_api_Prefix w p0_ c0_ x0) :
    Calls Tryz.prog 128 #[.slice p0_ x0.length c0_,.func (.func 101) #[] #[]] w (fun e w'=>e=.returned (.int .i64 r)∧Below w.heap.size w w'):=by
 unfold slices_IndexFunc_api_Prefix__aggregate_Ranges_1 at hF
 refine ce (l:=[.slice p0_ x0.length c0_,.func (.func 101) #[] #[]]) func128 rfl rfl ?_
 refine at_start ?_
 refine sr (aa (nt (qs (sr (am ?_)))))
 refine aw (r_len_sl underlying58 rfl) ?_
 refine am (nwq [8,7,1,0] ?_)
 refine qb ?_
 obtain ⟨q1,hq1,hF⟩:=bM hF
 refine wq [8,7,1,0] ?_
 refine at_loop_r (B:=0) (r:=r) (q:=q1) (A:=fun (_:Unit) Y=>At 19 [] (Wd w []) Y) ?_ ?_
 ·intro K
  refine slices_IndexFunc_api_Prefix__aggregate_Ranges_1.l0.partial_correctness x0 (motive:=fun i2 x=>KR (fun (_:Unit) Y=>At 19 [] (Wd w []) Y) _ 0 r x→Round (fun Y=>At 19 [(0,.slice p0_ x0.length c0_),(1,.func (.func 101) #[] #[]),(7,.int .i64 (x0.length:Int)),(8,.int .i64 i2)] (Wd w []) Y) _ _ _) ?_ _ _ hq1 K
  ·clear K hF
   intro g ih i2 x hF K
   refine at_round ?_
   refine sr (aw xl (nwq [9,8,7,1,0] ?_))
   refine qs ?_
   obtain ⟨h3,hF⟩|⟨h3,hF⟩:=oi hF
   ·refine ct h3 ?_
    refine sn (qs ?_)
    refine qb ?_
    refine sr (am (aa (nwx [8,7,5,1,0] ?_)))
    refine am (am (am ?_))
    obtain ⟨h4,hF⟩:=gd hF
    obtain ⟨b6,o7,hp5⟩:=row_ptr hr0 h4
    refine aw (r_idx underlying58 sizeOf38 rfl rfl h4 hp5) ?_
    refine aw (r_load_aggc (c:=c_api_Prefix) (z:=lget x0 i2) isAgg38 sizeOf38 rfl (row_cell (fun _ h=>h.below) hr0 h4 hp5)) ?_
    refine at_callee rfl ?_
    obtain ⟨t8,ht8,hF⟩:=bM hF
    refine cB func101 rfl (fun w hw=>aggregate_Ranges_1_ok _ _ ht8 w) ?_
    refine nwq [16,8,7,5,1,0] ?_
    obtain ⟨h9,hF⟩|⟨h9,hF⟩:=oi hF
    ·refine ct h9 ?_
     refine sr (am (aa (nwq [4] ?_)))
     refine qt ?_
     refine br (tr (tr (br (tr ?_))))
     obtain rfl:=os hF
     subst K
     exact r1 wb
    refine cf h9 ?_
    refine at_skip ?_
    refine bm ?_
    refine qr (aw xa (am (nwq [8,7,1,0] ?_)))
    exact at_weak_k (ih _ _ hF K) ⟨rfl,rfl,rfl,rfl,trivial⟩
   refine cf h3 ?_
   refine at_exit ?_
   refine te (te ?_)
   obtain rfl:=os hF
   exact at_weak_k K trivial
 cases q1 with
 | ret r'=>exact os hF
 | nx sq1 =>
  skip
  refine at_blk_same ?_
  refine tn (sr (aa (nwq [4] ?_)))
  refine qt ?_
  have K:=os hF
  subst K
  exact r1 wb
def slices_Clone_api_Prefix(x0:List S_api_Prefix):Option (List S_api_Prefix):=if (0+x0.length)*32≤140737488355328 then some x0 else none
theorem slices_Clone_api_Prefix_ok(x0:List S_api_Prefix)(p:Option Addr)(cap:Nat)(r:List S_api_Prefix)(hF:slices_Clone_api_Prefix x0=some r)(w:World)(hr:Row c_api_Prefix w p cap x0) :
    Calls Tryz.prog 100 #[.slice p x0.length cap] w (fun e w'=>∃ p' cap',e=.returned (.slice p' r.length cap')∧Own c_api_Prefix 38 w.heap.size w' p' cap' r∧Below w.heap.size w w'):=by
 unfold slices_Clone_api_Prefix at hF
 obtain ⟨h,hF⟩:=gd hF
 obtain rfl:=os hF
 have heq:∀ w1,(binOp .eql 58 (.slice p x0.length cap) (.slice none 0 0)).run Tryz.prog w1=.ok (.bool p.isNone) w1:=fun w1=>Lib.run_eql_slice_nil w1 _ _ p x0.length cap 0 0 underlying58
 refine ce (l:=[.slice p x0.length cap]) func100 rfl rfl ?_
 refine at_start ?_
 refine sr (aa (qn (tn (qs (sr (am ?_))))))
 refine at_val (v:=.bool p.isNone) rfl rfl rfl (fun a w1 h _=>?_) ?_
 ·have hx:a.eval (.tmp 3)=.slice p x0.length cap:=h.eval rfl
  have hy:a.eval (.const (.slice none 0 0))=.slice none 0 0:=rfl
  have hg:∀ (t:TypeId) (x y:Operand),(eqGuard .eql t x y (.slice p x0.length cap) (.slice none 0 0)).run Tryz.prog w1=.ok () w1:=fun t x y=>rfl
  simp only [execOp,hx,hy,Sem.run_bind,hg,Result.andThen_ok,heq]
  rfl
 refine qn (tn ?_)
 rcases hp:p with _ | a0
 ·have hxs:x0=[]:=by
   rcases hr.2 with h0 | ⟨b,o,hb,_⟩
   ·exact h0
   ·rw [hp] at hb;cases hb
  subst hxs
  refine ct rfl ?_
  refine sr (aa (qn (tn (rt ?_))))
  exact r1 (fun w1 hw=>⟨none,0,rfl,Own.nil _ _ _ _,hw.below⟩)
 refine cf rfl ?_
 refine sns ?_
 refine at_lit0 c_api_Prefix underlying58 sizeOf38 rfl ?_
 intro b
 refine am ?_
 refine at_append_row (z:=.agg (Cd.cs c_api_Prefix zv8).toArray) (c:=c_api_Prefix) (ys:=x0) .z underlying58 infoA338 (by kernel_rfl) (by kernel_rfl) rfl rfl rfl (fun w1 hw=>hp▸hr.below hw.below) (by kernel_rfl) h (app_small h) rfl ?_
 intro p' cap'
 refine aa (qn (tn (qt ?_)))
 exact r1 (fun w1 hw=>⟨p',cap',rfl,hw.own .z,hw.below⟩)
def slices_DeleteFunc_api_Prefix__aggregate_Ranges_1.l0(i6:List S_api_Prefix)(i7:Int)(i9:Int):Option (List S_api_Prefix×Int) :=
 if (decide (i9<(i6.length:Int)))=true then (if (0:Int)≤i9∧i9<(i6.length:Int) then aggregate_Ranges_1 (lget i6 i9)>>=fun t20=>if (!t20)=true then (if (0:Int)≤i7∧i7<(i6.length:Int) then slices_DeleteFunc_api_Prefix__aggregate_Ranges_1.l0 (lset i6 i7 (lget i6 i9)) (wr .i64 (i7+1)) (wr .i64 (i9+1)) else none) else (slices_DeleteFunc_api_Prefix__aggregate_Ranges_1.l0 i6 i7 (wr .i64 (i9+1))) else none) else (some (i6,i7))
 partial_fixpoint
def slices_DeleteFunc_api_Prefix__aggregate_Ranges_1(x0:List S_api_Prefix):Option (List S_api_Prefix) :=
 slices_IndexFunc_api_Prefix__aggregate_Ranges_1 x0>>=fun t1=>if (t1==(-1))=true then (some x0) else (slices_DeleteFunc_api_Prefix__aggregate_Ranges_1.l0 x0 t1 (wr .i64 (t1+1))>>=fun q5=>if (0:Int)≤q5.2∧q5.2≤(q5.1.length:Int)∧(q5.1.length:Int)≤(q5.1.length:Int) then if (0:Int)≤q5.2∧q5.2≤((List.take (Int.toNat q5.2) q5.1++List.replicate (List.length q5.1-Int.toNat q5.2) ({ f_A:=({ f_V:=(0:Int),f_B:=(Vector.replicate 16 (0:Int):(Vector Int 16)) }:S_api_Addr),f_Bits:=(0:Int) }:S_api_Prefix)).length:Int) then some (List.take (Int.toNat q5.2) (List.take (Int.toNat q5.2) q5.1++List.replicate (List.length q5.1-Int.toNat q5.2) ({ f_A:=({ f_V:=(0:Int),f_B:=(Vector.replicate 16 (0:Int):(Vector Int 16)) }:S_api_Addr),f_Bits:=(0:Int) }:S_api_Prefix))) else none else none)
theorem slices_DeleteFunc_api_Prefix__aggregate_Ranges_1_ok{x0:List S_api_Prefix}{r:List S_api_Prefix}(hF:slices_DeleteFunc_api_Prefix__aggregate_Ranges_1 x0=some r):∀ {w0 w:World} {G_:List Ent} {p0_:Option Addr} {c0_:Nat} (hw_:Wd w0 (rowE c_api_Prefix 38 p0_ c0_ x0::G_) w),
    Calls Tryz.prog 99 #[.slice p0_ x0.length c0_,.func (.func 101) #[] #[]] w (fun e w'=>∃ (p:Option Addr) (cap:Nat),e=.returned (.slice p r.length cap)∧Wd w0 (rowE c_api_Prefix 38 p cap r::G_) w'):=by
 intro w0 w G_ p0_ c0_ hw_
 unfold slices_DeleteFunc_api_Prefix__aggregate_Ranges_1 at hF
 refine ce (l:=[.slice p0_ x0.length c0_,.func (.func 101) #[] #[]]) func99 rfl rfl ?_
 refine at_enterF hw_ ?_
 refine sr (aa (ns (am (am ?_))))
 obtain ⟨t1,ht1,hF⟩:=bM hF
 refine cB func128 rfl (fun w hw=>slices_IndexFunc_api_Prefix__aggregate_Ranges_1_ok _ _ _ _ ht1 w (hw.own .z).row) ?_
 refine aa (nt (qs (sr (am (aw xq (nwq [12,5,1,0] ?_))))))
 obtain ⟨h2,hF⟩|⟨h2,hF⟩:=oi hF
 ·refine ct h2 ?_
  refine sr (am (aa (nwq [4] ?_)))
  refine rt ?_
  have K:=os hF
  subst K
  exact r1 (fun w1 hw=>⟨p0_,c0_,rfl,hw⟩)
 refine cf h2 ?_
 refine sn (qs (sr (am (aw xa (aa (nwq [6,5,1,0] ?_))))))
 refine qb ?_
 obtain ⟨q5,hq5,hF⟩:=bM hF
 refine wq [6,5,1,0] ?_
 refine at_loop_n (B:=0) (A:=fun Y=>∀ (p12:Option Addr) (c13:Nat),At 42 [(0,.slice p12 q5.1.length c13),(5,.int .i64 q5.2)] (Wd w0 (rowE c_api_Prefix 38 p12 c13 q5.1::G_)) Y) ?_ ?_
 ·intro K
  refine slices_DeleteFunc_api_Prefix__aggregate_Ranges_1.l0.partial_correctness  (motive:=fun i6 i7 i9 x=>KN (fun Y=>∀ (p12:Option Addr) (c13:Nat),At 42 [(0,.slice p12 x.1.length c13),(5,.int .i64 x.2)] (Wd w0 (rowE c_api_Prefix 38 p12 c13 x.1::G_)) Y) _ 0→Round (fun Y=>∀ (p10:Option Addr) (c11:Nat),At 42 [(0,.slice p10 i6.length c11),(1,.func (.func 101) #[] #[]),(5,.int .i64 i7),(6,.int .i64 i9)] (Wd w0 (rowE c_api_Prefix 38 p10 c11 i6::G_)) Y) _ _ _) ?_ _ _ _ _ hq5 K p0_ c0_
  ·clear K hF
   intro g ih i6 i7 i9 x hF K p10 c11
   refine at_round ?_
   refine qs (sr (am (am ?_)))
   refine aw (r_len_sl underlying58 rfl) ?_
   refine aw xl (nwq [19,6,5,1,0] ?_)
   obtain ⟨h14,hF⟩|⟨h14,hF⟩:=oi hF
   ·refine ct h14 ?_
    refine sn (qs ?_)
    refine qb ?_
    refine sr (am (am ?_))
    obtain ⟨h15,hF⟩:=gd hF
    refine at_pure (φ:=∃ b o,p10=some ⟨b,o,none⟩) (fun _ hw=>row_ptr (hw.own .z).row h15) ?_
    rintro ⟨b17,o18,hp16⟩
    refine aw (r_idx underlying58 sizeOf38 rfl rfl h15 hp16) ?_
    refine aw (r_load_aggc (c:=c_api_Prefix) (z:=lget i6 i9) isAgg38 sizeOf38 rfl (fun w1 hw=>row_cell (W:=fun w1=>w1=_) (fun w1 h=>by subst h;exact Below.refl _ _) (hw.own .z).row h15 hp16 _ rfl)) ?_
    refine al (cs:=Cd.cs c_api_Prefix zv8) zeroValue38 ?_
    intro b19
    refine at_store (c:=c_api_Prefix) (z:=lget i6 i9) .z lw sizeOf38 rfl rfl rfl ?_
    refine nwx [7,6,5,1,0] ?_
    refine am ?_
    refine aw (r_load_aggc (c:=c_api_Prefix) (z:=lget i6 i9) isAgg38 sizeOf38 rfl (lens_cell .z lw)) ?_
    refine at_callee rfl ?_
    obtain ⟨t20,ht20,hF⟩:=bM hF
    refine cB func101 rfl (fun w hw=>aggregate_Ranges_1_ok _ _ ht20 w) ?_
    refine aw (r_not rfl) ?_
    refine nwq [29,7,6,5,1,0] ?_
    obtain ⟨h21,hF⟩|⟨h21,hF⟩:=oi hF
    ·refine ct h21 ?_
     refine sr (am (am ?_))
     refine aw (r_load_aggc (c:=c_api_Prefix) (z:=lget i6 i9) isAgg38 sizeOf38 rfl (lens_cell .z lw)) ?_
     obtain ⟨h22,hF⟩:=gd hF
     refine at_pure (φ:=∃ b o,p10=some ⟨b,o,none⟩) (fun _ hw=>row_ptr (hw.own (.s .z)).row h22) ?_
     rintro ⟨b24,o25,hp23⟩
     refine aw (r_idx underlying58 sizeOf38 rfl rfl h22 hp23) ?_
     refine at_storeRow (c:=c_api_Prefix) (c':=c_api_Prefix) (i:=i7) (z:=lget i6 i9) (y:=lget i6 i9) (.s .z) h22 hp23 lw (by rfl) sizeOf38 rfl rfl rfl ?_
     refine at_ov (t:=0) rfl (show Value.slice p10 (List.length i6) c11=.slice p10 (List.length (lset i6 i7 (lget i6 i9))) c11 from congrArg (fun n_=>Value.slice p10 n_ c11) ((lset_length _ _ _).symm)) ?_
     refine at_ov (t:=30) rfl (show Value.slice p10 (List.length i6) c11=.slice p10 (List.length (lset i6 i7 (lget i6 i9))) c11 from congrArg (fun n_=>Value.slice p10 n_ c11) ((lset_length _ _ _).symm)) ?_
     refine qn (dz (tn (qr (am (aw xa (aa (qn (wq [6,5,1,0] ?_))))))))
     refine bm ?_
     refine qr (am (aw xa (aa (nwq [6,5,1,0] ?_))))
     exact at_weak_k (ih _ _ _ _ hF K p10 c11) ⟨rfl,rfl,rfl,rfl,trivial⟩
    refine cf h21 ?_
    refine at_skip ?_
    refine bm ?_
    refine qr (am (aw xa (aa (qn (dz (wq [6,5,1,0] ?_))))))
    refine tn ?_
    exact at_weak_k (ih _ _ _ _ hF K p10 c11) ⟨rfl,rfl,rfl,rfl,trivial⟩
   refine cf h14 ?_
   refine at_exit ?_
   refine te (te ?_)
   obtain rfl:=os hF
   exact at_weak_k (K p10 c11) ⟨rfl,rfl,trivial⟩
 skip
 intro p12 c13
 refine at_blk_same ?_
 refine tn (sr (am (am ?_)))
 obtain ⟨h26,hF⟩:=gd hF
 refine at_pure (fun w1 hw=>(hw.own .z).row.len) ?_
 intro hl27
 refine aw (r_reslice (c:=c_api_Prefix) underlying58 sizeOf38 rfl hl27 ⟨_,rfl⟩ rfl h26) ?_
 refine at_clearRow (c:=c_api_Prefix) (z:=zv8) (lo:=q5.2) .z underlying58 sizeOf38 zeroValue38 rfl h26 rfl ?_
 refine at_ov (t:=0) rfl (show Value.slice p12 (List.length q5.1) c13=.slice p12 (List.length (List.take (Int.toNat q5.2) q5.1++List.replicate (List.length q5.1-Int.toNat q5.2) zv8)) c13 from congrArg (fun n_=>Value.slice p12 n_ c13) ((clear_length h26).symm)) ?_
 refine at_ov (t:=36) rfl (show Value.slice p12 (List.length q5.1) c13=.slice p12 (List.length (List.take (Int.toNat q5.2) q5.1++List.replicate (List.length q5.1-Int.toNat q5.2) zv8)) c13 from congrArg (fun n_=>Value.slice p12 n_ c13) ((clear_length h26).symm)) ?_
 refine nwx [5,0] ?_
 refine am (am ?_)
 obtain ⟨h28,hF⟩:=gd hF
 refine at_cutOwn (c:=c_api_Prefix) .z underlying58 sizeOf38 rfl rfl h28 rfl ?_
 refine aa (nwq [4] ?_)
 refine qt ?_
 have K:=os hF
 subst K
 exact r1 (fun w1 hw=>⟨p12,c13,rfl,hw⟩)
end Go.Proofs.YtahlbjmafceoeaaGreatDoor
namespace Go.Proofs.YtahlbjmafceoeaaGreatDoor
def num(l:List UInt8):Nat:=l.foldl (fun a b=>a*256+b.toNat) 0
theorem num_snoc(l:List UInt8)(x:UInt8):num (l++[x])=num l*256+x.toNat:=by simp [num]
theorem num_from(l:List UInt8)(a:Nat):l.foldl (fun a b=>a*256+b.toNat) a=a*256 ^ l.length+num l:=by
 induction l generalizing a with
 | nil=>simp [num]
 | cons x r ih =>
  unfold num
  rw [List.foldl_cons,List.foldl_cons,ih,ih (0*256+x.toNat),List.length_cons,Nat.pow_succ]
  rw [Nat.add_mul,Nat.zero_mul,Nat.zero_add,Nat.mul_assoc,Nat.mul_comm 256,Nat.add_assoc]
theorem num_append(l k:List UInt8):num (l++k)=num l*256 ^ k.length+num k:=by
 unfold num;rw [List.foldl_append,num_from];rfl
theorem num_cons(x:UInt8)(r:List UInt8):num (x::r)=x.toNat*256 ^ r.length+num r:=by
 rw [show x::r=[x]++r from rfl,num_append];simp [num]
theorem num_lt:∀ l:List UInt8,num l<256 ^ l.length
 | []=>by simp [num]
 | x::r=>by
  rw [num_cons,List.length_cons,Nat.pow_succ]
  have h1:=num_lt r
  have h2:=x.toNat_lt
  have h3:(x.toNat+1)*256 ^ r.length≤256*256 ^ r.length:=Nat.mul_le_mul_right _ (by omega)
  rw [Nat.add_mul,Nat.one_mul] at h3
  rw [Nat.mul_comm (256 ^ r.length)]
  omega
theorem cmp_num:∀ (a b:List UInt8),a.length=b.length→(Lib.compareBytes a b<0↔num a<num b)
 | [],[],_=>by simp [Lib.compareBytes,num]
 | x::a,y::b,h=>by
  have hl:a.length=b.length:=by simpa using h
  have ha:=num_lt a
  have hb:=num_lt b
  rw [num_cons,num_cons,←hl]
  rw [←hl] at hb
  unfold Lib.compareBytes
  by_cases h1:x<y
  ·rw [if_pos h1]
   have h2:x.toNat+1≤y.toNat:=UInt8.lt_iff_toNat_lt.1 h1
   have h3:(x.toNat+1)*256 ^ a.length≤y.toNat*256 ^ a.length:=Nat.mul_le_mul_right _ h2
   rw [Nat.add_mul,Nat.one_mul] at h3
   constructor
   ·intro _;omega
   ·intro _;decide
  ·rw [if_neg h1]
   by_cases h2:y<x
   ·rw [if_pos h2]
    have h4:y.toNat+1≤x.toNat:=UInt8.lt_iff_toNat_lt.1 h2
    have h3:(y.toNat+1)*256 ^ a.length≤x.toNat*256 ^ a.length:=Nat.mul_le_mul_right _ h4
    rw [Nat.add_mul,Nat.one_mul] at h3
    constructor
    ·intro h;exact absurd h (by decide)
    ·intro _;omega
   ·rw [if_neg h2]
    have he:x.toNat=y.toNat:=by
     have e1:=mt UInt8.lt_iff_toNat_lt.2 h1
     have e2:=mt UInt8.lt_iff_toNat_lt.2 h2
     omega
    rw [cmp_num a b hl,he]
    omega
theorem num_inj:∀ {a b:List UInt8},a.length=b.length→num a=num b→a=b
 | [],[],_,_=>rfl
 | x::a,y::b,h,e=>by
  have hl:a.length=b.length:=by simpa using h
  rw [num_cons,num_cons,←hl] at e
  have ha:=num_lt a
  have hb:=num_lt b
  rw [←hl] at hb
  have hx:x.toNat=y.toNat:=by
   rcases Nat.lt_trichotomy x.toNat y.toNat with h | h | h
   ·have h3:(x.toNat+1)*256 ^ a.length≤y.toNat*256 ^ a.length:=Nat.mul_le_mul_right _ h
    rw [Nat.add_mul,Nat.one_mul] at h3;omega
   ·exact h
   ·have h3:(y.toNat+1)*256 ^ a.length≤x.toNat*256 ^ a.length:=Nat.mul_le_mul_right _ h
    rw [Nat.add_mul,Nat.one_mul] at h3;omega
  rw [hx] at e
  rw [UInt8.toNat_inj.1 hx,num_inj hl (by omega)]
def digs:Nat→Nat→List UInt8
 | 0,_=>[]
 | m+1,n=>digs m (n/256)++[UInt8.ofNat (n%256)]
theorem digs_length:∀ m n,(digs m n).length=m
 | 0,_=>rfl
 | m+1,n=>by simp [digs,digs_length m]
theorem num_digs:∀ m n,n<256 ^ m→num (digs m n)=n
 | 0,n,h=>by simp at h;subst h;rfl
 | m+1,n,h=>by
  rw [digs,num_snoc,num_digs m (n/256) (by rw [Nat.pow_succ] at h;omega),UInt8.toNat_ofNat',Nat.mod_mod]
  omega
theorem digs_num(l:List UInt8):digs l.length (num l)=l:=num_inj (digs_length _ _) (num_digs _ _ (num_lt l))
theorem digs_get:∀ (m n i:Nat),i<m→(digs m n)[i]? = some (UInt8.ofNat (n/256 ^ (m-1-i)%256))
 | m+1,n,i,h=>by
  rw [digs]
  by_cases hi:i=m
  ·subst hi
   rw [List.getElem?_append_right (by rw [digs_length];exact Nat.le_refl _),digs_length]
   simp
  ·rw [List.getElem?_append_left (by rw [digs_length];omega),digs_get m (n/256) i (by omega),Nat.div_div_eq_div_mul]
   congr 4
   rw [show m+1-1-i=m-1-i+1 by omega,Nat.pow_succ,Nat.mul_comm]
end Go.Proofs.YtahlbjmafceoeaaGreatDoor
namespace Go.Proofs.YtahlbjmafceoeaaGreatDoor
open E Go.RowKit
def okb(v:Vector Int 16):Bool:=v.toList.all fun n=>decide (0≤n)&&decide (n<256)
theorem okb_mem{v:Vector Int 16}(h:okb v=true):∀ n∈v.toList,0≤n∧n<256:=fun n hn=>by
 have:=List.all_eq_true.1 h n hn
 simpa using this
def ordI(x y:S_api_Prefix):Int:=(aggregate_order x y).getD 0
theorem unb_inj:∀ {a b:List Int},(∀ n∈a,0≤n∧n<256)→(∀ n∈b,0≤n∧n<256)→unb a=unb b→a=b
 | [],[],_,_,_=>rfl
 | [],_::_,_,_,h=>by simp [unb] at h
 | _::_,[],_,_,h=>by simp [unb] at h
 | x::a,y::b,ha,hb,h=>by
  have h':UInt8.ofNat x.toNat::unb a=UInt8.ofNat y.toNat::unb b:=h
  injection h' with h1 h2
  have hx:=ha x (List.mem_cons_self ..)
  have hy:=hb y (List.mem_cons_self ..)
  have h3:x.toNat=y.toNat:=by
   have:=congrArg UInt8.toNat h1
   rw [UInt8.toNat_ofNat',UInt8.toNat_ofNat',Nat.mod_eq_of_lt (by omega),Nat.mod_eq_of_lt (by omega)] at this
   exact this
  rw [show x=y by omega,unb_inj (fun n hn=>ha n (List.mem_cons_of_mem _ hn)) (fun n hn=>hb n (List.mem_cons_of_mem _ hn)) h2]
theorem unb_len(l:List Int):(unb l).length=l.length:=by simp [unb]
theorem keyA_inj{a b:S_api_Addr}(ha:okb a.f_B=true)(hb:okb b.f_B=true)(h1:a.f_V=b.f_V)(h2:num (unb a.f_B.toList)=num (unb b.f_B.toList)):a=b:=by
 have e:=unb_inj (okb_mem ha) (okb_mem hb) (num_inj (by rw [unb_len,unb_len,Vector.length_toList,Vector.length_toList]) h2)
 obtain ⟨v,x⟩:=a
 obtain ⟨u,y⟩:=b
 simp only at h1 e
 subst h1
 rw [Vector.toList_inj.1 e]
def lessK(a b:S_api_Addr):Bool:=if a.f_V=b.f_V then decide (num (unb a.f_B.toList)<num (unb b.f_B.toList)) else decide (a.f_V<b.f_V)
theorem less_key(a b:S_api_Addr):addr_Less a b=some (lessK a b):=by
 unfold addr_Less lessK
 by_cases h:a.f_V=b.f_V
 ·have hne:(a.f_V != b.f_V)=false:=by simpa using h
  rw [hne,if_neg Bool.false_ne_true,if_pos h]
  unfold bytes_Compare
  show some (decide (Lib.compareBytes _ _<0))=_
  congr 1
  rw [decide_eq_decide]
  exact cmp_num _ _ (by rw [unb_len,unb_len,Vector.length_toList,Vector.length_toList])
 ·have hne:(a.f_V != b.f_V)=true:=by simpa using h
  rw [hne,if_pos rfl,if_neg h]
def lessP(x y:S_api_Prefix):Bool:=if x.f_A=y.f_A then decide (x.f_Bits<y.f_Bits) else lessK x.f_A y.f_A
theorem cless_key(x y:S_api_Prefix):cidr_Less x y=some (lessP x y):=by
 unfold cidr_Less lessP
 by_cases h:x.f_A=y.f_A
 ·rw [decide_eq_true h,if_pos rfl,if_pos h]
 ·rw [decide_eq_false h,if_neg Bool.false_ne_true,if_neg h,less_key];rfl
theorem order_key(x y:S_api_Prefix):aggregate_order x y=some (if lessP x y=true then -1 else if lessP y x=true then 1 else 0):=by
 unfold aggregate_order
 rw [cless_key,cless_key]
 show (if lessP x y=true then some (-1) else (if lessP y x=true then some 1 else some 0))=_
 split
 ·rfl
 ·split<;>rfl
theorem ltOf_ord:ltOf ordI=lessP:=by
 funext x y
 unfold ltOf ordI
 rw [order_key]
 show decide ((if lessP x y=true then (-1:Int) else if lessP y x=true then 1 else 0)<0)=_
 cases h:lessP x y
 ·rw [if_neg Bool.false_ne_true];split<;>rfl
 ·rfl
def okP(x:S_api_Prefix):Prop:=okb x.f_A.f_B=true
theorem lessP_iff{x y:S_api_Prefix}(hx:okP x)(hy:okP y):lessP x y=true↔x.f_A.f_V<y.f_A.f_V∨(x.f_A.f_V=y.f_A.f_V∧(num (unb x.f_A.f_B.toList)<num (unb y.f_A.f_B.toList)∨(num (unb x.f_A.f_B.toList)=num (unb y.f_A.f_B.toList)∧x.f_Bits<y.f_Bits))):=by
 unfold lessP lessK
 by_cases h:x.f_A=y.f_A
 ·rw [if_pos h,decide_eq_true_iff,h];omega
 ·rw [if_neg h]
  by_cases hV:x.f_A.f_V=y.f_A.f_V
  ·rw [if_pos hV,decide_eq_true_iff]
   have hn:num (unb x.f_A.f_B.toList)≠num (unb y.f_A.f_B.toList):=fun e=>h (keyA_inj hx hy hV e)
   omega
  ·rw [if_neg hV,decide_eq_true_iff];omega
theorem lessP_false{x y:S_api_Prefix}(hx:okP x)(hy:okP y):lessP x y=false↔¬ (x.f_A.f_V<y.f_A.f_V∨(x.f_A.f_V=y.f_A.f_V∧(num (unb x.f_A.f_B.toList)<num (unb y.f_A.f_B.toList)∨(num (unb x.f_A.f_B.toList)=num (unb y.f_A.f_B.toList)∧x.f_Bits<y.f_Bits)))):=by
 rw [←lessP_iff hx hy];simp
theorem lessP_swo:SWOn okP lessP where
 irrefl x hx:=by rw [lessP_false hx hx];omega
 trans x y z hx hy hz h1 h2:=by rw [lessP_iff hx hy] at h1;rw [lessP_iff hy hz] at h2;rw [lessP_iff hx hz];omega
 ntrans x y z hx hy hz h1 h2:=by rw [lessP_false hx hy] at h1;rw [lessP_false hy hz] at h2;rw [lessP_false hx hz];omega
theorem lessP_anti{x y:S_api_Prefix}(hx:okP x)(hy:okP y)(h1:lessP x y=false)(h2:lessP y x=false):x=y:=by
 rw [lessP_false hx hy] at h1
 rw [lessP_false hy hx] at h2
 have e1:=keyA_inj (a:=x.f_A) (b:=y.f_A) hx hy (by omega) (by omega)
 have e2:x.f_Bits=y.f_Bits:=by omega
 obtain ⟨a,b⟩:=x
 obtain ⟨c,d⟩:=y
 simp only at e1 e2
 rw [e1,e2]
def sort_Prefix(xs:List S_api_Prefix):Option (List S_api_Prefix):=if (xs.all fun x=>okb x.f_A.f_B)=true∧xs.length≤1000000 then some (isort lessP xs) else none
theorem sort_Prefix_len{xs r:List S_api_Prefix}(h:sort_Prefix xs=some r):r.length=xs.length:=by
 unfold sort_Prefix at h
 split at h
 ·cases h;exact isort_length _ _
 ·cases h
theorem sort_Prefix_ok{xs r:List S_api_Prefix}(h:sort_Prefix xs=some r){w0 w:World}{H G:List Ent}{f:Ent→List Ent}{p:Option Addr}{cap:Nat}(hu:Upd H (rowE c_api_Prefix 38 p cap xs) f G)(hw:Wd w0 H w) :
  Calls Tryz.prog 102 #[.slice p xs.length cap,.func (.func 103) #[] #[]] w fun en w'=>en=.returned (.tuple #[])∧Wd w0 (f (rowE c_api_Prefix 38 p cap r)) w':=by
 unfold sort_Prefix at h
 split at h
 ·next hh =>
  cases h
  have hK:∀ x∈xs,okP x:=fun x hx=>List.all_eq_true.1 hh.1 x hx
  have:=sort_calls Tryz.sortP c_api_Prefix okP Tryz.isAgg38 Tryz.sizeOf38 ordI (by rw [ltOf_ord];exact lessP_swo) 103 (enters_of Tryz.func103 (by kernel_rfl) rfl)
   (fun x y _ _ w=>aggregate_order_ok _ _ _ (by unfold ordI;rw [order_key];rfl) w) hK (by rw [ltOf_ord];exact fun x hx y hy h1 h2=>lessP_anti (hK x hx) (hK y hy) h1 h2) (by omega) hu hw
  rw [ltOf_ord] at this
  exact this
 ·cases h
end Go.Proofs.YtahlbjmafceoeaaGreatDoor
namespace Go.Proofs.YtahlbjmafceoeaaGreatDoor
open E Go.RowKit _root_.Go.Proofs.Tryz
theorem infoA438_is:(Tryz.prog.info? 38).isSome=true:=by kernel_rfl
noncomputable def infoA438_v:TypeInfo:=(Tryz.prog.info? 38).get infoA438_is
theorem infoA438:Tryz.prog.info? 38=some infoA438_v:=(Option.some_get _).symm
theorem infoA4112_is:(Tryz.prog.info? 112).isSome=true:=by kernel_rfl
noncomputable def infoA4112_v:TypeInfo:=(Tryz.prog.info? 112).get infoA4112_is
theorem infoA4112:Tryz.prog.info? 112=some infoA4112_v:=(Option.some_get _).symm
def aggregate_Ranges.l0(t7:List S_api_Prefix)(i11:List S_aggregate_Range)(i12:Int):Option (List S_aggregate_Range) :=
 if (decide (i12<(t7.length:Int)))=true then (if (0:Int)≤i12∧i12<(t7.length:Int) then if ((i11.length:Int)==0)=true then (aggregate_last (lget t7 i12)>>=fun t25=>if (i11.length+1)*48≤140737488355328 then aggregate_Ranges.l0 t7 (i11++[{ { ({ f_From:=({ f_V:=(0:Int),f_B:=(Vector.replicate 16 (0:Int):(Vector Int 16)) }:S_api_Addr),f_To:=({ f_V:=(0:Int),f_B:=(Vector.replicate 16 (0:Int):(Vector Int 16)) }:S_api_Addr) }:S_aggregate_Range) with f_From:=(lget t7 i12).f_A } with f_To:=t25 }]) (wr .i64 (i12+1)) else none) else (if (0:Int)≤wr .i64 ((i11.length:Int)-1)∧wr .i64 ((i11.length:Int)-1)<(i11.length:Int) then aggregate_joins (lget i11 (wr .i64 ((i11.length:Int)-1))) (lget t7 i12)>>=fun t35=>if (!t35)=true then (aggregate_last (lget t7 i12)>>=fun t38=>if (i11.length+1)*48≤140737488355328 then aggregate_Ranges.l0 t7 (i11++[{ { ({ f_From:=({ f_V:=(0:Int),f_B:=(Vector.replicate 16 (0:Int):(Vector Int 16)) }:S_api_Addr),f_To:=({ f_V:=(0:Int),f_B:=(Vector.replicate 16 (0:Int):(Vector Int 16)) }:S_api_Addr) }:S_aggregate_Range) with f_From:=(lget t7 i12).f_A } with f_To:=t38 }]) (wr .i64 (i12+1)) else none) else (aggregate_last (lget t7 i12)>>=fun t44=>if (0:Int)≤wr .i64 ((i11.length:Int)-1)∧wr .i64 ((i11.length:Int)-1)<(i11.length:Int) then addr_Less ((lget i11 (wr .i64 ((i11.length:Int)-1))).f_To) t44>>=fun t50=>if t50=true then (if (0:Int)≤wr .i64 ((i11.length:Int)-1)∧wr .i64 ((i11.length:Int)-1)<(i11.length:Int) then aggregate_Ranges.l0 t7 (lset i11 (wr .i64 ((i11.length:Int)-1)) ({ (lget i11 (wr .i64 ((i11.length:Int)-1))) with f_To:=t44 })) (wr .i64 (i12+1)) else none) else (aggregate_Ranges.l0 t7 i11 (wr .i64 (i12+1))) else none) else none) else none) else (some i11)
 partial_fixpoint
def aggregate_Ranges(x0:List S_api_Prefix):Option (List S_aggregate_Range) :=
 slices_Clone_api_Prefix x0>>=fun t1=>slices_DeleteFunc_api_Prefix__aggregate_Ranges_1 t1>>=fun t4=>sort_Prefix t4>>=fun t7=>aggregate_Ranges.l0 t7 ([]:List S_aggregate_Range) 0>>=fun q10=>some q10
set_option maxHeartbeats 3200000 in
theorem aggregate_Ranges_ok(x0:List S_api_Prefix)(p0_:Option Addr)(c0_:Nat)(r:List S_aggregate_Range)(hF:aggregate_Ranges x0=some r)(w:World)(hr0:Row c_api_Prefix w p0_ c0_ x0) :
    Calls Tryz.prog 75 #[.slice p0_ x0.length c0_] w (fun e w'=>∃ p cap,e=.returned (.slice p r.length cap)∧Own c_aggregate_Range 112 w.heap.size w' p cap r∧Below w.heap.size w w'):=by
 unfold aggregate_Ranges at hF
 refine ce (l:=[.slice p0_ x0.length c0_]) func75 rfl rfl ?_
 refine at_start ?_
 refine sr (aa (nwx [0] ?_))
 refine am ?_
 obtain ⟨t1,ht1,hF⟩:=bM hF
 refine at_callO (c:=c_api_Prefix) (e:=38) (ys:=t1) (V:=fun p cap=>.slice p t1.length cap) func100 rfl (by kernel_rfl) rfl rfl (fun w hw=>slices_Clone_api_Prefix_ok _ _ _ _ ht1 w (hr0.below hw.below)) ?_
 intro p2 c3
 obtain ⟨t4,ht4,hF⟩:=bM hF
 refine at_callG (V:=fun p cap=>.slice p t4.length cap) (T:=fun p cap=>[rowE c_api_Prefix 38 p cap t4]) func99 rfl (by kernel_rfl) rfl rfl (fun w hw=>slices_DeleteFunc_api_Prefix__aggregate_Ranges_1_ok ht4 hw) ?_
 intro p5 c6
 refine aa (nwx [3] ?_)
 refine am ?_
 obtain ⟨t7,ht7,hF⟩:=bM hF
 refine at_callN (v:=.tuple #[]) (T:=[rowE c_api_Prefix 38 p5 c6 t7]) func102 rfl (by kernel_rfl) rfl rfl (fun w hw=>sort_Prefix_ok ht7 .z hw) ?_
 refine at_ov (t:=3) rfl (show Value.slice p5 (List.length t4) c6=.slice p5 (List.length t7) c6 from congrArg (fun n_=>Value.slice p5 n_ c6) ((sort_Prefix_len ht7).symm)) ?_
 refine at_ov (t:=12) rfl (show Value.slice p5 (List.length t4) c6=.slice p5 (List.length t7) c6 from congrArg (fun n_=>Value.slice p5 n_ c6) ((sort_Prefix_len ht7).symm)) ?_
 refine ns (aa (nt (qs (sr (am ?_)))))
 refine aw (r_len_sl underlying58 rfl) ?_
 refine am (nwq [16,15,14,4] ?_)
 refine qb ?_
 refine at_own_nil c_aggregate_Range 112 ?_
 obtain ⟨q10,hq10,hF⟩:=bM hF
 refine wq [16,15,14,4] ?_
 refine at_loop_n (B:=0) (A:=fun Y=>∀ (p15:Option Addr) (c16:Nat),At 60 [(4,.slice p15 q10.length c16)] (Wd w [rowE c_aggregate_Range 112 p15 c16 q10]) Y) ?_ ?_
 ·intro K
  refine aggregate_Ranges.l0.partial_correctness t7 (motive:=fun i11 i12 x=>KN (fun Y=>∀ (p15:Option Addr) (c16:Nat),At 60 [(4,.slice p15 x.length c16)] (Wd w [rowE c_aggregate_Range 112 p15 c16 x]) Y) _ 0→Round (fun Y=>∀ (p13:Option Addr) (c14:Nat),At 60 [(4,.slice p13 i11.length c14),(14,.slice p5 t7.length c6),(15,.int .i64 (t7.length:Int)),(16,.int .i64 i12)] (Wd w [rowE c_aggregate_Range 112 p13 c14 i11,rowE c_api_Prefix 38 p5 c6 t7]) Y) _ _ _) ?_ _ _ _ hq10 K none 0
  ·clear K hF
   intro g ih i11 i12 x hF K p13 c14
   refine at_round ?_
   refine sr (aw xl (nwq [17,16,15,14,4] ?_))
   refine qs ?_
   obtain ⟨h17,hF⟩|⟨h17,hF⟩:=oi hF
   ·refine ct h17 ?_
    refine sn (qs ?_)
    refine qb ?_
    refine sr ?_
    obtain ⟨h18,hF⟩:=gd hF
    refine at_pure (φ:=∃ b o,p5=some ⟨b,o,none⟩) (fun _ hw=>row_ptr (hw.own (.s .z)).row h18) ?_
    rintro ⟨b20,o21,hp19⟩
    refine aw (r_idx underlying58 sizeOf38 rfl rfl h18 hp19) ?_
    refine aw (r_load_aggc (c:=c_api_Prefix) (z:=lget t7 i12) isAgg38 sizeOf38 rfl (fun w1 hw=>row_cell (W:=fun w1=>w1=_) (fun w1 h=>by subst h;exact Below.refl _ _) (hw.own (.s .z)).row h18 hp19 _ rfl)) ?_
    refine al (cs:=Cd.cs c_api_Prefix zv8) zeroValue38 ?_
    intro b22
    refine at_store (c:=c_api_Prefix) (z:=lget t7 i12) .z lw sizeOf38 rfl rfl rfl ?_
    refine ns (am ?_)
    refine aw (r_len_sl underlying109 rfl) ?_
    refine aa (nt (qs (qs (wq [16,15,14,7,6,4] ?_))))
    obtain ⟨h23,hF⟩|⟨h23,hF⟩:=oi hF
    ·skip
     refine at_inv [.q 22 (fun g24=>.int .i64 (i11.length:Int)) [] 0 0,.q 23 (fun g24=>.bool ((i11.length:Int)==0)) [0] 0 0,.q 24 (fun g24=>.bool true) [1] 0 0,.q 25 (fun g24=>undef) [2] 0 0,.q 26 (fun g24=>undef) [2] 0 0,.q 27 (fun g24=>undef) [2,4] 0 0,.q 28 (fun g24=>undef) [2,3,5] 0 0,.q 29 (fun g24=>undef) [2,6] 0 0,.q 30 (fun g24=>undef) [2] 0 0,.q 31 (fun g24=>undef) [2,7,8] 0 0,.q 32 (fun g24=>undef) [2,9] 0 0,.q 33 (fun g24=>.bool true) [2,10] 0 0] (fun g24 s=>match s with | _=>(Wd w [cellsE b22 (Cd.cs c_api_Prefix (lget t7 i12)) 38,rowE c_aggregate_Range 112 p13 c14 i11,rowE c_api_Prefix 38 p5 c6 t7])) 0 (by kernel_rfl) (by kernel_rfl) (by kernel_rfl) (by kernel_rfl) (by kernel_rfl) ⟨fun _ _ _=>rfl,fun _ _ _=>rfl,fun _ _ _=>rfl,fun _ _ _=>rfl,fun _ _ _=>rfl,fun _ _ _=>rfl,fun _ _ _=>rfl,fun _ _ _=>rfl,fun _ _ _=>rfl,fun _ _ _=>rfl,fun _ _ _=>rfl,fun _ _ _=>rfl,trivial⟩ (by kernel_rfl) (fun w_ h=>⟨fun _=>g3 0 none 0 none w_,h.drew⟩) ⟨?_,?_,?_,?_,?_,?_,?_,?_,?_,?_,?_,?_,trivial⟩ ?_
     ·intro Lx g24 s K hl hh k
      show At 60 ((4,_)::(6,_)::(7,_)::(14,_)::(15,_)::(16,_)::Lx) _ _
      refine am ?_
      exact at_nil k
     ·intro Lx g24 s K hl hh k
      show At 60 ((22,_)::(4,_)::(6,_)::(7,_)::(14,_)::(15,_)::(16,_)::Lx) _ _
      refine aw xq ?_
      exact at_nil k
     ·intro Lx g24 s K hl hh k
      show At 60 ((23,_)::(4,_)::(6,_)::(7,_)::(14,_)::(15,_)::(16,_)::Lx) _ _
      refine am ?_
      exact at_nil (at_cast h23 k)
     ·intro Lx g24 s K hl hh k
      show At 60 ((24,_)::(4,_)::(6,_)::(7,_)::(14,_)::(15,_)::(16,_)::Lx) _ _
      refine gn ?_
      exact at_nil k
     ·intro Lx g24 s K hl hh k
      show At 60 ((24,_)::(4,_)::(6,_)::(7,_)::(14,_)::(15,_)::(16,_)::Lx) _ _
      refine gn ?_
      exact at_nil k
     ·intro Lx g24 s K hl hh k
      show At 60 ((24,_)::(26,_)::(4,_)::(6,_)::(7,_)::(14,_)::(15,_)::(16,_)::Lx) _ _
      refine gn ?_
      exact at_nil k
     ·intro Lx g24 s K hl hh k
      show At 60 ((24,_)::(25,_)::(27,_)::(4,_)::(6,_)::(7,_)::(14,_)::(15,_)::(16,_)::Lx) _ _
      refine gn ?_
      exact at_nil k
     ·intro Lx g24 s K hl hh k
      show At 60 ((24,_)::(28,_)::(4,_)::(6,_)::(7,_)::(14,_)::(15,_)::(16,_)::Lx) _ _
      obtain rfl:s=0:=by omega
      refine gn ?_
      exact at_nil k
     ·intro Lx g24 s K hl hh k
      show At 60 ((24,_)::(4,_)::(6,_)::(7,_)::(14,_)::(15,_)::(16,_)::Lx) _ _
      obtain rfl:s=0:=by omega
      refine gn ?_
      exact at_nil k
     ·intro Lx g24 s K hl hh k
      show At 60 ((24,_)::(29,_)::(30,_)::(4,_)::(6,_)::(7,_)::(14,_)::(15,_)::(16,_)::Lx) _ _
      obtain rfl:s=0:=by omega
      refine gn ?_
      exact at_nil k
     ·intro Lx g24 s K hl hh k
      show At 60 ((24,_)::(31,_)::(4,_)::(6,_)::(7,_)::(14,_)::(15,_)::(16,_)::Lx) _ _
      refine gn ?_
      exact at_nil k
     ·intro Lx g24 s K hl hh k
      show At 60 ((24,_)::(32,_)::(4,_)::(6,_)::(7,_)::(14,_)::(15,_)::(16,_)::Lx) _ _
      refine aw xp ?_
      exact at_nil k
     intro g24
     show At 60 [(22,_),(23,_),(24,_),(25,_),(26,_),(27,_),(28,_),(29,_),(30,_),(31,_),(32,_),(33,_),(4,_),(6,_),(7,_),(14,_),(15,_),(16,_)] _ _
     refine wq [33,16,15,14,7,6,4] ?_
     refine tn ?_
     refine ct rfl ?_
     refine qs (wq [16,15,14,6,4] ?_)
     obtain ⟨t25,ht25,hF⟩:=bM hF
     refine at_invT [.q 34 (fun g27=>.slice p13 i11.length c14) [] 0 1,.q 35 (fun g27=>.pointer (some ⟨b22,0+0,none⟩)) [] 0 0,.q 36 (fun g27=>.agg (Cd.cs c_api_Addr ((lget t7 i12).f_A)).toArray) [1] 0 0,.q 37 (fun g27=>.agg (Cd.cs c_api_Prefix (lget t7 i12)).toArray) [] 0 0,.q 38 (fun g27=>.agg (Cd.cs c_api_Addr t25).toArray) [3] 0 0,.q 39 (fun g27=>.agg (Cd.cs c_aggregate_Range ({ { zv9 with f_From:=(lget t7 i12).f_A } with f_To:=t25 })).toArray) [2,4] 0 0,.al 0 40 (fun g27=>.slice (some ⟨((g27 0).1),0,none⟩) ([{ { zv9 with f_From:=(lget t7 i12).f_A } with f_To:=t25 }]:List S_aggregate_Range).length 1) [5]] (fun g27 s=>match s with | 0=>(Wd w [cellsE b22 (Cd.cs c_api_Prefix (lget t7 i12)) 38,rowE c_aggregate_Range 112 p13 c14 i11,rowE c_api_Prefix 38 p5 c6 t7]) | _=>(Wd w [cellsE ((g27 0).1) (c_aggregate_Range.all ([{ { zv9 with f_From:=(lget t7 i12).f_A } with f_To:=t25 }]:List S_aggregate_Range)) 112,cellsE b22 (Cd.cs c_api_Prefix (lget t7 i12)) 38,rowE c_aggregate_Range 112 p13 c14 i11,rowE c_api_Prefix 38 p5 c6 t7])) 1 7 (by kernel_rfl) (by kernel_rfl) (by kernel_rfl) (by kernel_rfl) (by kernel_rfl) (by kernel_rfl) ⟨fun _ _ _=>rfl,fun _ _ _=>rfl,fun _ _ _=>rfl,fun _ _ _=>rfl,fun _ _ _=>rfl,fun _ _ _=>rfl,fun g27 g2 h=>by show (.slice (some ⟨((g27 0).1),0,none⟩) ([{ { zv9 with f_From:=(lget t7 i12).f_A } with f_To:=t25 }]:List S_aggregate_Range).length 1:Value)=.slice (some ⟨((g2 0).1),0,none⟩) ([{ { zv9 with f_From:=(lget t7 i12).f_A } with f_To:=t25 }]:List S_aggregate_Range).length 1;rw [h 0 (show 0<1 by decide)],trivial⟩ (by kernel_rfl) (fun w_ h=>⟨fun _=>g3 0 none 0 none w_,h.drew⟩) ⟨?_,?_,?_,?_,?_,?_,?_,trivial⟩ ?_
     ·intro Lx g27 s K hl hh k
      show At 60 ((4,_)::(6,_)::(14,_)::(15,_)::(16,_)::Lx) _ _
      refine am ?_
      exact at_nil k
     ·intro Lx g27 s K hl hh k
      show At 60 ((4,_)::(6,_)::(14,_)::(15,_)::(16,_)::Lx) _ _
      refine fa 0 underlying38 rfl sizeOf36 ?_
      exact at_nil k
     ·intro Lx g27 s K hl hh k
      show At 60 ((35,_)::(4,_)::(6,_)::(14,_)::(15,_)::(16,_)::Lx) _ _
      obtain rfl:s=0:=by omega
      refine aw (r_load_aggc (c:=c_api_Addr) (z:=(lget t7 i12).f_A) isAgg36 sizeOf36 rfl (lens_cell .z (Lens.comp lw (fun z=>{ lget t7 i12 with f_A:=z }) (c_api_Prefix_f_A (lget t7 i12))))) ?_
      exact at_nil k
     ·intro Lx g27 s K hl hh k
      show At 60 ((4,_)::(6,_)::(14,_)::(15,_)::(16,_)::Lx) _ _
      obtain rfl:s=0:=by omega
      refine aw (r_load_aggc (c:=c_api_Prefix) (z:=lget t7 i12) isAgg38 sizeOf38 rfl (lens_cell .z lw)) ?_
      exact at_nil k
     ·intro Lx g27 s K hl hh k
      show At 60 ((37,_)::(4,_)::(6,_)::(14,_)::(15,_)::(16,_)::Lx) _ _
      obtain rfl:s=0:=by omega
      refine cB func105 rfl (fun w hw=>aggregate_last_ok _ _ ht25 w) ?_
      exact at_nil k
     ·intro Lx g27 s K hl hh k
      show At 60 ((36,_)::(38,_)::(4,_)::(6,_)::(14,_)::(15,_)::(16,_)::Lx) _ _
      obtain rfl:s=0:=by omega
      refine aw (r_build_struct (zs:=Cd.cs c_aggregate_Range zv9) (cs:=Cd.cs c_aggregate_Range ({ { zv9 with f_From:=(lget t7 i12).f_A } with f_To:=t25 })) underlying112 zeroValue112 rfl (places_aggregate_Range_112) rfl (fill_step (c:=c_api_Addr) (z:=(lget t7 i12).f_A) rfl (c_aggregate_Range_f_From zv9) rfl (fill_step (c:=c_api_Addr) (z:=t25) rfl (c_aggregate_Range_f_To ({ zv9 with f_From:=(lget t7 i12).f_A })) rfl rfl))) ?_
      exact at_nil k
     ·intro Lx g27 K k
      show At 60 ((39,_)::(4,_)::(6,_)::(14,_)::(15,_)::(16,_)::Lx) _ _
      refine at_litL (c:=c_aggregate_Range) ([zv9]:List S_aggregate_Range) ([{ { zv9 with f_From:=(lget t7 i12).f_A } with f_To:=t25 }]:List S_aggregate_Range) underlying109 sizeOf112 zeroValue112 rfl rfl rfl (by kernel_rfl) (fill_step (c:=c_aggregate_Range) (z:={ { zv9 with f_From:=(lget t7 i12).f_A } with f_To:=t25 }) rfl (Lens.all c_aggregate_Range ([zv9]:List S_aggregate_Range) 0 (by first | decide | exact Nat.le_of_ble_eq_true rfl)) rfl rfl) rfl ?_
      intro b26
      exact at_nil (k (g3 b26 none 0 none w))
     intro g27
     show At 60 [(34,_),(35,_),(36,_),(37,_),(38,_),(39,_),(40,_),(4,_),(6,_),(14,_),(15,_),(16,_)] _ _
     obtain ⟨h28,hF⟩:=gd hF
     refine at_append (z:=.agg (Cd.cs c_aggregate_Range zv9).toArray) (c:=c_aggregate_Range) (ys:=([{ { zv9 with f_From:=(lget t7 i12).f_A } with f_To:=t25 }]:List S_aggregate_Range)) (.s (.s .z)) underlying109 infoA4112 (by kernel_rfl) (by kernel_rfl) rfl rfl rfl rfl (fun _ hw=>cells_src (hw.ok (Upd.mem .z))) (by kernel_rfl) h28 (app_small h28) rfl ?_
     intro p29 c30
     refine aa (qn (dz (dz (wq [16,15,14,4] ?_))))
     refine tn ?_
     refine at_exit ?_
     refine te (at_blk_same (tn ?_))
     refine qr (aw xa (am (nwq [16,15,14,4] ?_)))
     exact at_weak_k (ih _ _ _ hF K p29 c30) ⟨rfl,rfl,rfl,rfl,trivial⟩
    skip
    obtain ⟨h31,hF⟩:=gd hF
    refine at_pure (φ:=∃ b o,p13=some ⟨b,o,none⟩) (fun _ hw=>row_ptr (hw.own (.s .z)).row h31) ?_
    rintro ⟨b33,o34,hp32⟩
    obtain ⟨t35,ht35,hF⟩:=bM hF
    refine at_inv [.q 22 (fun g36=>.int .i64 (i11.length:Int)) [] 0 0,.q 23 (fun g36=>.bool ((i11.length:Int)==0)) [0] 0 0,.q 24 (fun g36=>.bool false) [1] 0 0,.q 25 (fun g36=>.slice p13 i11.length c14) [2] 0 0,.q 26 (fun g36=>.int .i64 (i11.length:Int)) [2] 0 0,.q 27 (fun g36=>.int .i64 (wr .i64 ((i11.length:Int)-1))) [2,4] 0 0,.q 28 (fun g36=>.pointer (some ⟨b33,o34+Int.toNat (wr .i64 ((i11.length:Int)-1))*34,none⟩)) [2,3,5] 0 0,.q 29 (fun g36=>.agg (Cd.cs c_aggregate_Range (lget i11 (wr .i64 ((i11.length:Int)-1)))).toArray) [2,6] 0 0,.q 30 (fun g36=>.agg (Cd.cs c_api_Prefix (lget t7 i12)).toArray) [2] 0 0,.q 31 (fun g36=>.bool t35) [2,7,8] 0 0,.q 32 (fun g36=>.bool (!t35)) [2,9] 0 0,.q 33 (fun g36=>.bool (!t35)) [2,10] 0 0] (fun g36 s=>match s with | _=>(Wd w [cellsE b22 (Cd.cs c_api_Prefix (lget t7 i12)) 38,rowE c_aggregate_Range 112 p13 c14 i11,rowE c_api_Prefix 38 p5 c6 t7])) 0 (by kernel_rfl) (by kernel_rfl) (by kernel_rfl) (by kernel_rfl) (by kernel_rfl) ⟨fun _ _ _=>rfl,fun _ _ _=>rfl,fun _ _ _=>rfl,fun _ _ _=>rfl,fun _ _ _=>rfl,fun _ _ _=>rfl,fun _ _ _=>rfl,fun _ _ _=>rfl,fun _ _ _=>rfl,fun _ _ _=>rfl,fun _ _ _=>rfl,fun _ _ _=>rfl,trivial⟩ (by kernel_rfl) (fun w_ h=>⟨fun _=>g3 0 none 0 none w_,h.drew⟩) ⟨?_,?_,?_,?_,?_,?_,?_,?_,?_,?_,?_,?_,trivial⟩ ?_
    ·intro Lx g36 s K hl hh k
     show At 60 ((4,_)::(6,_)::(7,_)::(14,_)::(15,_)::(16,_)::Lx) _ _
     refine am ?_
     exact at_nil k
    ·intro Lx g36 s K hl hh k
     show At 60 ((22,_)::(4,_)::(6,_)::(7,_)::(14,_)::(15,_)::(16,_)::Lx) _ _
     refine aw xq ?_
     exact at_nil k
    ·intro Lx g36 s K hl hh k
     show At 60 ((23,_)::(4,_)::(6,_)::(7,_)::(14,_)::(15,_)::(16,_)::Lx) _ _
     refine am ?_
     exact at_nil (at_cast h23 k)
    ·intro Lx g36 s K hl hh k
     show At 60 ((24,_)::(4,_)::(6,_)::(7,_)::(14,_)::(15,_)::(16,_)::Lx) _ _
     refine gy ?_
     refine am ?_
     exact at_nil k
    ·intro Lx g36 s K hl hh k
     show At 60 ((24,_)::(4,_)::(6,_)::(7,_)::(14,_)::(15,_)::(16,_)::Lx) _ _
     refine gy ?_
     refine am ?_
     exact at_nil k
    ·intro Lx g36 s K hl hh k
     show At 60 ((24,_)::(26,_)::(4,_)::(6,_)::(7,_)::(14,_)::(15,_)::(16,_)::Lx) _ _
     refine gy ?_
     refine aw (r_isub rfl rfl) ?_
     exact at_nil k
    ·intro Lx g36 s K hl hh k
     show At 60 ((24,_)::(25,_)::(27,_)::(4,_)::(6,_)::(7,_)::(14,_)::(15,_)::(16,_)::Lx) _ _
     refine gy ?_
     refine aw (r_idx underlying109 sizeOf112 rfl rfl h31 hp32) ?_
     exact at_nil k
    ·intro Lx g36 s K hl hh k
     show At 60 ((24,_)::(28,_)::(4,_)::(6,_)::(7,_)::(14,_)::(15,_)::(16,_)::Lx) _ _
     refine gy ?_
     obtain rfl:s=0:=by omega
     refine aw (r_load_aggc (c:=c_aggregate_Range) (z:=lget i11 (wr .i64 ((i11.length:Int)-1))) isAgg112 sizeOf112 rfl (fun w1 hw=>row_cell (W:=fun w1=>w1=_) (fun w1 h=>by subst h;exact Below.refl _ _) (hw.own (.s .z)).row h31 hp32 _ rfl)) ?_
     exact at_nil k
    ·intro Lx g36 s K hl hh k
     show At 60 ((24,_)::(4,_)::(6,_)::(7,_)::(14,_)::(15,_)::(16,_)::Lx) _ _
     refine gy ?_
     obtain rfl:s=0:=by omega
     refine aw (r_load_aggc (c:=c_api_Prefix) (z:=lget t7 i12) isAgg38 sizeOf38 rfl (lens_cell .z lw)) ?_
     exact at_nil k
    ·intro Lx g36 s K hl hh k
     show At 60 ((24,_)::(29,_)::(30,_)::(4,_)::(6,_)::(7,_)::(14,_)::(15,_)::(16,_)::Lx) _ _
     refine gy ?_
     obtain rfl:s=0:=by omega
     refine cB func104 rfl (fun w hw=>aggregate_joins_ok _ _ _ ht35 w) ?_
     exact at_nil k
    ·intro Lx g36 s K hl hh k
     show At 60 ((24,_)::(31,_)::(4,_)::(6,_)::(7,_)::(14,_)::(15,_)::(16,_)::Lx) _ _
     refine gy ?_
     refine aw (r_not rfl) ?_
     exact at_nil k
    ·intro Lx g36 s K hl hh k
     show At 60 ((24,_)::(32,_)::(4,_)::(6,_)::(7,_)::(14,_)::(15,_)::(16,_)::Lx) _ _
     refine aw xp ?_
     exact at_nil k
    intro g36
    show At 60 [(22,_),(23,_),(24,_),(25,_),(26,_),(27,_),(28,_),(29,_),(30,_),(31,_),(32,_),(33,_),(4,_),(6,_),(7,_),(14,_),(15,_),(16,_)] _ _
    refine wq [33,16,15,14,7,6,4] ?_
    refine tn ?_
    obtain ⟨h37,hF⟩|⟨h37,hF⟩:=oi hF
    ·refine ct h37 ?_
     refine qs (wq [16,15,14,6,4] ?_)
     obtain ⟨t38,ht38,hF⟩:=bM hF
     refine at_invT [.q 34 (fun g40=>.slice p13 i11.length c14) [] 0 1,.q 35 (fun g40=>.pointer (some ⟨b22,0+0,none⟩)) [] 0 0,.q 36 (fun g40=>.agg (Cd.cs c_api_Addr ((lget t7 i12).f_A)).toArray) [1] 0 0,.q 37 (fun g40=>.agg (Cd.cs c_api_Prefix (lget t7 i12)).toArray) [] 0 0,.q 38 (fun g40=>.agg (Cd.cs c_api_Addr t38).toArray) [3] 0 0,.q 39 (fun g40=>.agg (Cd.cs c_aggregate_Range ({ { zv9 with f_From:=(lget t7 i12).f_A } with f_To:=t38 })).toArray) [2,4] 0 0,.al 0 40 (fun g40=>.slice (some ⟨((g40 0).1),0,none⟩) ([{ { zv9 with f_From:=(lget t7 i12).f_A } with f_To:=t38 }]:List S_aggregate_Range).length 1) [5]] (fun g40 s=>match s with | 0=>(Wd w [cellsE b22 (Cd.cs c_api_Prefix (lget t7 i12)) 38,rowE c_aggregate_Range 112 p13 c14 i11,rowE c_api_Prefix 38 p5 c6 t7]) | _=>(Wd w [cellsE ((g40 0).1) (c_aggregate_Range.all ([{ { zv9 with f_From:=(lget t7 i12).f_A } with f_To:=t38 }]:List S_aggregate_Range)) 112,cellsE b22 (Cd.cs c_api_Prefix (lget t7 i12)) 38,rowE c_aggregate_Range 112 p13 c14 i11,rowE c_api_Prefix 38 p5 c6 t7])) 1 7 (by kernel_rfl) (by kernel_rfl) (by kernel_rfl) (by kernel_rfl) (by kernel_rfl) (by kernel_rfl) ⟨fun _ _ _=>rfl,fun _ _ _=>rfl,fun _ _ _=>rfl,fun _ _ _=>rfl,fun _ _ _=>rfl,fun _ _ _=>rfl,fun g40 g2 h=>by show (.slice (some ⟨((g40 0).1),0,none⟩) ([{ { zv9 with f_From:=(lget t7 i12).f_A } with f_To:=t38 }]:List S_aggregate_Range).length 1:Value)=.slice (some ⟨((g2 0).1),0,none⟩) ([{ { zv9 with f_From:=(lget t7 i12).f_A } with f_To:=t38 }]:List S_aggregate_Range).length 1;rw [h 0 (show 0<1 by decide)],trivial⟩ (by kernel_rfl) (fun w_ h=>⟨fun _=>g3 0 none 0 none w_,h.drew⟩) ⟨?_,?_,?_,?_,?_,?_,?_,trivial⟩ ?_
     ·intro Lx g40 s K hl hh k
      show At 60 ((4,_)::(6,_)::(14,_)::(15,_)::(16,_)::Lx) _ _
      refine am ?_
      exact at_nil k
     ·intro Lx g40 s K hl hh k
      show At 60 ((4,_)::(6,_)::(14,_)::(15,_)::(16,_)::Lx) _ _
      refine fa 0 underlying38 rfl sizeOf36 ?_
      exact at_nil k
     ·intro Lx g40 s K hl hh k
      show At 60 ((35,_)::(4,_)::(6,_)::(14,_)::(15,_)::(16,_)::Lx) _ _
      obtain rfl:s=0:=by omega
      refine aw (r_load_aggc (c:=c_api_Addr) (z:=(lget t7 i12).f_A) isAgg36 sizeOf36 rfl (lens_cell .z (Lens.comp lw (fun z=>{ lget t7 i12 with f_A:=z }) (c_api_Prefix_f_A (lget t7 i12))))) ?_
      exact at_nil k
     ·intro Lx g40 s K hl hh k
      show At 60 ((4,_)::(6,_)::(14,_)::(15,_)::(16,_)::Lx) _ _
      obtain rfl:s=0:=by omega
      refine aw (r_load_aggc (c:=c_api_Prefix) (z:=lget t7 i12) isAgg38 sizeOf38 rfl (lens_cell .z lw)) ?_
      exact at_nil k
     ·intro Lx g40 s K hl hh k
      show At 60 ((37,_)::(4,_)::(6,_)::(14,_)::(15,_)::(16,_)::Lx) _ _
      obtain rfl:s=0:=by omega
      refine cB func105 rfl (fun w hw=>aggregate_last_ok _ _ ht38 w) ?_
      exact at_nil k
     ·intro Lx g40 s K hl hh k
      show At 60 ((36,_)::(38,_)::(4,_)::(6,_)::(14,_)::(15,_)::(16,_)::Lx) _ _
      obtain rfl:s=0:=by omega
      refine aw (r_build_struct (zs:=Cd.cs c_aggregate_Range zv9) (cs:=Cd.cs c_aggregate_Range ({ { zv9 with f_From:=(lget t7 i12).f_A } with f_To:=t38 })) underlying112 zeroValue112 rfl (places_aggregate_Range_112) rfl (fill_step (c:=c_api_Addr) (z:=(lget t7 i12).f_A) rfl (c_aggregate_Range_f_From zv9) rfl (fill_step (c:=c_api_Addr) (z:=t38) rfl (c_aggregate_Range_f_To ({ zv9 with f_From:=(lget t7 i12).f_A })) rfl rfl))) ?_
      exact at_nil k
     ·intro Lx g40 K k
      show At 60 ((39,_)::(4,_)::(6,_)::(14,_)::(15,_)::(16,_)::Lx) _ _
      refine at_litL (c:=c_aggregate_Range) ([zv9]:List S_aggregate_Range) ([{ { zv9 with f_From:=(lget t7 i12).f_A } with f_To:=t38 }]:List S_aggregate_Range) underlying109 sizeOf112 zeroValue112 rfl rfl rfl (by kernel_rfl) (fill_step (c:=c_aggregate_Range) (z:={ { zv9 with f_From:=(lget t7 i12).f_A } with f_To:=t38 }) rfl (Lens.all c_aggregate_Range ([zv9]:List S_aggregate_Range) 0 (by first | decide | exact Nat.le_of_ble_eq_true rfl)) rfl rfl) rfl ?_
      intro b39
      exact at_nil (k (g3 b39 none 0 none w))
     intro g40
     show At 60 [(34,_),(35,_),(36,_),(37,_),(38,_),(39,_),(40,_),(4,_),(6,_),(14,_),(15,_),(16,_)] _ _
     obtain ⟨h41,hF⟩:=gd hF
     refine at_append (z:=.agg (Cd.cs c_aggregate_Range zv9).toArray) (c:=c_aggregate_Range) (ys:=([{ { zv9 with f_From:=(lget t7 i12).f_A } with f_To:=t38 }]:List S_aggregate_Range)) (.s (.s .z)) underlying109 infoA4112 (by kernel_rfl) (by kernel_rfl) rfl rfl rfl rfl (fun _ hw=>cells_src (hw.ok (Upd.mem .z))) (by kernel_rfl) h41 (app_small h41) rfl ?_
     intro p42 c43
     refine aa (qn (dz (dz (wq [16,15,14,4] ?_))))
     refine tn ?_
     refine at_exit ?_
     refine te (at_blk_same (tn ?_))
     refine qr (aw xa (am (nwq [16,15,14,4] ?_)))
     exact at_weak_k (ih _ _ _ hF K p42 c43) ⟨rfl,rfl,rfl,rfl,trivial⟩
    refine cf h37 ?_
    refine sns ?_
    refine aw (r_load_aggc (c:=c_api_Prefix) (z:=lget t7 i12) isAgg38 sizeOf38 rfl (lens_cell .z lw)) ?_
    obtain ⟨t44,ht44,hF⟩:=bM hF
    refine cB func105 rfl (fun w hw=>aggregate_last_ok _ _ ht44 w) ?_
    refine al (cs:=Cd.cs c_api_Addr zv1) zeroValue36 ?_
    intro b45
    refine at_store (c:=c_api_Addr) (z:=t44) .z lw sizeOf36 rfl rfl rfl ?_
    refine qn ?_
    refine at_drop (H:=_) (.s .z) ?_
    refine tn (qs (wq [16,15,14,8,7,4] ?_))
    obtain ⟨h46,hF⟩:=gd hF
    refine at_pure (φ:=∃ b o,p13=some ⟨b,o,none⟩) (fun _ hw=>row_ptr (hw.own (.s .z)).row h46) ?_
    rintro ⟨b48,o49,hp47⟩
    obtain ⟨t50,ht50,hF⟩:=bM hF
    refine at_inv [.q 44 (fun g51=>.slice p13 i11.length c14) [] 0 0,.q 45 (fun g51=>.int .i64 (i11.length:Int)) [] 0 0,.q 46 (fun g51=>.int .i64 (wr .i64 ((i11.length:Int)-1))) [1] 0 0,.q 47 (fun g51=>.pointer (some ⟨b48,o49+Int.toNat (wr .i64 ((i11.length:Int)-1))*34,none⟩)) [0,2] 0 0,.q 48 (fun g51=>.pointer (some ⟨b48,o49+Int.toNat (wr .i64 ((i11.length:Int)-1))*34+17,none⟩)) [3] 0 0,.q 49 (fun g51=>.agg (Cd.cs c_api_Addr ((lget i11 (wr .i64 ((i11.length:Int)-1))).f_To)).toArray) [4] 0 0,.q 50 (fun g51=>.agg (Cd.cs c_api_Addr t44).toArray) [] 0 0,.q 51 (fun g51=>.bool t50) [5,6] 0 0] (fun g51 s=>match s with | _=>(Wd w [cellsE b45 (Cd.cs c_api_Addr t44) 36,rowE c_aggregate_Range 112 p13 c14 i11,rowE c_api_Prefix 38 p5 c6 t7])) 0 (by kernel_rfl) (by kernel_rfl) (by kernel_rfl) (by kernel_rfl) (by kernel_rfl) ⟨fun _ _ _=>rfl,fun _ _ _=>rfl,fun _ _ _=>rfl,fun _ _ _=>rfl,fun _ _ _=>rfl,fun _ _ _=>rfl,fun _ _ _=>rfl,fun _ _ _=>rfl,trivial⟩ (by kernel_rfl) (fun w_ h=>⟨fun _=>g3 0 none 0 none w_,h.drew⟩) ⟨?_,?_,?_,?_,?_,?_,?_,?_,trivial⟩ ?_
    ·intro Lx g51 s K hl hh k
     show At 60 ((4,_)::(7,_)::(8,_)::(14,_)::(15,_)::(16,_)::Lx) _ _
     refine am ?_
     exact at_nil k
    ·intro Lx g51 s K hl hh k
     show At 60 ((4,_)::(7,_)::(8,_)::(14,_)::(15,_)::(16,_)::Lx) _ _
     refine am ?_
     exact at_nil k
    ·intro Lx g51 s K hl hh k
     show At 60 ((45,_)::(4,_)::(7,_)::(8,_)::(14,_)::(15,_)::(16,_)::Lx) _ _
     refine aw (r_isub rfl rfl) ?_
     exact at_nil k
    ·intro Lx g51 s K hl hh k
     show At 60 ((44,_)::(46,_)::(4,_)::(7,_)::(8,_)::(14,_)::(15,_)::(16,_)::Lx) _ _
     refine aw (r_idx underlying109 sizeOf112 rfl rfl h46 hp47) ?_
     exact at_nil k
    ·intro Lx g51 s K hl hh k
     show At 60 ((47,_)::(4,_)::(7,_)::(8,_)::(14,_)::(15,_)::(16,_)::Lx) _ _
     refine fa 17 underlying112 rfl sizeOf36 ?_
     exact at_nil k
    ·intro Lx g51 s K hl hh k
     show At 60 ((48,_)::(4,_)::(7,_)::(8,_)::(14,_)::(15,_)::(16,_)::Lx) _ _
     obtain rfl:s=0:=by omega
     refine aw (r_load_aggc (c:=c_api_Addr) (z:=(lget i11 (wr .i64 ((i11.length:Int)-1))).f_To) isAgg36 sizeOf36 rfl (fun w1 hw=>row_lens (y:=(lget i11 (wr .i64 ((i11.length:Int)-1))).f_To) (W:=fun w1=>w1=_) (fun w1 h=>by subst h;exact Below.refl _ _) (hw.own (.s .z)).row h46 hp47 (Lens.comp lw (fun z=>{ (lget i11 (wr .i64 ((i11.length:Int)-1))) with f_To:=z }) (c_aggregate_Range_f_To (lget i11 (wr .i64 ((i11.length:Int)-1))))) _ rfl)) ?_
     exact at_nil k
    ·intro Lx g51 s K hl hh k
     show At 60 ((4,_)::(7,_)::(8,_)::(14,_)::(15,_)::(16,_)::Lx) _ _
     obtain rfl:s=0:=by omega
     refine aw (r_load_aggc (c:=c_api_Addr) (z:=t44) isAgg36 sizeOf36 rfl (lens_cell .z lw)) ?_
     exact at_nil k
    ·intro Lx g51 s K hl hh k
     show At 60 ((49,_)::(50,_)::(4,_)::(7,_)::(8,_)::(14,_)::(15,_)::(16,_)::Lx) _ _
     obtain rfl:s=0:=by omega
     refine cB func92 rfl (fun w hw=>addr_Less_ok _ _ _ ht50 w) ?_
     exact at_nil k
    intro g51
    show At 60 [(44,_),(45,_),(46,_),(47,_),(48,_),(49,_),(50,_),(51,_),(4,_),(7,_),(8,_),(14,_),(15,_),(16,_)] _ _
    refine wq [51,16,15,14,8,7,4] ?_
    refine tn ?_
    obtain ⟨h52,hF⟩|⟨h52,hF⟩:=oi hF
    ·refine ct h52 ?_
     refine qr (am (am ?_))
     refine aw (r_isub rfl rfl) ?_
     refine aw (r_load_aggc (c:=c_api_Addr) (z:=t44) isAgg36 sizeOf36 rfl (lens_cell .z lw)) ?_
     obtain ⟨h53,hF⟩:=gd hF
     refine at_pure (φ:=∃ b o,p13=some ⟨b,o,none⟩) (fun _ hw=>row_ptr (hw.own (.s .z)).row h53) ?_
     rintro ⟨b55,o56,hp54⟩
     refine aw (r_idx underlying109 sizeOf112 rfl rfl h53 hp54) ?_
     refine fa 17 underlying112 rfl sizeOf36 ?_
     refine at_storeRow (c:=c_aggregate_Range) (c':=c_api_Addr) (i:=wr .i64 ((i11.length:Int)-1)) (z:=t44) (y:={ (lget i11 (wr .i64 ((i11.length:Int)-1))) with f_To:=t44 }) (.s .z) h53 hp54 (Lens.comp lw (fun z=>{ (lget i11 (wr .i64 ((i11.length:Int)-1))) with f_To:=z }) (c_aggregate_Range_f_To (lget i11 (wr .i64 ((i11.length:Int)-1))))) (by rfl) sizeOf36 rfl rfl rfl ?_
     refine at_ov (t:=4) rfl (show Value.slice p13 (List.length i11) c14=.slice p13 (List.length (lset i11 (wr .i64 ((i11.length:Int)-1)) ({ (lget i11 (wr .i64 ((i11.length:Int)-1))) with f_To:=t44 }))) c14 from congrArg (fun n_=>Value.slice p13 n_ c14) ((lset_length _ _ _).symm)) ?_
     refine at_ov (t:=52) rfl (show Value.slice p13 (List.length i11) c14=.slice p13 (List.length (lset i11 (wr .i64 ((i11.length:Int)-1)) ({ (lget i11 (wr .i64 ((i11.length:Int)-1))) with f_To:=t44 }))) c14 from congrArg (fun n_=>Value.slice p13 n_ c14) ((lset_length _ _ _).symm)) ?_
     refine qn (dz (wq [16,15,14,4] ?_))
     refine bm ?_
     refine qr (aw xa (am (nwq [16,15,14,4] ?_)))
     exact at_weak_k (ih _ _ _ hF K p13 c14) ⟨rfl,rfl,rfl,rfl,trivial⟩
    refine cf h52 ?_
    refine at_skip ?_
    refine bm ?_
    refine qr (aw xa (am (qn (dz (wq [16,15,14,4] ?_)))))
    refine tn ?_
    exact at_weak_k (ih _ _ _ hF K p13 c14) ⟨rfl,rfl,rfl,rfl,trivial⟩
   refine cf h17 ?_
   refine at_exit ?_
   refine te (te ?_)
   refine at_drop (H:=_) (.s .z) ?_
   obtain rfl:=os hF
   exact at_weak_k (K p13 c14) ⟨rfl,trivial⟩
 skip
 intro p15 c16
 refine at_blk_same ?_
 refine tn (sr (am (aa (nwq [2] ?_))))
 refine qt ?_
 have K:=os hF
 subst K
 exact r1 (fun w1 hw=>⟨p15,c16,rfl,hw.own .z,hw.below⟩)
def aggregate_Cover.l0(t1:List S_aggregate_Range)(i7:List S_api_Prefix)(i9:Int):Option (List S_api_Prefix) :=
 if (decide (i9<(t1.length:Int)))=true then (if (0:Int)≤i9∧i9<(t1.length:Int) then aggregate_Prefixes (lget t1 i9)>>=fun t20=>if (i7.length+t20.length)*32≤140737488355328 then aggregate_Cover.l0 t1 (i7++t20) (wr .i64 (i9+1)) else none else none) else (some i7)
 partial_fixpoint
def aggregate_Cover(x0:List S_api_Prefix):Option (List S_api_Prefix) :=
 aggregate_Ranges x0>>=fun t1=>aggregate_Cover.l0 t1 ([]:List S_api_Prefix) 0>>=fun q6=>some q6
theorem aggregate_Cover_ok(x0:List S_api_Prefix)(p0_:Option Addr)(c0_:Nat)(r:List S_api_Prefix)(hF:aggregate_Cover x0=some r)(w:World)(hr0:Row c_api_Prefix w p0_ c0_ x0) :
    Calls Tryz.prog 50 #[.slice p0_ x0.length c0_] w (fun e w'=>∃ p cap,e=.returned (.slice p r.length cap)∧Own c_api_Prefix 38 w.heap.size w' p cap r∧Below w.heap.size w w'):=by
 unfold aggregate_Cover at hF
 refine ce (l:=[.slice p0_ x0.length c0_]) func50 rfl rfl ?_
 refine at_start ?_
 refine sr (aa (ns (aa (nt (qs (sr (am ?_)))))))
 obtain ⟨t1,ht1,hF⟩:=bM hF
 refine at_callO (c:=c_aggregate_Range) (e:=112) (ys:=t1) (V:=fun p cap=>.slice p t1.length cap) func75 rfl (by kernel_rfl) rfl rfl (fun w hw=>aggregate_Ranges_ok _ _ _ _ ht1 w (hr0.below hw.below)) ?_
 intro p2 c3
 refine aw (r_len_sl underlying109 rfl) ?_
 refine am (nwq [9,8,7,3] ?_)
 refine qb ?_
 refine at_own_nil c_api_Prefix 38 ?_
 obtain ⟨q6,hq6,hF⟩:=bM hF
 refine wq [9,8,7,3] ?_
 refine at_loop_n (B:=0) (A:=fun Y=>∀ (p12:Option Addr) (c13:Nat),At 19 [(3,.slice p12 q6.length c13)] (Wd w [rowE c_api_Prefix 38 p12 c13 q6]) Y) ?_ ?_
 ·intro K
  refine aggregate_Cover.l0.partial_correctness t1 (motive:=fun i7 i9 x=>KN (fun Y=>∀ (p12:Option Addr) (c13:Nat),At 19 [(3,.slice p12 x.length c13)] (Wd w [rowE c_api_Prefix 38 p12 c13 x]) Y) _ 0→Round (fun Y=>∀ (p10:Option Addr) (c11:Nat),At 19 [(3,.slice p10 i7.length c11),(7,.slice p2 t1.length c3),(8,.int .i64 (t1.length:Int)),(9,.int .i64 i9)] (Wd w [rowE c_api_Prefix 38 p10 c11 i7,rowE c_aggregate_Range 112 p2 c3 t1]) Y) _ _ _) ?_ _ _ _ hq6 K none 0
  ·clear K hF
   intro g ih i7 i9 x hF K p10 c11
   refine at_round ?_
   refine sr (aw xl (nwq [10,9,8,7,3] ?_))
   refine qs ?_
   obtain ⟨h14,hF⟩|⟨h14,hF⟩:=oi hF
   ·refine ct h14 ?_
    refine sn (qs ?_)
    refine qb ?_
    refine sr ?_
    obtain ⟨h15,hF⟩:=gd hF
    refine at_pure (φ:=∃ b o,p2=some ⟨b,o,none⟩) (fun _ hw=>row_ptr (hw.own (.s .z)).row h15) ?_
    rintro ⟨b17,o18,hp16⟩
    refine aw (r_idx underlying109 sizeOf112 rfl rfl h15 hp16) ?_
    refine aw (r_load_aggc (c:=c_aggregate_Range) (z:=lget t1 i9) isAgg112 sizeOf112 rfl (fun w1 hw=>row_cell (W:=fun w1=>w1=_) (fun w1 h=>by subst h;exact Below.refl _ _) (hw.own (.s .z)).row h15 hp16 _ rfl)) ?_
    refine al (cs:=Cd.cs c_aggregate_Range zv9) zeroValue112 ?_
    intro b19
    refine at_store (c:=c_aggregate_Range) (z:=lget t1 i9) .z lw sizeOf112 rfl rfl rfl ?_
    refine nt (qr (am ?_))
    refine aw (r_load_aggc (c:=c_aggregate_Range) (z:=lget t1 i9) isAgg112 sizeOf112 rfl (lens_cell .z lw)) ?_
    obtain ⟨t20,ht20,hF⟩:=bM hF
    refine at_callO (c:=c_api_Prefix) (e:=38) (ys:=t20) (V:=fun p cap=>.slice p t20.length cap) func76 rfl (by kernel_rfl) rfl rfl (fun w hw=>aggregate_Prefixes_ok _ _ ht20 w) ?_
    intro p21 c22
    obtain ⟨h23,hF⟩:=gd hF
    refine at_append_row (z:=.agg (Cd.cs c_api_Prefix zv8).toArray) (c:=c_api_Prefix) (ys:=t20) (.s (.s .z)) underlying58 infoA438 (by kernel_rfl) (by kernel_rfl) rfl rfl rfl (fun w1 hw=>(hw.own .z).row) (by kernel_rfl) h23 (app_small h23) rfl ?_
    intro p24 c25
    refine aa (qn (dz (dz (wq [9,8,7,3] ?_))))
    refine bm ?_
    refine qr (aw xa (am (nwq [9,8,7,3] ?_)))
    exact at_weak_k (ih _ _ _ hF K p24 c25) ⟨rfl,rfl,rfl,rfl,trivial⟩
   refine cf h14 ?_
   refine at_exit ?_
   refine te (te ?_)
   refine at_drop (H:=_) (.s .z) ?_
   obtain rfl:=os hF
   exact at_weak_k (K p10 c11) ⟨rfl,trivial⟩
 skip
 intro p12 c13
 refine at_blk_same ?_
 refine tn (sr (am (aa (nwq [2] ?_))))
 refine qt ?_
 have K:=os hF
 subst K
 exact r1 (fun w1 hw=>⟨p12,c13,rfl,hw.own .z,hw.below⟩)
def crawlwayref53_sorted.l1(x0:List S_api_Prefix)(i4:List S_api_Prefix)(i5:Int)(i18:Int):Option (Int) :=
 if (decide (i18>0))=true then (if (0:Int)≤i5∧i5<(x0.length:Int) then if (0:Int)≤wr .i64 (i18-1)∧wr .i64 (i18-1)<(i4.length:Int) then crawlwayref11_Less (lget x0 i5) (lget i4 (wr .i64 (i18-1)))>>=fun t28=>if t28=true then (crawlwayref53_sorted.l1 x0 i4 i5 (wr .i64 (i18-1))) else (some i18) else none else none) else (some i18)
 partial_fixpoint
def crawlwayref53_sorted.l0(x0:List S_api_Prefix)(i4:List S_api_Prefix)(i5:Int):Option (List S_api_Prefix) :=
 if (decide (i5<(x0.length:Int)))=true then (if (0:Int)≤i5∧i5<(x0.length:Int) then crawlwayref11_Right (lget x0 i5)>>=fun t15=>if (!t15)=true then (crawlwayref53_sorted.l0 x0 i4 (wr .i64 (i5+1))) else (crawlwayref53_sorted.l1 x0 i4 i5 (i4.length:Int)>>=fun q17=>if (0:Int)≤0∧0≤q17∧q17≤(i4.length:Int) then if (([]:List S_api_Prefix).length+(lsub i4 0 q17).length)*32≤140737488355328 then if (0:Int)≤i5∧i5<(x0.length:Int) then if ((([]:List S_api_Prefix)++(lsub i4 0 q17)).length+1)*32≤140737488355328 then if (0:Int)≤q17∧q17≤(i4.length:Int)∧(i4.length:Int)≤(i4.length:Int) then if (((([]:List S_api_Prefix)++(lsub i4 0 q17))++[lget x0 i5]).length+(lsub i4 q17 (i4.length:Int)).length)*32≤140737488355328 then crawlwayref53_sorted.l0 x0 (((([]:List S_api_Prefix)++(lsub i4 0 q17))++[lget x0 i5])++(lsub i4 q17 (i4.length:Int))) (wr .i64 (i5+1)) else none else none else none else none else none else none) else none) else (some i4)
 partial_fixpoint
def crawlwayref53_sorted(x0:List S_api_Prefix):Option (List S_api_Prefix) :=
 crawlwayref53_sorted.l0 x0 ([]:List S_api_Prefix) 0>>=fun q3=>some q3
def crawlwayref53_Ranges.l0(t1:List S_api_Prefix)(i7:List (Vector S_api_Addr 2))(i9:Int):Option (List (Vector S_api_Addr 2)) :=
 if (decide (i9<(t1.length:Int)))=true then (if (decide ((i7.length:Int)>0))=true then (if (0:Int)≤wr .i64 ((i7.length:Int)-1)∧wr .i64 ((i7.length:Int)-1)<(i7.length:Int) then crawlwayref53_Next (vget (lget i7 (wr .i64 ((i7.length:Int)-1))) 1)>>=fun t20=>if (0:Int)≤wr .i64 ((i7.length:Int)-1)∧wr .i64 ((i7.length:Int)-1)<(i7.length:Int) then if (0:Int)≤i9∧i9<(t1.length:Int) then if ((vget (lget i7 (wr .i64 ((i7.length:Int)-1))) 0).f_V==((lget t1 i9).f_A).f_V)=true then (if (!t20.2)=true then (if (0:Int)≤wr .i64 ((i7.length:Int)-1)∧wr .i64 ((i7.length:Int)-1)<(i7.length:Int) then if (0:Int)≤i9∧i9<(t1.length:Int) then crawlwayref53_last (lget t1 i9)>>=fun t42=>crawlwayref10_Less (vget (lget i7 (wr .i64 ((i7.length:Int)-1))) 1) t42>>=fun t43=>if t43=true then (if (0:Int)≤i9∧i9<(t1.length:Int) then crawlwayref53_last (lget t1 i9)>>=fun t50=>if (0:Int)≤wr .i64 ((i7.length:Int)-1)∧wr .i64 ((i7.length:Int)-1)<(i7.length:Int) then crawlwayref53_Ranges.l0 t1 (lset i7 (wr .i64 ((i7.length:Int)-1)) (vset (lget i7 (wr .i64 ((i7.length:Int)-1))) 1 t50)) (wr .i64 (i9+1)) else none else none) else (crawlwayref53_Ranges.l0 t1 i7 (wr .i64 (i9+1))) else none else none) else (if (0:Int)≤i9∧i9<(t1.length:Int) then crawlwayref10_Less t20.1 ((lget t1 i9).f_A)>>=fun t60=>if (!t60)=true then (if (0:Int)≤wr .i64 ((i7.length:Int)-1)∧wr .i64 ((i7.length:Int)-1)<(i7.length:Int) then if (0:Int)≤i9∧i9<(t1.length:Int) then crawlwayref53_last (lget t1 i9)>>=fun t71=>crawlwayref10_Less (vget (lget i7 (wr .i64 ((i7.length:Int)-1))) 1) t71>>=fun t72=>if t72=true then (if (0:Int)≤i9∧i9<(t1.length:Int) then crawlwayref53_last (lget t1 i9)>>=fun t79=>if (0:Int)≤wr .i64 ((i7.length:Int)-1)∧wr .i64 ((i7.length:Int)-1)<(i7.length:Int) then crawlwayref53_Ranges.l0 t1 (lset i7 (wr .i64 ((i7.length:Int)-1)) (vset (lget i7 (wr .i64 ((i7.length:Int)-1))) 1 t79)) (wr .i64 (i9+1)) else none else none) else (crawlwayref53_Ranges.l0 t1 i7 (wr .i64 (i9+1))) else none else none) else (if (0:Int)≤i9∧i9<(t1.length:Int) then if (0:Int)≤i9∧i9<(t1.length:Int) then crawlwayref53_last (lget t1 i9)>>=fun t93=>if (i7.length+1)*48≤140737488355328 then crawlwayref53_Ranges.l0 t1 (i7++[vset (vset (Vector.replicate 2 ({ f_V:=(0:Int),f_B:=(Vector.replicate 16 (0:Int):(Vector Int 16)) }:S_api_Addr):(Vector S_api_Addr 2)) 0 ((lget t1 i9).f_A)) 1 t93]) (wr .i64 (i9+1)) else none else none else none) else none)) else (if (0:Int)≤i9∧i9<(t1.length:Int) then if (0:Int)≤i9∧i9<(t1.length:Int) then crawlwayref53_last (lget t1 i9)>>=fun t108=>if (i7.length+1)*48≤140737488355328 then crawlwayref53_Ranges.l0 t1 (i7++[vset (vset (Vector.replicate 2 ({ f_V:=(0:Int),f_B:=(Vector.replicate 16 (0:Int):(Vector Int 16)) }:S_api_Addr):(Vector S_api_Addr 2)) 0 ((lget t1 i9).f_A)) 1 t108]) (wr .i64 (i9+1)) else none else none else none) else none else none else none) else (if (0:Int)≤i9∧i9<(t1.length:Int) then if (0:Int)≤i9∧i9<(t1.length:Int) then crawlwayref53_last (lget t1 i9)>>=fun t122=>if (i7.length+1)*48≤140737488355328 then crawlwayref53_Ranges.l0 t1 (i7++[vset (vset (Vector.replicate 2 ({ f_V:=(0:Int),f_B:=(Vector.replicate 16 (0:Int):(Vector Int 16)) }:S_api_Addr):(Vector S_api_Addr 2)) 0 ((lget t1 i9).f_A)) 1 t122]) (wr .i64 (i9+1)) else none else none else none)) else (some i7)
 partial_fixpoint
def crawlwayref53_Ranges(x0:List S_api_Prefix):Option (List (Vector S_api_Addr 2)) :=
 crawlwayref53_sorted x0>>=fun t1=>crawlwayref53_Ranges.l0 t1 ([]:List (Vector S_api_Addr 2)) 0>>=fun q6=>some q6
def crawlwayref53_Cover.l0(t1:List (Vector S_api_Addr 2))(i7:List S_api_Prefix)(i9:Int):Option (List S_api_Prefix) :=
 if (decide (i9<(t1.length:Int)))=true then (if (0:Int)≤i9∧i9<(t1.length:Int) then if (0:Int)≤i9∧i9<(t1.length:Int) then crawlwayref53_Prefixes (vget (lget t1 i9) 0) (vget (lget t1 i9) 1)>>=fun t23=>if (i7.length+t23.length)*32≤140737488355328 then crawlwayref53_Cover.l0 t1 (i7++t23) (wr .i64 (i9+1)) else none else none else none) else (some i7)
 partial_fixpoint
def crawlwayref53_Cover(x0:List S_api_Prefix):Option (List S_api_Prefix) :=
 crawlwayref53_Ranges x0>>=fun t1=>crawlwayref53_Cover.l0 t1 ([]:List S_api_Prefix) 0>>=fun q6=>some q6
end Go.Proofs.YtahlbjmafceoeaaGreatDoor
namespace Go.Proofs.YtahlbjmafceoeaaGreatDoor
open E Go.RowKit _root_.Go.Proofs.Tryz
theorem infoF149_is:(Tryz.prog.info? 49).isSome=true:=by kernel_rfl
noncomputable def infoF149_v:TypeInfo:=(Tryz.prog.info? 49).get infoF149_is
theorem infoF149:Tryz.prog.info? 49=some infoF149_v:=(Option.some_get _).symm
def crawlwayref25_Find.l0(x0:List S_api_Entry)(x1:S_api_Addr)(i5:Bool)(i6:Int)(i7:S_api_Entry):Option (Bool×S_api_Entry) :=
 if (decide (i6<(x0.length:Int)))=true then (if (0:Int)≤i6∧i6<(x0.length:Int) then crawlwayref11_Has ((lget x0 i6).f_P) x1>>=fun t13=>if t13=true then (if (!i5)=true then (if (0:Int)≤i6∧i6<(x0.length:Int) then crawlwayref25_Find.l0 x0 x1 true (wr .i64 (i6+1)) (lget x0 i6) else none) else (if (0:Int)≤i6∧i6<(x0.length:Int) then if (decide (((lget x0 i6).f_P).f_Bits>i7.f_P.f_Bits))=true then (if (0:Int)≤i6∧i6<(x0.length:Int) then crawlwayref25_Find.l0 x0 x1 true (wr .i64 (i6+1)) (lget x0 i6) else none) else (crawlwayref25_Find.l0 x0 x1 i5 (wr .i64 (i6+1)) i7) else none)) else (crawlwayref25_Find.l0 x0 x1 i5 (wr .i64 (i6+1)) i7) else none) else (some (i5,i7))
 partial_fixpoint
def crawlwayref25_Find(x0:List S_api_Entry)(x1:S_api_Addr):Option (S_api_Entry×Bool) :=
 crawlwayref25_Find.l0 x0 x1 false 0 ({ f_P:=({ f_A:=({ f_V:=(0:Int),f_B:=(Vector.replicate 16 (0:Int):(Vector Int 16)) }:S_api_Addr),f_Bits:=(0:Int) }:S_api_Prefix),f_Owner:=(0:Int) }:S_api_Entry)>>=fun q4=>some (q4.2,q4.1)
theorem crawlwayref25_Find_ok(x0:List S_api_Entry)(p0_:Option Addr)(c0_:Nat)(x1:S_api_Addr)(r:S_api_Entry×Bool)(hF:crawlwayref25_Find x0 x1=some r)(w:World)(hr0:Row c_api_Entry w p0_ c0_ x0) :
    Calls Tryz.prog 16 #[.slice p0_ x0.length c0_,.agg (Cd.cs c_api_Addr x1).toArray] w (fun e w'=>e=.returned (.tuple #[.agg (Cd.cs c_api_Entry r.1).toArray,.bool r.2])∧Below w.heap.size w w'):=by
 unfold crawlwayref25_Find at hF
 refine ce (l:=[.slice p0_ x0.length c0_,.agg (Cd.cs c_api_Addr x1).toArray]) func16 rfl rfl ?_
 refine at_start ?_
 refine sr ?_
 refine at_box (cs:=Cd.cs c_api_Addr x1) rfl rfl rfl ?_
 intro b1
 refine al (cs:=Cd.cs c_api_Entry zv12) zeroValue49 ?_
 intro b2
 refine aa (ns ?_)
 refine al (cs:=Cd.cs c_api_Entry zv12) zeroValue49 ?_
 intro b3
 refine ns (aa (nt (qs (sr (aa (nwq [8,7,6,4,3,0] ?_))))))
 refine qb ?_
 obtain ⟨q4,hq4,hF⟩:=bM hF
 refine wq [8,7,6,4,3,0] ?_
 refine at_loop_n (B:=0) (A:=fun Y=>At 44 [(4,.pointer (some ⟨b2,0,none⟩)),(6,.pointer (some ⟨b3,0,none⟩)),(7,.bool q4.1)] (Wd w [cellsE b3 (Cd.cs c_api_Entry q4.2) 49,cellsE b2 (Cd.cs c_api_Entry zv12) 49]) Y) ?_ ?_
 ·intro K
  refine crawlwayref25_Find.l0.partial_correctness x0 x1 (motive:=fun i5 i6 i7 x=>KN (fun Y=>At 44 [(4,.pointer (some ⟨b2,0,none⟩)),(6,.pointer (some ⟨b3,0,none⟩)),(7,.bool x.1)] (Wd w [cellsE b3 (Cd.cs c_api_Entry x.2) 49,cellsE b2 (Cd.cs c_api_Entry zv12) 49]) Y) _ 0→Round (fun Y=>At 44 [(0,.slice p0_ x0.length c0_),(3,.pointer (some ⟨b1,0,none⟩)),(4,.pointer (some ⟨b2,0,none⟩)),(6,.pointer (some ⟨b3,0,none⟩)),(7,.bool i5),(8,.int .i64 i6)] (Wd w [cellsE b3 (Cd.cs c_api_Entry i7) 49,cellsE b2 (Cd.cs c_api_Entry zv12) 49,cellsE b1 (Cd.cs c_api_Addr x1) 36]) Y) _ _ _) ?_ _ _ _ _ hq4 K
  ·clear K hF
   intro g ih i5 i6 i7 x hF K
   refine at_round ?_
   refine qs (sr (am (am ?_)))
   refine aw (r_len_sl underlying46 rfl) ?_
   refine aw xl (nwq [12,8,7,6,4,3,0] ?_)
   obtain ⟨h8,hF⟩|⟨h8,hF⟩:=oi hF
   ·refine ct h8 ?_
    refine sn (qs ?_)
    refine qb ?_
    refine qs ?_
    refine at_draw (by kernel_rfl) (by kernel_rfl) (fun _ h=>h.drew) ?_
    refine atq_val rfl rfl rfl (r_move rfl) ?_
    refine atq_val rfl rfl rfl (r_move rfl) ?_
    obtain ⟨h9,hF⟩:=gd hF
    obtain ⟨b11,o12,hp10⟩:=row_ptr hr0 h9
    refine atq_val rfl rfl rfl (r_idx underlying46 sizeOf49 rfl rfl h9 hp10) ?_
    refine atq_val rfl rfl rfl (r_fieldAddr (fo:=0) underlying49 rfl rfl (fun w=>⟨_,sizeOf38 w⟩) rfl) ?_
    refine atq_val rfl rfl rfl (r_load_aggc (c:=c_api_Prefix) (z:=(lget x0 i6).f_P) isAgg38 sizeOf38 rfl (row_lens (y:=(lget x0 i6).f_P) (fun _ h=>h.below) hr0 h9 hp10 (Lens.comp lw (fun z=>{ (lget x0 i6) with f_P:=z }) (c_api_Entry_f_P (lget x0 i6))))) ?_
    refine atq_val rfl rfl rfl (r_load_aggc (c:=c_api_Addr) (z:=x1) isAgg36 sizeOf36 rfl (lens_cell (.s (.s .z)) lw)) ?_
    obtain ⟨t13,ht13,hF⟩:=bM hF
    refine atq_call func42 rfl (by kernel_rfl) rfl rfl (fun w hw=>(crawlwayref11_Has_ok _ _ _ ht13 w).mono fun _ _ h=>⟨h.1,hw.call h.2⟩) ?_
    refine atq_val rfl rfl rfl (r_move rfl) ?_
    obtain ⟨h14,hF⟩|⟨h14,hF⟩:=oi hF
    ·refine atq_fix (g:=22) rfl h14 ?_
     refine atq_guard_yes rfl rfl rfl ?_
     refine atq_val rfl rfl rfl (r_move rfl) ?_
     refine atq_guard_yes rfl rfl rfl ?_
     refine atq_val rfl rfl rfl (r_not rfl) ?_
     refine atq_guard_yes rfl rfl rfl ?_
     refine atq_val rfl rfl rfl (r_move rfl) ?_
     obtain ⟨h15,hF⟩|⟨h15,hF⟩:=oi hF
     ·refine atq_fix (g:=25) rfl h15 ?_
      refine atq_guard_no rfl rfl rfl rfl rfl ?_
      refine atq_guard_no rfl rfl rfl rfl rfl ?_
      refine atq_guard_no rfl rfl rfl rfl rfl ?_
      refine atq_guard_no rfl rfl rfl rfl rfl ?_
      refine atq_guard_no rfl rfl rfl rfl rfl ?_
      refine atq_guard_no rfl rfl rfl rfl rfl ?_
      refine atq_guard_no rfl rfl rfl rfl rfl ?_
      refine atq_guard_no rfl rfl rfl rfl rfl ?_
      refine atq_guard_no rfl rfl rfl rfl rfl ?_
      refine atq_guard_no rfl rfl rfl rfl rfl ?_
      refine atq_guard_yes rfl rfl rfl ?_
      refine atq_val rfl rfl rfl (r_pick rfl rfl rfl) ?_
      refine atq_val rfl rfl rfl (r_pick rfl rfl rfl) ?_
      refine atq_nil ?_
      refine wq [37,8,7,6,4,3,0] ?_
      refine tn ?_
      refine ct rfl ?_
      refine sr (am (am ?_))
      obtain ⟨h16,hF⟩:=gd hF
      obtain ⟨b18,o19,hp17⟩:=row_ptr hr0 h16
      refine aw (r_idx underlying46 sizeOf49 rfl rfl h16 hp17) ?_
      refine aw (r_load_aggc (c:=c_api_Entry) (z:=lget x0 i6) isAgg49 sizeOf49 rfl (row_cell (fun _ h=>h.below) hr0 h16 hp17)) ?_
      refine at_store (c:=c_api_Entry) (z:=lget x0 i6) .z lw sizeOf49 rfl rfl rfl ?_
      refine nt (qr (aa (qn (wq [8,7,6,4,3,0] ?_))))
      refine bm ?_
      refine qr (am (aw xa (aa (nwq [8,7,6,4,3,0] ?_))))
      exact at_weak_k (ih _ _ _ _ hF K) ⟨rfl,rfl,rfl,rfl,rfl,rfl,trivial⟩
     refine atq_fix (g:=25) rfl h15 ?_
     refine atq_guard_yes rfl rfl rfl ?_
     refine atq_val rfl rfl rfl (r_move rfl) ?_
     refine atq_guard_yes rfl rfl rfl ?_
     refine atq_val rfl rfl rfl (r_move rfl) ?_
     refine atq_guard_yes rfl rfl rfl ?_
     obtain ⟨h20,hF⟩:=gd hF
     obtain ⟨b22,o23,hp21⟩:=row_ptr hr0 h20
     refine atq_val rfl rfl rfl (r_idx underlying46 sizeOf49 rfl rfl h20 hp21) ?_
     refine atq_guard_yes rfl rfl rfl ?_
     refine atq_val rfl rfl rfl (r_fieldAddr (fo:=0) underlying49 rfl rfl (fun w=>⟨_,sizeOf38 w⟩) rfl) ?_
     refine atq_guard_yes rfl rfl rfl ?_
     refine atq_val rfl rfl rfl (r_fieldAddr (fo:=17) underlying38 rfl rfl (fun w=>⟨_,sizeOf3 w⟩) rfl) ?_
     refine atq_guard_yes rfl rfl rfl ?_
     refine atq_val rfl rfl rfl (r_load_cell isAgg3 rfl (row_lens0 (y:=((lget x0 i6).f_P).f_Bits) (fun _ h=>h.below) hr0 h20 hp21 (Lens.comp (Lens.comp lw (fun z=>{ (lget x0 i6) with f_P:=z }) (c_api_Entry_f_P (lget x0 i6))) (fun z=>{ (lget x0 i6).f_P with f_Bits:=z }) (c_api_Prefix_f_Bits ((lget x0 i6).f_P))) rfl)) ?_
     refine atq_guard_yes rfl rfl rfl ?_
     refine atq_val rfl rfl rfl (r_fieldAddr (fo:=0) underlying49 rfl rfl (fun w=>⟨_,sizeOf38 w⟩) rfl) ?_
     refine atq_guard_yes rfl rfl rfl ?_
     refine atq_val rfl rfl rfl (r_fieldAddr (fo:=17) underlying38 rfl rfl (fun w=>⟨_,sizeOf3 w⟩) rfl) ?_
     refine atq_guard_yes rfl rfl rfl ?_
     refine atq_val rfl rfl rfl (r_load_cell isAgg3 rfl (lens_cell0 (c:=(cInt .i64)) (y:=i7.f_P.f_Bits) .z (Lens.comp (Lens.comp lw (fun z=>{ i7 with f_P:=z }) (c_api_Entry_f_P i7)) (fun z=>{ i7.f_P with f_Bits:=z }) (c_api_Prefix_f_Bits i7.f_P)) rfl)) ?_
     refine atq_guard_yes rfl rfl rfl ?_
     refine atq_val rfl rfl rfl (r_igtr rfl rfl) ?_
     refine atq_guard_yes rfl rfl rfl ?_
     refine atq_val rfl rfl rfl (r_pick rfl rfl rfl) ?_
     refine atq_val rfl rfl rfl (r_pick rfl rfl rfl) ?_
     refine atq_nil ?_
     refine wq [37,8,7,6,4,3,0] ?_
     refine tn ?_
     obtain ⟨h24,hF⟩|⟨h24,hF⟩:=oi hF
     ·refine ct h24 ?_
      refine sr (am (am ?_))
      obtain ⟨h25,hF⟩:=gd hF
      obtain ⟨b27,o28,hp26⟩:=row_ptr hr0 h25
      refine aw (r_idx underlying46 sizeOf49 rfl rfl h25 hp26) ?_
      refine aw (r_load_aggc (c:=c_api_Entry) (z:=lget x0 i6) isAgg49 sizeOf49 rfl (row_cell (fun _ h=>h.below) hr0 h25 hp26)) ?_
      refine at_store (c:=c_api_Entry) (z:=lget x0 i6) .z lw sizeOf49 rfl rfl rfl ?_
      refine nt (qr (aa (qn (wq [8,7,6,4,3,0] ?_))))
      refine bm ?_
      refine qr (am (aw xa (aa (nwq [8,7,6,4,3,0] ?_))))
      exact at_weak_k (ih _ _ _ _ hF K) ⟨rfl,rfl,rfl,rfl,rfl,rfl,trivial⟩
     refine cf h24 ?_
     refine at_skip ?_
     refine bm ?_
     refine qr (am (aw xa (aa (nwq [8,7,6,4,3,0] ?_))))
     exact at_weak_k (ih _ _ _ _ hF K) ⟨rfl,rfl,rfl,rfl,rfl,rfl,trivial⟩
    refine atq_fix (g:=22) rfl h14 ?_
    refine atq_guard_no rfl rfl rfl rfl rfl ?_
    refine atq_guard_no rfl rfl rfl rfl rfl ?_
    refine atq_guard_no rfl rfl rfl rfl rfl ?_
    refine atq_guard_undef rfl rfl rfl rfl ?_
    refine atq_guard_undef rfl rfl rfl rfl ?_
    refine atq_guard_undef rfl rfl rfl rfl ?_
    refine atq_guard_undef rfl rfl rfl rfl ?_
    refine atq_guard_undef rfl rfl rfl rfl ?_
    refine atq_guard_undef rfl rfl rfl rfl ?_
    refine atq_guard_undef rfl rfl rfl rfl ?_
    refine atq_guard_undef rfl rfl rfl rfl ?_
    refine atq_guard_undef rfl rfl rfl rfl ?_
    refine atq_guard_undef rfl rfl rfl rfl ?_
    refine atq_guard_no rfl rfl rfl rfl rfl ?_
    refine atq_val rfl rfl rfl (r_pick rfl rfl rfl) ?_
    refine atq_nil ?_
    refine wq [37,8,7,6,4,3,0] ?_
    refine tn ?_
    refine cf rfl ?_
    refine at_skip ?_
    refine bm ?_
    refine qr (am (aw xa (aa (nwq [8,7,6,4,3,0] ?_))))
    exact at_weak_k (ih _ _ _ _ hF K) ⟨rfl,rfl,rfl,rfl,rfl,rfl,trivial⟩
   refine cf h8 ?_
   refine at_exit ?_
   refine te (te ?_)
   refine at_drop (H:=_) (.s (.s .z)) ?_
   obtain rfl:=os hF
   exact at_weak_k K ⟨rfl,rfl,rfl,trivial⟩
 skip
 skip
 refine at_blk_same ?_
 refine tn (sr ?_)
 refine aw (r_load_aggc (c:=c_api_Entry) (z:=q4.2) isAgg49 sizeOf49 rfl (lens_cell .z lw)) ?_
 refine am ?_
 refine at_store (c:=c_api_Entry) (z:=q4.2) (.s .z) lw sizeOf49 rfl rfl rfl ?_
 refine aa (qn (dz (wq [5,4] ?_)))
 refine tn (qt ?_)
 have K:=os hF
 subst K
 exact at_res2 rfl (res_cell (c:=c_api_Entry) (y:=q4.2) rfl .z lw isAgg49 sizeOf49 (.inl rfl)) (res_tmp rfl) wb
def crawlwayref25_Put.l0(x0:List S_api_Entry)(x1:S_api_Entry)(i5:List S_api_Entry)(i6:Bool)(i7:Int):Option (List S_api_Entry×Bool) :=
 if (decide (i7<(x0.length:Int)))=true then (if (0:Int)≤i7∧i7<(x0.length:Int) then if (decide ((lget x0 i7).f_P=x1.f_P))=true then (crawlwayref25_Put.l0 x0 x1 i5 i6 (wr .i64 (i7+1))) else (if (!i6)=true then (if (0:Int)≤i7∧i7<(x0.length:Int) then crawlwayref11_Less x1.f_P ((lget x0 i7).f_P)>>=fun t23=>if t23=true then (if (i5.length+1)*40≤140737488355328 then if (0:Int)≤i7∧i7<(x0.length:Int) then if ((i5++[x1]).length+1)*40≤140737488355328 then crawlwayref25_Put.l0 x0 x1 ((i5++[x1])++[lget x0 i7]) true (wr .i64 (i7+1)) else none else none else none) else (if (0:Int)≤i7∧i7<(x0.length:Int) then if (i5.length+1)*40≤140737488355328 then crawlwayref25_Put.l0 x0 x1 (i5++[lget x0 i7]) i6 (wr .i64 (i7+1)) else none else none) else none) else (if (0:Int)≤i7∧i7<(x0.length:Int) then if (i5.length+1)*40≤140737488355328 then crawlwayref25_Put.l0 x0 x1 (i5++[lget x0 i7]) i6 (wr .i64 (i7+1)) else none else none)) else none) else (some (i5,i6))
 partial_fixpoint
def crawlwayref25_Put(x0:List S_api_Entry)(x1:S_api_Entry):Option (List S_api_Entry) :=
 crawlwayref25_Put.l0 x0 x1 ([]:List S_api_Entry) false 0>>=fun q4=>if (!q4.2)=true then (if (q4.1.length+1)*40≤140737488355328 then some (q4.1++[x1]) else none) else (some q4.1)
theorem crawlwayref25_Put_ok(x0:List S_api_Entry)(p0_:Option Addr)(c0_:Nat)(x1:S_api_Entry)(r:List S_api_Entry)(hF:crawlwayref25_Put x0 x1=some r)(w:World)(hr0:Row c_api_Entry w p0_ c0_ x0) :
    Calls Tryz.prog 15 #[.slice p0_ x0.length c0_,.agg (Cd.cs c_api_Entry x1).toArray] w (fun e w'=>∃ p cap,e=.returned (.slice p r.length cap)∧Own c_api_Entry 49 w.heap.size w' p cap r∧Below w.heap.size w w'):=by
 unfold crawlwayref25_Put at hF
 refine ce (l:=[.slice p0_ x0.length c0_,.agg (Cd.cs c_api_Entry x1).toArray]) func15 rfl rfl ?_
 refine at_start ?_
 refine sr ?_
 refine at_box (cs:=Cd.cs c_api_Entry x1) rfl rfl rfl ?_
 intro b1
 refine aa (ns (aa (ns (aa (nt (qs (sr (aa ?_))))))))
 refine nwq [7,6,5,3,0] ?_
 refine qb ?_
 refine at_own_nil c_api_Entry 49 ?_
 obtain ⟨q4,hq4,hF⟩:=bM hF
 refine wq [7,6,5,3,0] ?_
 refine at_loop_n (B:=0) (A:=fun Y=>∀ (p10:Option Addr) (c11:Nat),At 52 [(3,.pointer (some ⟨b1,0,none⟩)),(5,.slice p10 q4.1.length c11),(6,.bool q4.2)] (Wd w [rowE c_api_Entry 49 p10 c11 q4.1,cellsE b1 (Cd.cs c_api_Entry x1) 49]) Y) ?_ ?_
 ·intro K
  refine crawlwayref25_Put.l0.partial_correctness x0 x1 (motive:=fun i5 i6 i7 x=>KN (fun Y=>∀ (p10:Option Addr) (c11:Nat),At 52 [(3,.pointer (some ⟨b1,0,none⟩)),(5,.slice p10 x.1.length c11),(6,.bool x.2)] (Wd w [rowE c_api_Entry 49 p10 c11 x.1,cellsE b1 (Cd.cs c_api_Entry x1) 49]) Y) _ 0→Round (fun Y=>∀ (p8:Option Addr) (c9:Nat),At 52 [(0,.slice p0_ x0.length c0_),(3,.pointer (some ⟨b1,0,none⟩)),(5,.slice p8 i5.length c9),(6,.bool i6),(7,.int .i64 i7)] (Wd w [rowE c_api_Entry 49 p8 c9 i5,cellsE b1 (Cd.cs c_api_Entry x1) 49]) Y) _ _ _) ?_ _ _ _ _ hq4 K none 0
  ·clear K hF
   intro g ih i5 i6 i7 x hF K p8 c9
   refine at_round ?_
   refine qs (sr (am (am ?_)))
   refine aw (r_len_sl underlying46 rfl) ?_
   refine aw xl (nwq [11,7,6,5,3,0] ?_)
   obtain ⟨h12,hF⟩|⟨h12,hF⟩:=oi hF
   ·refine ct h12 ?_
    refine sn (qs ?_)
    refine qb ?_
    refine qs (qs ?_)
    refine at_draw (by kernel_rfl) (by kernel_rfl) (fun _ h=>h.drew) ?_
    refine atq_val rfl rfl rfl (r_move rfl) ?_
    refine atq_val rfl rfl rfl (r_move rfl) ?_
    obtain ⟨h13,hF⟩:=gd hF
    obtain ⟨b15,o16,hp14⟩:=row_ptr hr0 h13
    refine atq_val rfl rfl rfl (r_idx underlying46 sizeOf49 rfl rfl h13 hp14) ?_
    refine atq_val rfl rfl rfl (r_fieldAddr (fo:=0) underlying49 rfl rfl (fun w=>⟨_,sizeOf38 w⟩) rfl) ?_
    refine atq_val rfl rfl rfl (r_load_aggc (c:=c_api_Prefix) (z:=(lget x0 i7).f_P) isAgg38 sizeOf38 rfl (row_lens (y:=(lget x0 i7).f_P) (fun _ h=>h.below) hr0 h13 hp14 (Lens.comp lw (fun z=>{ (lget x0 i7) with f_P:=z }) (c_api_Entry_f_P (lget x0 i7))))) ?_
    refine atq_val rfl rfl rfl (r_fieldAddr (fo:=0) underlying49 rfl rfl (fun w=>⟨_,sizeOf38 w⟩) rfl) ?_
    refine atq_val rfl rfl rfl (r_load_aggc (c:=c_api_Prefix) (z:=x1.f_P) isAgg38 sizeOf38 rfl (lens_cell (.s .z) (Lens.comp lw (fun z=>{ x1 with f_P:=z }) (c_api_Entry_f_P x1)))) ?_
    refine atq_val rfl rfl rfl (r_eqagg (c:=c_api_Prefix) (a:=(lget x0 i7).f_P) (b:=x1.f_P) (eq_api_Prefix_38) rfl Tryz.eqGuardType38 rfl rfl (.inl rfl) rfl) ?_
    refine atq_nil ?_
    refine wq [21,7,6,5,3,0] ?_
    refine tn ?_
    obtain ⟨h17,hF⟩|⟨h17,hF⟩:=oi hF
    ·refine ct h17 ?_
     refine at_exit ?_
     refine te (at_blk_same (tn ?_))
     refine qr (am (aw xa (aa (nwq [7,6,5,3,0] ?_))))
     exact at_weak_k (ih _ _ _ _ hF K p8 c9) ⟨rfl,rfl,rfl,rfl,rfl,trivial⟩
    refine cf h17 ?_
    refine sn (qs (qs ?_))
    refine at_draw (by kernel_rfl) (by kernel_rfl) (fun _ h=>h.drew) ?_
    refine atq_val rfl rfl rfl (r_move rfl) ?_
    refine atq_val rfl rfl rfl (r_not rfl) ?_
    refine atq_val rfl rfl rfl (r_move rfl) ?_
    obtain ⟨h18,hF⟩|⟨h18,hF⟩:=oi hF
    ·refine atq_fix (g:=24) rfl h18 ?_
     refine atq_guard_yes rfl rfl rfl ?_
     refine atq_val rfl rfl rfl (r_fieldAddr (fo:=0) underlying49 rfl rfl (fun w=>⟨_,sizeOf38 w⟩) rfl) ?_
     refine atq_guard_yes rfl rfl rfl ?_
     refine atq_val rfl rfl rfl (r_load_aggc (c:=c_api_Prefix) (z:=x1.f_P) isAgg38 sizeOf38 rfl (lens_cell (.s .z) (Lens.comp lw (fun z=>{ x1 with f_P:=z }) (c_api_Entry_f_P x1)))) ?_
     refine atq_guard_yes rfl rfl rfl ?_
     refine atq_val rfl rfl rfl (r_move rfl) ?_
     refine atq_guard_yes rfl rfl rfl ?_
     refine atq_val rfl rfl rfl (r_move rfl) ?_
     refine atq_guard_yes rfl rfl rfl ?_
     obtain ⟨h19,hF⟩:=gd hF
     obtain ⟨b21,o22,hp20⟩:=row_ptr hr0 h19
     refine atq_val rfl rfl rfl (r_idx underlying46 sizeOf49 rfl rfl h19 hp20) ?_
     refine atq_guard_yes rfl rfl rfl ?_
     refine atq_val rfl rfl rfl (r_fieldAddr (fo:=0) underlying49 rfl rfl (fun w=>⟨_,sizeOf38 w⟩) rfl) ?_
     refine atq_guard_yes rfl rfl rfl ?_
     refine atq_val rfl rfl rfl (r_load_aggc (c:=c_api_Prefix) (z:=(lget x0 i7).f_P) isAgg38 sizeOf38 rfl (row_lens (y:=(lget x0 i7).f_P) (fun _ h=>h.below) hr0 h19 hp20 (Lens.comp lw (fun z=>{ (lget x0 i7) with f_P:=z }) (c_api_Entry_f_P (lget x0 i7))))) ?_
     refine atq_guard_yes rfl rfl rfl ?_
     obtain ⟨t23,ht23,hF⟩:=bM hF
     refine atq_call func41 rfl (by kernel_rfl) rfl rfl (fun w hw=>(crawlwayref11_Less_ok _ _ _ ht23 w).mono fun _ _ h=>⟨h.1,hw.call h.2⟩) ?_
     refine atq_val rfl rfl rfl (r_pick rfl rfl rfl) ?_
     refine atq_nil ?_
     refine wq [33,7,6,5,3,0] ?_
     refine tn ?_
     obtain ⟨h24,hF⟩|⟨h24,hF⟩:=oi hF
     ·refine ct h24 ?_
      refine sr (am ?_)
      refine aw (r_load_aggc (c:=c_api_Entry) (z:=x1) isAgg49 sizeOf49 rfl (lens_cell (.s .z) lw)) ?_
      refine at_litL (c:=c_api_Entry) ([zv12]:List S_api_Entry) ([x1]:List S_api_Entry) underlying46 sizeOf49 zeroValue49 rfl rfl rfl (by kernel_rfl) (fill_step (c:=c_api_Entry) (z:=x1) rfl (Lens.all c_api_Entry ([zv12]:List S_api_Entry) 0 (by first | decide | exact Nat.le_of_ble_eq_true rfl)) rfl rfl) rfl ?_
      intro b25
      obtain ⟨h26,hF⟩:=gd hF
      refine at_append (z:=.agg (Cd.cs c_api_Entry zv12).toArray) (c:=c_api_Entry) (ys:=([x1]:List S_api_Entry)) (.s .z) underlying46 infoF149 (by kernel_rfl) (by kernel_rfl) rfl rfl rfl rfl (fun _ hw=>cells_src (hw.ok (Upd.mem .z))) (by kernel_rfl) h26 (app_small h26) rfl ?_
      intro p27 c28
      refine aa (qn (dz (tn (qr (aa (nt (qr (am ?_))))))))
      refine am (am ?_)
      obtain ⟨h29,hF⟩:=gd hF
      obtain ⟨b31,o32,hp30⟩:=row_ptr hr0 h29
      refine aw (r_idx underlying46 sizeOf49 rfl rfl h29 hp30) ?_
      refine aw (r_load_aggc (c:=c_api_Entry) (z:=lget x0 i7) isAgg49 sizeOf49 rfl (row_cell (fun _ h=>h.below) hr0 h29 hp30)) ?_
      refine at_litL (c:=c_api_Entry) ([zv12]:List S_api_Entry) ([lget x0 i7]:List S_api_Entry) underlying46 sizeOf49 zeroValue49 rfl rfl rfl (by kernel_rfl) (fill_step (c:=c_api_Entry) (z:=lget x0 i7) rfl (Lens.all c_api_Entry ([zv12]:List S_api_Entry) 0 (by first | decide | exact Nat.le_of_ble_eq_true rfl)) rfl rfl) rfl ?_
      intro b33
      obtain ⟨h34,hF⟩:=gd hF
      refine at_append (z:=.agg (Cd.cs c_api_Entry zv12).toArray) (c:=c_api_Entry) (ys:=([lget x0 i7]:List S_api_Entry)) (.s .z) underlying46 infoF149 (by kernel_rfl) (by kernel_rfl) rfl rfl rfl rfl (fun _ hw=>cells_src (hw.ok (Upd.mem .z))) (by kernel_rfl) h34 (app_small h34) rfl ?_
      intro p35 c36
      refine aa (qn (dz (wq [7,6,5,3,0] ?_)))
      refine bm ?_
      refine qr (am (aw xa (aa (nwq [7,6,5,3,0] ?_))))
      exact at_weak_k (ih _ _ _ _ hF K p35 c36) ⟨rfl,rfl,rfl,rfl,rfl,trivial⟩
     refine cf h24 ?_
     refine sn (qr (am (am (am ?_))))
     obtain ⟨h37,hF⟩:=gd hF
     obtain ⟨b39,o40,hp38⟩:=row_ptr hr0 h37
     refine aw (r_idx underlying46 sizeOf49 rfl rfl h37 hp38) ?_
     refine aw (r_load_aggc (c:=c_api_Entry) (z:=lget x0 i7) isAgg49 sizeOf49 rfl (row_cell (fun _ h=>h.below) hr0 h37 hp38)) ?_
     refine at_litL (c:=c_api_Entry) ([zv12]:List S_api_Entry) ([lget x0 i7]:List S_api_Entry) underlying46 sizeOf49 zeroValue49 rfl rfl rfl (by kernel_rfl) (fill_step (c:=c_api_Entry) (z:=lget x0 i7) rfl (Lens.all c_api_Entry ([zv12]:List S_api_Entry) 0 (by first | decide | exact Nat.le_of_ble_eq_true rfl)) rfl rfl) rfl ?_
     intro b41
     obtain ⟨h42,hF⟩:=gd hF
     refine at_append (z:=.agg (Cd.cs c_api_Entry zv12).toArray) (c:=c_api_Entry) (ys:=([lget x0 i7]:List S_api_Entry)) (.s .z) underlying46 infoF149 (by kernel_rfl) (by kernel_rfl) rfl rfl rfl rfl (fun _ hw=>cells_src (hw.ok (Upd.mem .z))) (by kernel_rfl) h42 (app_small h42) rfl ?_
     intro p43 c44
     refine aa (qn (dz (wq [7,6,5,3,0] ?_)))
     refine bm ?_
     refine qr (am (aw xa (aa (nwq [7,6,5,3,0] ?_))))
     exact at_weak_k (ih _ _ _ _ hF K p43 c44) ⟨rfl,rfl,rfl,rfl,rfl,trivial⟩
    refine atq_fix (g:=24) rfl h18 ?_
    refine atq_guard_no rfl rfl rfl rfl rfl ?_
    refine atq_guard_no rfl rfl rfl rfl rfl ?_
    refine atq_guard_no rfl rfl rfl rfl rfl ?_
    refine atq_guard_no rfl rfl rfl rfl rfl ?_
    refine atq_guard_no rfl rfl rfl rfl rfl ?_
    refine atq_guard_no rfl rfl rfl rfl rfl ?_
    refine atq_guard_no rfl rfl rfl rfl rfl ?_
    refine atq_guard_no rfl rfl rfl rfl rfl ?_
    refine atq_val rfl rfl rfl (r_pick rfl rfl rfl) ?_
    refine atq_nil ?_
    refine wq [33,7,6,5,3,0] ?_
    refine tn ?_
    refine cf rfl ?_
    refine sn (qr (am (am (am ?_))))
    obtain ⟨h45,hF⟩:=gd hF
    obtain ⟨b47,o48,hp46⟩:=row_ptr hr0 h45
    refine aw (r_idx underlying46 sizeOf49 rfl rfl h45 hp46) ?_
    refine aw (r_load_aggc (c:=c_api_Entry) (z:=lget x0 i7) isAgg49 sizeOf49 rfl (row_cell (fun _ h=>h.below) hr0 h45 hp46)) ?_
    refine at_litL (c:=c_api_Entry) ([zv12]:List S_api_Entry) ([lget x0 i7]:List S_api_Entry) underlying46 sizeOf49 zeroValue49 rfl rfl rfl (by kernel_rfl) (fill_step (c:=c_api_Entry) (z:=lget x0 i7) rfl (Lens.all c_api_Entry ([zv12]:List S_api_Entry) 0 (by first | decide | exact Nat.le_of_ble_eq_true rfl)) rfl rfl) rfl ?_
    intro b49
    obtain ⟨h50,hF⟩:=gd hF
    refine at_append (z:=.agg (Cd.cs c_api_Entry zv12).toArray) (c:=c_api_Entry) (ys:=([lget x0 i7]:List S_api_Entry)) (.s .z) underlying46 infoF149 (by kernel_rfl) (by kernel_rfl) rfl rfl rfl rfl (fun _ hw=>cells_src (hw.ok (Upd.mem .z))) (by kernel_rfl) h50 (app_small h50) rfl ?_
    intro p51 c52
    refine aa (qn (dz (wq [7,6,5,3,0] ?_)))
    refine bm ?_
    refine qr (am (aw xa (aa (nwq [7,6,5,3,0] ?_))))
    exact at_weak_k (ih _ _ _ _ hF K p51 c52) ⟨rfl,rfl,rfl,rfl,rfl,trivial⟩
   refine cf h12 ?_
   refine at_exit ?_
   refine te (te ?_)
   obtain rfl:=os hF
   exact at_weak_k (K p8 c9) ⟨rfl,rfl,rfl,trivial⟩
 skip
 intro p10 c11
 refine at_blk_same ?_
 refine tn (qs (sr (am ?_)))
 refine aw (r_not rfl) ?_
 refine nwq [46,5,3] ?_
 obtain ⟨h53,hF⟩|⟨h53,hF⟩:=oi hF
 ·refine ct h53 ?_
  refine qr (am ?_)
  refine aw (r_load_aggc (c:=c_api_Entry) (z:=x1) isAgg49 sizeOf49 rfl (lens_cell (.s .z) lw)) ?_
  refine at_litL (c:=c_api_Entry) ([zv12]:List S_api_Entry) ([x1]:List S_api_Entry) underlying46 sizeOf49 zeroValue49 rfl rfl rfl (by kernel_rfl) (fill_step (c:=c_api_Entry) (z:=x1) rfl (Lens.all c_api_Entry ([zv12]:List S_api_Entry) 0 (by first | decide | exact Nat.le_of_ble_eq_true rfl)) rfl rfl) rfl ?_
  intro b54
  obtain ⟨h55,hF⟩:=gd hF
  refine at_append (z:=.agg (Cd.cs c_api_Entry zv12).toArray) (c:=c_api_Entry) (ys:=([x1]:List S_api_Entry)) (.s .z) underlying46 infoF149 (by kernel_rfl) (by kernel_rfl) rfl rfl rfl rfl (fun _ hw=>cells_src (hw.ok (Upd.mem .z))) (by kernel_rfl) h55 (app_small h55) rfl ?_
  intro p56 c57
  refine aa (qn (dz ?_))
  refine at_drop (H:=_) (.s .z) ?_
  refine tn (sr (am (aa (nwq [4] ?_))))
  refine qt ?_
  have K:=os hF
  subst K
  exact r1 (fun w1 hw=>⟨p56,c57,rfl,hw.own .z,hw.below⟩)
 refine cf h53 ?_
 refine sns (am (aa (qn ?_)))
 refine at_drop (H:=_) (.s .z) ?_
 refine wq [4] ?_
 refine tn (qt ?_)
 have K:=os hF
 subst K
 exact r1 (fun w1 hw=>⟨p10,c11,rfl,hw.own .z,hw.below⟩)
def crawlwayref25_Place.l0(x0:List S_api_Entry)(x1:S_api_Prefix)(i3:Int):Option (Ctl (Int) (Unit)) :=
 if (decide (i3<(x0.length:Int)))=true then (if (0:Int)≤i3∧i3<(x0.length:Int) then if (decide ((lget x0 i3).f_P=x1))=true then (some (.ret i3)) else (crawlwayref25_Place.l0 x0 x1 (wr .i64 (i3+1))) else none) else (some (.nx ()))
 partial_fixpoint
def crawlwayref25_Place(x0:List S_api_Entry)(x1:S_api_Prefix):Option (Int) :=
 crawlwayref25_Place.l0 x0 x1 0>>=fun q2=>match q2 with | .ret r'=>some r' | .nx sq2=>(some (-1))
def crawlwayref25_Drop.l0(x0:List S_api_Entry)(x1:S_api_Prefix)(i5:List S_api_Entry)(i6:Int):Option (List S_api_Entry) :=
 if (decide (i6<(x0.length:Int)))=true then (if (0:Int)≤i6∧i6<(x0.length:Int) then if (!decide ((lget x0 i6).f_P=x1))=true then (if (0:Int)≤i6∧i6<(x0.length:Int) then if (i5.length+1)*40≤140737488355328 then crawlwayref25_Drop.l0 x0 x1 (i5++[lget x0 i6]) (wr .i64 (i6+1)) else none else none) else (crawlwayref25_Drop.l0 x0 x1 i5 (wr .i64 (i6+1))) else none) else (some i5)
 partial_fixpoint
def crawlwayref25_Drop(x0:List S_api_Entry)(x1:S_api_Prefix):Option (List S_api_Entry) :=
 crawlwayref25_Drop.l0 x0 x1 ([]:List S_api_Entry) 0>>=fun q4=>some q4
theorem crawlwayref25_Drop_ok(x0:List S_api_Entry)(p0_:Option Addr)(c0_:Nat)(x1:S_api_Prefix)(r:List S_api_Entry)(hF:crawlwayref25_Drop x0 x1=some r)(w:World)(hr0:Row c_api_Entry w p0_ c0_ x0) :
    Calls Tryz.prog 17 #[.slice p0_ x0.length c0_,.agg (Cd.cs c_api_Prefix x1).toArray] w (fun e w'=>∃ p cap,e=.returned (.slice p r.length cap)∧Own c_api_Entry 49 w.heap.size w' p cap r∧Below w.heap.size w w'):=by
 unfold crawlwayref25_Drop at hF
 refine ce (l:=[.slice p0_ x0.length c0_,.agg (Cd.cs c_api_Prefix x1).toArray]) func17 rfl rfl ?_
 refine at_start ?_
 refine sr ?_
 refine at_box (cs:=Cd.cs c_api_Prefix x1) rfl rfl rfl ?_
 intro b1
 refine aa (ns (aa (nt (qs (sr (aa (nwq [6,5,3,0] ?_)))))))
 refine qb ?_
 refine at_own_nil c_api_Entry 49 ?_
 obtain ⟨q4,hq4,hF⟩:=bM hF
 refine wq [6,5,3,0] ?_
 refine at_loop_n (B:=0) (A:=fun Y=>∀ (p9:Option Addr) (c10:Nat),At 28 [(5,.slice p9 q4.length c10)] (Wd w [rowE c_api_Entry 49 p9 c10 q4]) Y) ?_ ?_
 ·intro K
  refine crawlwayref25_Drop.l0.partial_correctness x0 x1 (motive:=fun i5 i6 x=>KN (fun Y=>∀ (p9:Option Addr) (c10:Nat),At 28 [(5,.slice p9 x.length c10)] (Wd w [rowE c_api_Entry 49 p9 c10 x]) Y) _ 0→Round (fun Y=>∀ (p7:Option Addr) (c8:Nat),At 28 [(0,.slice p0_ x0.length c0_),(3,.pointer (some ⟨b1,0,none⟩)),(5,.slice p7 i5.length c8),(6,.int .i64 i6)] (Wd w [rowE c_api_Entry 49 p7 c8 i5,cellsE b1 (Cd.cs c_api_Prefix x1) 38]) Y) _ _ _) ?_ _ _ _ hq4 K none 0
  ·clear K hF
   intro g ih i5 i6 x hF K p7 c8
   refine at_round ?_
   refine qs (sr (am (am ?_)))
   refine aw (r_len_sl underlying46 rfl) ?_
   refine aw xl (nwq [10,6,5,3,0] ?_)
   obtain ⟨h11,hF⟩|⟨h11,hF⟩:=oi hF
   ·refine ct h11 ?_
    refine sn (qs ?_)
    refine qb ?_
    refine qs ?_
    refine at_draw (by kernel_rfl) (by kernel_rfl) (fun _ h=>h.drew) ?_
    refine atq_val rfl rfl rfl (r_move rfl) ?_
    refine atq_val rfl rfl rfl (r_move rfl) ?_
    obtain ⟨h12,hF⟩:=gd hF
    obtain ⟨b14,o15,hp13⟩:=row_ptr hr0 h12
    refine atq_val rfl rfl rfl (r_idx underlying46 sizeOf49 rfl rfl h12 hp13) ?_
    refine atq_val rfl rfl rfl (r_fieldAddr (fo:=0) underlying49 rfl rfl (fun w=>⟨_,sizeOf38 w⟩) rfl) ?_
    refine atq_val rfl rfl rfl (r_load_aggc (c:=c_api_Prefix) (z:=(lget x0 i6).f_P) isAgg38 sizeOf38 rfl (row_lens (y:=(lget x0 i6).f_P) (fun _ h=>h.below) hr0 h12 hp13 (Lens.comp lw (fun z=>{ (lget x0 i6) with f_P:=z }) (c_api_Entry_f_P (lget x0 i6))))) ?_
    refine atq_val rfl rfl rfl (r_load_aggc (c:=c_api_Prefix) (z:=x1) isAgg38 sizeOf38 rfl (lens_cell (.s .z) lw)) ?_
    refine atq_val rfl rfl rfl (r_eqagg (c:=c_api_Prefix) (a:=(lget x0 i6).f_P) (b:=x1) (eq_api_Prefix_38) rfl Tryz.eqGuardType38 rfl rfl (.inr rfl) rfl) ?_
    refine atq_nil ?_
    refine wq [19,6,5,3,0] ?_
    refine tn ?_
    obtain ⟨h16,hF⟩|⟨h16,hF⟩:=oi hF
    ·refine ct h16 ?_
     refine qr (am (am (am ?_)))
     obtain ⟨h17,hF⟩:=gd hF
     obtain ⟨b19,o20,hp18⟩:=row_ptr hr0 h17
     refine aw (r_idx underlying46 sizeOf49 rfl rfl h17 hp18) ?_
     refine aw (r_load_aggc (c:=c_api_Entry) (z:=lget x0 i6) isAgg49 sizeOf49 rfl (row_cell (fun _ h=>h.below) hr0 h17 hp18)) ?_
     refine at_litL (c:=c_api_Entry) ([zv12]:List S_api_Entry) ([lget x0 i6]:List S_api_Entry) underlying46 sizeOf49 zeroValue49 rfl rfl rfl (by kernel_rfl) (fill_step (c:=c_api_Entry) (z:=lget x0 i6) rfl (Lens.all c_api_Entry ([zv12]:List S_api_Entry) 0 (by first | decide | exact Nat.le_of_ble_eq_true rfl)) rfl rfl) rfl ?_
     intro b21
     obtain ⟨h22,hF⟩:=gd hF
     refine at_append (z:=.agg (Cd.cs c_api_Entry zv12).toArray) (c:=c_api_Entry) (ys:=([lget x0 i6]:List S_api_Entry)) (.s .z) underlying46 infoF149 (by kernel_rfl) (by kernel_rfl) rfl rfl rfl rfl (fun _ hw=>cells_src (hw.ok (Upd.mem .z))) (by kernel_rfl) h22 (app_small h22) rfl ?_
     intro p23 c24
     refine aa (qn (dz (wq [6,5,3,0] ?_)))
     refine bm ?_
     refine qr (am (aw xa (aa (nwq [6,5,3,0] ?_))))
     exact at_weak_k (ih _ _ _ hF K p23 c24) ⟨rfl,rfl,rfl,rfl,trivial⟩
    refine cf h16 ?_
    refine at_skip ?_
    refine bm ?_
    refine qr (am (aw xa (aa (nwq [6,5,3,0] ?_))))
    exact at_weak_k (ih _ _ _ hF K p7 c8) ⟨rfl,rfl,rfl,rfl,trivial⟩
   refine cf h11 ?_
   refine at_exit ?_
   refine te (te ?_)
   refine at_drop (H:=_) (.s .z) ?_
   obtain rfl:=os hF
   exact at_weak_k (K p7 c8) ⟨rfl,trivial⟩
 skip
 intro p9 c10
 refine at_blk_same ?_
 refine tn (sr (am (aa (nwq [4] ?_))))
 refine qt ?_
 have K:=os hF
 subst K
 exact r1 (fun w1 hw=>⟨p9,c10,rfl,hw.own .z,hw.below⟩)
def flat_above.l0(x0:List S_api_Entry)(x1:S_api_Entry)(i4:Bool)(i5:Int)(i6:S_api_Entry):Option (Bool×S_api_Entry) :=
 if (decide (i5<(x0.length:Int)))=true then (if (0:Int)≤i5∧i5<(x0.length:Int) then if (!decide ((lget x0 i5).f_P=x1.f_P))=true then (cidr_Covers ((lget x0 i5).f_P) x1.f_P>>=fun t14=>if t14=true then (if (!i4)=true then (flat_above.l0 x0 x1 true (wr .i64 (i5+1)) (lget x0 i5)) else (if (decide (((lget x0 i5).f_P).f_Bits>i6.f_P.f_Bits))=true then (flat_above.l0 x0 x1 true (wr .i64 (i5+1)) (lget x0 i5)) else (flat_above.l0 x0 x1 i4 (wr .i64 (i5+1)) i6))) else (flat_above.l0 x0 x1 i4 (wr .i64 (i5+1)) i6)) else (flat_above.l0 x0 x1 i4 (wr .i64 (i5+1)) i6) else none) else (some (i4,i6))
 partial_fixpoint
def flat_above(x0:List S_api_Entry)(x1:S_api_Entry):Option (S_api_Entry×Bool) :=
 flat_above.l0 x0 x1 false 0 ({ f_P:=({ f_A:=({ f_V:=(0:Int),f_B:=(Vector.replicate 16 (0:Int):(Vector Int 16)) }:S_api_Addr),f_Bits:=(0:Int) }:S_api_Prefix),f_Owner:=(0:Int) }:S_api_Entry)>>=fun q3=>some (q3.2,q3.1)
theorem flat_above_ok(x0:List S_api_Entry)(p0_:Option Addr)(c0_:Nat)(x1:S_api_Entry)(r:S_api_Entry×Bool)(hF:flat_above x0 x1=some r)(w:World)(hr0:Row c_api_Entry w p0_ c0_ x0) :
    Calls Tryz.prog 73 #[.slice p0_ x0.length c0_,.agg (Cd.cs c_api_Entry x1).toArray] w (fun e w'=>e=.returned (.tuple #[.agg (Cd.cs c_api_Entry r.1).toArray,.bool r.2])∧Below w.heap.size w w'):=by
 unfold flat_above at hF
 refine ce (l:=[.slice p0_ x0.length c0_,.agg (Cd.cs c_api_Entry x1).toArray]) func73 rfl rfl ?_
 refine at_start ?_
 refine sr ?_
 refine at_box (cs:=Cd.cs c_api_Entry x1) rfl rfl rfl ?_
 intro b1
 refine al (cs:=Cd.cs c_api_Entry zv12) zeroValue49 ?_
 intro b2
 refine aa (nt (qs (sr (am ?_))))
 refine aw (r_len_sl underlying46 rfl) ?_
 refine am (nwq [10,9,8,5,4,3] ?_)
 refine qb ?_
 obtain ⟨q3,hq3,hF⟩:=bM hF
 refine wq [10,9,8,5,4,3] ?_
 refine at_loop_n (B:=0) (A:=fun Y=>At 43 [(4,.pointer (some ⟨b2,0,none⟩)),(5,.bool q3.1)] (Wd w [cellsE b2 (Cd.cs c_api_Entry q3.2) 49]) Y) ?_ ?_
 ·intro K
  refine flat_above.l0.partial_correctness x0 x1 (motive:=fun i4 i5 i6 x=>KN (fun Y=>At 43 [(4,.pointer (some ⟨b2,0,none⟩)),(5,.bool x.1)] (Wd w [cellsE b2 (Cd.cs c_api_Entry x.2) 49]) Y) _ 0→Round (fun Y=>At 43 [(3,.pointer (some ⟨b1,0,none⟩)),(4,.pointer (some ⟨b2,0,none⟩)),(5,.bool i4),(8,.slice p0_ x0.length c0_),(9,.int .i64 (x0.length:Int)),(10,.int .i64 i5)] (Wd w [cellsE b2 (Cd.cs c_api_Entry i6) 49,cellsE b1 (Cd.cs c_api_Entry x1) 49]) Y) _ _ _) ?_ _ _ _ _ hq3 K
  ·clear K hF
   intro g ih i4 i5 i6 x hF K
   refine at_round ?_
   refine sr (aw xl (nwq [11,10,9,8,5,4,3] ?_))
   refine qs ?_
   obtain ⟨h7,hF⟩|⟨h7,hF⟩:=oi hF
   ·refine ct h7 ?_
    refine sn (qs ?_)
    refine qb ?_
    refine sr ?_
    obtain ⟨h8,hF⟩:=gd hF
    obtain ⟨b10,o11,hp9⟩:=row_ptr hr0 h8
    refine aw (r_idx underlying46 sizeOf49 rfl rfl h8 hp9) ?_
    refine aw (r_load_aggc (c:=c_api_Entry) (z:=lget x0 i5) isAgg49 sizeOf49 rfl (row_cell (fun _ h=>h.below) hr0 h8 hp9)) ?_
    refine al (cs:=Cd.cs c_api_Entry zv12) zeroValue49 ?_
    intro b12
    refine at_store (c:=c_api_Entry) (z:=lget x0 i5) .z lw sizeOf49 rfl rfl rfl ?_
    refine nwx [10,9,8,7,5,4,3] ?_
    refine fa 0 underlying49 rfl sizeOf38 ?_
    refine aw (r_load_aggc (c:=c_api_Prefix) (z:=(lget x0 i5).f_P) isAgg38 sizeOf38 rfl (lens_cell .z (Lens.comp lw (fun z=>{ lget x0 i5 with f_P:=z }) (c_api_Entry_f_P (lget x0 i5))))) ?_
    refine fa 0 underlying49 rfl sizeOf38 ?_
    refine aw (r_load_aggc (c:=c_api_Prefix) (z:=x1.f_P) isAgg38 sizeOf38 rfl (lens_cell (.s (.s .z)) (Lens.comp lw (fun z=>{ x1 with f_P:=z }) (c_api_Entry_f_P x1)))) ?_
    refine aw (r_eqagg (c:=c_api_Prefix) (a:=(lget x0 i5).f_P) (b:=x1.f_P) (eq_api_Prefix_38) rfl Tryz.eqGuardType38 rfl rfl (.inr rfl) rfl) ?_
    refine am ?_
    obtain ⟨h13,hF⟩|⟨h13,hF⟩:=oi hF
    ·refine fx 19 h13 ?_
     refine gy ?_
     refine fa 0 underlying49 rfl sizeOf38 ?_
     refine gy ?_
     refine aw (r_load_aggc (c:=c_api_Prefix) (z:=(lget x0 i5).f_P) isAgg38 sizeOf38 rfl (lens_cell .z (Lens.comp lw (fun z=>{ lget x0 i5 with f_P:=z }) (c_api_Entry_f_P (lget x0 i5))))) ?_
     refine gy ?_
     refine fa 0 underlying49 rfl sizeOf38 ?_
     refine gy ?_
     refine aw (r_load_aggc (c:=c_api_Prefix) (z:=x1.f_P) isAgg38 sizeOf38 rfl (lens_cell (.s (.s .z)) (Lens.comp lw (fun z=>{ x1 with f_P:=z }) (c_api_Entry_f_P x1)))) ?_
     refine gy ?_
     obtain ⟨t14,ht14,hF⟩:=bM hF
     refine cB func49 rfl (fun w hw=>cidr_Covers_ok _ _ _ ht14 w) ?_
     refine aw xp (am ?_)
     obtain ⟨h15,hF⟩|⟨h15,hF⟩:=oi hF
     ·refine fx 26 h15 ?_
      refine gy ?_
      refine am ?_
      refine gy ?_
      refine aw (r_not rfl) ?_
      refine gy ?_
      refine am ?_
      obtain ⟨h16,hF⟩|⟨h16,hF⟩:=oi hF
      ·refine fx 29 h16 ?_
       refine gn ?_
       refine gn ?_
       refine gn ?_
       refine gn ?_
       refine gn ?_
       refine gn ?_
       refine gn ?_
       refine gy ?_
       refine aw xp (aw xp (nwq [38,10,9,8,7,5,4,3] ?_))
       refine ct rfl ?_
       refine qr ?_
       refine aw (r_load_aggc (c:=c_api_Entry) (z:=lget x0 i5) isAgg49 sizeOf49 rfl (lens_cell .z lw)) ?_
       refine at_store (c:=c_api_Entry) (z:=lget x0 i5) (.s .z) lw sizeOf49 rfl rfl rfl ?_
       refine aa (qn (dz (wq [10,9,8,5,4,3] ?_)))
       refine bm ?_
       refine qr (aw xa (am (nwq [10,9,8,5,4,3] ?_)))
       exact at_weak_k (ih _ _ _ _ hF K) ⟨rfl,rfl,rfl,rfl,rfl,rfl,trivial⟩
      refine fx 29 h16 ?_
      refine gy ?_
      refine fa 0 underlying49 rfl sizeOf38 ?_
      refine gy ?_
      refine fa 17 underlying38 rfl sizeOf3 ?_
      refine gy ?_
      refine aw (r_load_cell isAgg3 rfl (lens_cell0 (c:=(cInt .i64)) (y:=((lget x0 i5).f_P).f_Bits) .z (Lens.comp (Lens.comp lw (fun z=>{ lget x0 i5 with f_P:=z }) (c_api_Entry_f_P (lget x0 i5))) (fun z=>{ (lget x0 i5).f_P with f_Bits:=z }) (c_api_Prefix_f_Bits ((lget x0 i5).f_P))) rfl)) ?_
      refine gy ?_
      refine fa 0 underlying49 rfl sizeOf38 ?_
      refine gy ?_
      refine fa 17 underlying38 rfl sizeOf3 ?_
      refine gy ?_
      refine aw (r_load_cell isAgg3 rfl (lens_cell0 (c:=(cInt .i64)) (y:=i6.f_P.f_Bits) (.s .z) (Lens.comp (Lens.comp lw (fun z=>{ i6 with f_P:=z }) (c_api_Entry_f_P i6)) (fun z=>{ i6.f_P with f_Bits:=z }) (c_api_Prefix_f_Bits i6.f_P)) rfl)) ?_
      refine gy ?_
      refine aw (r_igtr rfl rfl) ?_
      refine gy ?_
      refine aw xp (aw xp (nwq [38,10,9,8,7,5,4,3] ?_))
      obtain ⟨h17,hF⟩|⟨h17,hF⟩:=oi hF
      ·refine ct h17 ?_
       refine qr ?_
       refine aw (r_load_aggc (c:=c_api_Entry) (z:=lget x0 i5) isAgg49 sizeOf49 rfl (lens_cell .z lw)) ?_
       refine at_store (c:=c_api_Entry) (z:=lget x0 i5) (.s .z) lw sizeOf49 rfl rfl rfl ?_
       refine aa (qn (dz (wq [10,9,8,5,4,3] ?_)))
       refine bm ?_
       refine qr (aw xa (am (nwq [10,9,8,5,4,3] ?_)))
       exact at_weak_k (ih _ _ _ _ hF K) ⟨rfl,rfl,rfl,rfl,rfl,rfl,trivial⟩
      refine cf h17 ?_
      refine at_skip ?_
      refine bm ?_
      refine qr (aw xa (am (qn (dz (wq [10,9,8,5,4,3] ?_)))))
      refine tn ?_
      exact at_weak_k (ih _ _ _ _ hF K) ⟨rfl,rfl,rfl,rfl,rfl,rfl,trivial⟩
     refine fx 26 h15 ?_
     refine gn ?_
     refine gn ?_
     refine gn ?_
     refine at_guard_undef rfl rfl rfl rfl ?_
     refine at_guard_undef rfl rfl rfl rfl ?_
     refine at_guard_undef rfl rfl rfl rfl ?_
     refine at_guard_undef rfl rfl rfl rfl ?_
     refine at_guard_undef rfl rfl rfl rfl ?_
     refine at_guard_undef rfl rfl rfl rfl ?_
     refine at_guard_undef rfl rfl rfl rfl ?_
     refine gn ?_
     refine aw xp (nwq [38,10,9,8,7,5,4,3] ?_)
     refine cf rfl ?_
     refine at_skip ?_
     refine bm ?_
     refine qr (aw xa (am (qn (dz (wq [10,9,8,5,4,3] ?_)))))
     refine tn ?_
     exact at_weak_k (ih _ _ _ _ hF K) ⟨rfl,rfl,rfl,rfl,rfl,rfl,trivial⟩
    refine fx 19 h13 ?_
    refine gn ?_
    refine gn ?_
    refine gn ?_
    refine gn ?_
    refine gn ?_
    refine aw xp (am ?_)
    refine gn ?_
    refine gn ?_
    refine gn ?_
    refine at_guard_undef rfl rfl rfl rfl ?_
    refine at_guard_undef rfl rfl rfl rfl ?_
    refine at_guard_undef rfl rfl rfl rfl ?_
    refine at_guard_undef rfl rfl rfl rfl ?_
    refine at_guard_undef rfl rfl rfl rfl ?_
    refine at_guard_undef rfl rfl rfl rfl ?_
    refine at_guard_undef rfl rfl rfl rfl ?_
    refine gn ?_
    refine aw xp (nwq [38,10,9,8,7,5,4,3] ?_)
    refine cf rfl ?_
    refine at_skip ?_
    refine bm ?_
    refine qr (aw xa (am (qn (dz (wq [10,9,8,5,4,3] ?_)))))
    refine tn ?_
    exact at_weak_k (ih _ _ _ _ hF K) ⟨rfl,rfl,rfl,rfl,rfl,rfl,trivial⟩
   refine cf h7 ?_
   refine at_exit ?_
   refine te (te ?_)
   refine at_drop (H:=_) (.s .z) ?_
   obtain rfl:=os hF
   exact at_weak_k K ⟨rfl,rfl,trivial⟩
 skip
 skip
 refine at_blk_same ?_
 refine tn (sr ?_)
 refine aw (r_load_aggc (c:=c_api_Entry) (z:=q3.2) isAgg49 sizeOf49 rfl (lens_cell .z lw)) ?_
 refine am ?_
 refine at_store (c:=c_api_Entry) (z:=q3.2) .z lw sizeOf49 rfl rfl rfl ?_
 refine aa (nwq [5,4] ?_)
 refine qt ?_
 have K:=os hF
 subst K
 exact at_res2 rfl (res_cell (c:=c_api_Entry) (y:=q3.2) rfl .z lw isAgg49 sizeOf49 (.inl rfl)) (res_tmp rfl) wb
end Go.Proofs.YtahlbjmafceoeaaGreatDoor
namespace Go.Proofs.YtahlbjmafceoeaaGreatDoor
open E Go.RowKit _root_.Go.Proofs.Tryz
def crawlwayref59_Own.l0(x0:List S_api_Entry)(i4:List S_api_Entry)(i5:Int):Option (List S_api_Entry) :=
 if (decide (i5<(x0.length:Int)))=true then (if (0:Int)≤i5∧i5<(x0.length:Int) then crawlwayref11_Right ((lget x0 i5).f_P)>>=fun t15=>if t15=true then (if (0:Int)≤i5∧i5<(x0.length:Int) then crawlwayref25_Put i4 (lget x0 i5)>>=fun t21=>crawlwayref59_Own.l0 x0 t21 (wr .i64 (i5+1)) else none) else (crawlwayref59_Own.l0 x0 i4 (wr .i64 (i5+1))) else none) else (some i4)
 partial_fixpoint
def crawlwayref59_Own(x0:List S_api_Entry):Option (List S_api_Entry) :=
 crawlwayref59_Own.l0 x0 ([]:List S_api_Entry) 0>>=fun q3=>some q3
def crawlwayref59_spare.l0(x0:List S_api_Entry)(x1:Int)(i2:Int)(i3:Int):Option (Int) :=
 if (decide (i3<(x0.length:Int)))=true then (if (i3 != x1)=true then (if (0:Int)≤i3∧i3<(x0.length:Int) then if (0:Int)≤x1∧x1<(x0.length:Int) then crawlwayref11_Covers ((lget x0 i3).f_P) ((lget x0 x1).f_P)>>=fun t14=>if t14=true then (if (decide (i2<0))=true then (crawlwayref59_spare.l0 x0 x1 i3 (wr .i64 (i3+1))) else (if (0:Int)≤i3∧i3<(x0.length:Int) then if (0:Int)≤i2∧i2<(x0.length:Int) then if (decide (((lget x0 i3).f_P).f_Bits>((lget x0 i2).f_P).f_Bits))=true then (crawlwayref59_spare.l0 x0 x1 i3 (wr .i64 (i3+1))) else (crawlwayref59_spare.l0 x0 x1 i2 (wr .i64 (i3+1))) else none else none)) else (crawlwayref59_spare.l0 x0 x1 i2 (wr .i64 (i3+1))) else none else none) else (crawlwayref59_spare.l0 x0 x1 i2 (wr .i64 (i3+1)))) else (some i2)
 partial_fixpoint
def crawlwayref59_spare(x0:List S_api_Entry)(x1:Int):Option (Bool) :=
 crawlwayref59_spare.l0 x0 x1 (-1) 0>>=fun q1=>if (decide (q1≥0))=true then (if (0:Int)≤q1∧q1<(x0.length:Int) then if (0:Int)≤x1∧x1<(x0.length:Int) then some ((lget x0 q1).f_Owner==(lget x0 x1).f_Owner) else none else none) else (some false)
def crawlwayref59_Thin.l0(t1:List S_api_Entry)(i7:List S_api_Entry)(i9:Int):Option (List S_api_Entry) :=
 if (decide (i9<(t1.length:Int)))=true then (crawlwayref59_spare t1 i9>>=fun t15=>if (!t15)=true then (if (0:Int)≤i9∧i9<(t1.length:Int) then if (i7.length+1)*40≤140737488355328 then crawlwayref59_Thin.l0 t1 (i7++[lget t1 i9]) (wr .i64 (i9+1)) else none else none) else (crawlwayref59_Thin.l0 t1 i7 (wr .i64 (i9+1)))) else (some i7)
 partial_fixpoint
def crawlwayref59_Thin(x0:List S_api_Entry):Option (List S_api_Entry) :=
 crawlwayref59_Own x0>>=fun t1=>crawlwayref59_Thin.l0 t1 ([]:List S_api_Entry) 0>>=fun q6=>some q6
end Go.Proofs.YtahlbjmafceoeaaGreatDoor
namespace Go.Proofs.YtahlbjmafceoeaaGreatDoor
open E Go.RowKit _root_.Go.Proofs.Tryz
def flat_Own_2(x0:S_api_Entry)(x1:S_api_Entry):Option (Int) :=
 cidr_Less x0.f_P x1.f_P>>=fun t3=>if t3=true then (some (-1)) else (cidr_Less x1.f_P x0.f_P>>=fun t5=>if t5=true then (some 1) else (some 0))
theorem flat_Own_2_ok(x0:S_api_Entry)(x1:S_api_Entry)(r:Int)(hF:flat_Own_2 x0 x1=some r)(w:World) :
    Calls Tryz.prog 97 #[.agg (Cd.cs c_api_Entry x0).toArray,.agg (Cd.cs c_api_Entry x1).toArray] w (fun e w'=>e=.returned (.int .i64 r)∧Below w.heap.size w w'):=by
 unfold flat_Own_2 at hF
 refine ce (l:=[.agg (Cd.cs c_api_Entry x0).toArray,.agg (Cd.cs c_api_Entry x1).toArray]) func97 rfl rfl ?_
 refine at_start ?_
 refine sr ?_
 refine at_box (cs:=Cd.cs c_api_Entry x0) rfl rfl rfl ?_
 intro b1
 refine at_box (cs:=Cd.cs c_api_Entry x1) rfl rfl rfl ?_
 intro b2
 refine aa (nwq [3,2] ?_)
 refine qs ?_
 refine qb ?_
 refine sr (fa 0 underlying49 rfl sizeOf38 ?_)
 refine aw (r_load_aggc (c:=c_api_Prefix) (z:=x0.f_P) isAgg38 sizeOf38 rfl (lens_cell (.s .z) (Lens.comp lw (fun z=>{ x0 with f_P:=z }) (c_api_Entry_f_P x0)))) ?_
 refine fa 0 underlying49 rfl sizeOf38 ?_
 refine aw (r_load_aggc (c:=c_api_Prefix) (z:=x1.f_P) isAgg38 sizeOf38 rfl (lens_cell .z (Lens.comp lw (fun z=>{ x1 with f_P:=z }) (c_api_Entry_f_P x1)))) ?_
 obtain ⟨t3,ht3,hF⟩:=bM hF
 refine cB func70 rfl (fun w hw=>cidr_Less_ok _ _ _ ht3 w) ?_
 refine aa (nwq [5,3,2] ?_)
 obtain ⟨h4,hF⟩|⟨h4,hF⟩:=oi hF
 ·refine ct h4 ?_
  refine sr (aa (qn (dz (dz (wq [4] ?_)))))
  refine tn (qt ?_)
  refine br (tr ?_)
  have K:=os hF
  subst K
  exact r1 wb
 refine cf h4 ?_
 refine sr (fa 0 underlying49 rfl sizeOf38 ?_)
 refine aw (r_load_aggc (c:=c_api_Prefix) (z:=x1.f_P) isAgg38 sizeOf38 rfl (lens_cell .z (Lens.comp lw (fun z=>{ x1 with f_P:=z }) (c_api_Entry_f_P x1)))) ?_
 refine fa 0 underlying49 rfl sizeOf38 ?_
 refine aw (r_load_aggc (c:=c_api_Prefix) (z:=x0.f_P) isAgg38 sizeOf38 rfl (lens_cell (.s .z) (Lens.comp lw (fun z=>{ x0 with f_P:=z }) (c_api_Entry_f_P x0)))) ?_
 obtain ⟨t5,ht5,hF⟩:=bM hF
 refine cB func70 rfl (fun w hw=>cidr_Less_ok _ _ _ ht5 w) ?_
 refine aa (qn (dz (dz (wq [11] ?_))))
 refine tn ?_
 obtain ⟨h6,hF⟩|⟨h6,hF⟩:=oi hF
 ·refine ct h6 ?_
  refine sr (aa (nwq [4] ?_))
  refine qt ?_
  refine br (tr ?_)
  have K:=os hF
  subst K
  exact r1 wb
 refine cf h6 ?_
 refine at_skip ?_
 refine bm ?_
 refine sr (aa (nwq [4] ?_))
 refine qt ?_
 have K:=os hF
 subst K
 exact r1 wb
def flat_Own_1(x0:S_api_Entry)(x1:S_api_Entry):Option (Bool) :=
 some (decide (x0.f_P=x1.f_P))
theorem flat_Own_1_ok(x0:S_api_Entry)(b1_:Nat)(x1:S_api_Entry)(r:Bool)(hF:flat_Own_1 x0 x1=some r)(w:World)(hc1:Row c_api_Entry w (some ⟨b1_,0,none⟩) 1 [x1]) :
    Calls Tryz.prog 95 #[.agg (Cd.cs c_api_Entry x0).toArray,.pointer (some ⟨b1_,0,none⟩)] w (fun e w'=>e=.returned (.bool r)∧Below w.heap.size w w'):=by
 unfold flat_Own_1 at hF
 refine ce (l:=[.agg (Cd.cs c_api_Entry x0).toArray,.pointer (some ⟨b1_,0,none⟩)]) func95 rfl rfl ?_
 refine at_start ?_
 refine sr ?_
 refine at_box (cs:=Cd.cs c_api_Entry x0) rfl rfl rfl ?_
 intro b1
 refine aa (ns (fa 0 underlying49 rfl sizeOf38 ?_))
 refine aw (r_load_aggc (c:=c_api_Prefix) (z:=x0.f_P) isAgg38 sizeOf38 rfl (lens_cell .z (Lens.comp lw (fun z=>{ x0 with f_P:=z }) (c_api_Entry_f_P x0)))) ?_
 refine fa 0 underlying49 rfl sizeOf38 ?_
 refine aw (r_load_aggc (c:=c_api_Prefix) (z:=x1.f_P) isAgg38 sizeOf38 rfl (row_lens (y:=x1.f_P) (fun _ h=>h.below) hc1 one_in rfl (Lens.comp lw (fun z=>{ x1 with f_P:=z }) (c_api_Entry_f_P x1)))) ?_
 refine aw (r_eqagg (c:=c_api_Prefix) (a:=x0.f_P) (b:=x1.f_P) (eq_api_Prefix_38) rfl Tryz.eqGuardType38 rfl rfl (.inl rfl) rfl) ?_
 refine aa (qn (dz (wq [3] ?_)))
 refine tn (qt ?_)
 have K:=os hF
 subst K
 exact r1 wb
def slices_IndexFunc_api_Entry__flat_Own_1.l0(x0:List S_api_Entry)(x1_0:S_api_Entry)(i2:Int):Option (Ctl (Int) (Unit)) :=
 if (decide (i2<(x0.length:Int)))=true then (if (0:Int)≤i2∧i2<(x0.length:Int) then flat_Own_1 (lget x0 i2) x1_0>>=fun t8=>if t8=true then (some (.ret i2)) else (slices_IndexFunc_api_Entry__flat_Own_1.l0 x0 x1_0 (wr .i64 (i2+1))) else none) else (some (.nx ()))
 partial_fixpoint
def slices_IndexFunc_api_Entry__flat_Own_1(x0:List S_api_Entry)(x1_0:S_api_Entry):Option (Int) :=
 slices_IndexFunc_api_Entry__flat_Own_1.l0 x0 x1_0 0>>=fun q1=>match q1 with | .ret r'=>some r' | .nx sq1=>(some (-1))
theorem slices_IndexFunc_api_Entry__flat_Own_1_ok(x0:List S_api_Entry)(p0_:Option Addr)(c0_:Nat)(b1_0:Nat)(x1_0:S_api_Entry)(r:Int)(hF:slices_IndexFunc_api_Entry__flat_Own_1 x0 x1_0=some r)(w:World)(hr0:Row c_api_Entry w p0_ c0_ x0)(hc1_0:Row c_api_Entry w (some ⟨b1_0,0,none⟩) 1 [x1_0]) :
    Calls Tryz.prog 125 #[.slice p0_ x0.length c0_,.func (.func 95) #[] #[.pointer (some ⟨b1_0,0,none⟩)]] w (fun e w'=>e=.returned (.int .i64 r)∧Below w.heap.size w w'):=by
 unfold slices_IndexFunc_api_Entry__flat_Own_1 at hF
 refine ce (l:=[.slice p0_ x0.length c0_,.func (.func 95) #[] #[.pointer (some ⟨b1_0,0,none⟩)]]) func125 rfl rfl ?_
 refine at_start ?_
 refine sr (aa (nt (qs (sr (am ?_)))))
 refine aw (r_len_sl underlying46 rfl) ?_
 refine am (nwq [8,7,1,0] ?_)
 refine qb ?_
 obtain ⟨q1,hq1,hF⟩:=bM hF
 refine wq [8,7,1,0] ?_
 refine at_loop_r (B:=0) (r:=r) (q:=q1) (A:=fun (_:Unit) Y=>At 19 [] (Wd w []) Y) ?_ ?_
 ·intro K
  refine slices_IndexFunc_api_Entry__flat_Own_1.l0.partial_correctness x0 x1_0 (motive:=fun i2 x=>KR (fun (_:Unit) Y=>At 19 [] (Wd w []) Y) _ 0 r x→Round (fun Y=>At 19 [(0,.slice p0_ x0.length c0_),(1,.func (.func 95) #[] #[.pointer (some ⟨b1_0,0,none⟩)]),(7,.int .i64 (x0.length:Int)),(8,.int .i64 i2)] (Wd w []) Y) _ _ _) ?_ _ _ hq1 K
  ·clear K hF
   intro g ih i2 x hF K
   refine at_round ?_
   refine sr (aw xl (nwq [9,8,7,1,0] ?_))
   refine qs ?_
   obtain ⟨h3,hF⟩|⟨h3,hF⟩:=oi hF
   ·refine ct h3 ?_
    refine sn (qs ?_)
    refine qb ?_
    refine sr (am (aa (nwx [8,7,5,1,0] ?_)))
    refine am (am (am ?_))
    obtain ⟨h4,hF⟩:=gd hF
    obtain ⟨b6,o7,hp5⟩:=row_ptr hr0 h4
    refine aw (r_idx underlying46 sizeOf49 rfl rfl h4 hp5) ?_
    refine aw (r_load_aggc (c:=c_api_Entry) (z:=lget x0 i2) isAgg49 sizeOf49 rfl (row_cell (fun _ h=>h.below) hr0 h4 hp5)) ?_
    refine at_calleeC (caps:=[.pointer (some ⟨b1_0,0,none⟩)]) rfl ?_
    obtain ⟨t8,ht8,hF⟩:=bM hF
    refine cB func95 rfl (fun w hw=>flat_Own_1_ok _ _ _ _ ht8 w (hc1_0.below hw.below)) ?_
    refine nwq [16,8,7,5,1,0] ?_
    obtain ⟨h9,hF⟩|⟨h9,hF⟩:=oi hF
    ·refine ct h9 ?_
     refine sr (am (aa (nwq [4] ?_)))
     refine qt ?_
     refine br (tr (tr (br (tr ?_))))
     obtain rfl:=os hF
     subst K
     exact r1 wb
    refine cf h9 ?_
    refine at_skip ?_
    refine bm ?_
    refine qr (aw xa (am (nwq [8,7,1,0] ?_)))
    exact at_weak_k (ih _ _ hF K) ⟨rfl,rfl,rfl,rfl,trivial⟩
   refine cf h3 ?_
   refine at_exit ?_
   refine te (te ?_)
   obtain rfl:=os hF
   exact at_weak_k K trivial
 cases q1 with
 | ret r'=>exact os hF
 | nx sq1 =>
  skip
  refine at_blk_same ?_
  refine tn (sr (aa (nwq [4] ?_)))
  refine qt ?_
  have K:=os hF
  subst K
  exact r1 wb
def slices_ContainsFunc_api_Entry__flat_Own_1(x0:List S_api_Entry)(x1_0:S_api_Entry):Option (Bool) :=
 slices_IndexFunc_api_Entry__flat_Own_1 x0 x1_0>>=fun t1=>some (decide (t1≥0))
theorem slices_ContainsFunc_api_Entry__flat_Own_1_ok(x0:List S_api_Entry)(p0_:Option Addr)(c0_:Nat)(b1_0:Nat)(x1_0:S_api_Entry)(r:Bool)(hF:slices_ContainsFunc_api_Entry__flat_Own_1 x0 x1_0=some r)(w:World)(hr0:Row c_api_Entry w p0_ c0_ x0)(hc1_0:Row c_api_Entry w (some ⟨b1_0,0,none⟩) 1 [x1_0]) :
    Calls Tryz.prog 94 #[.slice p0_ x0.length c0_,.func (.func 95) #[] #[.pointer (some ⟨b1_0,0,none⟩)]] w (fun e w'=>e=.returned (.bool r)∧Below w.heap.size w w'):=by
 unfold slices_ContainsFunc_api_Entry__flat_Own_1 at hF
 refine ce (l:=[.slice p0_ x0.length c0_,.func (.func 95) #[] #[.pointer (some ⟨b1_0,0,none⟩)]]) func94 rfl rfl ?_
 refine at_start ?_
 refine sr (aa (ns (am (am ?_))))
 obtain ⟨t1,ht1,hF⟩:=bM hF
 refine cB func125 rfl (fun w hw=>slices_IndexFunc_api_Entry__flat_Own_1_ok _ _ _ _ _ _ ht1 w (hr0.below hw.below) (hc1_0.below hw.below)) ?_
 refine aw (r_igeq rfl rfl) ?_
 refine aa (nwq [4] ?_)
 refine qt ?_
 have K:=os hF
 subst K
 exact r1 wb
end Go.Proofs.YtahlbjmafceoeaaGreatDoor
namespace Go.Proofs.YtahlbjmafceoeaaGreatDoor
open E Go.RowKit
def ordE(x y:S_api_Entry):Int:=(flat_Own_2 x y).getD 0
def lessE(x y:S_api_Entry):Bool:=lessP x.f_P y.f_P
theorem ordE_key(x y:S_api_Entry):flat_Own_2 x y=some (if lessE x y=true then -1 else if lessE y x=true then 1 else 0):=by
 unfold flat_Own_2 lessE
 rw [cless_key,cless_key]
 show (if lessP x.f_P y.f_P=true then some (-1) else (if lessP y.f_P x.f_P=true then some 1 else some 0))=_
 split
 ·rfl
 ·split<;>rfl
theorem ltOf_ordE:ltOf ordE=lessE:=by
 funext x y
 unfold ltOf ordE
 rw [ordE_key]
 show decide ((if lessE x y=true then (-1:Int) else if lessE y x=true then 1 else 0)<0)=_
 cases h:lessE x y
 ·rw [if_neg Bool.false_ne_true];split<;>rfl
 ·rfl
def okE(x:S_api_Entry):Prop:=okP x.f_P
theorem lessE_swo:SWOn okE lessE where
 irrefl x hx:=lessP_swo.irrefl _ hx
 trans x y z hx hy hz h1 h2:=lessP_swo.trans _ _ _ hx hy hz h1 h2
 ntrans x y z hx hy hz h1 h2:=lessP_swo.ntrans _ _ _ hx hy hz h1 h2
theorem nodup_on{α β:Type}{f:α→β}:∀ {l:List α},(l.map f).Nodup→∀ x∈l,∀ y∈l,f x=f y→x=y
 | [],_,x,hx,_,_,_=>by cases hx
 | a::l,h,x,hx,y,hy,e=>by
  rw [List.map_cons] at h
  obtain ⟨h1,h2⟩:=List.nodup_cons.1 h
  rcases List.mem_cons.1 hx with ex | hx
  ·rcases List.mem_cons.1 hy with ey | hy
   ·rw [ex,ey]
   ·rw [ex] at e
    exact absurd (List.mem_map.2 ⟨y,hy,e.symm⟩) h1
  ·rcases List.mem_cons.1 hy with ey | hy
   ·rw [ey] at e
    exact absurd (List.mem_map.2 ⟨x,hx,e⟩) h1
   ·exact nodup_on h2 x hx y hy e
def sort_Entry(xs:List S_api_Entry):Option (List S_api_Entry):=if (xs.all fun x=>okb x.f_P.f_A.f_B)=true∧(xs.map S_api_Entry.f_P).Nodup∧xs.length≤1000000 then some (isort lessE xs) else none
theorem sort_Entry_len{xs r:List S_api_Entry}(h:sort_Entry xs=some r):r.length=xs.length:=by
 unfold sort_Entry at h
 split at h
 ·cases h;exact isort_length _ _
 ·cases h
theorem sort_Entry_ok{xs r:List S_api_Entry}(h:sort_Entry xs=some r){w0 w:World}{H G:List Ent}{f:Ent→List Ent}{p:Option Addr}{cap:Nat}(hu:Upd H (rowE c_api_Entry 49 p cap xs) f G)(hw:Wd w0 H w) :
  Calls Tryz.prog 96 #[.slice p xs.length cap,.func (.func 97) #[] #[]] w fun en w'=>en=.returned (.tuple #[])∧Wd w0 (f (rowE c_api_Entry 49 p cap r)) w':=by
 unfold sort_Entry at h
 split at h
 ·next hh =>
  cases h
  have hK:∀ x∈xs,okE x:=fun x hx=>List.all_eq_true.1 hh.1 x hx
  have:=sort_calls Tryz.sortE c_api_Entry okE Tryz.isAgg49 Tryz.sizeOf49 ordE (by rw [ltOf_ordE];exact lessE_swo) 97 (enters_of Tryz.func97 (by kernel_rfl) rfl)
   (fun x y _ _ w=>flat_Own_2_ok _ _ _ (by unfold ordE;rw [ordE_key];rfl) w) hK (by rw [ltOf_ordE];exact fun x hx y hy h1 h2=>nodup_on hh.2.1 x hx y hy (lessP_anti (hK x hx) (hK y hy) h1 h2)) (by omega) hu hw
  rw [ltOf_ordE] at this
  exact this
 ·cases h
end Go.Proofs.YtahlbjmafceoeaaGreatDoor
namespace Go.Proofs.YtahlbjmafceoeaaGreatDoor
open E Go.RowKit _root_.Go.Proofs.Tryz
theorem infoF549_is:(Tryz.prog.info? 49).isSome=true:=by kernel_rfl
noncomputable def infoF549_v:TypeInfo:=(Tryz.prog.info? 49).get infoF549_is
theorem infoF549:Tryz.prog.info? 49=some infoF549_v:=(Option.some_get _).symm
def flat_Own.l0(x0:List S_api_Entry)(i4:List S_api_Entry)(i5:Int):Option (List S_api_Entry) :=
 if (decide (i5<(x0.length:Int)))=true then (if (0:Int)≤i5∧i5<(x0.length:Int) then if (0:Int)≤wr .i64 (i5+1)∧wr .i64 (i5+1)≤(x0.length:Int)∧(x0.length:Int)≤(x0.length:Int) then slices_ContainsFunc_api_Entry__flat_Own_1 (lsub x0 (wr .i64 (i5+1)) (x0.length:Int)) (lget x0 i5)>>=fun t17=>cidr_Right ((lget x0 i5).f_P)>>=fun t18=>if t18=true then (if (!t17)=true then (if (i4.length+1)*40≤140737488355328 then flat_Own.l0 x0 (i4++[lget x0 i5]) (wr .i64 (i5+1)) else none) else (flat_Own.l0 x0 i4 (wr .i64 (i5+1)))) else (flat_Own.l0 x0 i4 (wr .i64 (i5+1))) else none else none) else (some i4)
 partial_fixpoint
def flat_Own(x0:List S_api_Entry):Option (List S_api_Entry) :=
 flat_Own.l0 x0 ([]:List S_api_Entry) 0>>=fun q3=>sort_Entry q3>>=fun t25=>some t25
theorem flat_Own_ok(x0:List S_api_Entry)(p0_:Option Addr)(c0_:Nat)(r:List S_api_Entry)(hF:flat_Own x0=some r)(w:World)(hr0:Row c_api_Entry w p0_ c0_ x0) :
    Calls Tryz.prog 72 #[.slice p0_ x0.length c0_] w (fun e w'=>∃ p cap,e=.returned (.slice p r.length cap)∧Own c_api_Entry 49 w.heap.size w' p cap r∧Below w.heap.size w w'):=by
 unfold flat_Own at hF
 refine ce (l:=[.slice p0_ x0.length c0_]) func72 rfl rfl ?_
 refine at_start ?_
 refine sr (aa (ns (aa (nt (qs (sr (am ?_)))))))
 refine aw (r_len_sl underlying46 rfl) ?_
 refine am (nwq [9,8,7,3,0] ?_)
 refine qb ?_
 refine at_own_nil c_api_Entry 49 ?_
 obtain ⟨q3,hq3,hF⟩:=bM hF
 refine wq [9,8,7,3,0] ?_
 refine at_loop_n (B:=0) (A:=fun Y=>∀ (p8:Option Addr) (c9:Nat),At 35 [(3,.slice p8 q3.length c9)] (Wd w [rowE c_api_Entry 49 p8 c9 q3]) Y) ?_ ?_
 ·intro K
  refine flat_Own.l0.partial_correctness x0 (motive:=fun i4 i5 x=>KN (fun Y=>∀ (p8:Option Addr) (c9:Nat),At 35 [(3,.slice p8 x.length c9)] (Wd w [rowE c_api_Entry 49 p8 c9 x]) Y) _ 0→Round (fun Y=>∀ (p6:Option Addr) (c7:Nat),At 35 [(0,.slice p0_ x0.length c0_),(3,.slice p6 i4.length c7),(7,.slice p0_ x0.length c0_),(8,.int .i64 (x0.length:Int)),(9,.int .i64 i5)] (Wd w [rowE c_api_Entry 49 p6 c7 i4]) Y) _ _ _) ?_ _ _ _ hq3 K none 0
  ·clear K hF
   intro g ih i4 i5 x hF K p6 c7
   refine at_round ?_
   refine sr (aw xl (nwq [10,9,8,7,3,0] ?_))
   refine qs ?_
   obtain ⟨h10,hF⟩|⟨h10,hF⟩:=oi hF
   ·refine ct h10 ?_
    refine sn (qs ?_)
    refine qb ?_
    refine sr (am ?_)
    obtain ⟨h11,hF⟩:=gd hF
    obtain ⟨b13,o14,hp12⟩:=row_ptr hr0 h11
    refine aw (r_idx underlying46 sizeOf49 rfl rfl h11 hp12) ?_
    refine aw (r_load_aggc (c:=c_api_Entry) (z:=lget x0 i5) isAgg49 sizeOf49 rfl (row_cell (fun _ h=>h.below) hr0 h11 hp12)) ?_
    refine al (cs:=Cd.cs c_api_Entry zv12) zeroValue49 ?_
    intro b15
    refine aa ?_
    refine at_store (c:=c_api_Entry) (z:=lget x0 i5) .z lw sizeOf49 rfl rfl rfl ?_
    refine ns (am (am (aw xa ?_)))
    obtain ⟨h16,hF⟩:=gd hF
    refine aw (r_reslice (c:=c_api_Entry) underlying46 sizeOf49 rfl (Row.len hr0) ⟨_,rfl⟩ rfl h16) ?_
    refine aw (r_makeFunc rfl) ?_
    obtain ⟨t17,ht17,hF⟩:=bM hF
    refine cB func94 rfl (fun w hw=>slices_ContainsFunc_api_Entry__flat_Own_1_ok _ _ _ _ _ _ ht17 w ((Row.sub hr0 h16).below hw.below) (cells_row1 (hw.ok (Upd.mem .z)))) ?_
    refine aa (nwx [9,8,7,6,5,3,0] ?_)
    refine fa 0 underlying49 rfl sizeOf38 ?_
    refine aw (r_load_aggc (c:=c_api_Prefix) (z:=(lget x0 i5).f_P) isAgg38 sizeOf38 rfl (lens_cell .z (Lens.comp lw (fun z=>{ lget x0 i5 with f_P:=z }) (c_api_Entry_f_P (lget x0 i5))))) ?_
    obtain ⟨t18,ht18,hF⟩:=bM hF
    refine cB func61 rfl (fun w hw=>cidr_Right_ok _ _ ht18 w) ?_
    refine am ?_
    obtain ⟨h19,hF⟩|⟨h19,hF⟩:=oi hF
    ·refine fx 23 h19 ?_
     refine gy ?_
     refine am ?_
     refine gy ?_
     refine aw (r_not rfl) ?_
     refine aw xp (nwq [26,9,8,7,5,3,0] ?_)
     obtain ⟨h20,hF⟩|⟨h20,hF⟩:=oi hF
     ·refine ct h20 ?_
      refine qr (am ?_)
      refine aw (r_load_aggc (c:=c_api_Entry) (z:=lget x0 i5) isAgg49 sizeOf49 rfl (lens_cell .z lw)) ?_
      refine at_litL (c:=c_api_Entry) ([zv12]:List S_api_Entry) ([lget x0 i5]:List S_api_Entry) underlying46 sizeOf49 zeroValue49 rfl rfl rfl (by kernel_rfl) (fill_step (c:=c_api_Entry) (z:=lget x0 i5) rfl (Lens.all c_api_Entry ([zv12]:List S_api_Entry) 0 (by first | decide | exact Nat.le_of_ble_eq_true rfl)) rfl rfl) rfl ?_
      intro b21
      obtain ⟨h22,hF⟩:=gd hF
      refine at_append (z:=.agg (Cd.cs c_api_Entry zv12).toArray) (c:=c_api_Entry) (ys:=([lget x0 i5]:List S_api_Entry)) (.s (.s .z)) underlying46 infoF549 (by kernel_rfl) (by kernel_rfl) rfl rfl rfl rfl (fun _ hw=>cells_src (hw.ok (Upd.mem .z))) (by kernel_rfl) h22 (app_small h22) rfl ?_
      intro p23 c24
      refine aa (qn (dz (dz (wq [9,8,7,3,0] ?_))))
      refine bm ?_
      refine qr (aw xa (am (nwq [9,8,7,3,0] ?_)))
      exact at_weak_k (ih _ _ _ hF K p23 c24) ⟨rfl,rfl,rfl,rfl,rfl,trivial⟩
     refine cf h20 ?_
     refine at_skip ?_
     refine bm ?_
     refine qr (aw xa (am (qn (dz (wq [9,8,7,3,0] ?_)))))
     refine tn ?_
     exact at_weak_k (ih _ _ _ hF K p6 c7) ⟨rfl,rfl,rfl,rfl,rfl,trivial⟩
    refine fx 23 h19 ?_
    refine gn ?_
    refine gn ?_
    refine aw xp (nwq [26,9,8,7,5,3,0] ?_)
    refine cf rfl ?_
    refine at_skip ?_
    refine bm ?_
    refine qr (aw xa (am (qn (dz (wq [9,8,7,3,0] ?_)))))
    refine tn ?_
    exact at_weak_k (ih _ _ _ hF K p6 c7) ⟨rfl,rfl,rfl,rfl,rfl,trivial⟩
   refine cf h10 ?_
   refine at_exit ?_
   refine te (te ?_)
   obtain rfl:=os hF
   exact at_weak_k (K p6 c7) ⟨rfl,trivial⟩
 skip
 intro p8 c9
 refine at_blk_same ?_
 refine tn (sr (am ?_))
 obtain ⟨t25,ht25,hF⟩:=bM hF
 refine at_callN (v:=.tuple #[]) (T:=[rowE c_api_Entry 49 p8 c9 t25]) func96 rfl (by kernel_rfl) rfl rfl (fun w hw=>sort_Entry_ok ht25 .z hw) ?_
 refine at_ov (t:=3) rfl (show Value.slice p8 (List.length q3) c9=.slice p8 (List.length t25) c9 from congrArg (fun n_=>Value.slice p8 n_ c9) ((sort_Entry_len ht25).symm)) ?_
 refine at_ov (t:=32) rfl (show Value.slice p8 (List.length q3) c9=.slice p8 (List.length t25) c9 from congrArg (fun n_=>Value.slice p8 n_ c9) ((sort_Entry_len ht25).symm)) ?_
 refine ns (am (aa (nwq [2] ?_)))
 refine qt ?_
 have K:=os hF
 subst K
 exact r1 (fun w1 hw=>⟨p8,c9,rfl,hw.own .z,hw.below⟩)
end Go.Proofs.YtahlbjmafceoeaaGreatDoor
namespace Go.Proofs.YtahlbjmafceoeaaGreatDoor
open E Go.RowKit _root_.Go.Proofs.Tryz
theorem infoF849_is:(Tryz.prog.info? 49).isSome=true:=by kernel_rfl
noncomputable def infoF849_v:TypeInfo:=(Tryz.prog.info? 49).get infoF849_is
theorem infoF849:Tryz.prog.info? 49=some infoF849_v:=(Option.some_get _).symm
def flat_Thin.l0(t1:List S_api_Entry)(i7:List S_api_Entry)(i9:Int):Option (List S_api_Entry) :=
 if (decide (i9<(t1.length:Int)))=true then (if (0:Int)≤i9∧i9<(t1.length:Int) then flat_above t1 (lget t1 i9)>>=fun t20=>if (!t20.2)=true then (if (i7.length+1)*40≤140737488355328 then flat_Thin.l0 t1 (i7++[lget t1 i9]) (wr .i64 (i9+1)) else none) else (if (t20.1.f_Owner != (lget t1 i9).f_Owner)=true then (if (i7.length+1)*40≤140737488355328 then flat_Thin.l0 t1 (i7++[lget t1 i9]) (wr .i64 (i9+1)) else none) else (flat_Thin.l0 t1 i7 (wr .i64 (i9+1)))) else none) else (some i7)
 partial_fixpoint
def flat_Thin(x0:List S_api_Entry):Option (List S_api_Entry) :=
 flat_Own x0>>=fun t1=>flat_Thin.l0 t1 ([]:List S_api_Entry) 0>>=fun q6=>some q6
theorem flat_Thin_ok(x0:List S_api_Entry)(p0_:Option Addr)(c0_:Nat)(r:List S_api_Entry)(hF:flat_Thin x0=some r)(w:World)(hr0:Row c_api_Entry w p0_ c0_ x0) :
    Calls Tryz.prog 47 #[.slice p0_ x0.length c0_] w (fun e w'=>∃ p cap,e=.returned (.slice p r.length cap)∧Own c_api_Entry 49 w.heap.size w' p cap r∧Below w.heap.size w w'):=by
 unfold flat_Thin at hF
 refine ce (l:=[.slice p0_ x0.length c0_]) func47 rfl rfl ?_
 refine at_start ?_
 refine sr (aa (ns (am ?_)))
 obtain ⟨t1,ht1,hF⟩:=bM hF
 refine at_callO (c:=c_api_Entry) (e:=49) (ys:=t1) (V:=fun p cap=>.slice p t1.length cap) func72 rfl (by kernel_rfl) rfl rfl (fun w hw=>flat_Own_ok _ _ _ _ ht1 w (hr0.below hw.below)) ?_
 intro p2 c3
 refine aa (ns (aa (nt (qs (sr (am ?_))))))
 refine aw (r_len_sl underlying46 rfl) ?_
 refine am (nwq [13,12,11,4,3] ?_)
 refine qb ?_
 refine at_own_nil c_api_Entry 49 ?_
 obtain ⟨q6,hq6,hF⟩:=bM hF
 refine wq [13,12,11,4,3] ?_
 refine at_loop_n (B:=0) (A:=fun Y=>∀ (p12:Option Addr) (c13:Nat),At 38 [(4,.slice p12 q6.length c13)] (Wd w [rowE c_api_Entry 49 p12 c13 q6]) Y) ?_ ?_
 ·intro K
  refine flat_Thin.l0.partial_correctness t1 (motive:=fun i7 i9 x=>KN (fun Y=>∀ (p12:Option Addr) (c13:Nat),At 38 [(4,.slice p12 x.length c13)] (Wd w [rowE c_api_Entry 49 p12 c13 x]) Y) _ 0→Round (fun Y=>∀ (p10:Option Addr) (c11:Nat),At 38 [(3,.slice p2 t1.length c3),(4,.slice p10 i7.length c11),(11,.slice p2 t1.length c3),(12,.int .i64 (t1.length:Int)),(13,.int .i64 i9)] (Wd w [rowE c_api_Entry 49 p10 c11 i7,rowE c_api_Entry 49 p2 c3 t1]) Y) _ _ _) ?_ _ _ _ hq6 K none 0
  ·clear K hF
   intro g ih i7 i9 x hF K p10 c11
   refine at_round ?_
   refine sr (aw xl (nwq [14,13,12,11,4,3] ?_))
   refine qs ?_
   obtain ⟨h14,hF⟩|⟨h14,hF⟩:=oi hF
   ·refine ct h14 ?_
    refine sn (qs ?_)
    refine qb ?_
    refine sr ?_
    obtain ⟨h15,hF⟩:=gd hF
    refine at_pure (φ:=∃ b o,p2=some ⟨b,o,none⟩) (fun _ hw=>row_ptr (hw.own (.s .z)).row h15) ?_
    rintro ⟨b17,o18,hp16⟩
    refine aw (r_idx underlying46 sizeOf49 rfl rfl h15 hp16) ?_
    refine aw (r_load_aggc (c:=c_api_Entry) (z:=lget t1 i9) isAgg49 sizeOf49 rfl (fun w1 hw=>row_cell (W:=fun w1=>w1=_) (fun w1 h=>by subst h;exact Below.refl _ _) (hw.own (.s .z)).row h15 hp16 _ rfl)) ?_
    refine al (cs:=Cd.cs c_api_Entry zv12) zeroValue49 ?_
    intro b19
    refine at_store (c:=c_api_Entry) (z:=lget t1 i9) .z lw sizeOf49 rfl rfl rfl ?_
    refine ns (am ?_)
    refine aw (r_load_aggc (c:=c_api_Entry) (z:=lget t1 i9) isAgg49 sizeOf49 rfl (lens_cell .z lw)) ?_
    obtain ⟨t20,ht20,hF⟩:=bM hF
    refine cB func73 rfl (fun w hw=>flat_above_ok _ _ _ _ _ ht20 w (hw.own (.s (.s .z))).row) ?_
    refine am ?_
    refine aw xe (aw xe ?_)
    refine al (cs:=Cd.cs c_api_Entry zv12) zeroValue49 ?_
    intro b21
    refine at_store (c:=c_api_Entry) (z:=t20.1) .z lw sizeOf49 rfl rfl rfl ?_
    refine aa (nwx [13,12,11,8,7,6,4,3] ?_)
    refine am ?_
    refine aw (r_not rfl) ?_
    refine am ?_
    obtain ⟨h22,hF⟩|⟨h22,hF⟩:=oi hF
    ·refine fx 25 h22 ?_
     refine gn ?_
     refine gn ?_
     refine gn ?_
     refine gn ?_
     refine gn ?_
     refine aw xp (qn (dz (wq [31,13,12,11,6,4,3] ?_)))
     refine tn ?_
     refine ct rfl ?_
     refine qr (am ?_)
     refine aw (r_load_aggc (c:=c_api_Entry) (z:=lget t1 i9) isAgg49 sizeOf49 rfl (lens_cell .z lw)) ?_
     refine at_litL (c:=c_api_Entry) ([zv12]:List S_api_Entry) ([lget t1 i9]:List S_api_Entry) underlying46 sizeOf49 zeroValue49 rfl rfl rfl (by kernel_rfl) (fill_step (c:=c_api_Entry) (z:=lget t1 i9) rfl (Lens.all c_api_Entry ([zv12]:List S_api_Entry) 0 (by first | decide | exact Nat.le_of_ble_eq_true rfl)) rfl rfl) rfl ?_
     intro b23
     obtain ⟨h24,hF⟩:=gd hF
     refine at_append (z:=.agg (Cd.cs c_api_Entry zv12).toArray) (c:=c_api_Entry) (ys:=([lget t1 i9]:List S_api_Entry)) (.s (.s .z)) underlying46 infoF849 (by kernel_rfl) (by kernel_rfl) rfl rfl rfl rfl (fun _ hw=>cells_src (hw.ok (Upd.mem .z))) (by kernel_rfl) h24 (app_small h24) rfl ?_
     intro p25 c26
     refine aa (qn (dz (dz (wq [13,12,11,4,3] ?_))))
     refine bm ?_
     refine qr (aw xa (am (nwq [13,12,11,4,3] ?_)))
     exact at_weak_k (ih _ _ _ hF K p25 c26) ⟨rfl,rfl,rfl,rfl,rfl,trivial⟩
    refine fx 25 h22 ?_
    refine gy ?_
    refine fa 18 underlying49 rfl sizeOf3 ?_
    refine gy ?_
    refine aw (r_load_cell isAgg3 rfl (lens_cell0 (c:=(cInt .i64)) (y:=t20.1.f_Owner) .z (Lens.comp lw (fun z=>{ t20.1 with f_Owner:=z }) (c_api_Entry_f_Owner t20.1)) rfl)) ?_
    refine gy ?_
    refine fa 18 underlying49 rfl sizeOf3 ?_
    refine gy ?_
    refine aw (r_load_cell isAgg3 rfl (lens_cell0 (c:=(cInt .i64)) (y:=(lget t1 i9).f_Owner) (.s .z) (Lens.comp lw (fun z=>{ lget t1 i9 with f_Owner:=z }) (c_api_Entry_f_Owner (lget t1 i9))) rfl)) ?_
    refine gy ?_
    refine aw xn (aw xp (qn (dz (wq [31,13,12,11,6,4,3] ?_))))
    refine tn ?_
    obtain ⟨h27,hF⟩|⟨h27,hF⟩:=oi hF
    ·refine ct h27 ?_
     refine qr (am ?_)
     refine aw (r_load_aggc (c:=c_api_Entry) (z:=lget t1 i9) isAgg49 sizeOf49 rfl (lens_cell .z lw)) ?_
     refine at_litL (c:=c_api_Entry) ([zv12]:List S_api_Entry) ([lget t1 i9]:List S_api_Entry) underlying46 sizeOf49 zeroValue49 rfl rfl rfl (by kernel_rfl) (fill_step (c:=c_api_Entry) (z:=lget t1 i9) rfl (Lens.all c_api_Entry ([zv12]:List S_api_Entry) 0 (by first | decide | exact Nat.le_of_ble_eq_true rfl)) rfl rfl) rfl ?_
     intro b28
     obtain ⟨h29,hF⟩:=gd hF
     refine at_append (z:=.agg (Cd.cs c_api_Entry zv12).toArray) (c:=c_api_Entry) (ys:=([lget t1 i9]:List S_api_Entry)) (.s (.s .z)) underlying46 infoF849 (by kernel_rfl) (by kernel_rfl) rfl rfl rfl rfl (fun _ hw=>cells_src (hw.ok (Upd.mem .z))) (by kernel_rfl) h29 (app_small h29) rfl ?_
     intro p30 c31
     refine aa (qn (dz (dz (wq [13,12,11,4,3] ?_))))
     refine bm ?_
     refine qr (aw xa (am (nwq [13,12,11,4,3] ?_)))
     exact at_weak_k (ih _ _ _ hF K p30 c31) ⟨rfl,rfl,rfl,rfl,rfl,trivial⟩
    refine cf h27 ?_
    refine at_skip ?_
    refine bm ?_
    refine qr (aw xa (am (qn (dz (wq [13,12,11,4,3] ?_)))))
    refine tn ?_
    exact at_weak_k (ih _ _ _ hF K p10 c11) ⟨rfl,rfl,rfl,rfl,rfl,trivial⟩
   refine cf h14 ?_
   refine at_exit ?_
   refine te (te ?_)
   refine at_drop (H:=_) (.s .z) ?_
   obtain rfl:=os hF
   exact at_weak_k (K p10 c11) ⟨rfl,trivial⟩
 skip
 intro p12 c13
 refine at_blk_same ?_
 refine tn (sr (am (aa (nwq [2] ?_))))
 refine qt ?_
 have K:=os hF
 subst K
 exact r1 (fun w1 hw=>⟨p12,c13,rfl,hw.own .z,hw.below⟩)
end Go.Proofs.YtahlbjmafceoeaaGreatDoor
namespace Go.Proofs.YtahlbjmafceoeaaGreatDoor
open E Go.RowKit _root_.Go.Proofs.Tryz
theorem infoV138_is:(Tryz.prog.info? 38).isSome=true:=by kernel_rfl
noncomputable def infoV138_v:TypeInfo:=(Tryz.prog.info? 38).get infoV138_is
theorem infoV138:Tryz.prog.info? 38=some infoV138_v:=(Option.some_get _).symm
def crawlwayref34_Large.l0(x0:S_api_Conf)(i4:Int):Option (Ctl (Bool) (Unit)) :=
 if (decide (i4<(x0.f_Peers.length:Int)))=true then (if (0:Int)≤i4∧i4<(x0.f_Peers.length:Int) then if (decide ((((lget x0.f_Peers i4).f_Allowed).length:Int)>80))=true then (some (.ret true)) else (crawlwayref34_Large.l0 x0 (wr .i64 (i4+1))) else none) else (some (.nx ()))
 partial_fixpoint
def crawlwayref34_Large(x0:S_api_Conf):Option (Bool) :=
 if (decide ((x0.f_Peers.length:Int)>20))=true then (some true) else (crawlwayref34_Large.l0 x0 0>>=fun q3=>match q3 with | .ret r'=>some r' | .nx sq3=>(some false))
theorem crawlwayref34_Large_ok(g0_:G_api_Conf)(x0:S_api_Conf)(r:Bool)(hF:crawlwayref34_Large x0=some r)(w:World)(hn0:N_api_Conf w (g0_,x0)) :
    Calls Tryz.prog 6 #[.agg (Cd.cs c_api_Conf (g0_,x0)).toArray] w (fun e w'=>e=.returned (.bool r)∧Below w.heap.size w w'):=by
 unfold crawlwayref34_Large at hF
 refine ce (l:=[.agg (Cd.cs c_api_Conf (g0_,x0)).toArray]) func6 rfl rfl ?_
 refine at_start ?_
 refine sr ?_
 refine at_box (cs:=Cd.cs c_api_Conf (g0_,x0)) rfl rfl rfl ?_
 intro b1
 refine aa (nt (qs (sr (fa 34 underlying27 rfl sizeOf25 ?_))))
 refine aw (r_load_cell isAgg25 rfl (lens_cell0 (c:=cHd) (y:=⟨g0_.1,List.length x0.f_Peers,g0_.2⟩) .z (c_api_Conf_f_Peers g0_ x0) rfl)) ?_
 refine aw (r_len_sl underlying25 rfl) ?_
 refine aw (r_igtr rfl rfl) ?_
 refine nwq [7,1] ?_
 obtain ⟨h2,hF⟩|⟨h2,hF⟩:=oi hF
 ·refine ct h2 ?_
  refine sr (aa (qn (dz (wq [2] ?_))))
  refine tn (rt ?_)
  have K:=os hF
  subst K
  exact r1 wb
 refine cf h2 ?_
 refine sn (qs (sr (aa (nwq [3,1] ?_))))
 refine qb ?_
 obtain ⟨q3,hq3,hF⟩:=bM hF
 refine wq [3,1] ?_
 refine at_loop_r (B:=0) (r:=r) (q:=q3) (A:=fun (_:Unit) Y=>At 23 [] (Wd w []) Y) ?_ ?_
 ·intro K
  refine crawlwayref34_Large.l0.partial_correctness x0 (motive:=fun i4 x=>KR (fun (_:Unit) Y=>At 23 [] (Wd w []) Y) _ 0 r x→Round (fun Y=>At 23 [(1,.pointer (some ⟨b1,0,none⟩)),(3,.int .i64 i4)] (Wd w [cellsE b1 (Cd.cs c_api_Conf (g0_,x0)) 27]) Y) _ _ _) ?_ _ _ hq3 K
  ·clear K hF
   intro g ih i4 x hF K
   refine at_round ?_
   refine qs (sr (am (fa 34 underlying27 rfl sizeOf25 ?_)))
   refine aw (r_load_cell isAgg25 rfl (lens_cell0 (c:=cHd) (y:=⟨g0_.1,List.length x0.f_Peers,g0_.2⟩) .z (c_api_Conf_f_Peers g0_ x0) rfl)) ?_
   refine aw (r_len_sl underlying25 rfl) ?_
   refine aw xl (nwq [12,3,1] ?_)
   obtain ⟨h5,hF⟩|⟨h5,hF⟩:=oi hF
   ·refine ct h5 ?_
    refine sn (qs ?_)
    refine qb ?_
    refine sr (fa 34 underlying27 rfl sizeOf25 ?_)
    refine aw (r_load_cell isAgg25 rfl (lens_cell0 (c:=cHd) (y:=⟨g0_.1,List.length x0.f_Peers,g0_.2⟩) .z (c_api_Conf_f_Peers g0_ x0) rfl)) ?_
    refine am ?_
    obtain ⟨h6,hF⟩:=gd hF
    obtain ⟨zs10,hz11,hr12,hn13⟩:=id hn0
    obtain ⟨b8,o9,hp7⟩:=row_ptr hr12 (zidx hz11 h6)
    obtain ⟨g14,hg15⟩:=zget hz11 i4
    refine aw (r_idx underlying25 sizeOf60 rfl rfl h6 hp7) ?_
    refine fa 85 underlying60 rfl sizeOf58 ?_
    refine aw (r_load_cell isAgg58 rfl (nlens0 (c':=cHd) (y:=⟨g14.1,List.length ((lget x0.f_Peers i4).f_Allowed),g14.2⟩) (fun _ h=>h.below) hr12 (zidx hz11 h6) hp7 hg15 (c_api_Peer_f_Allowed g14 (lget x0.f_Peers i4)) rfl)) ?_
    refine aw (r_len_sl underlying58 rfl) ?_
    refine aw (r_igtr rfl rfl) ?_
    refine nwq [22,3,1] ?_
    obtain ⟨h16,hF⟩|⟨h16,hF⟩:=oi hF
    ·refine ct h16 ?_
     refine sr (aa (qn (dz (wq [2] ?_))))
     refine tn (qt ?_)
     refine br (tr (tr (br (tr ?_))))
     obtain rfl:=os hF
     subst K
     exact r1 wb
    refine cf h16 ?_
    refine at_skip ?_
    refine bm ?_
    refine qr (am (aw xa (aa (nwq [3,1] ?_))))
    exact at_weak_k (ih _ _ hF K) ⟨rfl,rfl,trivial⟩
   refine cf h5 ?_
   refine at_exit ?_
   refine te (te ?_)
   refine dz ?_
   obtain rfl:=os hF
   exact at_weak_k K trivial
 cases q3 with
 | ret r'=>exact os hF
 | nx sq3 =>
  skip
  refine at_blk_same ?_
  refine tn (sr (aa (nwq [2] ?_)))
  refine qt ?_
  have K:=os hF
  subst K
  exact r1 wb
def crawlwayref34_from(x0:Int):Option (Bool) :=
 if (decide (x0≥0))=true then (some (decide (x0≤65535))) else (some false)
theorem crawlwayref34_from_ok(x0:Int)(r:Bool)(hF:crawlwayref34_from x0=some r)(w:World) :
    Calls Tryz.prog 38 #[.int .i64 x0] w (fun e w'=>e=.returned (.bool r)∧w'=w):=by
 unfold crawlwayref34_from at hF
 refine ce (l:=[.int .i64 x0]) func38 rfl rfl ?_
 refine sr (aa (nwx [0] ?_))
 refine am ?_
 refine aw (r_igeq rfl rfl) ?_
 refine am ?_
 obtain ⟨h1,hF⟩|⟨h1,hF⟩:=oi hF
 ·refine fx 5 h1 ?_
  refine gy ?_
  refine am ?_
  refine gy ?_
  refine aw (r_ileq rfl rfl) ?_
  refine aw xp (aa (nwq [2] ?_))
  refine qt ?_
  have K:=os hF
  subst K
  exact r1 (fun w1 hw=>⟨rfl,hw⟩)
 refine fx 5 h1 ?_
 refine gn ?_
 refine gn ?_
 refine aw xp (aa (nwq [2] ?_))
 refine qt ?_
 have K:=os hF
 subst K
 exact r1 (fun w1 hw=>⟨rfl,hw⟩)
def crawlwayref34_Right.l1(x0:S_api_Conf)(i11:Int)(i37:Int):Option (Ctl (Bool) (Unit)) :=
 if (decide (i37<i11))=true then (if (0:Int)≤i37∧i37<(x0.f_Peers.length:Int) then if (decide ((lget x0.f_Peers i37).f_Key=(lget x0.f_Peers i11).f_Key))=true then (some (.ret false)) else (crawlwayref34_Right.l1 x0 i11 (wr .i64 (i37+1))) else none) else (some (.nx ()))
 partial_fixpoint
def crawlwayref34_Right.l3(x0:S_api_Conf)(i11:Int)(i53:List S_api_Prefix)(i54:Int)(i77:Int):Option (Ctl (Bool) (Unit)) :=
 if (decide (i77<(i53.length:Int)))=true then (if (0:Int)≤i77∧i77<(i53.length:Int) then if (decide (lget i53 i77=lget ((lget x0.f_Peers i11).f_Allowed) i54))=true then (some (.ret false)) else (crawlwayref34_Right.l3 x0 i11 i53 i54 (wr .i64 (i77+1))) else none) else (some (.nx ()))
 partial_fixpoint
def crawlwayref34_Right.l2(x0:S_api_Conf)(i11:Int)(i53:List S_api_Prefix)(i54:Int):Option (Ctl (Bool) (List S_api_Prefix)) :=
 if (decide (i54<(((lget x0.f_Peers i11).f_Allowed).length:Int)))=true then (if (0:Int)≤i54∧i54<(((lget x0.f_Peers i11).f_Allowed).length:Int) then (crawlwayref11_Right (lget ((lget x0.f_Peers i11).f_Allowed) i54)>>=fun t67=>if (!t67)=true then (some (.ret false)) else (if (decide (i54>0))=true then (if (0:Int)≤wr .i64 (i54-1)∧wr .i64 (i54-1)<(((lget x0.f_Peers i11).f_Allowed).length:Int) then crawlwayref11_Less (lget ((lget x0.f_Peers i11).f_Allowed) (wr .i64 (i54-1))) (lget ((lget x0.f_Peers i11).f_Allowed) i54)>>=fun t74=>if (!t74)=true then (some (.ret false)) else (some (.nx ())) else none) else (some (.nx ()))):Option (Ctl (Bool) (Unit)))>>=fun q65=>match q65 with | .ret r'=>some (.ret r') | .nx sq65=>(crawlwayref34_Right.l3 x0 i11 i53 i54 0>>=fun q76=>match q76 with | .ret r'=>some (.ret r') | .nx sq76=>(if (i53.length+1)*32≤140737488355328 then crawlwayref34_Right.l2 x0 i11 (i53++[lget ((lget x0.f_Peers i11).f_Allowed) i54]) (wr .i64 (i54+1)) else none)) else none) else (some (.nx i53))
 partial_fixpoint
def crawlwayref34_Right.l0(x0:S_api_Conf)(i10:List S_api_Prefix)(i11:Int):Option (Ctl (Bool) (List S_api_Prefix)) :=
 if (decide (i11<(x0.f_Peers.length:Int)))=true then (if (0:Int)≤i11∧i11<(x0.f_Peers.length:Int) then (if (decide ((lget x0.f_Peers i11).f_Key=(Vector.replicate 32 (0:Int):(Vector Int 32))))=true then (some (.ret false)) else (crawlwayref34_from ((lget x0.f_Peers i11).f_Keep)>>=fun t31=>if (!t31)=true then (some (.ret false)) else (if (!decide ((lget x0.f_Peers i11).f_End=({ f_A:=({ f_V:=(0:Int),f_B:=(Vector.replicate 16 (0:Int):(Vector Int 16)) }:S_api_Addr),f_Port:=(0:Int) }:S_api_Endpoint)))=true then (crawlwayref12_Right ((lget x0.f_Peers i11).f_End)>>=fun t34=>if (!t34)=true then (some (.ret false)) else (some (.nx ()))) else (some (.nx ())))):Option (Ctl (Bool) (Unit)))>>=fun q28=>match q28 with | .ret r'=>some (.ret r') | .nx sq28=>(crawlwayref34_Right.l1 x0 i11 0>>=fun q36=>match q36 with | .ret r'=>some (.ret r') | .nx sq36=>(crawlwayref34_Right.l2 x0 i11 i10 0>>=fun q52=>match q52 with | .ret r'=>some (.ret r') | .nx sq52=>(crawlwayref34_Right.l0 x0 sq52 (wr .i64 (i11+1))))) else none) else (some (.nx i10))
 partial_fixpoint
def crawlwayref34_Right(x0:S_api_Conf):Option (Bool) :=
 (crawlwayref34_from x0.f_Port>>=fun t4=>if (!t4)=true then (some (.ret false)) else (if (decide ((x0.f_Peers.length:Int)>16))=true then (some (.ret false)) else (some (.nx ()))):Option (Ctl (Bool) (Unit)))>>=fun q2=>match q2 with | .ret r'=>some r' | .nx sq2=>(crawlwayref34_Right.l0 x0 ([]:List S_api_Prefix) 0>>=fun q9=>match q9 with | .ret r'=>some r' | .nx sq9=>(some (decide ((sq9.length:Int)≤64))))
set_option maxHeartbeats 3200000 in
theorem crawlwayref34_Right_ok(g0_:G_api_Conf)(x0:S_api_Conf)(r:Bool)(hF:crawlwayref34_Right x0=some r)(w:World)(hn0:N_api_Conf w (g0_,x0)) :
    Calls Tryz.prog 13 #[.agg (Cd.cs c_api_Conf (g0_,x0)).toArray] w (fun e w'=>e=.returned (.bool r)∧Below w.heap.size w w'):=by
 unfold crawlwayref34_Right at hF
 refine ce (l:=[.agg (Cd.cs c_api_Conf (g0_,x0)).toArray]) func13 rfl rfl ?_
 refine at_start ?_
 refine sr ?_
 refine at_box (cs:=Cd.cs c_api_Conf (g0_,x0)) rfl rfl rfl ?_
 intro b1
 refine aa (nwq [1] ?_)
 obtain ⟨q2,hq2,hF⟩:=bM hF
 refine at_join (q:=q2) (r:=r) (A:=fun (_:Unit) Y=>At 117 [(1,.pointer (some ⟨b1,0,none⟩))] (Wd w [cellsE b1 (Cd.cs c_api_Conf (g0_,x0)) 27]) Y) ?_ ?_
 ·intro Y K
  replace hF:=hq2
  refine sr (fa 32 underlying27 rfl sizeOf3 ?_)
  refine aw (r_load_cell isAgg3 rfl (lens_cell0 (c:=(cInt .i64)) (y:=x0.f_Port) .z (c_api_Conf_f_Port g0_ x0) rfl)) ?_
  obtain ⟨t4,ht4,hF⟩:=bM hF
  refine at_call0 func38 rfl (by kernel_rfl) rfl rfl (fun w=>crawlwayref34_from_ok _ _ ht4 w) ?_
  refine aw (r_not rfl) ?_
  refine am ?_
  obtain ⟨h5,hF⟩|⟨h5,hF⟩:=oi hF
  ·refine fx 14 h5 ?_
   refine gn ?_
   refine gn ?_
   refine gn ?_
   refine gn ?_
   refine aw xp (nwq [19,1] ?_)
   refine ct rfl ?_
   refine sr (aa (qn (dz (wq [2] ?_))))
   refine tn (rt ?_)
   obtain rfl:=os hF
   subst K
   exact r1 wb
  refine fx 14 h5 ?_
  refine gy ?_
  refine fa 34 underlying27 rfl sizeOf25 ?_
  refine gy ?_
  refine aw (r_load_cell isAgg25 rfl (lens_cell0 (c:=cHd) (y:=⟨g0_.1,List.length x0.f_Peers,g0_.2⟩) .z (c_api_Conf_f_Peers g0_ x0) rfl)) ?_
  refine gy ?_
  refine aw (r_len_sl underlying25 rfl) ?_
  refine gy ?_
  refine aw (r_igtr rfl rfl) ?_
  refine aw xp (nwq [19,1] ?_)
  obtain ⟨h6,hF⟩|⟨h6,hF⟩:=oi hF
  ·refine ct h6 ?_
   refine sr (aa (qn (dz (wq [2] ?_))))
   refine tn (rt ?_)
   obtain rfl:=os hF
   subst K
   exact r1 wb
  refine cf h6 ?_
  refine sn ?_
  obtain rfl:=os hF
  exact at_weak_k K ⟨rfl,trivial⟩
 cases q2 with
 | ret r' =>
  exact os hF
 | nx sq2 =>
  skip
  refine sr (aa (nt (qs (sr (aa (nwq [4,3,1] ?_))))))
  refine qb ?_
  refine at_own_nil c_api_Prefix 38 ?_
  obtain ⟨q9,hq9,hF⟩:=bM hF
  refine wq [4,3,1] ?_
  refine at_loop_r (B:=0) (r:=r) (q:=q9) (A:=fun sq9 Y=>∀ (p14:Option Addr) (c15:Nat),At 117 [(3,.slice p14 sq9.length c15)] (Wd w [rowE c_api_Prefix 38 p14 c15 sq9]) Y) ?_ ?_
  ·intro K
   refine crawlwayref34_Right.l0.partial_correctness x0 (motive:=fun i10 i11 x=>KR (fun sq9 Y=>∀ (p14:Option Addr) (c15:Nat),At 117 [(3,.slice p14 sq9.length c15)] (Wd w [rowE c_api_Prefix 38 p14 c15 sq9]) Y) _ 0 r x→Round (fun Y=>∀ (p12:Option Addr) (c13:Nat),At 117 [(1,.pointer (some ⟨b1,0,none⟩)),(3,.slice p12 i10.length c13),(4,.int .i64 i11)] (Wd w [rowE c_api_Prefix 38 p12 c13 i10,cellsE b1 (Cd.cs c_api_Conf (g0_,x0)) 27]) Y) _ _ _) ?_ _ _ _ hq9 K none 0
   ·clear K hF
    intro g ih i10 i11 x hF K p12 c13
    refine at_round ?_
    refine qs (sr (am (fa 34 underlying27 rfl sizeOf25 ?_)))
    refine aw (r_load_cell isAgg25 rfl (lens_cell0 (c:=cHd) (y:=⟨g0_.1,List.length x0.f_Peers,g0_.2⟩) (.s .z) (c_api_Conf_f_Peers g0_ x0) rfl)) ?_
    refine aw (r_len_sl underlying25 rfl) ?_
    refine aw xl (nwq [24,4,3,1] ?_)
    obtain ⟨h16,hF⟩|⟨h16,hF⟩:=oi hF
    ·refine ct h16 ?_
     refine sn (qs ?_)
     refine qb ?_
     refine sr (fa 34 underlying27 rfl sizeOf25 ?_)
     refine aw (r_load_cell isAgg25 rfl (lens_cell0 (c:=cHd) (y:=⟨g0_.1,List.length x0.f_Peers,g0_.2⟩) (.s .z) (c_api_Conf_f_Peers g0_ x0) rfl)) ?_
     refine am ?_
     obtain ⟨h17,hF⟩:=gd hF
     obtain ⟨zs21,hz22,hr23,hn24⟩:=id hn0
     obtain ⟨b19,o20,hp18⟩:=row_ptr hr23 (zidx hz22 h17)
     obtain ⟨g25,hg26⟩:=zget hz22 i11
     refine aw (r_idx underlying25 sizeOf60 rfl rfl h17 hp18) ?_
     refine aw (r_load_aggc (c:=c_api_Peer) (z:=(g25,lget x0.f_Peers i11)) isAgg60 sizeOf60 rfl (ncell (fun _ h=>h.below) hr23 (zidx hz22 h17) hp18 hg26)) ?_
     refine al (cs:=Cd.cs c_api_Peer zv13) zeroValue60 ?_
     intro b27
     refine at_store (c:=c_api_Peer) (z:=(g25,lget x0.f_Peers i11)) .z lw sizeOf60 rfl rfl rfl ?_
     refine nwq [5,4,3,1] ?_
     obtain ⟨q28,hq28,hF⟩:=bM hF
     refine at_join (q:=q28) (r:=r) (A:=fun (_:Unit) Y=>At 117 [(1,.pointer (some ⟨b1,0,none⟩)),(3,.slice p12 i10.length c13),(4,.int .i64 i11),(5,.pointer (some ⟨b27,0,none⟩))] (Wd w [cellsE b27 (Cd.cs c_api_Peer (g25,lget x0.f_Peers i11)) 60,rowE c_api_Prefix 38 p12 c13 i10,cellsE b1 (Cd.cs c_api_Conf (g0_,x0)) 27]) Y) ?_ ?_
     ·intro Y K
      replace hF:=hq28
      refine sr (fa 0 underlying60 rfl sizeOf23 ?_)
      refine aw (r_load_aggc (c:=(cVec (cInt .u8) 32 (by decide))) (z:=(lget x0.f_Peers i11).f_Key) isAgg23 sizeOf23 rfl (lens_cell .z (c_api_Peer_f_Key g25 (lget x0.f_Peers i11)))) ?_
      refine aw (r_build_array (zs:=Cd.cs (cVec (cInt .u8) 32 (by decide)) zv3) (cs:=Cd.cs (cVec (cInt .u8) 32 (by decide)) zv3) underlying23 zeroValue23 rfl sizeOf5 rfl rfl) ?_
      refine aw (r_eqagg (c:=(cVec (cInt .u8) 32 (by decide))) (a:=(lget x0.f_Peers i11).f_Key) (b:=zv3) (eqs_vec underlying23 infoT5 sizeOf5 isAgg5 (.inr rfl) (eqs_int underlying5)) rfl Tryz.eqGuardType23 rfl rfl (.inl rfl) rfl) ?_
      refine am ?_
      obtain ⟨h30,hF⟩|⟨h30,hF⟩:=oi hF
      ·refine fx 36 h30 ?_
       refine gn ?_
       refine gn ?_
       refine gn ?_
       refine gn ?_
       refine aw xp (am ?_)
       refine gn ?_
       refine gn ?_
       refine gn ?_
       refine gn ?_
       refine gn ?_
       refine at_guard_undef rfl rfl rfl rfl ?_
       refine at_guard_undef rfl rfl rfl rfl ?_
       refine at_guard_undef rfl rfl rfl rfl ?_
       refine at_guard_undef rfl rfl rfl rfl ?_
       refine gn ?_
       refine aw xp (nwq [53,5,4,3,1] ?_)
       refine ct rfl ?_
       refine sr (aa (qn (dz (dz (dz (wq [2] ?_))))))
       refine tn (qt ?_)
       refine tr (br (tr (tr (br (tr ?_)))))
       obtain rfl:=os hF
       subst K
       exact r1 wb
      ·refine fx 36 h30 ?_
       refine gy ?_
       refine fa 82 underlying60 rfl sizeOf3 ?_
       refine gy ?_
       refine aw (r_load_cell isAgg3 rfl (lens_cell0 (c:=(cInt .i64)) (y:=(lget x0.f_Peers i11).f_Keep) .z (c_api_Peer_f_Keep g25 (lget x0.f_Peers i11)) rfl)) ?_
       refine gy ?_
       obtain ⟨t31,ht31,hF⟩:=bM hF
       refine at_call0 func38 rfl (by kernel_rfl) rfl rfl (fun w=>crawlwayref34_from_ok _ _ ht31 w) ?_
       refine gy ?_
       refine aw (r_not rfl) ?_
       refine aw xp (am ?_)
       obtain ⟨h32,hF⟩|⟨h32,hF⟩:=oi hF
       ·refine fx 42 h32 ?_
        refine gn ?_
        refine gn ?_
        refine gn ?_
        refine gn ?_
        refine gn ?_
        refine at_guard_undef rfl rfl rfl rfl ?_
        refine at_guard_undef rfl rfl rfl rfl ?_
        refine at_guard_undef rfl rfl rfl rfl ?_
        refine at_guard_undef rfl rfl rfl rfl ?_
        refine gn ?_
        refine aw xp (nwq [53,5,4,3,1] ?_)
        refine ct rfl ?_
        refine sr (aa (qn (dz (dz (dz (wq [2] ?_))))))
        refine tn (qt ?_)
        refine tr (br (tr (tr (br (tr ?_)))))
        obtain rfl:=os hF
        subst K
        exact r1 wb
       ·refine fx 42 h32 ?_
        refine gy ?_
        refine fa 64 underlying60 rfl sizeOf56 ?_
        refine gy ?_
        refine aw (r_load_aggc (c:=c_api_Endpoint) (z:=(lget x0.f_Peers i11).f_End) isAgg56 sizeOf56 rfl (lens_cell .z (c_api_Peer_f_End g25 (lget x0.f_Peers i11)))) ?_
        refine gy ?_
        refine aw (r_build_struct (zs:=Cd.cs c_api_Endpoint zv7) (cs:=Cd.cs c_api_Endpoint zv7) underlying56 zeroValue56 rfl (places_api_Endpoint_56) rfl rfl) ?_
        refine gy ?_
        refine aw (r_eqagg (c:=c_api_Endpoint) (a:=(lget x0.f_Peers i11).f_End) (b:=zv7) (eq_api_Endpoint_56) rfl Tryz.eqGuardType56 rfl rfl (.inr rfl) rfl) ?_
        refine gy ?_
        refine am ?_
        obtain ⟨h33,hF⟩|⟨h33,hF⟩:=oi hF
        ·refine fx 47 h33 ?_
         refine gy ?_
         refine fa 64 underlying60 rfl sizeOf56 ?_
         refine gy ?_
         refine aw (r_load_aggc (c:=c_api_Endpoint) (z:=(lget x0.f_Peers i11).f_End) isAgg56 sizeOf56 rfl (lens_cell .z (c_api_Peer_f_End g25 (lget x0.f_Peers i11)))) ?_
         refine gy ?_
         obtain ⟨t34,ht34,hF⟩:=bM hF
         refine cB func39 rfl (fun w hw=>crawlwayref12_Right_ok _ _ ht34 w) ?_
         refine gy ?_
         refine aw (r_not rfl) ?_
         refine gy ?_
         refine aw xp (aw xp (nwq [53,5,4,3,1] ?_))
         obtain ⟨h35,hF⟩|⟨h35,hF⟩:=oi hF
         ·refine ct h35 ?_
          refine sr (aa (qn (dz (dz (dz (wq [2] ?_))))))
          refine tn (qt ?_)
          refine tr (br (tr (tr (br (tr ?_)))))
          obtain rfl:=os hF
          subst K
          exact r1 wb
         ·refine cf h35 ?_
          refine sn ?_
          obtain rfl:=os hF
          exact at_weak_k K ⟨rfl,rfl,rfl,rfl,trivial⟩
        ·refine fx 47 h33 ?_
         refine gn ?_
         refine gn ?_
         refine gn ?_
         refine gn ?_
         refine gy ?_
         refine aw xp (aw xp (nwq [53,5,4,3,1] ?_))
         refine cf rfl ?_
         refine sn ?_
         obtain rfl:=os hF
         exact at_weak_k K ⟨rfl,rfl,rfl,rfl,trivial⟩
     ·cases q28 with
      | ret r' =>
       obtain rfl:=os hF;exact K
      | nx sq28 =>
       skip
       refine qs (sr (aa (nwq [6,5,4,3,1] ?_)))
       refine qb ?_
       obtain ⟨q36,hq36,hF⟩:=bM hF
       refine wq [6,5,4,3,1] ?_
       refine at_loop_r (B:=2) (r:=r) (q:=q36) (A:=fun (_:Unit) Y=>At 117 [(1,.pointer (some ⟨b1,0,none⟩)),(3,.slice p12 i10.length c13),(4,.int .i64 i11),(5,.pointer (some ⟨b27,0,none⟩))] (Wd w [cellsE b27 (Cd.cs c_api_Peer (g25,lget x0.f_Peers i11)) 60,rowE c_api_Prefix 38 p12 c13 i10,cellsE b1 (Cd.cs c_api_Conf (g0_,x0)) 27]) Y) ?_ ?_
       ·intro K
        refine crawlwayref34_Right.l1.partial_correctness x0 i11 (motive:=fun i37 x=>KR (fun (_:Unit) Y=>At 117 [(1,.pointer (some ⟨b1,0,none⟩)),(3,.slice p12 i10.length c13),(4,.int .i64 i11),(5,.pointer (some ⟨b27,0,none⟩))] (Wd w [cellsE b27 (Cd.cs c_api_Peer (g25,lget x0.f_Peers i11)) 60,rowE c_api_Prefix 38 p12 c13 i10,cellsE b1 (Cd.cs c_api_Conf (g0_,x0)) 27]) Y) _ 2 r x→Round (fun Y=>At 117 [(1,.pointer (some ⟨b1,0,none⟩)),(3,.slice p12 i10.length c13),(4,.int .i64 i11),(5,.pointer (some ⟨b27,0,none⟩)),(6,.int .i64 i37)] (Wd w [cellsE b27 (Cd.cs c_api_Peer (g25,lget x0.f_Peers i11)) 60,rowE c_api_Prefix 38 p12 c13 i10,cellsE b1 (Cd.cs c_api_Conf (g0_,x0)) 27]) Y) _ _ _) ?_ _ _ hq36 K
        ·clear K hF
         intro g ih i37 x hF K
         refine at_round ?_
         refine qs (sr (am (am (aw xl (nwq [56,6,5,4,3,1] ?_)))))
         obtain ⟨h38,hF⟩|⟨h38,hF⟩:=oi hF
         ·refine ct h38 ?_
          refine sn (qs ?_)
          refine qb ?_
          refine qs ?_
          refine at_draw (by kernel_rfl) (by kernel_rfl) (fun _ h=>h.drew) ?_
          refine atq_val rfl rfl rfl (r_fieldAddr (fo:=34) underlying27 rfl rfl (fun w=>⟨_,sizeOf25 w⟩) rfl) ?_
          refine atq_val rfl rfl rfl (r_load_cell isAgg25 rfl (lens_cell0 (c:=cHd) (y:=⟨g0_.1,List.length x0.f_Peers,g0_.2⟩) (.s (.s .z)) (c_api_Conf_f_Peers g0_ x0) rfl)) ?_
          refine atq_val rfl rfl rfl (r_move rfl) ?_
          obtain ⟨h39,hF⟩:=gd hF
          obtain ⟨zs43,hz44,hr45,hn46⟩:=id hn0
          obtain ⟨b41,o42,hp40⟩:=row_ptr hr45 (zidx hz44 h39)
          obtain ⟨g47,hg48⟩:=zget hz44 i37
          refine atq_val rfl rfl rfl (r_idx underlying25 sizeOf60 rfl rfl h39 hp40) ?_
          refine atq_val rfl rfl rfl (r_fieldAddr (fo:=0) underlying60 rfl rfl (fun w=>⟨_,sizeOf23 w⟩) rfl) ?_
          refine atq_val rfl rfl rfl (r_load_aggc (c:=(cVec (cInt .u8) 32 (by decide))) (z:=(lget x0.f_Peers i37).f_Key) isAgg23 sizeOf23 rfl (nlens (y:=(lget x0.f_Peers i37).f_Key) (fun _ h=>h.below) hr45 (zidx hz44 h39) hp40 hg48 (c_api_Peer_f_Key g47 (lget x0.f_Peers i37)))) ?_
          refine atq_val rfl rfl rfl (r_fieldAddr (fo:=0) underlying60 rfl rfl (fun w=>⟨_,sizeOf23 w⟩) rfl) ?_
          refine atq_val rfl rfl rfl (r_load_aggc (c:=(cVec (cInt .u8) 32 (by decide))) (z:=(lget x0.f_Peers i11).f_Key) isAgg23 sizeOf23 rfl (lens_cell .z (c_api_Peer_f_Key g25 (lget x0.f_Peers i11)))) ?_
          refine atq_val rfl rfl rfl (r_eqagg (c:=(cVec (cInt .u8) 32 (by decide))) (a:=(lget x0.f_Peers i37).f_Key) (b:=(lget x0.f_Peers i11).f_Key) (eqs_vec underlying23 infoT5 sizeOf5 isAgg5 (.inr rfl) (eqs_int underlying5)) rfl Tryz.eqGuardType23 rfl rfl (.inl rfl) rfl) ?_
          refine atq_nil ?_
          refine wq [67,6,5,4,3,1] ?_
          refine tn ?_
          obtain ⟨h49,hF⟩|⟨h49,hF⟩:=oi hF
          ·refine ct h49 ?_
           refine sr (aa (qn (dz (dz (dz (wq [2] ?_))))))
           refine tn (qt ?_)
           refine br (tr (tr (br (tr (br (tr (tr (br (tr ?_)))))))))
           obtain rfl:=os hF
           subst K
           exact r1 wb
          ·refine cf h49 ?_
           refine at_skip ?_
           refine bm ?_
           refine qr (am (aw xa (aa (nwq [6,5,4,3,1] ?_))))
           exact at_weak_k (ih _ _ hF K) ⟨rfl,rfl,rfl,rfl,rfl,trivial⟩
         ·refine cf h38 ?_
          refine at_exit ?_
          refine te (te ?_)
          obtain rfl:=os hF
          exact at_weak_k K ⟨rfl,rfl,rfl,rfl,trivial⟩
       ·cases q36 with
        | ret r'=>obtain rfl:=os hF;exact K
        | nx sq36 =>
         skip
         refine at_blk_same ?_
         refine tn (sr (aa (nwq [7,5,4,3,1] ?_)))
         refine qb ?_
         obtain ⟨q52,hq52,hF⟩:=bM hF
         refine wq [7,5,4,3,1] ?_
         refine at_loop_r (B:=4) (r:=r) (q:=q52) (A:=fun sq52 Y=>∀ (p57:Option Addr) (c58:Nat),At 117 [(1,.pointer (some ⟨b1,0,none⟩)),(3,.slice p57 sq52.length c58),(4,.int .i64 i11)] (Wd w [rowE c_api_Prefix 38 p57 c58 sq52,cellsE b1 (Cd.cs c_api_Conf (g0_,x0)) 27]) Y) ?_ ?_
         ·intro K
          refine crawlwayref34_Right.l2.partial_correctness x0 i11 (motive:=fun i53 i54 x=>KR (fun sq52 Y=>∀ (p57:Option Addr) (c58:Nat),At 117 [(1,.pointer (some ⟨b1,0,none⟩)),(3,.slice p57 sq52.length c58),(4,.int .i64 i11)] (Wd w [rowE c_api_Prefix 38 p57 c58 sq52,cellsE b1 (Cd.cs c_api_Conf (g0_,x0)) 27]) Y) _ 4 r x→Round (fun Y=>∀ (p55:Option Addr) (c56:Nat),At 117 [(1,.pointer (some ⟨b1,0,none⟩)),(3,.slice p55 i53.length c56),(4,.int .i64 i11),(5,.pointer (some ⟨b27,0,none⟩)),(7,.int .i64 i54)] (Wd w [cellsE b27 (Cd.cs c_api_Peer (g25,lget x0.f_Peers i11)) 60,rowE c_api_Prefix 38 p55 c56 i53,cellsE b1 (Cd.cs c_api_Conf (g0_,x0)) 27]) Y) _ _ _) ?_ _ _ _ hq52 K p12 c13
          ·clear K hF
           intro g ih i53 i54 x hF K p55 c56
           refine at_round ?_
           refine qs (sr (am (fa 85 underlying60 rfl sizeOf58 ?_)))
           refine aw (r_load_cell isAgg58 rfl (lens_cell0 (c:=cHd) (y:=⟨g25.1,List.length ((lget x0.f_Peers i11).f_Allowed),g25.2⟩) .z (c_api_Peer_f_Allowed g25 (lget x0.f_Peers i11)) rfl)) ?_
           refine aw (r_len_sl underlying58 rfl) ?_
           refine aw xl (nwq [72,7,5,4,3,1] ?_)
           obtain ⟨h59,hF⟩|⟨h59,hF⟩:=oi hF
           ·refine ct h59 ?_
            refine sn (qs ?_)
            refine qb ?_
            refine sr (fa 85 underlying60 rfl sizeOf58 ?_)
            refine aw (r_load_cell isAgg58 rfl (lens_cell0 (c:=cHd) (y:=⟨g25.1,List.length ((lget x0.f_Peers i11).f_Allowed),g25.2⟩) .z (c_api_Peer_f_Allowed g25 (lget x0.f_Peers i11)) rfl)) ?_
            refine am ?_
            obtain ⟨h60,hF⟩:=gd hF
            obtain ⟨b62,o63,hp61⟩:=row_ptr (nz hg26 hn24 (zidx hz22 h17)) h60
            refine aw (r_idx underlying58 sizeOf38 rfl rfl h60 hp61) ?_
            refine aw (r_load_aggc (c:=c_api_Prefix) (z:=lget ((lget x0.f_Peers i11).f_Allowed) i54) isAgg38 sizeOf38 rfl (row_cell (fun _ h=>h.below) (nz hg26 hn24 (zidx hz22 h17)) h60 hp61)) ?_
            refine al (cs:=Cd.cs c_api_Prefix zv8) zeroValue38 ?_
            intro b64
            refine at_store (c:=c_api_Prefix) (z:=lget ((lget x0.f_Peers i11).f_Allowed) i54) .z lw sizeOf38 rfl rfl rfl ?_
            refine nwq [8,7,5,4,3,1] ?_
            obtain ⟨q65,hq65,hF⟩:=bM hF
            refine at_join (q:=q65) (r:=r) (A:=fun (_:Unit) Y=>At 117 [(1,.pointer (some ⟨b1,0,none⟩)),(3,.slice p55 i53.length c56),(4,.int .i64 i11),(5,.pointer (some ⟨b27,0,none⟩)),(7,.int .i64 i54),(8,.pointer (some ⟨b64,0,none⟩))] (Wd w [cellsE b64 (Cd.cs c_api_Prefix (lget ((lget x0.f_Peers i11).f_Allowed) i54)) 38,cellsE b27 (Cd.cs c_api_Peer (g25,lget x0.f_Peers i11)) 60,rowE c_api_Prefix 38 p55 c56 i53,cellsE b1 (Cd.cs c_api_Conf (g0_,x0)) 27]) Y) ?_ ?_
            ·intro Y K
             replace hF:=hq65
             refine qs ?_
             refine at_draw (by kernel_rfl) (by kernel_rfl) (fun _ h=>h.drew) ?_
             refine atq_val rfl rfl rfl (r_load_aggc (c:=c_api_Prefix) (z:=lget ((lget x0.f_Peers i11).f_Allowed) i54) isAgg38 sizeOf38 rfl (lens_cell .z lw)) ?_
             obtain ⟨t67,ht67,hF⟩:=bM hF
             refine atq_call func40 rfl (by kernel_rfl) rfl rfl (fun w hw=>(crawlwayref11_Right_ok _ _ ht67 w).mono fun _ _ h=>⟨h.1,hw.call h.2⟩) ?_
             refine atq_val rfl rfl rfl (r_not rfl) ?_
             refine atq_val rfl rfl rfl (r_move rfl) ?_
             obtain ⟨h68,hF⟩|⟨h68,hF⟩:=oi hF
             ·refine atq_fix (g:=83) rfl h68 ?_
              refine atq_guard_no rfl rfl rfl rfl rfl ?_
              refine atq_guard_no rfl rfl rfl rfl rfl ?_
              refine atq_guard_no rfl rfl rfl rfl rfl ?_
              refine atq_guard_undef rfl rfl rfl rfl ?_
              refine atq_guard_undef rfl rfl rfl rfl ?_
              refine atq_guard_undef rfl rfl rfl rfl ?_
              refine atq_guard_undef rfl rfl rfl rfl ?_
              refine atq_guard_undef rfl rfl rfl rfl ?_
              refine atq_guard_undef rfl rfl rfl rfl ?_
              refine atq_guard_undef rfl rfl rfl rfl ?_
              refine atq_guard_undef rfl rfl rfl rfl ?_
              refine atq_guard_undef rfl rfl rfl rfl ?_
              refine atq_guard_no rfl rfl rfl rfl rfl ?_
              refine atq_val rfl rfl rfl (r_pick rfl rfl rfl) ?_
              refine atq_nil ?_
              refine wq [97,8,7,5,4,3,1] ?_
              refine tn ?_
              refine ct rfl ?_
              refine sr (aa (qn (dz (dz (dz (dz (wq [2] ?_)))))))
              refine tn (qt ?_)
              refine tr (br (tr (tr (br (br (tr (tr (br (tr ?_)))))))))
              obtain rfl:=os hF
              subst K
              exact r1 wb
             ·refine atq_fix (g:=83) rfl h68 ?_
              refine atq_guard_yes rfl rfl rfl ?_
              refine atq_val rfl rfl rfl (r_move rfl) ?_
              refine atq_guard_yes rfl rfl rfl ?_
              refine atq_val rfl rfl rfl (r_igtr rfl rfl) ?_
              refine atq_guard_yes rfl rfl rfl ?_
              refine atq_val rfl rfl rfl (r_move rfl) ?_
              obtain ⟨h69,hF⟩|⟨h69,hF⟩:=oi hF
              ·refine atq_fix (g:=86) rfl h69 ?_
               refine atq_guard_yes rfl rfl rfl ?_
               refine atq_val rfl rfl rfl (r_fieldAddr (fo:=85) underlying60 rfl rfl (fun w=>⟨_,sizeOf58 w⟩) rfl) ?_
               refine atq_guard_yes rfl rfl rfl ?_
               refine atq_val rfl rfl rfl (r_load_cell isAgg58 rfl (lens_cell0 (c:=cHd) (y:=⟨g25.1,List.length ((lget x0.f_Peers i11).f_Allowed),g25.2⟩) (.s .z) (c_api_Peer_f_Allowed g25 (lget x0.f_Peers i11)) rfl)) ?_
               refine atq_guard_yes rfl rfl rfl ?_
               refine atq_val rfl rfl rfl (r_move rfl) ?_
               refine atq_guard_yes rfl rfl rfl ?_
               refine atq_val rfl rfl rfl (r_isub rfl rfl) ?_
               refine atq_guard_yes rfl rfl rfl ?_
               obtain ⟨h70,hF⟩:=gd hF
               obtain ⟨b72,o73,hp71⟩:=row_ptr (nz hg26 hn24 (zidx hz22 h17)) h70
               refine atq_val rfl rfl rfl (r_idx underlying58 sizeOf38 rfl rfl h70 hp71) ?_
               refine atq_guard_yes rfl rfl rfl ?_
               refine atq_val rfl rfl rfl (r_load_aggc (c:=c_api_Prefix) (z:=lget ((lget x0.f_Peers i11).f_Allowed) (wr .i64 (i54-1))) isAgg38 sizeOf38 rfl (row_cell (fun _ h=>h.below) (nz hg26 hn24 (zidx hz22 h17)) h70 hp71)) ?_
               refine atq_guard_yes rfl rfl rfl ?_
               refine atq_val rfl rfl rfl (r_load_aggc (c:=c_api_Prefix) (z:=lget ((lget x0.f_Peers i11).f_Allowed) i54) isAgg38 sizeOf38 rfl (lens_cell .z lw)) ?_
               refine atq_guard_yes rfl rfl rfl ?_
               obtain ⟨t74,ht74,hF⟩:=bM hF
               refine atq_call func41 rfl (by kernel_rfl) rfl rfl (fun w hw=>(crawlwayref11_Less_ok _ _ _ ht74 w).mono fun _ _ h=>⟨h.1,hw.call h.2⟩) ?_
               refine atq_guard_yes rfl rfl rfl ?_
               refine atq_val rfl rfl rfl (r_not rfl) ?_
               refine atq_guard_yes rfl rfl rfl ?_
               refine atq_val rfl rfl rfl (r_pick rfl rfl rfl) ?_
               refine atq_val rfl rfl rfl (r_pick rfl rfl rfl) ?_
               refine atq_nil ?_
               refine wq [97,8,7,5,4,3,1] ?_
               refine tn ?_
               obtain ⟨h75,hF⟩|⟨h75,hF⟩:=oi hF
               ·refine ct h75 ?_
                refine sr (aa (qn (dz (dz (dz (dz (wq [2] ?_)))))))
                refine tn (qt ?_)
                refine tr (br (tr (tr (br (br (tr (tr (br (tr ?_)))))))))
                obtain rfl:=os hF
                subst K
                exact r1 wb
               ·refine cf h75 ?_
                refine sn ?_
                obtain rfl:=os hF
                exact at_weak_k K ⟨rfl,rfl,rfl,rfl,rfl,rfl,trivial⟩
              ·refine atq_fix (g:=86) rfl h69 ?_
               refine atq_guard_no rfl rfl rfl rfl rfl ?_
               refine atq_guard_no rfl rfl rfl rfl rfl ?_
               refine atq_guard_no rfl rfl rfl rfl rfl ?_
               refine atq_guard_no rfl rfl rfl rfl rfl ?_
               refine atq_guard_no rfl rfl rfl rfl rfl ?_
               refine atq_guard_no rfl rfl rfl rfl rfl ?_
               refine atq_guard_no rfl rfl rfl rfl rfl ?_
               refine atq_guard_no rfl rfl rfl rfl rfl ?_
               refine atq_guard_no rfl rfl rfl rfl rfl ?_
               refine atq_guard_yes rfl rfl rfl ?_
               refine atq_val rfl rfl rfl (r_pick rfl rfl rfl) ?_
               refine atq_val rfl rfl rfl (r_pick rfl rfl rfl) ?_
               refine atq_nil ?_
               refine wq [97,8,7,5,4,3,1] ?_
               refine tn ?_
               refine cf rfl ?_
               refine sn ?_
               obtain rfl:=os hF
               exact at_weak_k K ⟨rfl,rfl,rfl,rfl,rfl,rfl,trivial⟩
            ·cases q65 with
             | ret r' =>
              obtain rfl:=os hF;exact K
             | nx sq65 =>
              skip
              refine qs (sr (aa (nwq [9,8,7,5,4,3,1] ?_)))
              refine qb ?_
              obtain ⟨q76,hq76,hF⟩:=bM hF
              refine wq [9,8,7,5,4,3,1] ?_
              refine at_loop_r (B:=6) (r:=r) (q:=q76) (A:=fun (_:Unit) Y=>At 117 [(1,.pointer (some ⟨b1,0,none⟩)),(3,.slice p55 i53.length c56),(4,.int .i64 i11),(5,.pointer (some ⟨b27,0,none⟩)),(7,.int .i64 i54),(8,.pointer (some ⟨b64,0,none⟩))] (Wd w [cellsE b64 (Cd.cs c_api_Prefix (lget ((lget x0.f_Peers i11).f_Allowed) i54)) 38,cellsE b27 (Cd.cs c_api_Peer (g25,lget x0.f_Peers i11)) 60,rowE c_api_Prefix 38 p55 c56 i53,cellsE b1 (Cd.cs c_api_Conf (g0_,x0)) 27]) Y) ?_ ?_
              ·intro K
               refine crawlwayref34_Right.l3.partial_correctness x0 i11 i53 i54 (motive:=fun i77 x=>KR (fun (_:Unit) Y=>At 117 [(1,.pointer (some ⟨b1,0,none⟩)),(3,.slice p55 i53.length c56),(4,.int .i64 i11),(5,.pointer (some ⟨b27,0,none⟩)),(7,.int .i64 i54),(8,.pointer (some ⟨b64,0,none⟩))] (Wd w [cellsE b64 (Cd.cs c_api_Prefix (lget ((lget x0.f_Peers i11).f_Allowed) i54)) 38,cellsE b27 (Cd.cs c_api_Peer (g25,lget x0.f_Peers i11)) 60,rowE c_api_Prefix 38 p55 c56 i53,cellsE b1 (Cd.cs c_api_Conf (g0_,x0)) 27]) Y) _ 6 r x→Round (fun Y=>At 117 [(1,.pointer (some ⟨b1,0,none⟩)),(3,.slice p55 i53.length c56),(4,.int .i64 i11),(5,.pointer (some ⟨b27,0,none⟩)),(7,.int .i64 i54),(8,.pointer (some ⟨b64,0,none⟩)),(9,.int .i64 i77)] (Wd w [cellsE b64 (Cd.cs c_api_Prefix (lget ((lget x0.f_Peers i11).f_Allowed) i54)) 38,cellsE b27 (Cd.cs c_api_Peer (g25,lget x0.f_Peers i11)) 60,rowE c_api_Prefix 38 p55 c56 i53,cellsE b1 (Cd.cs c_api_Conf (g0_,x0)) 27]) Y) _ _ _) ?_ _ _ hq76 K
               ·clear K hF
                intro g ih i77 x hF K
                refine at_round ?_
                refine qs (sr (am (am ?_)))
                refine aw (r_len_sl underlying58 rfl) ?_
                refine aw xl (nwq [101,9,8,7,5,4,3,1] ?_)
                obtain ⟨h78,hF⟩|⟨h78,hF⟩:=oi hF
                ·refine ct h78 ?_
                 refine sn (qs ?_)
                 refine qb ?_
                 refine qs (wq [9,8,7,5,4,3,1] ?_)
                 obtain ⟨h79,hF⟩:=gd hF
                 refine at_pure (φ:=∃ b o,p55=some ⟨b,o,none⟩) (fun _ hw=>row_ptr (hw.own (.s (.s .z))).row h79) ?_
                 rintro ⟨b81,o82,hp80⟩
                 refine at_inv [.q 104 (fun g83=>.slice p55 i53.length c56) [] 0 0,.q 105 (fun g83=>.int .i64 i77) [] 0 0,.q 106 (fun g83=>.pointer (some ⟨b81,o82+Int.toNat i77*18,none⟩)) [0,1] 0 0,.q 107 (fun g83=>.agg (Cd.cs c_api_Prefix (lget i53 i77)).toArray) [2] 0 0,.q 108 (fun g83=>.agg (Cd.cs c_api_Prefix (lget ((lget x0.f_Peers i11).f_Allowed) i54)).toArray) [] 0 0,.q 109 (fun g83=>.bool (decide (lget i53 i77=lget ((lget x0.f_Peers i11).f_Allowed) i54))) [3,4] 0 0] (fun g83 s=>match s with | _=>(Wd w [cellsE b64 (Cd.cs c_api_Prefix (lget ((lget x0.f_Peers i11).f_Allowed) i54)) 38,cellsE b27 (Cd.cs c_api_Peer (g25,lget x0.f_Peers i11)) 60,rowE c_api_Prefix 38 p55 c56 i53,cellsE b1 (Cd.cs c_api_Conf (g0_,x0)) 27])) 0 (by kernel_rfl) (by kernel_rfl) (by kernel_rfl) (by kernel_rfl) (by kernel_rfl) ⟨fun _ _ _=>rfl,fun _ _ _=>rfl,fun _ _ _=>rfl,fun _ _ _=>rfl,fun _ _ _=>rfl,fun _ _ _=>rfl,trivial⟩ (by kernel_rfl) (fun w_ h=>⟨fun _=>g3 0 none 0 none w_,h.drew⟩) ⟨?_,?_,?_,?_,?_,?_,trivial⟩ ?_
                 ·intro Lx g83 s K hl hh k
                  show At 117 ((1,_)::(3,_)::(4,_)::(5,_)::(7,_)::(8,_)::(9,_)::Lx) _ _
                  refine am ?_
                  exact at_nil k
                 ·intro Lx g83 s K hl hh k
                  show At 117 ((1,_)::(3,_)::(4,_)::(5,_)::(7,_)::(8,_)::(9,_)::Lx) _ _
                  refine am ?_
                  exact at_nil k
                 ·intro Lx g83 s K hl hh k
                  show At 117 ((104,_)::(105,_)::(1,_)::(3,_)::(4,_)::(5,_)::(7,_)::(8,_)::(9,_)::Lx) _ _
                  refine aw (r_idx underlying58 sizeOf38 rfl rfl h79 hp80) ?_
                  exact at_nil k
                 ·intro Lx g83 s K hl hh k
                  show At 117 ((106,_)::(1,_)::(3,_)::(4,_)::(5,_)::(7,_)::(8,_)::(9,_)::Lx) _ _
                  obtain rfl:s=0:=by omega
                  refine aw (r_load_aggc (c:=c_api_Prefix) (z:=lget i53 i77) isAgg38 sizeOf38 rfl (fun w1 hw=>row_cell (W:=fun w1=>w1=_) (fun w1 h=>by subst h;exact Below.refl _ _) (hw.own (.s (.s .z))).row h79 hp80 _ rfl)) ?_
                  exact at_nil k
                 ·intro Lx g83 s K hl hh k
                  show At 117 ((1,_)::(3,_)::(4,_)::(5,_)::(7,_)::(8,_)::(9,_)::Lx) _ _
                  obtain rfl:s=0:=by omega
                  refine aw (r_load_aggc (c:=c_api_Prefix) (z:=lget ((lget x0.f_Peers i11).f_Allowed) i54) isAgg38 sizeOf38 rfl (lens_cell .z lw)) ?_
                  exact at_nil k
                 ·intro Lx g83 s K hl hh k
                  show At 117 ((107,_)::(108,_)::(1,_)::(3,_)::(4,_)::(5,_)::(7,_)::(8,_)::(9,_)::Lx) _ _
                  refine aw (r_eqagg (c:=c_api_Prefix) (a:=lget i53 i77) (b:=lget ((lget x0.f_Peers i11).f_Allowed) i54) (eq_api_Prefix_38) rfl Tryz.eqGuardType38 rfl rfl (.inl rfl) rfl) ?_
                  exact at_nil k
                 intro g83
                 show At 117 [(104,_),(105,_),(106,_),(107,_),(108,_),(109,_),(1,_),(3,_),(4,_),(5,_),(7,_),(8,_),(9,_)] _ _
                 refine wq [109,9,8,7,5,4,3,1] ?_
                 refine tn ?_
                 obtain ⟨h84,hF⟩|⟨h84,hF⟩:=oi hF
                 ·refine ct h84 ?_
                  refine sr (aa (qn (dz (dz (dz (dz (wq [2] ?_)))))))
                  refine tn (qt ?_)
                  refine br (tr (tr (br (tr (br (tr (tr (br (br (tr (tr (br (tr ?_)))))))))))))
                  obtain rfl:=os hF
                  subst K
                  exact r1 wb
                 ·refine cf h84 ?_
                  refine at_skip ?_
                  refine bm ?_
                  refine qr (am (aw xa (aa (nwq [9,8,7,5,4,3,1] ?_))))
                  exact at_weak_k (ih _ _ hF K) ⟨rfl,rfl,rfl,rfl,rfl,rfl,rfl,trivial⟩
                ·refine cf h78 ?_
                 refine at_exit ?_
                 refine te (te ?_)
                 obtain rfl:=os hF
                 exact at_weak_k K ⟨rfl,rfl,rfl,rfl,rfl,rfl,trivial⟩
              ·cases q76 with
               | ret r'=>obtain rfl:=os hF;exact K
               | nx sq76 =>
                skip
                refine at_blk_same ?_
                refine tn (qr (am ?_))
                refine aw (r_load_aggc (c:=c_api_Prefix) (z:=lget ((lget x0.f_Peers i11).f_Allowed) i54) isAgg38 sizeOf38 rfl (lens_cell .z lw)) ?_
                refine at_litL (c:=c_api_Prefix) ([zv8]:List S_api_Prefix) ([lget ((lget x0.f_Peers i11).f_Allowed) i54]:List S_api_Prefix) underlying58 sizeOf38 zeroValue38 rfl rfl rfl (by kernel_rfl) (fill_step (c:=c_api_Prefix) (z:=lget ((lget x0.f_Peers i11).f_Allowed) i54) rfl (Lens.all c_api_Prefix ([zv8]:List S_api_Prefix) 0 (by first | decide | exact Nat.le_of_ble_eq_true rfl)) rfl rfl) rfl ?_
                intro b85
                obtain ⟨h86,hF⟩:=gd hF
                refine at_append (z:=.agg (Cd.cs c_api_Prefix zv8).toArray) (c:=c_api_Prefix) (ys:=([lget ((lget x0.f_Peers i11).f_Allowed) i54]:List S_api_Prefix)) (.s (.s (.s .z))) underlying58 infoV138 (by kernel_rfl) (by kernel_rfl) rfl rfl rfl rfl (fun _ hw=>cells_src (hw.ok (Upd.mem .z))) (by kernel_rfl) h86 (app_small h86) rfl ?_
                intro p87 c88
                refine aa (qn (dz (dz (wq [7,5,4,3,1] ?_))))
                refine bm ?_
                refine qr (am (aw xa (aa (nwq [7,5,4,3,1] ?_))))
                exact at_weak_k (ih _ _ _ hF K p87 c88) ⟨rfl,rfl,rfl,rfl,rfl,trivial⟩
           ·refine cf h59 ?_
            refine at_exit ?_
            refine te (te ?_)
            refine dz ?_
            obtain rfl:=os hF
            exact at_weak_k (K p55 c56) ⟨rfl,rfl,rfl,trivial⟩
         ·cases q52 with
          | ret r'=>obtain rfl:=os hF;exact K
          | nx sq52 =>
           intro p57 c58
           refine at_blk_same ?_
           refine bm ?_
           refine qr (am (aw xa (aa (nwq [4,3,1] ?_))))
           exact at_weak_k (ih _ _ _ hF K p57 c58) ⟨rfl,rfl,rfl,trivial⟩
    ·refine cf h16 ?_
     refine at_exit ?_
     refine te (te ?_)
     refine at_drop (H:=_) (.s .z) ?_
     obtain rfl:=os hF
     exact at_weak_k (K p12 c13) ⟨rfl,trivial⟩
  ·cases q9 with
   | ret r'=>exact os hF
   | nx sq9 =>
    intro p14 c15
    refine at_blk_same ?_
    refine tn (sr (am ?_))
    refine aw (r_len_sl underlying58 rfl) ?_
    refine aw (r_ileq rfl rfl) ?_
    refine aa (qn (dz (wq [2] ?_)))
    refine tn (qt ?_)
    have K:=os hF
    subst K
    exact r1 wb
def view_short(x0:Int):Option (Bool) :=
 if (decide (x0≥0))=true then (some (decide (x0≤65535))) else (some false)
theorem view_short_ok(x0:Int)(r:Bool)(hF:view_short x0=some r)(w:World) :
    Calls Tryz.prog 43 #[.int .i64 x0] w (fun e w'=>e=.returned (.bool r)∧w'=w):=by
 unfold view_short at hF
 refine ce (l:=[.int .i64 x0]) func43 rfl rfl ?_
 refine sr (aa (nwx [0] ?_))
 refine am ?_
 refine aw (r_igeq rfl rfl) ?_
 refine am ?_
 obtain ⟨h1,hF⟩|⟨h1,hF⟩:=oi hF
 ·refine fx 5 h1 ?_
  refine gy ?_
  refine am ?_
  refine gy ?_
  refine aw (r_ileq rfl rfl) ?_
  refine aw xp (aa (nwq [2] ?_))
  refine qt ?_
  have K:=os hF
  subst K
  exact r1 (fun w1 hw=>⟨rfl,hw⟩)
 refine fx 5 h1 ?_
 refine gn ?_
 refine gn ?_
 refine aw xp (aa (nwq [2] ?_))
 refine qt ?_
 have K:=os hF
 subst K
 exact r1 (fun w1 hw=>⟨rfl,hw⟩)
def view_rising.l0(x0:List S_api_Prefix)(i2:Int):Option (Ctl (Bool) (Unit)) :=
 if (decide (i2<(x0.length:Int)))=true then (if (0:Int)≤i2∧i2<(x0.length:Int) then cidr_Right (lget x0 i2)>>=fun t9=>if (!t9)=true then (some (.ret false)) else (if (decide (i2>0))=true then (if (0:Int)≤wr .i64 (i2-1)∧wr .i64 (i2-1)<(x0.length:Int) then cidr_Less (lget x0 (wr .i64 (i2-1))) (lget x0 i2)>>=fun t16=>if (!t16)=true then (some (.ret false)) else (view_rising.l0 x0 (wr .i64 (i2+1))) else none) else (view_rising.l0 x0 (wr .i64 (i2+1)))) else none) else (some (.nx ()))
 partial_fixpoint
def view_rising(x0:List S_api_Prefix):Option (Bool) :=
 view_rising.l0 x0 0>>=fun q1=>match q1 with | .ret r'=>some r' | .nx sq1=>(some true)
theorem view_rising_ok(x0:List S_api_Prefix)(p0_:Option Addr)(c0_:Nat)(r:Bool)(hF:view_rising x0=some r)(w:World)(hr0:Row c_api_Prefix w p0_ c0_ x0) :
    Calls Tryz.prog 44 #[.slice p0_ x0.length c0_] w (fun e w'=>e=.returned (.bool r)∧Below w.heap.size w w'):=by
 unfold view_rising at hF
 refine ce (l:=[.slice p0_ x0.length c0_]) func44 rfl rfl ?_
 refine at_start ?_
 refine sr (aa (nt (qs (sr (am ?_)))))
 refine aw (r_len_sl underlying58 rfl) ?_
 refine am (nwq [7,6,5,0] ?_)
 refine qb ?_
 obtain ⟨q1,hq1,hF⟩:=bM hF
 refine wq [7,6,5,0] ?_
 refine at_loop_r (B:=0) (r:=r) (q:=q1) (A:=fun (_:Unit) Y=>At 30 [] (Wd w []) Y) ?_ ?_
 ·intro K
  refine view_rising.l0.partial_correctness x0 (motive:=fun i2 x=>KR (fun (_:Unit) Y=>At 30 [] (Wd w []) Y) _ 0 r x→Round (fun Y=>At 30 [(0,.slice p0_ x0.length c0_),(5,.slice p0_ x0.length c0_),(6,.int .i64 (x0.length:Int)),(7,.int .i64 i2)] (Wd w []) Y) _ _ _) ?_ _ _ hq1 K
  ·clear K hF
   intro g ih i2 x hF K
   refine at_round ?_
   refine sr (aw xl (nwq [8,7,6,5,0] ?_))
   refine qs ?_
   obtain ⟨h3,hF⟩|⟨h3,hF⟩:=oi hF
   ·refine ct h3 ?_
    refine sn (qs ?_)
    refine qb ?_
    refine sr (am ?_)
    obtain ⟨h4,hF⟩:=gd hF
    obtain ⟨b6,o7,hp5⟩:=row_ptr hr0 h4
    refine aw (r_idx underlying58 sizeOf38 rfl rfl h4 hp5) ?_
    refine aw (r_load_aggc (c:=c_api_Prefix) (z:=lget x0 i2) isAgg38 sizeOf38 rfl (row_cell (fun _ h=>h.below) hr0 h4 hp5)) ?_
    refine al (cs:=Cd.cs c_api_Prefix zv8) zeroValue38 ?_
    intro b8
    refine aa ?_
    refine at_store (c:=c_api_Prefix) (z:=lget x0 i2) .z lw sizeOf38 rfl rfl rfl ?_
    refine nwq [7,6,5,4,3,0] ?_
    refine qs ?_
    refine at_draw (by kernel_rfl) (by kernel_rfl) (fun _ h=>h.drew) ?_
    refine atq_val rfl rfl rfl (r_load_aggc (c:=c_api_Prefix) (z:=lget x0 i2) isAgg38 sizeOf38 rfl (lens_cell .z lw)) ?_
    obtain ⟨t9,ht9,hF⟩:=bM hF
    refine atq_call func61 rfl (by kernel_rfl) rfl rfl (fun w hw=>(cidr_Right_ok _ _ ht9 w).mono fun _ _ h=>⟨h.1,hw.call h.2⟩) ?_
    refine atq_val rfl rfl rfl (r_not rfl) ?_
    refine atq_val rfl rfl rfl (r_move rfl) ?_
    obtain ⟨h10,hF⟩|⟨h10,hF⟩:=oi hF
    ·refine atq_fix (g:=15) rfl h10 ?_
     refine atq_guard_no rfl rfl rfl rfl rfl ?_
     refine atq_guard_no rfl rfl rfl rfl rfl ?_
     refine atq_guard_no rfl rfl rfl rfl rfl ?_
     refine atq_guard_undef rfl rfl rfl rfl ?_
     refine atq_guard_undef rfl rfl rfl rfl ?_
     refine atq_guard_undef rfl rfl rfl rfl ?_
     refine atq_guard_undef rfl rfl rfl rfl ?_
     refine atq_guard_undef rfl rfl rfl rfl ?_
     refine atq_guard_undef rfl rfl rfl rfl ?_
     refine atq_guard_undef rfl rfl rfl rfl ?_
     refine atq_guard_undef rfl rfl rfl rfl ?_
     refine atq_guard_no rfl rfl rfl rfl rfl ?_
     refine atq_val rfl rfl rfl (r_pick rfl rfl rfl) ?_
     refine atq_nil ?_
     refine dz (wq [28,7,6,5,0] ?_)
     refine tn ?_
     refine ct rfl ?_
     refine sr (aa (nwq [2] ?_))
     refine qt ?_
     refine br (tr (tr (br (tr ?_))))
     obtain rfl:=os hF
     subst K
     exact r1 wb
    refine atq_fix (g:=15) rfl h10 ?_
    refine atq_guard_yes rfl rfl rfl ?_
    refine atq_val rfl rfl rfl (r_move rfl) ?_
    refine atq_guard_yes rfl rfl rfl ?_
    refine atq_val rfl rfl rfl (r_igtr rfl rfl) ?_
    refine atq_guard_yes rfl rfl rfl ?_
    refine atq_val rfl rfl rfl (r_move rfl) ?_
    obtain ⟨h11,hF⟩|⟨h11,hF⟩:=oi hF
    ·refine atq_fix (g:=18) rfl h11 ?_
     refine atq_guard_yes rfl rfl rfl ?_
     refine atq_val rfl rfl rfl (r_move rfl) ?_
     refine atq_guard_yes rfl rfl rfl ?_
     refine atq_val rfl rfl rfl (r_move rfl) ?_
     refine atq_guard_yes rfl rfl rfl ?_
     refine atq_val rfl rfl rfl (r_isub rfl rfl) ?_
     refine atq_guard_yes rfl rfl rfl ?_
     obtain ⟨h12,hF⟩:=gd hF
     obtain ⟨b14,o15,hp13⟩:=row_ptr hr0 h12
     refine atq_val rfl rfl rfl (r_idx underlying58 sizeOf38 rfl rfl h12 hp13) ?_
     refine atq_guard_yes rfl rfl rfl ?_
     refine atq_val rfl rfl rfl (r_load_aggc (c:=c_api_Prefix) (z:=lget x0 (wr .i64 (i2-1))) isAgg38 sizeOf38 rfl (row_cell (fun _ h=>h.below) hr0 h12 hp13)) ?_
     refine atq_guard_yes rfl rfl rfl ?_
     refine atq_val rfl rfl rfl (r_load_aggc (c:=c_api_Prefix) (z:=lget x0 i2) isAgg38 sizeOf38 rfl (lens_cell .z lw)) ?_
     refine atq_guard_yes rfl rfl rfl ?_
     obtain ⟨t16,ht16,hF⟩:=bM hF
     refine atq_call func70 rfl (by kernel_rfl) rfl rfl (fun w hw=>(cidr_Less_ok _ _ _ ht16 w).mono fun _ _ h=>⟨h.1,hw.call h.2⟩) ?_
     refine atq_guard_yes rfl rfl rfl ?_
     refine atq_val rfl rfl rfl (r_not rfl) ?_
     refine atq_guard_yes rfl rfl rfl ?_
     refine atq_val rfl rfl rfl (r_pick rfl rfl rfl) ?_
     refine atq_val rfl rfl rfl (r_pick rfl rfl rfl) ?_
     refine atq_nil ?_
     refine dz (wq [28,7,6,5,0] ?_)
     refine tn ?_
     obtain ⟨h17,hF⟩|⟨h17,hF⟩:=oi hF
     ·refine ct h17 ?_
      refine sr (aa (nwq [2] ?_))
      refine qt ?_
      refine br (tr (tr (br (tr ?_))))
      obtain rfl:=os hF
      subst K
      exact r1 wb
     refine cf h17 ?_
     refine at_skip ?_
     refine bm ?_
     refine qr (aw xa (am (nwq [7,6,5,0] ?_)))
     exact at_weak_k (ih _ _ hF K) ⟨rfl,rfl,rfl,rfl,trivial⟩
    refine atq_fix (g:=18) rfl h11 ?_
    refine atq_guard_no rfl rfl rfl rfl rfl ?_
    refine atq_guard_no rfl rfl rfl rfl rfl ?_
    refine atq_guard_no rfl rfl rfl rfl rfl ?_
    refine atq_guard_no rfl rfl rfl rfl rfl ?_
    refine atq_guard_no rfl rfl rfl rfl rfl ?_
    refine atq_guard_no rfl rfl rfl rfl rfl ?_
    refine atq_guard_no rfl rfl rfl rfl rfl ?_
    refine atq_guard_no rfl rfl rfl rfl rfl ?_
    refine atq_guard_yes rfl rfl rfl ?_
    refine atq_val rfl rfl rfl (r_pick rfl rfl rfl) ?_
    refine atq_val rfl rfl rfl (r_pick rfl rfl rfl) ?_
    refine atq_nil ?_
    refine dz (wq [28,7,6,5,0] ?_)
    refine tn ?_
    refine cf rfl ?_
    refine at_skip ?_
    refine bm ?_
    refine qr (aw xa (am (nwq [7,6,5,0] ?_)))
    exact at_weak_k (ih _ _ hF K) ⟨rfl,rfl,rfl,rfl,trivial⟩
   refine cf h3 ?_
   refine at_exit ?_
   refine te (te ?_)
   obtain rfl:=os hF
   exact at_weak_k K trivial
 cases q1 with
 | ret r'=>exact os hF
 | nx sq1 =>
  skip
  refine at_blk_same ?_
  refine tn (sr (aa (nwq [2] ?_)))
  refine qt ?_
  have K:=os hF
  subst K
  exact r1 wb
def view_Right.l1(x0:S_api_Conf)(i10:Int)(i39:Int)(i40:List (S_api_Prefix×Bool)):Option (Ctl (Bool) (List (S_api_Prefix×Bool))) :=
 if (decide (i39<(((lget x0.f_Peers i10).f_Allowed).length:Int)))=true then (if (0:Int)≤i39∧i39<(((lget x0.f_Peers i10).f_Allowed).length:Int) then if (mget i40 (lget ((lget x0.f_Peers i10).f_Allowed) i39) false)=true then (some (.ret false)) else (view_Right.l1 x0 i10 (wr .i64 (i39+1)) (mput i40 (lget ((lget x0.f_Peers i10).f_Allowed) i39) true)) else none) else (some (.nx i40))
 partial_fixpoint
def view_Right.l0(x0:S_api_Conf)(i10:Int)(i11:List (S_api_Prefix×Bool))(i12:List ((Vector Int 32)×Bool)):Option (Ctl (Bool) (List (S_api_Prefix×Bool))) :=
 if (decide (i10<(x0.f_Peers.length:Int)))=true then (if (0:Int)≤i10∧i10<(x0.f_Peers.length:Int) then (if (mget i12 ((lget x0.f_Peers i10).f_Key) false)=true then (some (.ret false)) else (view_short ((lget x0.f_Peers i10).f_Keep)>>=fun t28=>if (!t28)=true then (some (.ret false)) else (view_rising ((lget x0.f_Peers i10).f_Allowed)>>=fun t30=>if (!t30)=true then (some (.ret false)) else (some (.nx ())))):Option (Ctl (Bool) (Unit)))>>=fun q25=>match q25 with | .ret r'=>some (.ret r') | .nx sq25=>((hostport_None ((lget x0.f_Peers i10).f_End)>>=fun t34=>if (!t34)=true then (hostport_Right ((lget x0.f_Peers i10).f_End)>>=fun t36=>if (!t36)=true then (some (.ret false)) else (some (.nx ()))) else (some (.nx ())):Option (Ctl (Bool) (Unit)))>>=fun q32=>match q32 with | .ret r'=>some (.ret r') | .nx sq32=>(view_Right.l1 x0 i10 0 i11>>=fun q38=>match q38 with | .ret r'=>some (.ret r') | .nx sq38=>(view_Right.l0 x0 (wr .i64 (i10+1)) sq38 (mput i12 ((lget x0.f_Peers i10).f_Key) true)))) else none) else (some (.nx i11))
 partial_fixpoint
def view_Right(x0:S_api_Conf):Option (Bool) :=
 (view_short x0.f_Port>>=fun t4=>if (!t4)=true then (some (.ret false)) else (if (decide ((x0.f_Peers.length:Int)>16))=true then (some (.ret false)) else (some (.nx ()))):Option (Ctl (Bool) (Unit)))>>=fun q2=>match q2 with | .ret r'=>some r' | .nx sq2=>(view_Right.l0 x0 0 ([]:List (S_api_Prefix×Bool)) (mput ([]:List ((Vector Int 32)×Bool)) (Vector.replicate 32 (0:Int):(Vector Int 32)) true)>>=fun q9=>match q9 with | .ret r'=>some r' | .nx sq9=>(some (decide ((List.length sq9:Int)≤64))))
theorem view_Right_ok(g0_:G_api_Conf)(x0:S_api_Conf)(r:Bool)(hF:view_Right x0=some r)(w:World)(hn0:N_api_Conf w (g0_,x0)) :
    Calls Tryz.prog 18 #[.agg (Cd.cs c_api_Conf (g0_,x0)).toArray] w (fun e w'=>e=.returned (.bool r)∧Below w.heap.size w w'):=by
 unfold view_Right at hF
 refine ce (l:=[.agg (Cd.cs c_api_Conf (g0_,x0)).toArray]) func18 rfl rfl ?_
 refine at_start ?_
 refine sr ?_
 refine at_box (cs:=Cd.cs c_api_Conf (g0_,x0)) rfl rfl rfl ?_
 intro b1
 refine aa (nwq [1] ?_)
 obtain ⟨q2,hq2,hF⟩:=bM hF
 refine at_join (q:=q2) (r:=r) (A:=fun (_:Unit) Y=>At 76 [(1,.pointer (some ⟨b1,0,none⟩))] (Wd w [cellsE b1 (Cd.cs c_api_Conf (g0_,x0)) 27]) Y) ?_ ?_
 ·intro Y K
  replace hF:=hq2
  refine sr (fa 32 underlying27 rfl sizeOf3 ?_)
  refine aw (r_load_cell isAgg3 rfl (lens_cell0 (c:=(cInt .i64)) (y:=x0.f_Port) .z (c_api_Conf_f_Port g0_ x0) rfl)) ?_
  obtain ⟨t4,ht4,hF⟩:=bM hF
  refine at_call0 func43 rfl (by kernel_rfl) rfl rfl (fun w=>view_short_ok _ _ ht4 w) ?_
  refine aw (r_not rfl) ?_
  refine am ?_
  obtain ⟨h5,hF⟩|⟨h5,hF⟩:=oi hF
  ·refine fx 13 h5 ?_
   refine gn ?_
   refine gn ?_
   refine gn ?_
   refine gn ?_
   refine aw xp (nwq [18,1] ?_)
   refine ct rfl ?_
   refine sr (aa (qn (dz (wq [2] ?_))))
   refine tn (rt ?_)
   obtain rfl:=os hF
   subst K
   exact r1 wb
  refine fx 13 h5 ?_
  refine gy ?_
  refine fa 34 underlying27 rfl sizeOf25 ?_
  refine gy ?_
  refine aw (r_load_cell isAgg25 rfl (lens_cell0 (c:=cHd) (y:=⟨g0_.1,List.length x0.f_Peers,g0_.2⟩) .z (c_api_Conf_f_Peers g0_ x0) rfl)) ?_
  refine gy ?_
  refine aw (r_len_sl underlying25 rfl) ?_
  refine gy ?_
  refine aw (r_igtr rfl rfl) ?_
  refine aw xp (nwq [18,1] ?_)
  obtain ⟨h6,hF⟩|⟨h6,hF⟩:=oi hF
  ·refine ct h6 ?_
   refine sr (aa (qn (dz (wq [2] ?_))))
   refine tn (rt ?_)
   obtain rfl:=os hF
   subst K
   exact r1 wb
  refine cf h6 ?_
  refine sn ?_
  obtain rfl:=os hF
  exact at_weak_k K ⟨rfl,trivial⟩
 cases q2 with
 | ret r' =>
  exact os hF
 | nx sq2 =>
  skip
  refine sr ?_
  refine at_makeMap (cVec (cInt .u8) 32 (by decide)) cBool false rfl ?_
  intro b7
  refine aw (r_build_array (zs:=Cd.cs (cVec (cInt .u8) 32 (by decide)) zv3) (cs:=Cd.cs (cVec (cInt .u8) 32 (by decide)) zv3) underlying23 zeroValue23 rfl sizeOf5 rfl rfl) ?_
  refine at_insert (k:=zv3) (v:=true) .z underlying84 (keylaw_vec underlying23 underlying5 sizeOf5 isAgg5 (eqs_vec underlying23 infoT5 sizeOf5 isAgg5 (.inr rfl) (eqs_int underlying5)) (by decide)) rfl rfl rfl rfl ?_
  refine am ?_
  refine at_makeMap c_api_Prefix cBool false rfl ?_
  intro b8
  refine aa (aa (nt (qs (sr (fa 34 underlying27 rfl sizeOf25 ?_)))))
  refine aw (r_load_cell isAgg25 rfl (lens_cell0 (c:=cHd) (y:=⟨g0_.1,List.length x0.f_Peers,g0_.2⟩) (.s (.s .z)) (c_api_Conf_f_Peers g0_ x0) rfl)) ?_
  refine aw (r_len_sl underlying25 rfl) ?_
  refine am (qn ?_)
  refine at_drop (H:=_) (.s (.s .z)) ?_
  refine wq [26,25,24,4,3] ?_
  refine tn ?_
  refine qb ?_
  obtain ⟨q9,hq9,hF⟩:=bM hF
  refine wq [26,25,24,4,3] ?_
  refine at_loop_r (B:=0) (r:=r) (q:=q9) (A:=fun sq9 Y=>At 76 [(4,.map (some b8))] (Wd w [mapE b8 c_api_Prefix cBool false sq9]) Y) ?_ ?_
  ·intro K
   refine view_Right.l0.partial_correctness x0 (motive:=fun i10 i11 i12 x=>KR (fun sq9 Y=>At 76 [(4,.map (some b8))] (Wd w [mapE b8 c_api_Prefix cBool false sq9]) Y) _ 0 r x→Round (fun Y=>At 76 [(3,.map (some b7)),(4,.map (some b8)),(24,.slice g0_.1 x0.f_Peers.length g0_.2),(25,.int .i64 (x0.f_Peers.length:Int)),(26,.int .i64 i10)] (Wd w [mapE b8 c_api_Prefix cBool false i11,mapE b7 (cVec (cInt .u8) 32 (by decide)) cBool false i12]) Y) _ _ _) ?_ _ _ _ _ hq9 K
   ·clear K hF
    intro g ih i10 i11 i12 x hF K
    refine at_round ?_
    refine sr (aw xl (nwq [27,26,25,24,4,3] ?_))
    refine qs ?_
    obtain ⟨h13,hF⟩|⟨h13,hF⟩:=oi hF
    ·refine ct h13 ?_
     refine sn (qs ?_)
     refine qb ?_
     refine sr ?_
     obtain ⟨h14,hF⟩:=gd hF
     obtain ⟨zs18,hz19,hr20,hn21⟩:=id hn0
     obtain ⟨b16,o17,hp15⟩:=row_ptr hr20 (zidx hz19 h14)
     obtain ⟨g22,hg23⟩:=zget hz19 i10
     refine aw (r_idx underlying25 sizeOf60 rfl rfl h14 hp15) ?_
     refine aw (r_load_aggc (c:=c_api_Peer) (z:=(g22,lget x0.f_Peers i10)) isAgg60 sizeOf60 rfl (ncell (fun _ h=>h.below) hr20 (zidx hz19 h14) hp15 hg23)) ?_
     refine al (cs:=Cd.cs c_api_Peer zv13) zeroValue60 ?_
     intro b24
     refine at_store (c:=c_api_Peer) (z:=(g22,lget x0.f_Peers i10)) .z lw sizeOf60 rfl rfl rfl ?_
     refine nwq [26,25,24,6,4,3] ?_
     obtain ⟨q25,hq25,hF⟩:=bM hF
     refine at_join (q:=q25) (r:=r) (A:=fun (_:Unit) Y=>At 76 [(3,.map (some b7)),(4,.map (some b8)),(6,.pointer (some ⟨b24,0,none⟩)),(24,.slice g0_.1 x0.f_Peers.length g0_.2),(25,.int .i64 (x0.f_Peers.length:Int)),(26,.int .i64 i10)] (Wd w [cellsE b24 (Cd.cs c_api_Peer (g22,lget x0.f_Peers i10)) 60,mapE b8 c_api_Prefix cBool false i11,mapE b7 (cVec (cInt .u8) 32 (by decide)) cBool false i12]) Y) ?_ ?_
     ·intro Y K
      replace hF:=hq25
      refine sr (am (fa 0 underlying60 rfl sizeOf23 ?_))
      refine aw (r_load_aggc (c:=(cVec (cInt .u8) 32 (by decide))) (z:=(lget x0.f_Peers i10).f_Key) isAgg23 sizeOf23 rfl (lens_cell .z (c_api_Peer_f_Key g22 (lget x0.f_Peers i10)))) ?_
      refine aw (r_lookup (d:=cBool) (va:=false) (k:=(lget x0.f_Peers i10).f_Key) (zv:=false) underlying84 (keylaw_vec underlying23 underlying5 sizeOf5 isAgg5 (eqs_vec underlying23 infoT5 sizeOf5 isAgg5 (.inr rfl) (eqs_int underlying5)) (by decide)) zeroValue4 rfl rfl (fun w1 hw=>hw.ok (Upd.mem (.s (.s .z))))) ?_
      refine am ?_
      obtain ⟨h27,hF⟩|⟨h27,hF⟩:=oi hF
      ·refine fx 34 h27 ?_
       refine gn ?_
       refine gn ?_
       refine gn ?_
       refine gn ?_
       refine aw xp (am ?_)
       refine gn ?_
       refine gn ?_
       refine gn ?_
       refine gn ?_
       refine aw xp (nwq [45,26,25,24,6,4,3] ?_)
       refine ct rfl ?_
       refine sr (aa (qn (dz (dz (dz (wq [2] ?_))))))
       refine tn (qt ?_)
       refine tr (br (tr (tr (br (tr ?_)))))
       obtain rfl:=os hF
       subst K
       exact r1 wb
      ·refine fx 34 h27 ?_
       refine gy ?_
       refine fa 82 underlying60 rfl sizeOf3 ?_
       refine gy ?_
       refine aw (r_load_cell isAgg3 rfl (lens_cell0 (c:=(cInt .i64)) (y:=(lget x0.f_Peers i10).f_Keep) .z (c_api_Peer_f_Keep g22 (lget x0.f_Peers i10)) rfl)) ?_
       refine gy ?_
       obtain ⟨t28,ht28,hF⟩:=bM hF
       refine at_call0 func43 rfl (by kernel_rfl) rfl rfl (fun w=>view_short_ok _ _ ht28 w) ?_
       refine gy ?_
       refine aw (r_not rfl) ?_
       refine aw xp (am ?_)
       obtain ⟨h29,hF⟩|⟨h29,hF⟩:=oi hF
       ·refine fx 40 h29 ?_
        refine gn ?_
        refine gn ?_
        refine gn ?_
        refine gn ?_
        refine aw xp (nwq [45,26,25,24,6,4,3] ?_)
        refine ct rfl ?_
        refine sr (aa (qn (dz (dz (dz (wq [2] ?_))))))
        refine tn (qt ?_)
        refine tr (br (tr (tr (br (tr ?_)))))
        obtain rfl:=os hF
        subst K
        exact r1 wb
       ·refine fx 40 h29 ?_
        refine gy ?_
        refine fa 85 underlying60 rfl sizeOf58 ?_
        refine gy ?_
        refine aw (r_load_cell isAgg58 rfl (lens_cell0 (c:=cHd) (y:=⟨g22.1,List.length ((lget x0.f_Peers i10).f_Allowed),g22.2⟩) .z (c_api_Peer_f_Allowed g22 (lget x0.f_Peers i10)) rfl)) ?_
        refine gy ?_
        obtain ⟨t30,ht30,hF⟩:=bM hF
        refine cB func44 rfl (fun w hw=>view_rising_ok _ _ _ _ ht30 w ((nz hg23 hn21 (zidx hz19 h14)).below hw.below)) ?_
        refine gy ?_
        refine aw (r_not rfl) ?_
        refine aw xp (nwq [45,26,25,24,6,4,3] ?_)
        obtain ⟨h31,hF⟩|⟨h31,hF⟩:=oi hF
        ·refine ct h31 ?_
         refine sr (aa (qn (dz (dz (dz (wq [2] ?_))))))
         refine tn (qt ?_)
         refine tr (br (tr (tr (br (tr ?_)))))
         obtain rfl:=os hF
         subst K
         exact r1 wb
        ·refine cf h31 ?_
         refine sn ?_
         obtain rfl:=os hF
         exact at_weak_k K ⟨rfl,rfl,rfl,rfl,rfl,rfl,trivial⟩
     ·cases q25 with
      | ret r' =>
       obtain rfl:=os hF;exact K
      | nx sq25 =>
       skip
       obtain ⟨q32,hq32,hF⟩:=bM hF
       refine at_join (q:=q32) (r:=r) (A:=fun (_:Unit) Y=>At 76 [(3,.map (some b7)),(4,.map (some b8)),(6,.pointer (some ⟨b24,0,none⟩)),(24,.slice g0_.1 x0.f_Peers.length g0_.2),(25,.int .i64 (x0.f_Peers.length:Int)),(26,.int .i64 i10)] (Wd w [cellsE b24 (Cd.cs c_api_Peer (g22,lget x0.f_Peers i10)) 60,mapE b8 c_api_Prefix cBool false i11,mapE b7 (cVec (cInt .u8) 32 (by decide)) cBool false i12]) Y) ?_ ?_
       ·intro Y K
        replace hF:=hq32
        refine sr (fa 64 underlying60 rfl sizeOf56 ?_)
        refine aw (r_load_aggc (c:=c_api_Endpoint) (z:=(lget x0.f_Peers i10).f_End) isAgg56 sizeOf56 rfl (lens_cell .z (c_api_Peer_f_End g22 (lget x0.f_Peers i10)))) ?_
        obtain ⟨t34,ht34,hF⟩:=bM hF
        refine cB func45 rfl (fun w hw=>hostport_None_ok _ _ ht34 w) ?_
        refine aw (r_not rfl) ?_
        refine am ?_
        obtain ⟨h35,hF⟩|⟨h35,hF⟩:=oi hF
        ·refine fx 50 h35 ?_
         refine gy ?_
         refine fa 64 underlying60 rfl sizeOf56 ?_
         refine gy ?_
         refine aw (r_load_aggc (c:=c_api_Endpoint) (z:=(lget x0.f_Peers i10).f_End) isAgg56 sizeOf56 rfl (lens_cell .z (c_api_Peer_f_End g22 (lget x0.f_Peers i10)))) ?_
         refine gy ?_
         obtain ⟨t36,ht36,hF⟩:=bM hF
         refine cB func46 rfl (fun w hw=>hostport_Right_ok _ _ ht36 w) ?_
         refine gy ?_
         refine aw (r_not rfl) ?_
         refine aw xp (nwq [55,26,25,24,6,4,3] ?_)
         obtain ⟨h37,hF⟩|⟨h37,hF⟩:=oi hF
         ·refine ct h37 ?_
          refine sr (aa (qn (dz (dz (dz (wq [2] ?_))))))
          refine tn (qt ?_)
          refine tr (br (tr (tr (br (tr ?_)))))
          obtain rfl:=os hF
          subst K
          exact r1 wb
         ·refine cf h37 ?_
          refine sn ?_
          obtain rfl:=os hF
          exact at_weak_k K ⟨rfl,rfl,rfl,rfl,rfl,rfl,trivial⟩
        ·refine fx 50 h35 ?_
         refine gn ?_
         refine gn ?_
         refine gn ?_
         refine gn ?_
         refine aw xp (nwq [55,26,25,24,6,4,3] ?_)
         refine cf rfl ?_
         refine sn ?_
         obtain rfl:=os hF
         exact at_weak_k K ⟨rfl,rfl,rfl,rfl,rfl,rfl,trivial⟩
       ·cases q32 with
        | ret r' =>
         obtain rfl:=os hF;exact K
        | nx sq32 =>
         skip
         refine sr (am (fa 0 underlying60 rfl sizeOf23 ?_))
         refine aw (r_load_aggc (c:=(cVec (cInt .u8) 32 (by decide))) (z:=(lget x0.f_Peers i10).f_Key) isAgg23 sizeOf23 rfl (lens_cell .z (c_api_Peer_f_Key g22 (lget x0.f_Peers i10)))) ?_
         refine at_mapUpdate (k:=(lget x0.f_Peers i10).f_Key) (v:=true) (.s (.s .z)) underlying84 (keylaw_vec underlying23 underlying5 sizeOf5 isAgg5 (eqs_vec underlying23 infoT5 sizeOf5 isAgg5 (.inr rfl) (eqs_int underlying5)) (by decide)) rfl rfl rfl rfl ?_
         refine ns (fa 85 underlying60 rfl sizeOf58 ?_)
         refine aw (r_load_cell isAgg58 rfl (lens_cell0 (c:=cHd) (y:=⟨g22.1,List.length ((lget x0.f_Peers i10).f_Allowed),g22.2⟩) .z (c_api_Peer_f_Allowed g22 (lget x0.f_Peers i10)) rfl)) ?_
         refine aw (r_len_sl underlying58 rfl) ?_
         refine am (qn (dz (wq [62,61,60,26,25,24,4,3] ?_)))
         refine tn ?_
         refine qb ?_
         obtain ⟨q38,hq38,hF⟩:=bM hF
         refine wq [62,61,60,26,25,24,4,3] ?_
         refine at_loop_r (B:=2) (r:=r) (q:=q38) (A:=fun sq38 Y=>At 76 [(3,.map (some b7)),(4,.map (some b8)),(24,.slice g0_.1 x0.f_Peers.length g0_.2),(25,.int .i64 (x0.f_Peers.length:Int)),(26,.int .i64 i10)] (Wd w [mapE b8 c_api_Prefix cBool false sq38,mapE b7 (cVec (cInt .u8) 32 (by decide)) cBool false (mput i12 ((lget x0.f_Peers i10).f_Key) true)]) Y) ?_ ?_
         ·intro K
          refine view_Right.l1.partial_correctness x0 i10 (motive:=fun i39 i40 x=>KR (fun sq38 Y=>At 76 [(3,.map (some b7)),(4,.map (some b8)),(24,.slice g0_.1 x0.f_Peers.length g0_.2),(25,.int .i64 (x0.f_Peers.length:Int)),(26,.int .i64 i10)] (Wd w [mapE b8 c_api_Prefix cBool false sq38,mapE b7 (cVec (cInt .u8) 32 (by decide)) cBool false (mput i12 ((lget x0.f_Peers i10).f_Key) true)]) Y) _ 2 r x→Round (fun Y=>At 76 [(3,.map (some b7)),(4,.map (some b8)),(24,.slice g0_.1 x0.f_Peers.length g0_.2),(25,.int .i64 (x0.f_Peers.length:Int)),(26,.int .i64 i10),(60,.slice g22.1 ((lget x0.f_Peers i10).f_Allowed).length g22.2),(61,.int .i64 (((lget x0.f_Peers i10).f_Allowed).length:Int)),(62,.int .i64 i39)] (Wd w [mapE b8 c_api_Prefix cBool false i40,mapE b7 (cVec (cInt .u8) 32 (by decide)) cBool false (mput i12 ((lget x0.f_Peers i10).f_Key) true)]) Y) _ _ _) ?_ _ _ _ hq38 K
          ·clear K hF
           intro g ih i39 i40 x hF K
           refine at_round ?_
           refine sr (aw xl (nwq [63,62,61,60,26,25,24,4,3] ?_))
           refine qs ?_
           obtain ⟨h41,hF⟩|⟨h41,hF⟩:=oi hF
           ·refine ct h41 ?_
            refine sn (qs ?_)
            refine qb ?_
            refine sr ?_
            obtain ⟨h42,hF⟩:=gd hF
            obtain ⟨b44,o45,hp43⟩:=row_ptr (nz hg23 hn21 (zidx hz19 h14)) h42
            refine aw (r_idx underlying58 sizeOf38 rfl rfl h42 hp43) ?_
            refine aw (r_load_aggc (c:=c_api_Prefix) (z:=lget ((lget x0.f_Peers i10).f_Allowed) i39) isAgg38 sizeOf38 rfl (row_cell (fun _ h=>h.below) (nz hg23 hn21 (zidx hz19 h14)) h42 hp43)) ?_
            refine al (cs:=Cd.cs c_api_Prefix zv8) zeroValue38 ?_
            intro b46
            refine at_store (c:=c_api_Prefix) (z:=lget ((lget x0.f_Peers i10).f_Allowed) i39) .z lw sizeOf38 rfl rfl rfl ?_
            refine nt (qs (sr (am ?_)))
            refine aw (r_load_aggc (c:=c_api_Prefix) (z:=lget ((lget x0.f_Peers i10).f_Allowed) i39) isAgg38 sizeOf38 rfl (lens_cell .z lw)) ?_
            refine aw (r_lookup (d:=cBool) (va:=false) (k:=lget ((lget x0.f_Peers i10).f_Allowed) i39) (zv:=false) underlying85 (keylaw_of underlying38 (chk_struct (k:=2) underlying38 (fun n x hn=>(chkf_cons (c_api_Prefix_f_A x) rfl rfl isAgg36 sizeOf36 (.inl rfl) (chk_struct (k:=1) underlying36 (fun n x hn=>(chkf_cons (c_api_Addr_f_V x) rfl rfl isAgg3 sizeOf3 (.inr rfl) (chk_int underlying3) (by omega) (chkf_cons (c_api_Addr_f_B x) rfl rfl isAgg34 sizeOf34 (.inl rfl) (chk_vec underlying34 sizeOf5 isAgg5 (.inr rfl) (chk_int underlying5)) (by omega) chkf_nil)))) (by omega) (chkf_cons (c_api_Prefix_f_Bits x) rfl rfl isAgg3 sizeOf3 (.inr rfl) (chk_int underlying3) (by omega) chkf_nil)))) (by decide) (eq_api_Prefix_38) (by decide) plain_api_Prefix) zeroValue4 rfl rfl (fun w1 hw=>hw.ok (Upd.mem (.s .z)))) ?_
            refine nwq [68,62,61,60,26,25,24,8,4,3] ?_
            obtain ⟨h47,hF⟩|⟨h47,hF⟩:=oi hF
            ·refine ct h47 ?_
             refine sr (aa (qn (dz (dz (dz (wq [2] ?_))))))
             refine tn (qt ?_)
             refine tr (br (tr (tr (br (br (tr (tr (br (tr ?_)))))))))
             obtain rfl:=os hF
             subst K
             exact r1 wb
            ·refine cf h47 ?_
             refine sn (qr (am ?_))
             refine aw (r_load_aggc (c:=c_api_Prefix) (z:=lget ((lget x0.f_Peers i10).f_Allowed) i39) isAgg38 sizeOf38 rfl (lens_cell .z lw)) ?_
             refine at_mapUpdate (k:=lget ((lget x0.f_Peers i10).f_Allowed) i39) (v:=true) (.s .z) underlying85 (keylaw_of underlying38 (chk_struct (k:=2) underlying38 (fun n x hn=>(chkf_cons (c_api_Prefix_f_A x) rfl rfl isAgg36 sizeOf36 (.inl rfl) (chk_struct (k:=1) underlying36 (fun n x hn=>(chkf_cons (c_api_Addr_f_V x) rfl rfl isAgg3 sizeOf3 (.inr rfl) (chk_int underlying3) (by omega) (chkf_cons (c_api_Addr_f_B x) rfl rfl isAgg34 sizeOf34 (.inl rfl) (chk_vec underlying34 sizeOf5 isAgg5 (.inr rfl) (chk_int underlying5)) (by omega) chkf_nil)))) (by omega) (chkf_cons (c_api_Prefix_f_Bits x) rfl rfl isAgg3 sizeOf3 (.inr rfl) (chk_int underlying3) (by omega) chkf_nil)))) (by decide) (eq_api_Prefix_38) (by decide) plain_api_Prefix) rfl rfl rfl rfl ?_
             refine qn (dz (wq [62,61,60,26,25,24,4,3] ?_))
             refine bm ?_
             refine qr (aw xa (am (nwq [62,61,60,26,25,24,4,3] ?_)))
             exact at_weak_k (ih _ _ _ hF K) ⟨rfl,rfl,rfl,rfl,rfl,rfl,rfl,rfl,trivial⟩
           ·refine cf h41 ?_
            refine at_exit ?_
            refine te (te ?_)
            obtain rfl:=os hF
            exact at_weak_k K ⟨rfl,rfl,rfl,rfl,rfl,trivial⟩
         ·cases q38 with
          | ret r'=>obtain rfl:=os hF;exact K
          | nx sq38 =>
           skip
           refine at_blk_same ?_
           refine bm ?_
           refine qr (aw xa (am (nwq [26,25,24,4,3] ?_)))
           exact at_weak_k (ih _ _ _ _ hF K) ⟨rfl,rfl,rfl,rfl,rfl,trivial⟩
    ·refine cf h13 ?_
     refine at_exit ?_
     refine te (te ?_)
     refine at_drop (H:=_) (.s .z) ?_
     obtain rfl:=os hF
     exact at_weak_k K ⟨rfl,trivial⟩
  ·cases q9 with
   | ret r'=>exact os hF
   | nx sq9 =>
    skip
    refine at_blk_same ?_
    refine tn (sr (am ?_))
    refine aw (r_len_map underlying85 rfl (fun w1 hw=>hw.ok (Upd.mem .z))) ?_
    refine aw (r_ileq rfl rfl) ?_
    refine aa (qn (dz (wq [2] ?_)))
    refine tn (qt ?_)
    have K:=os hF
    subst K
    exact r1 wb
end Go.Proofs.YtahlbjmafceoeaaGreatDoor
