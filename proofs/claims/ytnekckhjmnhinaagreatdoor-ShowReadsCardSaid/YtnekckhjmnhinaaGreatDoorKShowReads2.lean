/- Texts of this claim, those in one that belong together; printed by a program of this project. -/
import Derived.Test.YtnekckhjmnhinaaGreatDoorProg
import Derived.Lib.Bytealg
import Derived.Lib.Itoa
import Derived.Lib.ItoaNum
import Derived.Lib.ParseIntB
import Derived.Test.YtnekckhjmnhinaaGreatDoorKShowReads1
set_option linter.unusedVariables false
set_option linter.unusedSimpArgs false
set_option maxRecDepth 20000
namespace Go.Proofs.YtnekckhjmnhinaaGreatDoor
open E Go.RowKit _root_.Go.Proofs.Tryz
theorem Qpz:(Tryz.prog.info? 3).isSome=true:=by kernel_rfl
noncomputable def Qrj:TypeInfo:=(Tryz.prog.info? 3).get Qpz
theorem Qum:Tryz.prog.info? 3=some Qrj:=(Option.some_get _).symm
theorem Qpy:(Tryz.prog.info? 5).isSome=true:=by kernel_rfl
noncomputable def Qri:TypeInfo:=(Tryz.prog.info? 5).get Qpy
theorem QlF:Tryz.prog.info? 5=some Qri:=(Option.some_get _).symm
def Qbg.l0(x1:Int)(i6:Int)(i7:Int):Option (Int) :=
 if (decide (i7>Int.tmod x1 8))=true then (Qbg.l0 x1 (wr .i64 (Int.tdiv i6 2)) (wr .i64 (i7-1))) else (some i6)
 partial_fixpoint
def Qbg(x0:List Int)(x1:Int):Option (Int) :=
 if (0:Int)≤wr .i64 (Int.tdiv x1 8)∧wr .i64 (Int.tdiv x1 8)<(x0.length:Int) then Qbg.l0 x1 (wr .i64 (QO x0 (wr .i64 (Int.tdiv x1 8)))) 7>>=fun q5=>some (Int.tmod q5 2) else none
theorem Qhs(x0:List Int)(p0_:Option Addr)(c0_:Nat)(x1:Int)(r:Int)(hF:Qbg x0 x1=some r)(w:World)(hr0:Row (Qv .u8) w p0_ c0_ x0) :
    Calls Tryz.prog 104 #[.slice p0_ x0.length c0_,.int .i64 x1] w (fun e w'=>e=.returned (.int .i64 r)∧w'=w):=by
 unfold Qbg at hF
 refine ce (l:=[.slice p0_ x0.length c0_,.int .i64 x1]) func104 rfl rfl ?_
 refine sr (aa (ns (am (am ?_))))
 refine aw (Qfl rfl rfl (by decide)) ?_
 obtain ⟨h1,hF⟩:=gd hF
 obtain ⟨b3,o4,hp2⟩:=Qaa hr0 h1
 refine aw (QbD underlying85 sizeOf5 rfl rfl h1 hp2) ?_
 refine aw (Qe isAgg5 rfl (QP (fun w1 (h:w1=w)=>by subst h;exact Below.refl _ _) hr0 h1 hp2 rfl)) ?_
 refine aw (QaW underlying5 underlying3 rfl) ?_
 refine aa (nt (qs (sr (aa (nwq [6,5,1] ?_)))))
 refine qb ?_
 obtain ⟨q5,hq5,hF⟩:=bM hF
 refine wq [6,5,1] ?_
 refine Qal (B:=0) (A:=fun Y=>At 23 [(5,.int .i64 q5)] (fun w'=>w'=w) Y) ?_ ?_
 ·intro K
  refine Qbg.l0.partial_correctness x1 (motive:=fun i6 i7 x=>KN (fun Y=>At 23 [(5,.int .i64 x)] (fun w'=>w'=w) Y) _ 0→QbB (fun Y=>At 23 [(1,.int .i64 x1),(5,.int .i64 i6),(6,.int .i64 i7)] (fun w'=>w'=w) Y) _ _ _) ?_ _ _ _ hq5 K
  ·clear K hF
   intro g ih i6 i7 x hF K
   refine QW ?_
   refine qs (sr (am (am ?_)))
   refine aw (QfL rfl rfl (by decide)) ?_
   refine aw (QbI rfl rfl) ?_
   refine nwq [16,6,5,1] ?_
   obtain ⟨h8,hF⟩|⟨h8,hF⟩:=oi hF
   ·refine ct h8 ?_
    refine sn (qs (qb (qr (am ?_))))
    refine aw (Qfl rfl rfl (by decide)) ?_
    refine aa (qn (wq [6,5,1] ?_))
    refine bm ?_
    refine qr (am ?_)
    refine aw (Qdh rfl rfl) ?_
    refine aa (nwq [6,5,1] ?_)
    exact Qk (ih _ _ _ hF K) ⟨rfl,rfl,rfl,trivial⟩
   refine cf h8 ?_
   refine Q7 ?_
   refine te (te ?_)
   obtain rfl:=os hF
   exact Qk K ⟨rfl,trivial⟩
 skip
 skip
 refine QD ?_
 refine tn (sr (am ?_))
 refine aw (QfL rfl rfl (by decide)) ?_
 refine aa (nwq [4] ?_)
 refine qt ?_
 have K:=os hF
 subst K
 exact r1 (fun w1 hw=>⟨rfl,hw⟩)
def Qcx:Option (ByteArray) :=
 some (⟨#[65,66,67,68,69,70,71,72,73,74,75,76,77,78,79,80,81,82,83,84,85,86,87,88,89,90,97,98,99,100,101,102,103,104,105,106,107,108,109,110,111,112,113,114,115,116,117,118,119,120,121,122,48,49,50,51,52,53,54,55,56,57,43,47]⟩)
theorem Qex(r:ByteArray)(hF:Qcx =some r)(w:World) :
    Calls Tryz.prog 105 #[] w (fun e w'=>e=.returned (.string r)∧w'=w):=by
 unfold Qcx at hF
 refine ce (l:=[]) func105 rfl rfl ?_
 refine Qkj [] trivial ?_
 refine sr (aa ?_)
 refine nws [] trivial ?_
 refine aa (nwq [0] ?_)
 refine qt ?_
 have K:=os hF
 subst K
 exact r1 (fun w1 hw=>⟨rfl,hw⟩)
def QH.l1(x0:List Int)(i3:Int)(i6:Int)(i7:Int):Option (Int) :=
 if (decide (i7<wr .i64 (i3+6)))=true then (if (decide (i7<wr .i64 (8*(x0.length:Int))))=true then (Qbg x0 i7>>=fun t10=>QH.l1 x0 i3 (wr .i64 ((wr .i64 (2*i6))+t10)) (wr .i64 (i7+1))) else (QH.l1 x0 i3 (wr .i64 (2*i6)) (wr .i64 (i7+1)))) else (some i6)
 partial_fixpoint
def QH.l0(x0:List Int)(i2:ByteArray)(i3:Int):Option (ByteArray) :=
 if (decide (i3<wr .i64 (8*(x0.length:Int))))=true then (QH.l1 x0 i3 0 i3>>=fun q5=>Qcx>>=fun t11=>if (0:Int)≤q5∧q5≤wr .i64 (q5+1)∧wr .i64 (q5+1)≤(t11.size:Int) then if i2.size+(t11.extract (Int.toNat q5) (Int.toNat (wr .i64 (q5+1)))).size≤140737488355328 then QH.l0 x0 (i2++(t11.extract (Int.toNat q5) (Int.toNat (wr .i64 (q5+1))))) (wr .i64 (i3+6)) else none else none) else (some i2)
 partial_fixpoint
def QH.l2(i15:ByteArray):Option (ByteArray) :=
 if (Int.tmod (i15.size:Int) 4 != 0)=true then (if i15.size+(⟨#[61]⟩:ByteArray).size≤140737488355328 then QH.l2 (i15++(⟨#[61]⟩:ByteArray)) else none) else (some i15)
 partial_fixpoint
def QH(x0:List Int):Option (ByteArray) :=
 QH.l0 x0 (⟨#[]⟩) 0>>=fun q1=>QH.l2 q1>>=fun q14=>some q14
theorem Qge(x0:List Int)(p0_:Option Addr)(c0_:Nat)(r:ByteArray)(hF:QH x0=some r)(w:World)(hr0:Row (Qv .u8) w p0_ c0_ x0) :
    Calls Tryz.prog 76 #[.slice p0_ x0.length c0_] w (fun e w'=>e=.returned (.string r)∧w'=w):=by
 unfold QH at hF
 refine ce (l:=[.slice p0_ x0.length c0_]) func76 rfl rfl ?_
 refine sr (aa (ns (aa (nt (qs (sr (aa (nwq [4,3,0] ?_))))))))
 refine qb ?_
 obtain ⟨q1,hq1,hF⟩:=bM hF
 refine wq [4,3,0] ?_
 refine Qal (B:=0) (A:=fun Y=>At 47 [(3,.string q1)] (fun w'=>w'=w) Y) ?_ ?_
 ·intro K
  refine QH.l0.partial_correctness x0 (motive:=fun i2 i3 x=>KN (fun Y=>At 47 [(3,.string x)] (fun w'=>w'=w) Y) _ 0→QbB (fun Y=>At 47 [(0,.slice p0_ x0.length c0_),(3,.string i2),(4,.int .i64 i3)] (fun w'=>w'=w) Y) _ _ _) ?_ _ _ _ hq1 K
  ·clear K hF
   intro g ih i2 i3 x hF K
   refine QW ?_
   refine qs (sr (am (am ?_)))
   refine aw (QZ underlying85 rfl) ?_
   refine aw (QcT rfl rfl) ?_
   refine aw xl (nwq [11,4,3,0] ?_)
   obtain ⟨h4,hF⟩|⟨h4,hF⟩:=oi hF
   ·refine ct h4 ?_
    refine sn (qs (qb (sr (aa (nt (qs (sr (am ?_))))))))
    refine aa (nwq [6,5,4,3,0] ?_)
    refine qb ?_
    obtain ⟨q5,hq5,hF⟩:=bM hF
    refine wq [6,5,4,3,0] ?_
    refine Qal (B:=2) (A:=fun Y=>At 47 [(0,.slice p0_ x0.length c0_),(3,.string i2),(4,.int .i64 i3),(5,.int .i64 q5)] (fun w'=>w'=w) Y) ?_ ?_
    ·intro K
     refine QH.l1.partial_correctness x0 i3 (motive:=fun i6 i7 x=>KN (fun Y=>At 47 [(0,.slice p0_ x0.length c0_),(3,.string i2),(4,.int .i64 i3),(5,.int .i64 x)] (fun w'=>w'=w) Y) _ 2→QbB (fun Y=>At 47 [(0,.slice p0_ x0.length c0_),(3,.string i2),(4,.int .i64 i3),(5,.int .i64 i6),(6,.int .i64 i7)] (fun w'=>w'=w) Y) _ _ _) ?_ _ _ _ hq5 K
     ·clear K hF
      intro g ih i6 i7 x hF K
      refine QW ?_
      refine qs (sr (am (am (aw xa (aw xl (nwq [18,6,5,4,3,0] ?_))))))
      obtain ⟨h8,hF⟩|⟨h8,hF⟩:=oi hF
      ·refine ct h8 ?_
       refine sn (qs (qb (sr (am ?_))))
       refine aw (QcT rfl rfl) ?_
       refine aa (ns (am (am ?_)))
       refine aw (QZ underlying85 rfl) ?_
       refine aw (QcT rfl rfl) ?_
       refine aw xl (nwq [27,6,5,4,3,0] ?_)
       obtain ⟨h9,hF⟩|⟨h9,hF⟩:=oi hF
       ·refine ct h9 ?_
        refine qr (am (am (am ?_)))
        obtain ⟨t10,ht10,hF⟩:=bM hF
        refine Qm0 func104 rfl (by kernel_rfl) rfl rfl (fun w hw=>Qhs _ _ _ _ _ ht10 w (hr0.below (by subst hw;exact Below.refl _ _))) ?_
        refine aw xa (aa (qn (wq [6,5,4,3,0] ?_)))
        refine bm ?_
        refine qr (am (aw xa (aa (nwq [6,5,4,3,0] ?_))))
        exact Qk (ih _ _ _ hF K) ⟨rfl,rfl,rfl,rfl,rfl,trivial⟩
       refine cf h9 ?_
       refine QbQ ?_
       refine bm ?_
       refine qr (am (aw xa (aa (nwq [6,5,4,3,0] ?_))))
       exact Qk (ih _ _ _ hF K) ⟨rfl,rfl,rfl,rfl,rfl,trivial⟩
      refine cf h8 ?_
      refine Q7 ?_
      refine te (te ?_)
      obtain rfl:=os hF
      exact Qk K ⟨rfl,rfl,rfl,rfl,trivial⟩
    skip
    skip
    refine QD ?_
    refine tn (qr (am ?_))
    obtain ⟨t11,ht11,hF⟩:=bM hF
    refine Qav func105 rfl (by kernel_rfl) rfl rfl (fun w=>Qex  _ ht11 w) ?_
    refine am (am (aw xa ?_))
    obtain ⟨h12,hF⟩:=gd hF
    refine aw (Qbc underlying9 rfl ⟨_,rfl⟩ ⟨_,rfl⟩ h12) ?_
    obtain ⟨h13,hF⟩:=gd hF
    refine aw (Q2 rfl rfl h13) ?_
    refine aa (qn (wq [4,3,0] ?_))
    refine bm ?_
    refine qr (am (aw xa (aa (nwq [4,3,0] ?_))))
    exact Qk (ih _ _ _ hF K) ⟨rfl,rfl,rfl,trivial⟩
   refine cf h4 ?_
   refine Q7 ?_
   refine te (te ?_)
   obtain rfl:=os hF
   exact Qk K ⟨rfl,trivial⟩
 skip
 skip
 refine QD ?_
 refine tn (qs (qb ?_))
 obtain ⟨q14,hq14,hF⟩:=bM hF
 refine wq [3] ?_
 refine Qal (B:=4) (A:=fun Y=>At 47 [(3,.string q14)] (fun w'=>w'=w) Y) ?_ ?_
 ·intro K
  refine QH.l2.partial_correctness  (motive:=fun i15 x=>KN (fun Y=>At 47 [(3,.string x)] (fun w'=>w'=w) Y) _ 4→QbB (fun Y=>At 47 [(3,.string i15)] (fun w'=>w'=w) Y) _ _ _) ?_ _ _ hq14 K
  ·clear K hF
   intro g ih i15 x hF K
   refine QW ?_
   refine qs (sr (am ?_))
   refine aw (QaR underlying9 rfl) ?_
   refine aw (QfL rfl rfl (by decide)) ?_
   refine aw xn (nwq [43,3] ?_)
   obtain ⟨h16,hF⟩|⟨h16,hF⟩:=oi hF
   ·refine ct h16 ?_
    refine sn (qb (qr (am ?_)))
    obtain ⟨h17,hF⟩:=gd hF
    refine aw (Q2 rfl rfl h17) ?_
    refine aa (qn (wq [3] ?_))
    refine bm ?_
    exact Qk (ih _ _ hF K) ⟨rfl,trivial⟩
   refine cf h16 ?_
   refine Q7 ?_
   refine te (te ?_)
   obtain rfl:=os hF
   exact Qk K ⟨rfl,trivial⟩
 skip
 skip
 refine QD ?_
 refine tn (sr (am (aa (nwq [2] ?_))))
 refine qt ?_
 have K:=os hF
 subst K
 exact r1 (fun w1 hw=>⟨rfl,hw⟩)
def QaV.l0(x0:Int)(t1:ByteArray)(i3:Int):Option (Ctl (Int) (Unit)) :=
 if (decide (i3<64))=true then (if (0:Int)≤i3∧i3<(t1.size:Int) then if (bt t1 i3==x0)=true then (some (.ret i3)) else (QaV.l0 x0 t1 (wr .i64 (i3+1))) else none) else (some (.nx ()))
 partial_fixpoint
def QaV(x0:Int):Option (Int) :=
 Qcx>>=fun t1=>QaV.l0 x0 t1 0>>=fun q2=>match q2 with | .ret r'=>some r' | .nx sq2=>(some (-1))
theorem QgB(x0:Int)(r:Int)(hF:QaV x0=some r)(w:World) :
    Calls Tryz.prog 86 #[.int .u8 x0] w (fun e w'=>e=.returned (.int .i64 r)∧w'=w):=by
 unfold QaV at hF
 refine ce (l:=[.int .u8 x0]) func86 rfl rfl ?_
 refine sr (aa (ns ?_))
 obtain ⟨t1,ht1,hF⟩:=bM hF
 refine Qav func105 rfl (by kernel_rfl) rfl rfl (fun w=>Qex  _ ht1 w) ?_
 refine aa (nt (qs (sr (aa (nwq [4,3,0] ?_)))))
 refine qb ?_
 obtain ⟨q2,hq2,hF⟩:=bM hF
 refine wq [4,3,0] ?_
 refine Qbn (B:=0) (r:=r) (q:=q2) (A:=fun (_:Unit) Y=>At 16 [] (fun w'=>w'=w) Y) ?_ ?_
 ·intro K
  refine QaV.l0.partial_correctness x0 t1 (motive:=fun i3 x=>KR (fun (_:Unit) Y=>At 16 [] (fun w'=>w'=w) Y) _ 0 r x→QbB (fun Y=>At 16 [(0,.int .u8 x0),(3,.string t1),(4,.int .i64 i3)] (fun w'=>w'=w) Y) _ _ _) ?_ _ _ hq2 K
  ·clear K hF
   intro g ih i3 x hF K
   refine QW ?_
   refine qs (sr (am (aw xl (nwq [7,4,3,0] ?_))))
   obtain ⟨h4,hF⟩|⟨h4,hF⟩:=oi hF
   ·refine ct h4 ?_
    refine sn (qs (qb (sr (am (am ?_)))))
    obtain ⟨h5,hF⟩:=gd hF
    refine aw (QaZ underlying9 rfl rfl h5) ?_
    refine am (aw xq (nwq [14,4,3,0] ?_))
    obtain ⟨h6,hF⟩|⟨h6,hF⟩:=oi hF
    ·refine ct h6 ?_
     refine sr (am (aa (nwq [2] ?_)))
     refine qt ?_
     refine br (tr (tr (br (tr ?_))))
     obtain rfl:=os hF
     subst K
     exact r1 (fun w1 hw=>⟨rfl,hw⟩)
    refine cf h6 ?_
    refine QbQ ?_
    refine bm ?_
    refine qr (am (aw xa (aa (nwq [4,3,0] ?_))))
    exact Qk (ih _ _ hF K) ⟨rfl,rfl,rfl,trivial⟩
   refine cf h4 ?_
   refine Q7 ?_
   refine te (te ?_)
   obtain rfl:=os hF
   exact Qk K trivial
 cases q2 with
 | ret r'=>exact os hF
 | nx sq2 =>
  skip
  refine QD ?_
  refine tn (sr (aa (nwq [2] ?_)))
  refine qt ?_
  have K:=os hF
  subst K
  exact r1 (fun w1 hw=>⟨rfl,hw⟩)
def Qy.l1(t20:Int)(i25:List Int)(i26:Int):Option (List Int) :=
 if (decide (i26>0))=true then (if i26≠0 then if (i25.length+1)*8≤140737488355328 then Qy.l1 t20 (i25++[Int.tmod (wr .i64 (Int.tdiv t20 i26)) 2]) (wr .i64 (Int.tdiv i26 2)) else none else none) else (some i25)
 partial_fixpoint
def Qy.l0(x0:ByteArray)(q2:Int)(i12:List Int)(i13:Int):Option (Ctl (List Int×Int) (List Int)) :=
 if (decide (i13<q2))=true then (if (0:Int)≤i13∧i13<(x0.size:Int) then QaV (bt x0 i13)>>=fun t20=>if (decide (t20<0))=true then (some (.ret ([],5))) else (Qy.l1 t20 i12 32>>=fun q24=>Qy.l0 x0 q2 q24 (wr .i64 (i13+1))) else none) else (some (.nx i12))
 partial_fixpoint
def Qy.l3(sq11:List Int)(i41:Int)(i48:Int)(i49:Int):Option (Int) :=
 if (decide (i49<wr .i64 (i41+8)))=true then (if (0:Int)≤i49∧i49<(sq11.length:Int) then Qy.l3 sq11 i41 (wr .i64 ((wr .i64 (2*i48))+(QO sq11 i49))) (wr .i64 (i49+1)) else none) else (some i48)
 partial_fixpoint
def Qy.l2(sq11:List Int)(i40:List Int)(i41:Int):Option (List Int) :=
 if (decide (wr .i64 (i41+8)≤(sq11.length:Int)))=true then (Qy.l3 sq11 i41 0 i41>>=fun q47=>if (i40.length+1)*1≤140737488355328 then Qy.l2 sq11 (i40++[wr .u8 q47]) (wr .i64 (i41+8)) else none) else (some i40)
 partial_fixpoint
def Qy.l4(sq11:List Int)(i60:Int):Option (Ctl (List Int×Int) (Unit)) :=
 if (decide (i60<(sq11.length:Int)))=true then (if (0:Int)≤i60∧i60<(sq11.length:Int) then if (QO sq11 i60 != 0)=true then (some (.ret ([],10))) else (Qy.l4 sq11 (wr .i64 (i60+1))) else none) else (some (.nx ()))
 partial_fixpoint
def Qy(x0:ByteArray):Option (List Int×Int) :=
 if (Int.tmod (x0.size:Int) 4 != 0)=true then (some ([],5)) else ((if (decide ((x0.size:Int)>0))=true then (if (0:Int)≤wr .i64 ((x0.size:Int)-1)∧wr .i64 ((x0.size:Int)-1)<(x0.size:Int) then if (bt x0 (wr .i64 ((x0.size:Int)-1))==61)=true then (if (0:Int)≤wr .i64 ((wr .i64 ((x0.size:Int)-1))-1)∧wr .i64 ((wr .i64 ((x0.size:Int)-1))-1)<(x0.size:Int) then if (bt x0 (wr .i64 ((wr .i64 ((x0.size:Int)-1))-1))==61)=true then (some (wr .i64 ((wr .i64 ((x0.size:Int)-1))-1))) else (some (wr .i64 ((x0.size:Int)-1))) else none) else (some (x0.size:Int)) else none) else (some (x0.size:Int)))>>=fun q2=>Qy.l0 x0 q2 ([]:List Int) 0>>=fun q11=>match q11 with | .ret r'=>some r' | .nx sq11=>(Qy.l2 sq11 ([]:List Int) 0>>=fun q39=>Qy.l4 sq11 (wr .i64 (8*(q39.length:Int)))>>=fun q59=>match q59 with | .ret r'=>some r' | .nx sq59=>(some (q39,0))))
theorem Qgf(x0:ByteArray)(r:List Int×Int)(hF:Qy x0=some r)(w:World) :
    Calls Tryz.prog 52 #[.string x0] w (fun e w'=>∃ p cap,e=.returned (.tuple #[.slice p r.1.length cap,.int .i64 r.2])∧Own (Qv .u8) 5 w.heap.size w' p cap r.1∧Below w.heap.size w w'):=by
 unfold Qy at hF
 refine ce (l:=[.string x0]) func52 rfl rfl ?_
 refine QN ?_
 refine sr (aa (aa (ns (am ?_))))
 refine aw (QaR underlying9 rfl) ?_
 refine aa (nt (qs (sr (am ?_))))
 refine aw (QfL rfl rfl (by decide)) ?_
 refine aw xn (nwq [18,4,0] ?_)
 obtain ⟨h1,hF⟩|⟨h1,hF⟩:=oi hF
 ·refine ct h1 ?_
  refine sr (aa (aa (nwq [3,2] ?_)))
  refine rt ?_
  have K:=os hF
  subst K
  exact Q6 rfl rfl rfl (fun w1 hw=>⟨none,0,rfl,Own.nil _ _ _ _,hw.below⟩)
 refine cf h1 ?_
 refine sn ?_
 obtain ⟨q2,hq2,hF⟩:=bM hF
 refine Qjx (A:=fun Y=>At 100 [(0,.string x0),(4,.int .i64 q2)] (Wd w []) Y) ?_ ?_
 ·intro Y K
  replace hF:=hq2
  refine sr (am ?_)
  refine aw (QbI rfl rfl) ?_
  refine am ?_
  obtain ⟨h4,hF⟩|⟨h4,hF⟩:=oi hF
  ·refine fx 21 h4 ?_
   refine gy (am (gy (am (gy ?_))))
   refine aw (Qdh rfl rfl) ?_
   refine gy ?_
   obtain ⟨h5,hF⟩:=gd hF
   refine aw (QaZ underlying9 rfl rfl h5) ?_
   refine gy (aw xq (aw xp (nwq [27,4,0] ?_)))
   obtain ⟨h6,hF⟩|⟨h6,hF⟩:=oi hF
   ·refine ct h6 ?_
    refine sr (am ?_)
    refine aw (Qdh rfl rfl) ?_
    refine aa (ns (am (am ?_)))
    refine aw (Qdh rfl rfl) ?_
    obtain ⟨h7,hF⟩:=gd hF
    refine aw (QaZ underlying9 rfl rfl h7) ?_
    refine aw xq (nwq [34,4,0] ?_)
    obtain ⟨h8,hF⟩|⟨h8,hF⟩:=oi hF
    ·refine ct h8 ?_
     refine qr (am ?_)
     refine aw (Qdh rfl rfl) ?_
     refine aa (nwq [4,0] ?_)
     obtain rfl:=os hF
     exact Qk K ⟨rfl,rfl,trivial⟩
    refine cf h8 ?_
    refine sn ?_
    obtain rfl:=os hF
    exact Qk K ⟨rfl,rfl,trivial⟩
   refine cf h6 ?_
   refine sn ?_
   obtain rfl:=os hF
   exact Qk K ⟨rfl,rfl,trivial⟩
  refine fx 21 h4 ?_
  refine gn ?_
  refine gn ?_
  refine gn ?_
  refine gn ?_
  refine gn ?_
  refine aw xp (nwq [27,4,0] ?_)
  refine cf rfl ?_
  refine sn ?_
  obtain rfl:=os hF
  exact Qk K ⟨rfl,rfl,trivial⟩
 skip
 skip
 refine sr (aa (nt (qs (sr (aa (nwq [6,5,4,0] ?_))))))
 refine qb ?_
 refine Qco (Qv .i64) 3 ?_
 obtain ⟨q11,hq11,hF⟩:=bM hF
 refine wq [6,5,4,0] ?_
 refine Qbn (B:=0) (r:=r) (q:=q11) (A:=fun sq11 Y=>∀ (p16:Option Addr) (c17:Nat),At 100 [(5,.slice p16 sq11.length c17)] (Wd w [Qbm (Qv .i64) 3 p16 c17 sq11]) Y) ?_ ?_
 ·intro K
  refine Qy.l0.partial_correctness x0 q2 (motive:=fun i12 i13 x=>KR (fun sq11 Y=>∀ (p16:Option Addr) (c17:Nat),At 100 [(5,.slice p16 sq11.length c17)] (Wd w [Qbm (Qv .i64) 3 p16 c17 sq11]) Y) _ 0 r x→QbB (fun Y=>∀ (p14:Option Addr) (c15:Nat),At 100 [(0,.string x0),(4,.int .i64 q2),(5,.slice p14 i12.length c15),(6,.int .i64 i13)] (Wd w [Qbm (Qv .i64) 3 p14 c15 i12]) Y) _ _ _) ?_ _ _ _ hq11 K none 0
  ·clear K hF
   intro g ih i12 i13 x hF K p14 c15
   refine QW ?_
   refine qs (sr (am (am (aw xl (nwq [39,6,5,4,0] ?_)))))
   obtain ⟨h18,hF⟩|⟨h18,hF⟩:=oi hF
   ·refine ct h18 ?_
    refine sn (qs (qb (sr (am (am ?_)))))
    obtain ⟨h19,hF⟩:=gd hF
    refine aw (QaZ underlying9 rfl rfl h19) ?_
    obtain ⟨t20,ht20,hF⟩:=bM hF
    refine Qav func86 rfl (by kernel_rfl) rfl rfl (fun w=>QgB _ _ ht20 w) ?_
    refine aa (nt (qs (sr (am (aw xl (nwq [47,7,6,5,4,0] ?_))))))
    obtain ⟨h21,hF⟩|⟨h21,hF⟩:=oi hF
    ·refine ct h21 ?_
     refine sr (aa (aa (qn (dz (wq [3,2] ?_)))))
     refine tn (qt ?_)
     refine tr (br (tr (tr (br (tr ?_)))))
     obtain rfl:=os hF
     subst K
     exact Q6 rfl rfl rfl (fun w1 hw=>⟨none,0,rfl,Own.nil _ _ _ _,hw.below⟩)
    refine cf h21 ?_
    refine sns (aa (nwq [8,7,6,5,4,0] ?_))
    refine qb ?_
    obtain ⟨q24,hq24,hF⟩:=bM hF
    refine wq [8,7,6,5,4,0] ?_
    refine Qal (B:=2) (A:=fun Y=>∀ (p29:Option Addr) (c30:Nat),At 100 [(0,.string x0),(4,.int .i64 q2),(5,.slice p29 q24.length c30),(6,.int .i64 i13)] (Wd w [Qbm (Qv .i64) 3 p29 c30 q24]) Y) ?_ ?_
    ·intro K
     refine Qy.l1.partial_correctness t20 (motive:=fun i25 i26 x=>KN (fun Y=>∀ (p29:Option Addr) (c30:Nat),At 100 [(0,.string x0),(4,.int .i64 q2),(5,.slice p29 x.length c30),(6,.int .i64 i13)] (Wd w [Qbm (Qv .i64) 3 p29 c30 x]) Y) _ 2→QbB (fun Y=>∀ (p27:Option Addr) (c28:Nat),At 100 [(0,.string x0),(4,.int .i64 q2),(5,.slice p27 i25.length c28),(6,.int .i64 i13),(7,.int .i64 t20),(8,.int .i64 i26)] (Wd w [Qbm (Qv .i64) 3 p27 c28 i25]) Y) _ _ _) ?_ _ _ _ hq24 K p14 c15
     ·clear K hF
      intro g ih i25 i26 x hF K p27 c28
      refine QW ?_
      refine qs (sr (am ?_))
      refine aw (QbI rfl rfl) ?_
      refine nwq [49,8,7,6,5,4,0] ?_
      obtain ⟨h31,hF⟩|⟨h31,hF⟩:=oi hF
      ·refine ct h31 ?_
       refine sn (qs (qb (qr (am (am (am ?_))))))
       obtain ⟨h32,hF⟩:=gd hF
       refine aw (Qfl rfl rfl h32) ?_
       refine aw (QfL rfl rfl (by decide)) ?_
       refine Qep (cs:=(Qv .i64).all ([Int.tmod (wr .i64 (Int.tdiv t20 i26)) 2]:List Int)) underlying124 sizeOf3 zeroValue3 rfl rfl rfl (by kernel_rfl) rfl ?_
       intro b33
       obtain ⟨h34,hF⟩:=gd hF
       refine Qcl (z:=.int .i64 0) (c:=(Qv .i64)) (ys:=([Int.tmod (wr .i64 (Int.tdiv t20 i26)) 2]:List Int)) (.s .z) underlying124 Qum (by kernel_rfl) (by kernel_rfl) rfl rfl rfl rfl (fun _ hw=>QbX (hw.ok (Upd.mem .z))) (by kernel_rfl) h34 (QbR h34) rfl ?_
       intro p35 c36
       refine aa (qn (dz (wq [8,7,6,5,4,0] ?_)))
       refine bm ?_
       refine qr (am ?_)
       refine aw (Qfl rfl rfl (by decide)) ?_
       refine aa (nwq [8,7,6,5,4,0] ?_)
       exact Qk (ih _ _ _ hF K p35 c36) ⟨rfl,rfl,rfl,rfl,rfl,rfl,trivial⟩
      refine cf h31 ?_
      refine Q7 ?_
      refine te (te ?_)
      obtain rfl:=os hF
      exact Qk (K p27 c28) ⟨rfl,rfl,rfl,rfl,trivial⟩
    skip
    intro p29 c30
    refine QD ?_
    refine bm ?_
    refine qr (am (aw xa (aa (nwq [6,5,4,0] ?_))))
    exact Qk (ih _ _ _ hF K p29 c30) ⟨rfl,rfl,rfl,rfl,trivial⟩
   refine cf h18 ?_
   refine Q7 ?_
   refine te (te ?_)
   obtain rfl:=os hF
   exact Qk (K p14 c15) ⟨rfl,trivial⟩
 cases q11 with
 | ret r'=>exact os hF
 | nx sq11 =>
  intro p16 c17
  refine QD ?_
  refine tn (sr (aa (nt (qs (sr (aa (nwq [10,9,5] ?_)))))))
  refine qb ?_
  refine Qco (Qv .u8) 5 ?_
  obtain ⟨q39,hq39,hF⟩:=bM hF
  refine wq [10,9,5] ?_
  refine Qal (B:=4) (A:=fun Y=>∀ (p44:Option Addr) (c45:Nat),At 100 [(5,.slice p16 sq11.length c17),(9,.slice p44 q39.length c45)] (Wd w [Qbm (Qv .u8) 5 p44 c45 q39,Qbm (Qv .i64) 3 p16 c17 sq11]) Y) ?_ ?_
  ·intro K
   refine Qy.l2.partial_correctness sq11 (motive:=fun i40 i41 x=>KN (fun Y=>∀ (p44:Option Addr) (c45:Nat),At 100 [(5,.slice p16 sq11.length c17),(9,.slice p44 x.length c45)] (Wd w [Qbm (Qv .u8) 5 p44 c45 x,Qbm (Qv .i64) 3 p16 c17 sq11]) Y) _ 4→QbB (fun Y=>∀ (p42:Option Addr) (c43:Nat),At 100 [(5,.slice p16 sq11.length c17),(9,.slice p42 i40.length c43),(10,.int .i64 i41)] (Wd w [Qbm (Qv .u8) 5 p42 c43 i40,Qbm (Qv .i64) 3 p16 c17 sq11]) Y) _ _ _) ?_ _ _ _ hq39 K none 0
   ·clear K hF
    intro g ih i40 i41 x hF K p42 c43
    refine QW ?_
    refine qs (sr (am (aw xa (am ?_))))
    refine aw (QZ underlying124 rfl) ?_
    refine aw (Qhw rfl rfl) ?_
    refine nwq [63,10,9,5] ?_
    obtain ⟨h46,hF⟩|⟨h46,hF⟩:=oi hF
    ·refine ct h46 ?_
     refine sn (qs (qb (sr (aa (nt (qs (sr (am ?_))))))))
     refine aa (nwq [12,11,10,9,5] ?_)
     refine qb ?_
     obtain ⟨q47,hq47,hF⟩:=bM hF
     refine wq [12,11,10,9,5] ?_
     refine Qal (B:=6) (A:=fun Y=>At 100 [(5,.slice p16 sq11.length c17),(9,.slice p42 i40.length c43),(10,.int .i64 i41),(11,.int .i64 q47)] (Wd w [Qbm (Qv .u8) 5 p42 c43 i40,Qbm (Qv .i64) 3 p16 c17 sq11]) Y) ?_ ?_
     ·intro K
      refine Qy.l3.partial_correctness sq11 i41 (motive:=fun i48 i49 x=>KN (fun Y=>At 100 [(5,.slice p16 sq11.length c17),(9,.slice p42 i40.length c43),(10,.int .i64 i41),(11,.int .i64 x)] (Wd w [Qbm (Qv .u8) 5 p42 c43 i40,Qbm (Qv .i64) 3 p16 c17 sq11]) Y) _ 6→QbB (fun Y=>At 100 [(5,.slice p16 sq11.length c17),(9,.slice p42 i40.length c43),(10,.int .i64 i41),(11,.int .i64 i48),(12,.int .i64 i49)] (Wd w [Qbm (Qv .u8) 5 p42 c43 i40,Qbm (Qv .i64) 3 p16 c17 sq11]) Y) _ _ _) ?_ _ _ _ hq47 K
      ·clear K hF
       intro g ih i48 i49 x hF K
       refine QW ?_
       refine qs (sr (am (am (aw xa (aw xl (nwq [70,12,11,10,9,5] ?_))))))
       obtain ⟨h50,hF⟩|⟨h50,hF⟩:=oi hF
       ·refine ct h50 ?_
        refine sn (qs (qb (qr (am ?_))))
        refine aw (QcT rfl rfl) ?_
        refine am (am ?_)
        obtain ⟨h51,hF⟩:=gd hF
        refine Qae (φ:=∃ b o,p16=some ⟨b,o,none⟩) (fun _ hw=>Qaa (hw.own (.s .z)).row h51) ?_
        rintro ⟨b53,o54,hp52⟩
        refine aw (QbD underlying124 sizeOf3 rfl rfl h51 hp52) ?_
        refine aw (Qe isAgg3 rfl (fun _ hw=>QP (W:=fun w1=>w1=_) (fun w1 h=>by subst h;exact Below.refl _ _) (hw.own (.s .z)).row h51 hp52 rfl _ rfl)) ?_
        refine aw xa (aa (qn (wq [12,11,10,9,5] ?_)))
        refine bm ?_
        refine qr (am (aw xa (aa (nwq [12,11,10,9,5] ?_))))
        exact Qk (ih _ _ _ hF K) ⟨rfl,rfl,rfl,rfl,rfl,trivial⟩
       ·refine cf h50 ?_
        refine Q7 ?_
        refine te (te ?_)
        obtain rfl:=os hF
        exact Qk K ⟨rfl,rfl,rfl,rfl,trivial⟩
     ·skip
      skip
      refine QD ?_
      refine tn (qr (am (am ?_)))
      refine aw (QaW underlying3 underlying5 rfl) ?_
      refine Qep (cs:=(Qv .u8).all ([wr .u8 q47]:List Int)) underlying85 sizeOf5 zeroValue5 rfl rfl rfl (by kernel_rfl) rfl ?_
      intro b55
      obtain ⟨h56,hF⟩:=gd hF
      refine Qcl (z:=.int .u8 0) (c:=(Qv .u8)) (ys:=([wr .u8 q47]:List Int)) (.s .z) underlying85 QlF (by kernel_rfl) (by kernel_rfl) rfl rfl rfl rfl (fun _ hw=>QbX (hw.ok (Upd.mem .z))) (by kernel_rfl) h56 (QbR h56) rfl ?_
      intro p57 c58
      refine aa (qn (dz (wq [10,9,5] ?_)))
      refine bm ?_
      refine qr (am (aw xa (aa (nwq [10,9,5] ?_))))
      exact Qk (ih _ _ _ hF K p57 c58) ⟨rfl,rfl,rfl,trivial⟩
    ·refine cf h46 ?_
     refine Q7 ?_
     refine te (te ?_)
     obtain rfl:=os hF
     exact Qk (K p42 c43) ⟨rfl,rfl,trivial⟩
  ·skip
   intro p44 c45
   refine QD ?_
   refine tn (qs (sr (am ?_)))
   refine aw (QZ underlying85 rfl) ?_
   refine aw (QcT rfl rfl) ?_
   refine aa (nwq [13,9,5] ?_)
   refine qb ?_
   obtain ⟨q59,hq59,hF⟩:=bM hF
   refine wq [13,9,5] ?_
   refine Qbn (B:=8) (r:=r) (q:=q59) (A:=fun (_:Unit) Y=>At 100 [(9,.slice p44 q39.length c45)] (Wd w [Qbm (Qv .u8) 5 p44 c45 q39]) Y) ?_ ?_
   ·intro K
    refine Qy.l4.partial_correctness sq11 (motive:=fun i60 x=>KR (fun (_:Unit) Y=>At 100 [(9,.slice p44 q39.length c45)] (Wd w [Qbm (Qv .u8) 5 p44 c45 q39]) Y) _ 8 r x→QbB (fun Y=>At 100 [(5,.slice p16 sq11.length c17),(9,.slice p44 q39.length c45),(13,.int .i64 i60)] (Wd w [Qbm (Qv .u8) 5 p44 c45 q39,Qbm (Qv .i64) 3 p16 c17 sq11]) Y) _ _ _) ?_ _ _ hq59 K
    ·clear K hF
     intro g ih i60 x hF K
     refine QW ?_
     refine qs (sr (am (am ?_)))
     refine aw (QZ underlying124 rfl) ?_
     refine aw xl (nwq [91,13,9,5] ?_)
     obtain ⟨h61,hF⟩|⟨h61,hF⟩:=oi hF
     ·refine ct h61 ?_
      refine sn (qs (qb (sr (am (am ?_)))))
      obtain ⟨h62,hF⟩:=gd hF
      refine Qae (φ:=∃ b o,p16=some ⟨b,o,none⟩) (fun _ hw=>Qaa (hw.own (.s .z)).row h62) ?_
      rintro ⟨b64,o65,hp63⟩
      refine aw (QbD underlying124 sizeOf3 rfl rfl h62 hp63) ?_
      refine aw (Qe isAgg3 rfl (fun _ hw=>QP (W:=fun w1=>w1=_) (fun w1 h=>by subst h;exact Below.refl _ _) (hw.own (.s .z)).row h62 hp63 rfl _ rfl)) ?_
      refine aw xn (nwq [98,13,9,5] ?_)
      obtain ⟨h66,hF⟩|⟨h66,hF⟩:=oi hF
      ·refine ct h66 ?_
       refine sr (aa (aa (qn (dz (dz (wq [3,2] ?_))))))
       refine tn (qt ?_)
       refine br (tr (tr (br (tr ?_))))
       obtain rfl:=os hF
       subst K
       exact Q6 rfl rfl rfl (fun w1 hw=>⟨none,0,rfl,Own.nil _ _ _ _,hw.below⟩)
      ·refine cf h66 ?_
       refine QbQ ?_
       refine bm ?_
       refine qr (am (aw xa (aa (nwq [13,9,5] ?_))))
       exact Qk (ih _ _ hF K) ⟨rfl,rfl,rfl,trivial⟩
     ·refine cf h61 ?_
      refine Q7 ?_
      refine te (te ?_)
      refine Qam (H:=_) (.s .z) ?_
      obtain rfl:=os hF
      exact Qk K ⟨rfl,trivial⟩
   ·cases q59 with
    | ret r'=>exact os hF
    | nx sq59 =>
     skip
     refine QD ?_
     refine tn (sr (am (aa (aa (nwq [3,2] ?_)))))
     refine qt ?_
     have K:=os hF
     subst K
     exact Q6 rfl rfl rfl (fun w1 hw=>⟨p44,c45,rfl,hw.own .z,hw.below⟩)
def Qeg(x0:Int):Option (Int×Bool) :=
 some (wr .u32 (Lib.indexByte (⟨#[65,66,67,68,69,70,71,72,73,74,75,76,77,78,79,80,81,82,83,84,85,86,87,88,89,90,97,98,99,100,101,102,103,104,105,106,107,108,109,110,111,112,113,114,115,116,117,118,119,120,121,122,48,49,50,51,52,53,54,55,56,57,43,47]⟩:ByteArray).data.toList (Nat.toUInt8 (Int.toNat x0))),decide (Lib.indexByte (⟨#[65,66,67,68,69,70,71,72,73,74,75,76,77,78,79,80,81,82,83,84,85,86,87,88,89,90,97,98,99,100,101,102,103,104,105,106,107,108,109,110,111,112,113,114,115,116,117,118,119,120,121,122,48,49,50,51,52,53,54,55,56,57,43,47]⟩:ByteArray).data.toList (Nat.toUInt8 (Int.toNat x0))≥0))
theorem QhV(x0:Int)(r:Int×Bool)(hF:Qeg x0=some r)(w:World) :
    Calls Tryz.prog 174 #[.int .u8 x0] w (fun e w'=>e=.returned (.tuple #[.int .u32 r.1,.bool r.2])∧w'=w):=by
 unfold Qeg at hF
 refine ce (l:=[.int .u8 x0]) func174 rfl rfl ?_
 refine sr (aa (aa (ns (am ?_))))
 refine Qav func181 rfl (by kernel_rfl) rfl rfl (fun w=>Tryz.strings_IndexByte _ _ w) ?_
 refine aa (ns (am ?_))
 refine aw (QaW underlying3 underlying25 rfl) ?_
 refine am ?_
 refine aw (QfM rfl rfl) ?_
 refine aa (aa (nwq [3,2] ?_))
 refine qt ?_
 have K:=os hF
 subst K
 exact Q6 rfl rfl rfl (fun w1 hw=>⟨rfl,hw⟩)
def QaQ.l0(x0:ByteArray)(i2:Int)(i3:Int):Option (Ctl (List Int×Bool×Int) (Int)) :=
 if (decide (i3<(x0.size:Int)))=true then (if (0:Int)≤i3∧i3<(x0.size:Int) then Qeg (bt x0 i3)>>=fun t6=>if (!t6.2)=true then (some (.ret ([],false,5))) else (if (0:Int)≤wr .u64 (wr .i64 (18-(wr .i64 (6*i3)))) then QaQ.l0 x0 (ior .u32 i2 (Qh9 .u32 t6.1 (wr .u64 (wr .i64 (18-(wr .i64 (6*i3))))))) (wr .i64 (i3+1)) else none) else none) else (some (.nx i2))
 partial_fixpoint
def QaQ.l1(x0:ByteArray)(sq1:Int)(i12:List Int)(i13:Int):Option (List Int) :=
 if (decide (i13<wr .i64 ((x0.size:Int)-1)))=true then (if (0:Int)≤wr .u64 (wr .i64 (16-(wr .i64 (8*i13)))) then if (i12.length+1)*1≤140737488355328 then QaQ.l1 x0 sq1 (i12++[wr .u8 (Qh8 .u32 sq1 (wr .u64 (wr .i64 (16-(wr .i64 (8*i13))))))]) (wr .i64 (i13+1)) else none else none) else (some i12)
 partial_fixpoint
def QaQ(x0:ByteArray):Option (List Int×Bool×Int) :=
 QaQ.l0 x0 0 0>>=fun q1=>match q1 with | .ret r'=>some r' | .nx sq1=>(QaQ.l1 x0 sq1 ([]:List Int) 0>>=fun q11=>if (0:Int)≤wr .u64 (wr .i64 (8+(wr .i64 (8*(wr .i64 ((x0.size:Int)-1)))))) then some (q11,(Qh9 .u32 sq1 (wr .u64 (wr .i64 (8+(wr .i64 (8*(wr .i64 ((x0.size:Int)-1)))))))==0),0) else none)
theorem Qix(x0:ByteArray)(r:List Int×Bool×Int)(hF:QaQ x0=some r)(w:World) :
    Calls Tryz.prog 145 #[.string x0] w (fun e w'=>∃ p cap,e=.returned (.tuple #[.slice p r.1.length cap,.bool r.2.1,.int .i64 r.2.2])∧Own (Qv .u8) 5 w.heap.size w' p cap r.1∧Below w.heap.size w w'):=by
 unfold QaQ at hF
 refine ce (l:=[.string x0]) func145 rfl rfl ?_
 refine QN ?_
 refine sr (aa (aa (aa (ns (aa (nt (qs (sr ?_))))))))
 refine am ?_
 refine aw (QaR underlying9 rfl) ?_
 refine am (nwq [13,12,5,2,0] ?_)
 refine qb ?_
 obtain ⟨q1,hq1,hF⟩:=bM hF
 refine wq [13,12,5,2,0] ?_
 refine Qbn (B:=0) (r:=r) (q:=q1) (A:=fun sq1 Y=>At 60 [(0,.string x0),(2,.slice none 0 0),(5,.int .u32 sq1)] (Wd w []) Y) ?_ ?_
 ·intro K
  refine QaQ.l0.partial_correctness x0 (motive:=fun i2 i3 x=>KR (fun sq1 Y=>At 60 [(0,.string x0),(2,.slice none 0 0),(5,.int .u32 sq1)] (Wd w []) Y) _ 0 r x→QbB (fun Y=>At 60 [(0,.string x0),(2,.slice none 0 0),(5,.int .u32 i2),(12,.int .i64 (x0.size:Int)),(13,.int .i64 i3)] (Wd w []) Y) _ _ _) ?_ _ _ _ hq1 K
  ·clear K hF
   intro g ih i2 i3 x hF K
   refine QW ?_
   refine sr (aw xl (nwq [14,13,12,5,2,0] ?_))
   refine qs ?_
   obtain ⟨h4,hF⟩|⟨h4,hF⟩:=oi hF
   ·refine ct h4 ?_
    refine sn (qs (qb (sr (am (aa (ns (am (am ?_))))))))
    obtain ⟨h5,hF⟩:=gd hF
    refine aw (QaZ underlying9 rfl rfl h5) ?_
    obtain ⟨t6,ht6,hF⟩:=bM hF
    refine Qav func174 rfl (by kernel_rfl) rfl rfl (fun w=>QhV _ _ ht6 w) ?_
    refine am ?_
    refine aw xe (aw xe (aa (aa (nt (qs (sr (am ?_)))))))
    refine aw (Qcq rfl) ?_
    refine nwq [24,13,12,7,6,5,2,0] ?_
    obtain ⟨h7,hF⟩|⟨h7,hF⟩:=oi hF
    ·refine ct h7 ?_
     refine sr (aa (aa (aa (nwq [4,3,2] ?_))))
     refine qt ?_
     refine tr (br (tr (tr (br (tr ?_)))))
     obtain rfl:=os hF
     subst K
     exact QdO rfl rfl rfl rfl (fun w1 hw=>⟨none,0,rfl,Own.nil _ _ _ _,hw.below⟩)
    refine cf h7 ?_
    refine sn (qr (am (am (am ?_))))
    refine aw (QcT rfl rfl) ?_
    refine aw (Qdh rfl rfl) ?_
    refine aw (QaW underlying3 underlying78 rfl) ?_
    obtain ⟨h8,hF⟩:=gd hF
    refine aw (QgI rfl rfl h8) ?_
    refine aw (Qnj rfl rfl) ?_
    refine aa (qn (wq [13,12,5,2,0] ?_))
    refine bm ?_
    refine qr (aw xa (am (nwq [13,12,5,2,0] ?_)))
    exact Qk (ih _ _ _ hF K) ⟨rfl,rfl,rfl,rfl,rfl,trivial⟩
   refine cf h4 ?_
   refine Q7 ?_
   refine te (te ?_)
   obtain rfl:=os hF
   exact Qk K ⟨rfl,rfl,rfl,trivial⟩
 cases q1 with
 | ret r'=>exact os hF
 | nx sq1 =>
  skip
  refine QD ?_
  refine tn (sr (am ?_))
  refine aw (QaR underlying9 rfl) ?_
  refine aw (Qdh rfl rfl) ?_
  refine aa (nt (qs (sr (am (am (nwq [38,37,9,5,2] ?_))))))
  refine qb ?_
  refine Qco (Qv .u8) 5 ?_
  obtain ⟨q11,hq11,hF⟩:=bM hF
  refine wq [38,37,9,5,2] ?_
  refine Qal (B:=2) (A:=fun Y=>∀ (p16:Option Addr) (c17:Nat),At 60 [(2,.slice p16 q11.length c17),(5,.int .u32 sq1),(9,.int .i64 (wr .i64 ((x0.size:Int)-1)))] (Wd w [Qbm (Qv .u8) 5 p16 c17 q11]) Y) ?_ ?_
  ·intro K
   refine QaQ.l1.partial_correctness x0 sq1 (motive:=fun i12 i13 x=>KN (fun Y=>∀ (p16:Option Addr) (c17:Nat),At 60 [(2,.slice p16 x.length c17),(5,.int .u32 sq1),(9,.int .i64 (wr .i64 ((x0.size:Int)-1)))] (Wd w [Qbm (Qv .u8) 5 p16 c17 x]) Y) _ 2→QbB (fun Y=>∀ (p14:Option Addr) (c15:Nat),At 60 [(2,.slice p14 i12.length c15),(5,.int .u32 sq1),(9,.int .i64 (wr .i64 ((x0.size:Int)-1))),(37,.int .i64 (wr .i64 ((x0.size:Int)-1))),(38,.int .i64 i13)] (Wd w [Qbm (Qv .u8) 5 p14 c15 i12]) Y) _ _ _) ?_ _ _ _ hq11 K none 0
   ·clear K hF
    intro g ih i12 i13 x hF K p14 c15
    refine QW ?_
    refine sr (aw xl (nwq [39,38,37,9,5,2] ?_))
    refine qs ?_
    obtain ⟨h18,hF⟩|⟨h18,hF⟩:=oi hF
    ·refine ct h18 ?_
     refine sn (qs (qb (sr (am (aa (nt (qr (am ?_))))))))
     refine am (am ?_)
     refine aw (QcT rfl rfl) ?_
     refine aw (Qdh rfl rfl) ?_
     refine aw (QaW underlying3 underlying78 rfl) ?_
     obtain ⟨h19,hF⟩:=gd hF
     refine aw (QjQ rfl rfl h19) ?_
     refine aw (QaW underlying25 underlying5 rfl) ?_
     refine Qep (cs:=(Qv .u8).all ([wr .u8 (Qh8 .u32 sq1 (wr .u64 (wr .i64 (16-(wr .i64 (8*i13))))))]:List Int)) underlying85 sizeOf5 zeroValue5 rfl rfl rfl (by kernel_rfl) rfl ?_
     intro b20
     obtain ⟨h21,hF⟩:=gd hF
     refine Qcl (z:=.int .u8 0) (c:=(Qv .u8)) (ys:=([wr .u8 (Qh8 .u32 sq1 (wr .u64 (wr .i64 (16-(wr .i64 (8*i13))))))]:List Int)) (.s .z) underlying85 QlF (by kernel_rfl) (by kernel_rfl) rfl rfl rfl rfl (fun _ hw=>QbX (hw.ok (Upd.mem .z))) (by kernel_rfl) h21 (QbR h21) rfl ?_
     intro p22 c23
     refine aa (qn (dz (wq [38,37,9,5,2] ?_)))
     refine bm ?_
     refine qr (aw xa (am (nwq [38,37,9,5,2] ?_)))
     exact Qk (ih _ _ _ hF K p22 c23) ⟨rfl,rfl,rfl,rfl,rfl,trivial⟩
    ·refine cf h18 ?_
     refine Q7 ?_
     refine te (te ?_)
     obtain rfl:=os hF
     exact Qk (K p14 c15) ⟨rfl,rfl,rfl,trivial⟩
  ·skip
   intro p16 c17
   refine QD ?_
   refine tn (sr (am (am (am ?_))))
   refine aw (QcT rfl rfl) ?_
   refine aw xa ?_
   refine aw (QaW underlying3 underlying78 rfl) ?_
   obtain ⟨h24,hF⟩:=gd hF
   refine aw (QgI rfl rfl h24) ?_
   refine aw xq (aa (aa (aa (nwq [4,3,2] ?_))))
   refine qt ?_
   have K:=os hF
   subst K
   exact QdO rfl rfl rfl rfl (fun w1 hw=>⟨p16,c17,rfl,hw.own .z,hw.below⟩)
def QY.l1(i7:List Int)(i9:ByteArray)(i17:Int)(i18:Int):Option (Int×ByteArray) :=
 if (decide (i18<3))=true then (if (decide (i18<(if 3<(i7.length:Int) then 3 else (i7.length:Int))))=true then (if (0:Int)≤i18∧i18<(i7.length:Int) then QY.l1 i7 i9 (ior .u32 (Qh9 .u32 i17 8) (wr .u32 (QO i7 i18))) (wr .i64 (i18+1)) else none) else (QY.l1 i7 i9 (Qh9 .u32 i17 8) (wr .i64 (i18+1)))) else (some (i17,i9))
 partial_fixpoint
def QY.l2(i7:List Int)(q16:Int×ByteArray)(i28:Int)(i29:ByteArray):Option (ByteArray) :=
 if (decide (i28<wr .i64 ((if 3<(i7.length:Int) then 3 else (i7.length:Int))+1)))=true then (if (0:Int)≤wr .u64 (wr .i64 (18-(wr .i64 (6*i28)))) then if (0:Int)≤Qjd .u32 (Qh8 .u32 q16.1 (wr .u64 (wr .i64 (18-(wr .i64 (6*i28)))))) 63∧Qjd .u32 (Qh8 .u32 q16.1 (wr .u64 (wr .i64 (18-(wr .i64 (6*i28)))))) 63<((⟨#[65,66,67,68,69,70,71,72,73,74,75,76,77,78,79,80,81,82,83,84,85,86,87,88,89,90,97,98,99,100,101,102,103,104,105,106,107,108,109,110,111,112,113,114,115,116,117,118,119,120,121,122,48,49,50,51,52,53,54,55,56,57,43,47]⟩:ByteArray).size:Int) then if (0:Int)≤bt (⟨#[65,66,67,68,69,70,71,72,73,74,75,76,77,78,79,80,81,82,83,84,85,86,87,88,89,90,97,98,99,100,101,102,103,104,105,106,107,108,109,110,111,112,113,114,115,116,117,118,119,120,121,122,48,49,50,51,52,53,54,55,56,57,43,47]⟩:ByteArray) (Qjd .u32 (Qh8 .u32 q16.1 (wr .u64 (wr .i64 (18-(wr .i64 (6*i28)))))) 63)∧bt (⟨#[65,66,67,68,69,70,71,72,73,74,75,76,77,78,79,80,81,82,83,84,85,86,87,88,89,90,97,98,99,100,101,102,103,104,105,106,107,108,109,110,111,112,113,114,115,116,117,118,119,120,121,122,48,49,50,51,52,53,54,55,56,57,43,47]⟩:ByteArray) (Qjd .u32 (Qh8 .u32 q16.1 (wr .u64 (wr .i64 (18-(wr .i64 (6*i28)))))) 63)<256 then if i29.size+1≤140737488355328 then QY.l2 i7 q16 (wr .i64 (i28+1)) (i29.push (UInt8.ofNat (Int.toNat (bt (⟨#[65,66,67,68,69,70,71,72,73,74,75,76,77,78,79,80,81,82,83,84,85,86,87,88,89,90,97,98,99,100,101,102,103,104,105,106,107,108,109,110,111,112,113,114,115,116,117,118,119,120,121,122,48,49,50,51,52,53,54,55,56,57,43,47]⟩:ByteArray) (Qjd .u32 (Qh8 .u32 q16.1 (wr .u64 (wr .i64 (18-(wr .i64 (6*i28)))))) 63))))) else none else none else none else none) else (some i29)
 partial_fixpoint
def QY.l0(i7:List Int)(i9:ByteArray):Option (ByteArray) :=
 if (decide ((i7.length:Int)>0))=true then (QY.l1 i7 i9 0 0>>=fun q16=>QY.l2 i7 q16 0 q16.2>>=fun q27=>if (0:Int)≤wr .i64 (3-(if 3<(i7.length:Int) then 3 else (i7.length:Int)))∧wr .i64 (3-(if 3<(i7.length:Int) then 3 else (i7.length:Int)))≤9223372036854775807∧((⟨#[61]⟩:ByteArray).size:Int)*(wr .i64 (3-(if 3<(i7.length:Int) then 3 else (i7.length:Int))))≤140737488355328 then if q27.size+(QuS (⟨#[61]⟩:ByteArray) (wr .i64 (3-(if 3<(i7.length:Int) then 3 else (i7.length:Int))))).size≤140737488355328 then if (0:Int)≤(if 3<(i7.length:Int) then 3 else (i7.length:Int))∧(if 3<(i7.length:Int) then 3 else (i7.length:Int))≤(i7.length:Int)∧(i7.length:Int)≤(i7.length:Int) then QY.l0 (QdS i7 (if 3<(i7.length:Int) then 3 else (i7.length:Int)) (i7.length:Int)) (q27++(QuS (⟨#[61]⟩:ByteArray) (wr .i64 (3-(if 3<(i7.length:Int) then 3 else (i7.length:Int)))))) else none else none else none) else (some i9)
 partial_fixpoint
def QY(x0:List Int):Option (ByteArray) :=
 QY.l0 x0 ByteArray.empty>>=fun q6=>some q6
theorem QhB(x0:List Int)(p0_:Option Addr)(c0_:Nat)(r:ByteArray)(hF:QY x0=some r)(w:World)(hr0:Row (Qv .u8) w p0_ c0_ x0) :
    Calls Tryz.prog 65 #[.slice p0_ x0.length c0_] w (fun e w'=>e=.returned (.string r)∧Below w.heap.size w w'):=by
 unfold QY at hF
 refine ce (l:=[.slice p0_ x0.length c0_]) func65 rfl rfl ?_
 refine QN ?_
 refine sr (aa (ns ?_))
 refine Qi5 (e:=5) zeroValue100 rfl ?_
 intro b1
 refine nwq [3,0] ?_
 refine qs (qb ?_)
 obtain ⟨q6,hq6,hF⟩:=bM hF
 refine wq [3,0] ?_
 refine Qal (B:=0) (A:=fun Y=>∀ (g14:Option Nat),At 53 [(3,.pointer (some ⟨b1,0,none⟩))] (Wd w [QfW 100 5 b1 g14 q6]) Y) ?_ ?_
 ·intro K
  refine QY.l0.partial_correctness  (motive:=fun i7 i9 x=>KN (fun Y=>∀ (g14:Option Nat),At 53 [(3,.pointer (some ⟨b1,0,none⟩))] (Wd w [QfW 100 5 b1 g14 x]) Y) _ 0→QbB (fun Y=>∀ (p10:Option Addr) (c11:Nat) (hr12:Row (Qv .u8) w p10 c11 i7) (g13:Option Nat),At 53 [(0,.slice p10 i7.length c11),(3,.pointer (some ⟨b1,0,none⟩))] (Wd w [QfW 100 5 b1 g13 i9]) Y) _ _ _) ?_ _ _ _ hq6 K p0_ c0_ hr0 none
  ·clear K hF
   intro g ih i7 i9 x hF K p10 c11 hr12 g13
   refine QW ?_
   refine qs (sr (am ?_))
   refine aw (QZ underlying85 rfl) ?_
   refine aw (QbI rfl rfl) ?_
   refine nwq [10,3,0] ?_
   obtain ⟨h15,hF⟩|⟨h15,hF⟩:=oi hF
   ·refine ct h15 ?_
    refine sn (qb (sr (am ?_)))
    refine aw (QZ underlying85 rfl) ?_
    refine aw (Qqy rfl rfl) ?_
    refine aa (ns (aa (nt (qs (sr (am (nwq [14,5,4,3,0] ?_)))))))
    refine qb ?_
    obtain ⟨q16,hq16,hF⟩:=bM hF
    refine wq [14,5,4,3,0] ?_
    refine Qal (B:=2) (A:=fun Y=>∀ (g19:Option Nat),At 53 [(0,.slice p10 i7.length c11),(3,.pointer (some ⟨b1,0,none⟩)),(4,.int .i64 (if 3<(i7.length:Int) then 3 else (i7.length:Int))),(5,.int .u32 q16.1)] (Wd w [QfW 100 5 b1 g19 q16.2]) Y) ?_ ?_
    ·intro K
     refine QY.l1.partial_correctness i7 i9 (motive:=fun i17 i18 x=>KN (fun Y=>∀ (g19:Option Nat),At 53 [(0,.slice p10 i7.length c11),(3,.pointer (some ⟨b1,0,none⟩)),(4,.int .i64 (if 3<(i7.length:Int) then 3 else (i7.length:Int))),(5,.int .u32 x.1)] (Wd w [QfW 100 5 b1 g19 x.2]) Y) _ 2→QbB (fun Y=>At 53 [(0,.slice p10 i7.length c11),(3,.pointer (some ⟨b1,0,none⟩)),(4,.int .i64 (if 3<(i7.length:Int) then 3 else (i7.length:Int))),(5,.int .u32 i17),(14,.int .i64 i18)] (Wd w [QfW 100 5 b1 g13 i9]) Y) _ _ _) ?_ _ _ _ hq16 K
     ·clear K hF
      intro g ih i17 i18 x hF K
      refine QW ?_
      refine sr (aw xl (nwq [15,14,5,4,3,0] ?_))
      refine qs ?_
      obtain ⟨h20,hF⟩|⟨h20,hF⟩:=oi hF
      ·refine ct h20 ?_
       refine sn (qs (qb (sr (am (aa (ns (am ?_)))))))
       refine aw (QgI rfl rfl (by decide)) ?_
       refine aa (ns (am (am (aw xl (nwq [21,14,6,5,4,3,0] ?_)))))
       obtain ⟨h21,hF⟩|⟨h21,hF⟩:=oi hF
       ·refine ct h21 ?_
        refine qr (am (am (am ?_)))
        obtain ⟨h22,hF⟩:=gd hF
        obtain ⟨b24,o25,hp23⟩:=Qaa hr12 h22
        refine aw (QbD underlying85 sizeOf5 rfl rfl h22 hp23) ?_
        refine aw (Qe isAgg5 rfl (QP (fun _ h=>h.below) hr12 h22 hp23 rfl)) ?_
        refine aw (QaW underlying5 underlying25 rfl) ?_
        refine aw (Qnj rfl rfl) ?_
        refine aa (qn (wq [14,5,4,3,0] ?_))
        refine bm ?_
        refine qr (aw xa (am (nwq [14,5,4,3,0] ?_)))
        exact Qk (ih _ _ _ hF K) ⟨rfl,rfl,rfl,rfl,rfl,trivial⟩
       refine cf h21 ?_
       refine QbQ ?_
       refine bm ?_
       refine qr (aw xa (am (nwq [14,5,4,3,0] ?_)))
       exact Qk (ih _ _ _ hF K) ⟨rfl,rfl,rfl,rfl,rfl,trivial⟩
      refine cf h20 ?_
      refine Q7 ?_
      refine te (te ?_)
      obtain rfl:=os hF
      exact Qk (K g13) ⟨rfl,rfl,rfl,rfl,trivial⟩
    skip
    intro g19
    refine QD ?_
    refine tn (qs (sr (am (aw xa (am (nwq [32,31,5,4,3,0] ?_))))))
    refine qb ?_
    obtain ⟨q27,hq27,hF⟩:=bM hF
    refine wq [32,31,5,4,3,0] ?_
    refine Qal (B:=4) (A:=fun Y=>∀ (g31:Option Nat),At 53 [(0,.slice p10 i7.length c11),(3,.pointer (some ⟨b1,0,none⟩)),(4,.int .i64 (if 3<(i7.length:Int) then 3 else (i7.length:Int)))] (Wd w [QfW 100 5 b1 g31 q27]) Y) ?_ ?_
    ·intro K
     refine QY.l2.partial_correctness i7 q16 (motive:=fun i28 i29 x=>KN (fun Y=>∀ (g31:Option Nat),At 53 [(0,.slice p10 i7.length c11),(3,.pointer (some ⟨b1,0,none⟩)),(4,.int .i64 (if 3<(i7.length:Int) then 3 else (i7.length:Int)))] (Wd w [QfW 100 5 b1 g31 x]) Y) _ 4→QbB (fun Y=>∀ (g30:Option Nat),At 53 [(0,.slice p10 i7.length c11),(3,.pointer (some ⟨b1,0,none⟩)),(4,.int .i64 (if 3<(i7.length:Int) then 3 else (i7.length:Int))),(5,.int .u32 q16.1),(31,.int .i64 (wr .i64 ((if 3<(i7.length:Int) then 3 else (i7.length:Int))+1))),(32,.int .i64 i28)] (Wd w [QfW 100 5 b1 g30 i29]) Y) _ _ _) ?_ _ _ _ hq27 K g19
     ·clear K hF
      intro g ih i28 i29 x hF K g30
      refine QW ?_
      refine sr (aw xl (nwq [33,32,31,5,4,3,0] ?_))
      refine qs ?_
      obtain ⟨h32,hF⟩|⟨h32,hF⟩:=oi hF
      ·refine ct h32 ?_
       refine sn (qs (qb (sr (am (aa (nwq [32,31,7,5,4,3,0] ?_))))))
       refine qr (am (am ?_))
       refine aw (QcT rfl rfl) ?_
       refine aw (Qdh rfl rfl) ?_
       refine aw (QaW underlying3 underlying78 rfl) ?_
       obtain ⟨h33,hF⟩:=gd hF
       refine aw (QjQ rfl rfl h33) ?_
       refine aw (QkM rfl rfl) ?_
       obtain ⟨h34,hF⟩:=gd hF
       refine aw (QaZ underlying9 rfl rfl h34) ?_
       obtain ⟨h36,hF⟩:=gd hF
       obtain ⟨h37,hF⟩:=gd hF
       refine QnU (c:=bt (⟨#[65,66,67,68,69,70,71,72,73,74,75,76,77,78,79,80,81,82,83,84,85,86,87,88,89,90,97,98,99,100,101,102,103,104,105,106,107,108,109,110,111,112,113,114,115,116,117,118,119,120,121,122,48,49,50,51,52,53,54,55,56,57,43,47]⟩:ByteArray) (Qjd .u32 (Qh8 .u32 q16.1 (wr .u64 (wr .i64 (18-(wr .i64 (6*i28)))))) 63)) .z trivial func95 rfl (by kernel_rfl) rfl rfl h36 h37 Tryz.Builder_WriteByte_k ?_
       intro g35
       refine qn (wq [32,31,5,4,3,0] ?_)
       refine bm ?_
       refine qr (aw xa (am (nwq [32,31,5,4,3,0] ?_)))
       exact Qk (ih _ _ _ hF K g35) ⟨rfl,rfl,rfl,rfl,rfl,rfl,trivial⟩
      refine cf h32 ?_
      refine Q7 ?_
      refine te (te ?_)
      obtain rfl:=os hF
      exact Qk (K g30) ⟨rfl,rfl,rfl,trivial⟩
    skip
    intro g31
    refine QD ?_
    refine tn (sr (am ?_))
    refine aw (Qdh rfl rfl) ?_
    obtain ⟨h38,hF⟩:=gd hF
    refine cB func96 rfl (fun w1 hw=>Qsm Tryz.strings_Repeat _ _ w1 h38) ?_
    obtain ⟨h40,hF⟩:=gd hF
    refine QiQ (s:=(QuS (⟨#[61]⟩:ByteArray) (wr .i64 (3-(if 3<(i7.length:Int) then 3 else (i7.length:Int)))))) .z trivial func63 rfl (by kernel_rfl) rfl rfl h40 Tryz.Builder_WriteString_k ?_
    intro g39
    refine nt (qr (am (am ?_)))
    obtain ⟨h41,hF⟩:=gd hF
    refine aw (Qmv (c:=(Qv .u8)) underlying85 sizeOf5 rfl (Row.len hr12) ⟨_,rfl⟩ rfl h41) ?_
    refine aa (qn (wq [3,0] ?_))
    refine bm ?_
    exact Qk (ih _ _ _ hF K (rsp p10 c11 (if 3<(i7.length:Int) then 3 else (i7.length:Int)) (Cd.sz (Qv .u8))) (c11-Int.toNat (if 3<(i7.length:Int) then 3 else (i7.length:Int))) (Row.sub hr12 h41) g39) ⟨rfl,rfl,trivial⟩
   refine cf h15 ?_
   refine Q7 ?_
   refine te (te ?_)
   obtain rfl:=os hF
   exact Qk (K g13) ⟨rfl,trivial⟩
 skip
 intro g14
 refine QD ?_
 refine tn (sr ?_)
 refine Qin .z trivial func64 rfl (by kernel_rfl) rfl rfl Tryz.Builder_String_any_k ?_
 intro g42
 refine aa (qn (dz (wq [2] ?_)))
 refine tn (qt ?_)
 have K:=os hF
 subst K
 exact r1 wb
def QaK.l0(i7:ByteArray)(i9:List Int)(i10:Bool):Option (Ctl (List Int×Int) (List Int×Bool)) :=
 if (decide ((i7.size:Int)>0))=true then (if (0:Int)≤0∧0≤(if 4<(i7.size:Int) then 4 else (i7.size:Int))∧(if 4<(i7.size:Int) then 4 else (i7.size:Int))≤(i7.size:Int) then QaQ (i7.extract (Int.toNat 0) (Int.toNat (if 4<(i7.size:Int) then 4 else (i7.size:Int))))>>=fun t17=>if (t17.2.2 != 0)=true then (some (.ret ([],t17.2.2))) else (if (i9.length+t17.1.length)*1≤140737488355328 then if i10=true then (if (0:Int)≤(if 4<(i7.size:Int) then 4 else (i7.size:Int))∧(if 4<(i7.size:Int) then 4 else (i7.size:Int))≤(i7.size:Int)∧(i7.size:Int)≤(i7.size:Int) then QaK.l0 (i7.extract (Int.toNat (if 4<(i7.size:Int) then 4 else (i7.size:Int))) (Int.toNat (i7.size:Int))) (i9++t17.1) t17.2.1 else none) else (if (0:Int)≤(if 4<(i7.size:Int) then 4 else (i7.size:Int))∧(if 4<(i7.size:Int) then 4 else (i7.size:Int))≤(i7.size:Int)∧(i7.size:Int)≤(i7.size:Int) then QaK.l0 (i7.extract (Int.toNat (if 4<(i7.size:Int) then 4 else (i7.size:Int))) (Int.toNat (i7.size:Int))) (i9++t17.1) false else none) else none) else none) else (some (.nx (i9,i10)))
 partial_fixpoint
def QaK(x0:ByteArray):Option (List Int×Int) :=
 if (Int.tmod (x0.size:Int) 4 != 0)=true then (some ([],5)) else (if x0.size≤9223372036854775807 then if (⟨(Lib.trimSuffix x0.data.toList (⟨#[61]⟩:ByteArray).data.toList).toArray⟩:ByteArray).size≤9223372036854775807 then QaK.l0 (⟨(Lib.trimSuffix (⟨(Lib.trimSuffix x0.data.toList (⟨#[61]⟩:ByteArray).data.toList).toArray⟩:ByteArray).data.toList (⟨#[61]⟩:ByteArray).data.toList).toArray⟩:ByteArray) ([]:List Int) true>>=fun q6=>match q6 with | .ret r'=>some r' | .nx sq6=>(if (!sq6.2)=true then (some ([],10)) else (some (sq6.1,0))) else none else none)
theorem QhC(x0:ByteArray)(r:List Int×Int)(hF:QaK x0=some r)(w:World) :
    Calls Tryz.prog 111 #[.string x0] w (fun e w'=>∃ p cap,e=.returned (.tuple #[.slice p r.1.length cap,.int .i64 r.2])∧Own (Qv .u8) 5 w.heap.size w' p cap r.1∧Below w.heap.size w w'):=by
 unfold QaK at hF
 refine ce (l:=[.string x0]) func111 rfl rfl ?_
 refine QN ?_
 refine sr (aa (aa (nt (qs (sr (am ?_))))))
 refine aw (QaR underlying9 rfl) ?_
 refine aw (QfL rfl rfl (by decide)) ?_
 refine aw xn (nwq [14,0] ?_)
 obtain ⟨h1,hF⟩|⟨h1,hF⟩:=oi hF
 ·refine ct h1 ?_
  refine sr (aa (aa (nwq [3,2] ?_)))
  refine rt ?_
  have K:=os hF
  subst K
  exact Q6 rfl rfl rfl (fun w1 hw=>⟨none,0,rfl,Own.nil _ _ _ _,hw.below⟩)
 refine cf h1 ?_
 refine sns (am ?_)
 obtain ⟨h2,hF⟩:=gd hF
 refine cB func51 rfl (fun w1 hw=>Qd1 (Tryz.strings_TrimSuffix _ _ w1 h2)) ?_
 obtain ⟨h3,hF⟩:=gd hF
 refine cB func51 rfl (fun w1 hw=>Qd1 (Tryz.strings_TrimSuffix _ _ w1 h3)) ?_
 refine aa (ns (aa (ns (aa (nwq [6,5,4] ?_)))))
 refine qs (qb ?_)
 refine Qco (Qv .u8) 5 ?_
 obtain ⟨q6,hq6,hF⟩:=bM hF
 refine wq [6,5,4] ?_
 refine Qbn (B:=0) (r:=r) (q:=q6) (A:=fun sq6 Y=>∀ (p13:Option Addr) (c14:Nat),At 48 [(5,.slice p13 sq6.1.length c14),(6,.bool sq6.2)] (Wd w [Qbm (Qv .u8) 5 p13 c14 sq6.1]) Y) ?_ ?_
 ·intro K
  refine QaK.l0.partial_correctness  (motive:=fun i7 i9 i10 x=>KR (fun sq6 Y=>∀ (p13:Option Addr) (c14:Nat),At 48 [(5,.slice p13 sq6.1.length c14),(6,.bool sq6.2)] (Wd w [Qbm (Qv .u8) 5 p13 c14 sq6.1]) Y) _ 0 r x→QbB (fun Y=>∀ (p11:Option Addr) (c12:Nat),At 48 [(4,.string i7),(5,.slice p11 i9.length c12),(6,.bool i10)] (Wd w [Qbm (Qv .u8) 5 p11 c12 i9]) Y) _ _ _) ?_ _ _ _ _ hq6 K none 0
  ·clear K hF
   intro g ih i7 i9 i10 x hF K p11 c12
   refine QW ?_
   refine qs (sr (am ?_))
   refine aw (QaR underlying9 rfl) ?_
   refine aw (QbI rfl rfl) ?_
   refine nwq [20,6,5,4] ?_
   obtain ⟨h15,hF⟩|⟨h15,hF⟩:=oi hF
   ·refine ct h15 ?_
    refine sn (qb (sr (am ?_)))
    refine aw (QaR underlying9 rfl) ?_
    refine aw (Qqy rfl rfl) ?_
    refine aa (ns (am (am ?_)))
    obtain ⟨h16,hF⟩:=gd hF
    refine aw (Qbc underlying9 rfl rfl ⟨_,rfl⟩ h16) ?_
    obtain ⟨t17,ht17,hF⟩:=bM hF
    refine QbU (c:=(Qv .u8)) (e:=5) (ys:=t17.1) (V:=fun p cap=>.tuple #[.slice p t17.1.length cap,.bool t17.2.1,.int .i64 t17.2.2]) func145 rfl (by kernel_rfl) rfl rfl (fun w hw=>Qix _ _ ht17 w) ?_
    intro p18 c19
    refine am ?_
    refine aw xe (aw xe (aw xe (aa (aa (aa (nt (qs (sr ?_))))))))
    refine am (aw xn (nwq [33,10,9,8,7,6,5,4] ?_))
    obtain ⟨h20,hF⟩|⟨h20,hF⟩:=oi hF
    ·refine ct h20 ?_
     refine sr (am (aa (aa (qn (dz (dz (wq [3,2] ?_)))))))
     refine tn (qt ?_)
     refine tr (br (tr (br (tr ?_))))
     obtain rfl:=os hF
     subst K
     exact Q6 rfl rfl rfl (fun w1 hw=>⟨none,0,rfl,Own.nil _ _ _ _,hw.below⟩)
    refine cf h20 ?_
    refine sns (am (am ?_))
    obtain ⟨h21,hF⟩:=gd hF
    refine Qio (z:=.int .u8 0) (c:=(Qv .u8)) (ys:=t17.1) (.s .z) underlying85 QlF (by kernel_rfl) (by kernel_rfl) rfl rfl rfl (fun w1 hw=>(hw.own .z).row) (by kernel_rfl) h21 (QbR h21) rfl ?_
    intro p22 c23
    refine aa (qn (dz (wq [9,7,6,5,4] ?_)))
    refine tn (sr (am (am ?_)))
    obtain ⟨h24,hF⟩|⟨h24,hF⟩:=oi hF
    ·refine fx 39 h24 ?_
     refine gy (am (aw xp (aa (nt (qr (am (am ?_)))))))
     obtain ⟨h25,hF⟩:=gd hF
     refine aw (Qbc underlying9 rfl ⟨_,rfl⟩ rfl h25) ?_
     refine aa (qn (wq [6,5,4] ?_))
     refine bm ?_
     exact Qk (ih _ _ _ _ hF K p22 c23) ⟨rfl,rfl,rfl,trivial⟩
    refine fx 39 h24 ?_
    refine gn ?_
    refine aw xp (aa (nt (qr (am (am ?_)))))
    obtain ⟨h26,hF⟩:=gd hF
    refine aw (Qbc underlying9 rfl ⟨_,rfl⟩ rfl h26) ?_
    refine aa (qn (wq [6,5,4] ?_))
    refine bm ?_
    exact Qk (ih _ _ _ _ hF K p22 c23) ⟨rfl,rfl,rfl,trivial⟩
   refine cf h15 ?_
   refine Q7 ?_
   refine te (te ?_)
   obtain rfl:=os hF
   exact Qk (K p11 c12) ⟨rfl,rfl,trivial⟩
 cases q6 with
 | ret r'=>exact os hF
 | nx sq6 =>
  intro p13 c14
  refine QD ?_
  refine tn (qs (sr (am ?_)))
  refine aw (Qcq rfl) ?_
  refine nwq [46,5] ?_
  obtain ⟨h27,hF⟩|⟨h27,hF⟩:=oi hF
  ·refine ct h27 ?_
   refine sr (aa (aa (qn (dz (wq [3,2] ?_)))))
   refine tn (rt ?_)
   have K:=os hF
   subst K
   exact Q6 rfl rfl rfl (fun w1 hw=>⟨none,0,rfl,Own.nil _ _ _ _,hw.below⟩)
  ·refine cf h27 ?_
   refine sns (am (aa (aa (nwq [3,2] ?_))))
   refine qt ?_
   have K:=os hF
   subst K
   exact Q6 rfl rfl rfl (fun w1 hw=>⟨p13,c14,rfl,hw.own .z,hw.below⟩)
def QhG(x0:List Int):Option ((Vector Int 32)×Int) :=
 if (decide ((x0.length:Int)<32))=true then (some ((Vector.replicate 32 (0:Int):(Vector Int 32)),3)) else (if (decide ((x0.length:Int)>32))=true then (some ((Vector.replicate 32 (0:Int):(Vector Int 32)),4)) else (if 32≤x0.length then some (Qjc 32 x0,0) else none))
theorem Qpr(x0:List Int)(p0_:Option Addr)(c0_:Nat)(r:(Vector Int 32)×Int)(hF:QhG x0=some r)(w:World)(hr0:Row (Qv .u8) w p0_ c0_ x0) :
    Calls Tryz.prog 112 #[.slice p0_ x0.length c0_] w (fun e w'=>e=.returned (.tuple #[.agg (Cd.cs (QQ (Qv .u8) 32 (by decide)) r.1).toArray,.int .i64 r.2])∧Below w.heap.size w w'):=by
 unfold QhG at hF
 refine ce (l:=[.slice p0_ x0.length c0_]) func112 rfl rfl ?_
 refine QN ?_
 refine sr ?_
 refine al (cs:=Cd.cs (QQ (Qv .u8) 32 (by decide)) zv4) zeroValue24 ?_
 intro b1
 refine aa (nwq [2,0] ?_)
 refine qs (qb (sr (am ?_)))
 refine aw (QZ underlying85 rfl) ?_
 refine aw xl (aa (nwq [4,2,0] ?_))
 obtain ⟨h2,hF⟩|⟨h2,hF⟩:=oi hF
 ·refine ct h2 ?_
  refine sr ?_
  refine aw (Qb3 (zs:=Cd.cs (QQ (Qv .u8) 32 (by decide)) zv4) (cs:=Cd.cs (QQ (Qv .u8) 32 (by decide)) zv4) underlying24 zeroValue24 rfl sizeOf5 rfl rfl) ?_
  refine Qn (c:=(QQ (Qv .u8) 32 (by decide))) (z:=zv4) .z lw sizeOf24 rfl rfl rfl ?_
  refine aa (nwq [3,2] ?_)
  refine qt ?_
  refine br (tr ?_)
  have K:=os hF
  subst K
  exact QU rfl (QE (c:=(QQ (Qv .u8) 32 (by decide))) (y:=zv4) rfl .z lw isAgg24 sizeOf24 (.inl rfl)) (QS rfl) wb
 refine cf h2 ?_
 refine sr (am ?_)
 refine aw (QZ underlying85 rfl) ?_
 refine aw (QbI rfl rfl) ?_
 refine aa (nwq [9,2,0] ?_)
 obtain ⟨h3,hF⟩|⟨h3,hF⟩:=oi hF
 ·refine ct h3 ?_
  refine sr ?_
  refine aw (Qb3 (zs:=Cd.cs (QQ (Qv .u8) 32 (by decide)) zv4) (cs:=Cd.cs (QQ (Qv .u8) 32 (by decide)) zv4) underlying24 zeroValue24 rfl sizeOf5 rfl rfl) ?_
  refine Qn (c:=(QQ (Qv .u8) 32 (by decide))) (z:=zv4) .z lw sizeOf24 rfl rfl rfl ?_
  refine aa (nwq [3,2] ?_)
  refine qt ?_
  refine br (tr ?_)
  have K:=os hF
  subst K
  exact QU rfl (QE (c:=(QQ (Qv .u8) 32 (by decide))) (y:=zv4) rfl .z lw isAgg24 sizeOf24 (.inl rfl)) (QS rfl) wb
 refine cf h3 ?_
 refine QbQ ?_
 refine bm ?_
 refine sr (am ?_)
 obtain ⟨h4,hF⟩:=gd hF
 refine aw (Qln underlying24 rfl h4) ?_
 refine Qae (φ:=∃ b o,p0_=some ⟨b,o,none⟩) (fun w1 hw=>Qaa (i:=0) (hr0.below hw.below) (by omega)) ?_
 rintro ⟨b5,o6,hp7⟩
 refine aw (Qg (c:=(QQ (Qv .u8) 32 (by decide))) (z:=Qjc 32 x0) isAgg24 sizeOf24 (by rw [←hp7];rfl) (fun w1 hw=>Qlh (hr0.below hw.below) h4 hp7)) ?_
 refine Qn (c:=(QQ (Qv .u8) 32 (by decide))) (z:=Qjc 32 x0) .z lw sizeOf24 rfl rfl rfl ?_
 refine aa (nwq [3,2] ?_)
 refine qt ?_
 have K:=os hF
 subst K
 exact QU rfl (QE (c:=(QQ (Qv .u8) 32 (by decide))) (y:=Qjc 32 x0) rfl .z lw isAgg24 sizeOf24 (.inl rfl)) (QS rfl) wb
def Qek(x0:(Vector Int 32)):Option (ByteArray) :=
 QY (Vector.toList x0)>>=fun t2=>some t2
theorem QgL(x0:(Vector Int 32))(r:ByteArray)(hF:Qek x0=some r)(w:World) :
    Calls Tryz.prog 26 #[.agg (Cd.cs (QQ (Qv .u8) 32 (by decide)) x0).toArray] w (fun e w'=>e=.returned (.string r)∧Below w.heap.size w w'):=by
 unfold Qek at hF
 refine ce (l:=[.agg (Cd.cs (QQ (Qv .u8) 32 (by decide)) x0).toArray]) func26 rfl rfl ?_
 refine QN ?_
 refine sr ?_
 refine Qbv (cs:=Cd.cs (QQ (Qv .u8) 32 (by decide)) x0) rfl rfl rfl ?_
 intro b1
 refine aa (ns ?_)
 refine aw (Qfk x0 underlying24 sizeOf5 rfl) ?_
 obtain ⟨t2,ht2,hF⟩:=bM hF
 refine cB func65 rfl (fun w hw=>QhB _ _ _ _ ht2 w (Qlb (hw.ok (Upd.mem .z)))) ?_
 refine aa (qn (dz (wq [2] ?_)))
 refine tn (qt ?_)
 have K:=os hF
 subst K
 exact r1 wb
def QfR(x0:ByteArray):Option ((Vector Int 32)×Int) :=
 QaK x0>>=fun t2=>if (t2.2 != 0)=true then (some ((Vector.replicate 32 (0:Int):(Vector Int 32)),t2.2)) else (QhG t2.1>>=fun t6=>some (t6.1,t6.2))
theorem QlD(x0:ByteArray)(r:(Vector Int 32)×Int)(hF:QfR x0=some r)(w:World) :
    Calls Tryz.prog 81 #[.string x0] w (fun e w'=>e=.returned (.tuple #[.agg (Cd.cs (QQ (Qv .u8) 32 (by decide)) r.1).toArray,.int .i64 r.2])∧Below w.heap.size w w'):=by
 unfold QfR at hF
 refine ce (l:=[.string x0]) func81 rfl rfl ?_
 refine QN ?_
 refine sr ?_
 refine al (cs:=Cd.cs (QQ (Qv .u8) 32 (by decide)) zv4) zeroValue24 ?_
 intro b1
 refine aa (ns (am ?_))
 obtain ⟨t2,ht2,hF⟩:=bM hF
 refine QbU (c:=(Qv .u8)) (e:=5) (ys:=t2.1) (V:=fun p cap=>.tuple #[.slice p t2.1.length cap,.int .i64 t2.2]) func111 rfl (by kernel_rfl) rfl rfl (fun w hw=>QhC _ _ ht2 w) ?_
 intro p3 c4
 refine am ?_
 refine aw xe (aw xe (aa (aa (nt (qs (sr (am (aw xn ?_))))))))
 refine nwq [12,5,4,2] ?_
 obtain ⟨h5,hF⟩|⟨h5,hF⟩:=oi hF
 ·refine ct h5 ?_
  refine sr ?_
  refine aw (Qb3 (zs:=Cd.cs (QQ (Qv .u8) 32 (by decide)) zv4) (cs:=Cd.cs (QQ (Qv .u8) 32 (by decide)) zv4) underlying24 zeroValue24 rfl sizeOf5 rfl rfl) ?_
  refine am ?_
  refine Qn (c:=(QQ (Qv .u8) 32 (by decide))) (z:=zv4) (.s .z) lw sizeOf24 rfl rfl rfl ?_
  refine aa (qn (dz (wq [3,2] ?_)))
  refine tn (rt ?_)
  have K:=os hF
  subst K
  exact QU rfl (QE (c:=(QQ (Qv .u8) 32 (by decide))) (y:=zv4) rfl .z lw isAgg24 sizeOf24 (.inl rfl)) (QS rfl) wb
 refine cf h5 ?_
 refine sns (am ?_)
 obtain ⟨t6,ht6,hF⟩:=bM hF
 refine cB func112 rfl (fun w hw=>Qpr _ _ _ _ ht6 w (hw.own .z).row) ?_
 refine aw xe (aw xe ?_)
 refine Qn (c:=(QQ (Qv .u8) 32 (by decide))) (z:=t6.1) (.s .z) lw sizeOf24 rfl rfl rfl ?_
 refine aa (qn (dz (wq [3,2] ?_)))
 refine tn (qt ?_)
 have K:=os hF
 subst K
 exact QU rfl (QE (c:=(QQ (Qv .u8) 32 (by decide))) (y:=t6.1) rfl .z lw isAgg24 sizeOf24 (.inl rfl)) (QS rfl) wb
def QaU.l0(x0:(Vector Int 32))(i5:List Int)(i6:Int):Option (List Int) :=
 if (decide (i6<32))=true then (if (0:Int)≤i6∧i6<32 then if (i5.length+1)*1≤140737488355328 then QaU.l0 x0 (i5++[Qbb x0 i6]) (wr .i64 (i6+1)) else none else none) else (some i5)
 partial_fixpoint
def QaU(x0:(Vector Int 32)):Option (List Int) :=
 QaU.l0 x0 ([]:List Int) 0>>=fun q4=>some q4
theorem Qgy(x0:(Vector Int 32))(r:List Int)(hF:QaU x0=some r)(w:World) :
    Calls Tryz.prog 77 #[.agg (Cd.cs (QQ (Qv .u8) 32 (by decide)) x0).toArray] w (fun e w'=>∃ p cap,e=.returned (.slice p r.length cap)∧Own (Qv .u8) 5 w.heap.size w' p cap r∧Below w.heap.size w w'):=by
 unfold QaU at hF
 refine ce (l:=[.agg (Cd.cs (QQ (Qv .u8) 32 (by decide)) x0).toArray]) func77 rfl rfl ?_
 refine QN ?_
 refine sr ?_
 refine Qbv (cs:=Cd.cs (QQ (Qv .u8) 32 (by decide)) x0) rfl rfl rfl ?_
 intro b1
 refine aa (ns (aa (nt (qs (sr (aa (nwq [4,3,1] ?_)))))))
 refine qb ?_
 refine Qco (Qv .u8) 5 ?_
 obtain ⟨q4,hq4,hF⟩:=bM hF
 refine wq [4,3,1] ?_
 refine Qal (B:=0) (A:=fun Y=>∀ (p9:Option Addr) (c10:Nat),At 16 [(3,.slice p9 q4.length c10)] (Wd w [Qbm (Qv .u8) 5 p9 c10 q4]) Y) ?_ ?_
 ·intro K
  refine QaU.l0.partial_correctness x0 (motive:=fun i5 i6 x=>KN (fun Y=>∀ (p9:Option Addr) (c10:Nat),At 16 [(3,.slice p9 x.length c10)] (Wd w [Qbm (Qv .u8) 5 p9 c10 x]) Y) _ 0→QbB (fun Y=>∀ (p7:Option Addr) (c8:Nat),At 16 [(1,.pointer (some ⟨b1,0,none⟩)),(3,.slice p7 i5.length c8),(4,.int .i64 i6)] (Wd w [Qbm (Qv .u8) 5 p7 c8 i5,Qi b1 (Cd.cs (QQ (Qv .u8) 32 (by decide)) x0) 24]) Y) _ _ _) ?_ _ _ _ hq4 K none 0
  ·clear K hF
   intro g ih i5 i6 x hF K p7 c8
   refine QW ?_
   refine qs (sr (am (aw xl (nwq [6,4,3,1] ?_))))
   obtain ⟨h11,hF⟩|⟨h11,hF⟩:=oi hF
   ·refine ct h11 ?_
    refine sn (qs (qb (qr (am (am ?_)))))
    obtain ⟨h12,hF⟩:=gd hF
    refine aw (Qas underlying24 sizeOf5 rfl rfl h12) ?_
    refine aw (Qe isAgg5 rfl (Qm (c:=(Qv .u8)) (y:=Qbb x0 i6) (.s .z) (Qaf.comp lw (fun z=>Qb2 x0 i6 z) (Qaf.vec (Qv .u8) (by decide) x0 i6 h12)) rfl)) ?_
    refine Qep (cs:=(Qv .u8).all ([Qbb x0 i6]:List Int)) underlying85 sizeOf5 zeroValue5 rfl rfl rfl (by kernel_rfl) rfl ?_
    intro b13
    obtain ⟨h14,hF⟩:=gd hF
    refine Qcl (z:=.int .u8 0) (c:=(Qv .u8)) (ys:=([Qbb x0 i6]:List Int)) (.s .z) underlying85 QlF (by kernel_rfl) (by kernel_rfl) rfl rfl rfl rfl (fun _ hw=>QbX (hw.ok (Upd.mem .z))) (by kernel_rfl) h14 (QbR h14) rfl ?_
    intro p15 c16
    refine aa (qn (dz (wq [4,3,1] ?_)))
    refine bm ?_
    refine qr (am (aw xa (aa (nwq [4,3,1] ?_))))
    exact Qk (ih _ _ _ hF K p15 c16) ⟨rfl,rfl,rfl,trivial⟩
   refine cf h11 ?_
   refine Q7 ?_
   refine te (te ?_)
   refine Qam (H:=_) (.s .z) ?_
   obtain rfl:=os hF
   exact Qk (K p7 c8) ⟨rfl,trivial⟩
 skip
 intro p9 c10
 refine QD ?_
 refine tn (sr (am (aa (nwq [2] ?_))))
 refine qt ?_
 have K:=os hF
 subst K
 exact r1 (fun w1 hw=>⟨p9,c10,rfl,hw.own .z,hw.below⟩)
def Qbf.l0(x0:List Int)(i6:Int)(i7:(Vector Int 32)):Option ((Vector Int 32)) :=
 if (decide (i6<32))=true then (if (0:Int)≤i6∧i6<(x0.length:Int) then if (0:Int)≤i6∧i6<32 then Qbf.l0 x0 (wr .i64 (i6+1)) (Qb2 i7 i6 (QO x0 i6)) else none else none) else (some i7)
 partial_fixpoint
def Qbf(x0:List Int):Option ((Vector Int 32)×Int) :=
 if (decide ((x0.length:Int)<32))=true then (some ((Vector.replicate 32 (0:Int):(Vector Int 32)),3)) else (if (decide ((x0.length:Int)>32))=true then (some ((Vector.replicate 32 (0:Int):(Vector Int 32)),4)) else (Qbf.l0 x0 0 (Vector.replicate 32 (0:Int):(Vector Int 32))>>=fun q5=>some (q5,0)))
theorem QhN(x0:List Int)(p0_:Option Addr)(c0_:Nat)(r:(Vector Int 32)×Int)(hF:Qbf x0=some r)(w:World)(hr0:Row (Qv .u8) w p0_ c0_ x0) :
    Calls Tryz.prog 53 #[.slice p0_ x0.length c0_] w (fun e w'=>e=.returned (.tuple #[.agg (Cd.cs (QQ (Qv .u8) 32 (by decide)) r.1).toArray,.int .i64 r.2])∧Below w.heap.size w w'):=by
 unfold Qbf at hF
 refine ce (l:=[.slice p0_ x0.length c0_]) func53 rfl rfl ?_
 refine QN ?_
 refine sr ?_
 refine al (cs:=Cd.cs (QQ (Qv .u8) 32 (by decide)) zv4) zeroValue24 ?_
 intro b1
 refine aa (ns ?_)
 refine al (cs:=Cd.cs (QQ (Qv .u8) 32 (by decide)) zv4) zeroValue24 ?_
 intro b2
 refine nt (qs (sr (am ?_)))
 refine aw (QZ underlying85 rfl) ?_
 refine aw xl (nwq [8,4,2,0] ?_)
 obtain ⟨h3,hF⟩|⟨h3,hF⟩:=oi hF
 ·refine ct h3 ?_
  refine sr ?_
  refine aw (Qg (c:=(QQ (Qv .u8) 32 (by decide))) (z:=zv4) isAgg24 sizeOf24 rfl (Qp .z lw)) ?_
  refine Qn (c:=(QQ (Qv .u8) 32 (by decide))) (z:=zv4) (.s .z) lw sizeOf24 rfl rfl rfl ?_
  refine aa (qn (dz (wq [3,2] ?_)))
  refine tn (rt ?_)
  have K:=os hF
  subst K
  exact QU rfl (QE (c:=(QQ (Qv .u8) 32 (by decide))) (y:=zv4) rfl .z lw isAgg24 sizeOf24 (.inl rfl)) (QS rfl) wb
 refine cf h3 ?_
 refine sn (qs (sr (am ?_)))
 refine aw (QZ underlying85 rfl) ?_
 refine aw (QbI rfl rfl) ?_
 refine nwq [12,4,2,0] ?_
 obtain ⟨h4,hF⟩|⟨h4,hF⟩:=oi hF
 ·refine ct h4 ?_
  refine sr ?_
  refine aw (Qg (c:=(QQ (Qv .u8) 32 (by decide))) (z:=zv4) isAgg24 sizeOf24 rfl (Qp .z lw)) ?_
  refine Qn (c:=(QQ (Qv .u8) 32 (by decide))) (z:=zv4) (.s .z) lw sizeOf24 rfl rfl rfl ?_
  refine aa (qn (dz (wq [3,2] ?_)))
  refine tn (rt ?_)
  have K:=os hF
  subst K
  exact QU rfl (QE (c:=(QQ (Qv .u8) 32 (by decide))) (y:=zv4) rfl .z lw isAgg24 sizeOf24 (.inl rfl)) (QS rfl) wb
 refine cf h4 ?_
 refine sn (qs (sr (aa (nwq [5,4,2,0] ?_))))
 refine qb ?_
 obtain ⟨q5,hq5,hF⟩:=bM hF
 refine wq [5,4,2,0] ?_
 refine Qal (B:=0) (A:=fun Y=>At 25 [(2,.pointer (some ⟨b1,0,none⟩)),(4,.pointer (some ⟨b2,0,none⟩))] (Wd w [Qi b2 (Cd.cs (QQ (Qv .u8) 32 (by decide)) q5) 24,Qi b1 (Cd.cs (QQ (Qv .u8) 32 (by decide)) zv4) 24]) Y) ?_ ?_
 ·intro K
  refine Qbf.l0.partial_correctness x0 (motive:=fun i6 i7 x=>KN (fun Y=>At 25 [(2,.pointer (some ⟨b1,0,none⟩)),(4,.pointer (some ⟨b2,0,none⟩))] (Wd w [Qi b2 (Cd.cs (QQ (Qv .u8) 32 (by decide)) x) 24,Qi b1 (Cd.cs (QQ (Qv .u8) 32 (by decide)) zv4) 24]) Y) _ 0→QbB (fun Y=>At 25 [(0,.slice p0_ x0.length c0_),(2,.pointer (some ⟨b1,0,none⟩)),(4,.pointer (some ⟨b2,0,none⟩)),(5,.int .i64 i6)] (Wd w [Qi b2 (Cd.cs (QQ (Qv .u8) 32 (by decide)) i7) 24,Qi b1 (Cd.cs (QQ (Qv .u8) 32 (by decide)) zv4) 24]) Y) _ _ _) ?_ _ _ _ hq5 K
  ·clear K hF
   intro g ih i6 i7 x hF K
   refine QW ?_
   refine qs (sr (am (aw xl (nwq [15,5,4,2,0] ?_))))
   obtain ⟨h8,hF⟩|⟨h8,hF⟩:=oi hF
   ·refine ct h8 ?_
    refine sn (qs (qb (qr (am (am (am ?_))))))
    obtain ⟨h9,hF⟩:=gd hF
    obtain ⟨b11,o12,hp10⟩:=Qaa hr0 h9
    refine aw (QbD underlying85 sizeOf5 rfl rfl h9 hp10) ?_
    refine aw (Qe isAgg5 rfl (QP (fun _ h=>h.below) hr0 h9 hp10 rfl)) ?_
    obtain ⟨h13,hF⟩:=gd hF
    refine aw (Qas underlying24 sizeOf5 rfl rfl h13) ?_
    refine Qn (c:=(Qv .u8)) (z:=QO x0 i6) .z (Qaf.comp lw (fun z=>Qb2 i7 i6 z) (Qaf.vec (Qv .u8) (by decide) i7 i6 h13)) sizeOf5 rfl rfl rfl ?_
    refine qn (wq [5,4,2,0] ?_)
    refine bm ?_
    refine qr (am (aw xa (aa (nwq [5,4,2,0] ?_))))
    exact Qk (ih _ _ _ hF K) ⟨rfl,rfl,rfl,rfl,trivial⟩
   refine cf h8 ?_
   refine Q7 ?_
   refine te (te ?_)
   obtain rfl:=os hF
   exact Qk K ⟨rfl,rfl,trivial⟩
 skip
 skip
 refine QD ?_
 refine tn (sr ?_)
 refine aw (Qg (c:=(QQ (Qv .u8) 32 (by decide))) (z:=q5) isAgg24 sizeOf24 rfl (Qp .z lw)) ?_
 refine Qn (c:=(QQ (Qv .u8) 32 (by decide))) (z:=q5) (.s .z) lw sizeOf24 rfl rfl rfl ?_
 refine aa (qn (dz (wq [3,2] ?_)))
 refine tn (qt ?_)
 have K:=os hF
 subst K
 exact QU rfl (QE (c:=(QQ (Qv .u8) 32 (by decide))) (y:=q5) rfl .z lw isAgg24 sizeOf24 (.inl rfl)) (QS rfl) wb
def Qb8(x0:ByteArray):Option ((Vector Int 32)×Int) :=
 Qy x0>>=fun t2=>if (t2.2 != 0)=true then (some ((Vector.replicate 32 (0:Int):(Vector Int 32)),t2.2)) else (Qbf t2.1>>=fun t6=>some (t6.1,t6.2))
theorem Qdy(x0:ByteArray)(r:(Vector Int 32)×Int)(hF:Qb8 x0=some r)(w:World) :
    Calls Tryz.prog 20 #[.string x0] w (fun e w'=>e=.returned (.tuple #[.agg (Cd.cs (QQ (Qv .u8) 32 (by decide)) r.1).toArray,.int .i64 r.2])∧Below w.heap.size w w'):=by
 unfold Qb8 at hF
 refine ce (l:=[.string x0]) func20 rfl rfl ?_
 refine QN ?_
 refine sr ?_
 refine al (cs:=Cd.cs (QQ (Qv .u8) 32 (by decide)) zv4) zeroValue24 ?_
 intro b1
 refine aa (ns (am ?_))
 obtain ⟨t2,ht2,hF⟩:=bM hF
 refine QbU (c:=(Qv .u8)) (e:=5) (ys:=t2.1) (V:=fun p cap=>.tuple #[.slice p t2.1.length cap,.int .i64 t2.2]) func52 rfl (by kernel_rfl) rfl rfl (fun w hw=>Qgf _ _ ht2 w) ?_
 intro p3 c4
 refine am ?_
 refine aw xe (aw xe (aa (aa (nt (qs (sr (am (aw xn ?_))))))))
 refine nwq [12,5,4,2] ?_
 obtain ⟨h5,hF⟩|⟨h5,hF⟩:=oi hF
 ·refine ct h5 ?_
  refine sr ?_
  refine aw (Qb3 (zs:=Cd.cs (QQ (Qv .u8) 32 (by decide)) zv4) (cs:=Cd.cs (QQ (Qv .u8) 32 (by decide)) zv4) underlying24 zeroValue24 rfl sizeOf5 rfl rfl) ?_
  refine am ?_
  refine Qn (c:=(QQ (Qv .u8) 32 (by decide))) (z:=zv4) (.s .z) lw sizeOf24 rfl rfl rfl ?_
  refine aa (qn (dz (wq [3,2] ?_)))
  refine tn (rt ?_)
  have K:=os hF
  subst K
  exact QU rfl (QE (c:=(QQ (Qv .u8) 32 (by decide))) (y:=zv4) rfl .z lw isAgg24 sizeOf24 (.inl rfl)) (QS rfl) wb
 refine cf h5 ?_
 refine sns (am ?_)
 obtain ⟨t6,ht6,hF⟩:=bM hF
 refine cB func53 rfl (fun w hw=>QhN _ _ _ _ ht6 w (hw.own .z).row) ?_
 refine aw xe (aw xe ?_)
 refine Qn (c:=(QQ (Qv .u8) 32 (by decide))) (z:=t6.1) (.s .z) lw sizeOf24 rfl rfl rfl ?_
 refine aa (qn (dz (wq [3,2] ?_)))
 refine tn (qt ?_)
 have K:=os hF
 subst K
 exact QU rfl (QE (c:=(QQ (Qv .u8) 32 (by decide))) (y:=t6.1) rfl .z lw isAgg24 sizeOf24 (.inl rfl)) (QS rfl) wb
end Go.Proofs.YtnekckhjmnhinaaGreatDoor
namespace Go.Proofs.YtnekckhjmnhinaaGreatDoor
open E Go.RowKit _root_.Go.Proofs.Tryz
def Qes(x0:(Vector Int 4)):Option (Qj) :=
 some ({ { ({ f_V:=(0:Int),f_B:=(Vector.replicate 16 (0:Int):(Vector Int 16)) }:Qj) with f_V:=4 } with f_B:=QdW (({ ({ f_V:=(0:Int),f_B:=(Vector.replicate 16 (0:Int):(Vector Int 16)) }:Qj) with f_V:=4 }).f_B) (Int.toNat 0) (List.take (Int.toNat (16-0)) (Vector.toList x0)) })
set_option maxHeartbeats 3200000 in
theorem Qi7(x0:(Vector Int 4))(r:Qj)(hF:Qes x0=some r)(w:World) :
    Calls Tryz.prog 125 #[.agg (Cd.cs (QQ (Qv .u8) 4 (by decide)) x0).toArray] w (fun e w'=>e=.returned (.agg (Cd.cs Qd r).toArray)∧Below w.heap.size w w'):=by
 unfold Qes at hF
 refine ce (l:=[.agg (Cd.cs (QQ (Qv .u8) 4 (by decide)) x0).toArray]) func125 rfl rfl ?_
 refine QN ?_
 refine sr ?_
 refine Qbv (cs:=Cd.cs (QQ (Qv .u8) 4 (by decide)) x0) rfl rfl rfl ?_
 intro b1
 refine al (cs:=Cd.cs Qd zv2) zeroValue55 ?_
 intro b2
 refine ns ?_
 refine aw (Qw (zs:=Cd.cs Qd zv2) (cs:=Cd.cs Qd ({ zv2 with f_V:=4 })) underlying55 zeroValue55 rfl (Qbt) rfl (QaB (c:=(Qv .i64)) (z:=4) rfl (Q5 zv2) rfl rfl)) ?_
 refine al (cs:=Cd.cs Qd zv2) zeroValue55 ?_
 intro b3
 refine Qn (c:=Qd) (z:={ zv2 with f_V:=4 }) .z lw sizeOf55 rfl rfl rfl ?_
 refine nt (qs (wq [3,2,1] ?_))
 refine Qey [.q 5 (fun g4=>.pointer (some ⟨b3,0+1,none⟩)) [] 0 0,.q 6 (fun g4=>.slice (some ⟨b3,0+1,none⟩) (Vector.toList (({ zv2 with f_V:=4 }).f_B)).length 16) [0] 0 0,.q 7 (fun g4=>.slice (some ⟨b1,0,none⟩) (Vector.toList x0).length 4) [] 0 0,.st 0 (some (8,fun g4=>.int .i64 (min (List.length (Vector.toList x0)) (Int.toNat (16-0)):Nat))) [1,2]] (fun g4 s=>match s with | 0=>(Wd w [Qi b3 (Cd.cs Qd ({ zv2 with f_V:=4 })) 55,Qi b2 (Cd.cs Qd zv2) 55,Qi b1 (Cd.cs (QQ (Qv .u8) 4 (by decide)) x0) 143]) | _=>(Wd w [Qi b3 (Cd.cs Qd ({ { zv2 with f_V:=4 } with f_B:=QdW (({ zv2 with f_V:=4 }).f_B) (Int.toNat 0) (List.take (Int.toNat (16-0)) (Vector.toList x0)) })) 55,Qi b2 (Cd.cs Qd zv2) 55,Qi b1 (Cd.cs (QQ (Qv .u8) 4 (by decide)) x0) 143])) 1 (by kernel_rfl) (by kernel_rfl) (by kernel_rfl) (by kernel_rfl) (by kernel_rfl) ⟨fun _ _ _=>rfl,fun _ _ _=>rfl,fun _ _ _=>rfl,fun _ _ _=>rfl,trivial⟩ (by kernel_rfl) (fun w_ h=>⟨fun _=>g3 0 none 0 none w_,h.drew⟩) ⟨?_,?_,?_,?_,trivial⟩ ?_
 ·intro Lx g4 s K hl hh k
  show At 10 ((1,_)::(2,_)::(3,_)::Lx) _ _
  refine fa 1 underlying55 rfl sizeOf53 ?_
  exact Qs k
 ·intro Lx g4 s K hl hh k
  show At 10 ((5,_)::(1,_)::(2,_)::(3,_)::Lx) _ _
  obtain rfl:s=0:=by omega
  refine aw (QiD (c:=(Qv .u8)) (({ zv2 with f_V:=4 }).f_B) (by decide) underlying53 sizeOf5 rfl) ?_
  exact Qs k
 ·intro Lx g4 s K hl hh k
  show At 10 ((1,_)::(2,_)::(3,_)::Lx) _ _
  obtain rfl:s=0:=by omega
  refine aw (Qfk x0 underlying143 sizeOf5 rfl) ?_
  exact Qs k
 ·intro Lx g4 K k
  show At 10 ((6,_)::(7,_)::(1,_)::(2,_)::(3,_)::Lx) _ _
  refine QnT (lo:=0) (hi:=16) (xs:=Vector.toList x0) .z (Qaf.comp lw (fun z=>{ { zv2 with f_V:=4 } with f_B:=z }) (Q1 ({ zv2 with f_V:=4 }))) rfl (by decide) underlying85 (by kernel_rfl) rfl (Qn9 (by decide)) (by simp) rfl ⟨_,rfl⟩ (fun w1 hw=>(Qlb (hw.ok (Upd.mem (.s (.s .z)))))) rfl ?_
  exact Qs k
 intro g4
 show At 10 [(5,_),(6,_),(7,_),(8,_),(1,_),(2,_),(3,_)] _ _
 refine Qam (H:=_) (.s (.s .z)) ?_
 refine tn (sr ?_)
 refine aw (Qg (c:=Qd) (z:={ { zv2 with f_V:=4 } with f_B:=QdW (({ zv2 with f_V:=4 }).f_B) (Int.toNat 0) (List.take (Int.toNat (16-0)) (Vector.toList x0)) }) isAgg55 sizeOf55 rfl (Qp .z lw)) ?_
 refine Qn (c:=Qd) (z:={ { zv2 with f_V:=4 } with f_B:=QdW (({ zv2 with f_V:=4 }).f_B) (Int.toNat 0) (List.take (Int.toNat (16-0)) (Vector.toList x0)) }) (.s .z) lw sizeOf55 rfl rfl rfl ?_
 refine qn (dz (wq [2] ?_))
 refine tn (qt ?_)
 have K:=os hF
 subst K
 exact Qd9 rfl (QE (c:=Qd) (y:={ { zv2 with f_V:=4 } with f_B:=QdW (({ zv2 with f_V:=4 }).f_B) (Int.toNat 0) (List.take (Int.toNat (16-0)) (Vector.toList x0)) }) rfl .z lw isAgg55 sizeOf55 (.inl rfl)) wb
def Qiq(x0:(Vector Int 16)):Option (Qj) :=
 some ({ { ({ f_V:=(0:Int),f_B:=(Vector.replicate 16 (0:Int):(Vector Int 16)) }:Qj) with f_V:=6 } with f_B:=x0 })
theorem QnY(x0:(Vector Int 16))(r:Qj)(hF:Qiq x0=some r)(w:World) :
    Calls Tryz.prog 154 #[.agg (Cd.cs (QQ (Qv .u8) 16 (by decide)) x0).toArray] w (fun e w'=>e=.returned (.agg (Cd.cs Qd r).toArray)∧Below w.heap.size w w'):=by
 unfold Qiq at hF
 refine ce (l:=[.agg (Cd.cs (QQ (Qv .u8) 16 (by decide)) x0).toArray]) func154 rfl rfl ?_
 refine QN ?_
 refine sr ?_
 refine Qbv (cs:=Cd.cs (QQ (Qv .u8) 16 (by decide)) x0) rfl rfl rfl ?_
 intro b1
 refine al (cs:=Cd.cs Qd zv2) zeroValue55 ?_
 intro b2
 refine ns ?_
 refine aw (Qg (c:=(QQ (Qv .u8) 16 (by decide))) (z:=x0) isAgg53 sizeOf53 rfl (Qp (.s .z) lw)) ?_
 refine aw (Qw (zs:=Cd.cs Qd zv2) (cs:=Cd.cs Qd ({ { zv2 with f_V:=6 } with f_B:=x0 })) underlying55 zeroValue55 rfl (Qbt) rfl (QaB (c:=(Qv .i64)) (z:=6) rfl (Q5 zv2) rfl (QaB (c:=(QQ (Qv .u8) 16 (by decide))) (z:=x0) rfl (Q1 ({ zv2 with f_V:=6 })) rfl rfl))) ?_
 refine Qn (c:=Qd) (z:={ { zv2 with f_V:=6 } with f_B:=x0 }) .z lw sizeOf55 rfl rfl rfl ?_
 refine qn ?_
 refine Qam (H:=_) (.s .z) ?_
 refine wq [2] ?_
 refine tn (qt ?_)
 have K:=os hF
 subst K
 exact Qd9 rfl (QE (c:=Qd) (y:={ { zv2 with f_V:=6 } with f_B:=x0 }) rfl .z lw isAgg55 sizeOf55 (.inl rfl)) wb
def Qdw(x0:Qj):Option (Bool) :=
 if (x0.f_V==6)=true then (some true) else (if (x0.f_V==4)=true then (if 4≤(QdS (Vector.toList x0.f_B) 0 4).length then Qes (Qjc 4 (QdS (Vector.toList x0.f_B) 0 4))>>=fun t8=>some (decide (x0=t8)) else none) else (some false))
theorem Qer(x0:Qj)(r:Bool)(hF:Qdw x0=some r)(w:World) :
    Calls Tryz.prog 92 #[.agg (Cd.cs Qd x0).toArray] w (fun e w'=>e=.returned (.bool r)∧Below w.heap.size w w'):=by
 unfold Qdw at hF
 refine ce (l:=[.agg (Cd.cs Qd x0).toArray]) func92 rfl rfl ?_
 refine QN ?_
 refine sr ?_
 refine Qbv (cs:=Cd.cs Qd x0) rfl rfl rfl ?_
 intro b1
 refine aa (nwq [1] ?_)
 refine qs ?_
 refine Qdd (by kernel_rfl) (by kernel_rfl) (fun _ h=>h.drew) ?_
 refine Ql rfl rfl rfl (Q4 (fo:=0) underlying55 rfl rfl (fun w=>⟨_,sizeOf3 w⟩) rfl) ?_
 refine Ql rfl rfl rfl (Qe isAgg3 rfl (Qm (c:=(Qv .i64)) (y:=x0.f_V) .z (Qaf.comp lw (fun z=>{ x0 with f_V:=z }) (Q5 x0)) rfl)) ?_
 refine Ql rfl rfl rfl (QqA rfl rfl) ?_
 refine Ql rfl rfl rfl (Qbz rfl) ?_
 obtain ⟨h2,hF⟩|⟨h2,hF⟩:=oi hF
 ·refine QdV (g:=6) rfl h2 ?_
  refine QJ rfl rfl rfl rfl rfl ?_
  refine QJ rfl rfl rfl rfl rfl ?_
  refine QJ rfl rfl rfl rfl rfl ?_
  refine QJ rfl rfl rfl rfl rfl ?_
  refine Qad rfl rfl rfl rfl ?_
  refine Qad rfl rfl rfl rfl ?_
  refine Qad rfl rfl rfl rfl ?_
  refine Qad rfl rfl rfl rfl ?_
  refine Qad rfl rfl rfl rfl ?_
  refine Qad rfl rfl rfl rfl ?_
  refine Qad rfl rfl rfl rfl ?_
  refine QJ rfl rfl rfl rfl rfl ?_
  refine Ql rfl rfl rfl (QdZ rfl rfl rfl) ?_
  refine Ql rfl rfl rfl (Qcf rfl) ?_
  refine Qck ?_
  refine dz (wq [2] ?_)
  refine tn (qt ?_)
  have K:=os hF
  subst K
  exact r1 wb
 refine QdV (g:=6) rfl h2 ?_
 refine QI rfl rfl rfl ?_
 refine Ql rfl rfl rfl (Q4 (fo:=0) underlying55 rfl rfl (fun w=>⟨_,sizeOf3 w⟩) rfl) ?_
 refine QI rfl rfl rfl ?_
 refine Ql rfl rfl rfl (Qe isAgg3 rfl (Qm (c:=(Qv .i64)) (y:=x0.f_V) .z (Qaf.comp lw (fun z=>{ x0 with f_V:=z }) (Q5 x0)) rfl)) ?_
 refine QI rfl rfl rfl ?_
 refine Ql rfl rfl rfl (QqA rfl rfl) ?_
 refine QI rfl rfl rfl ?_
 refine Ql rfl rfl rfl (Qbz rfl) ?_
 obtain ⟨h3,hF⟩|⟨h3,hF⟩:=oi hF
 ·refine QdV (g:=10) rfl h3 ?_
  refine QI rfl rfl rfl ?_
  refine Ql rfl rfl rfl (Qg (c:=Qd) (z:=x0) isAgg55 sizeOf55 rfl (Qp .z lw)) ?_
  refine QI rfl rfl rfl ?_
  refine Ql rfl rfl rfl (Q4 (fo:=1) underlying55 rfl rfl (fun w=>⟨_,sizeOf53 w⟩) rfl) ?_
  refine QI rfl rfl rfl ?_
  refine Ql rfl rfl rfl (QiV (c:=(Qv .u8)) (v:=x0.f_B) (l:=0) (h:=4) underlying53 sizeOf5 rfl rfl ⟨_,rfl⟩ (by decide)) ?_
  refine QI rfl rfl rfl ?_
  obtain ⟨h4,hF⟩:=gd hF
  refine Ql rfl rfl rfl (Qln underlying143 rfl h4) ?_
  refine QI rfl rfl rfl ?_
  obtain ⟨b5,o6,hp7⟩:∃ b o,rsp (some ⟨b1,0+1,none⟩) 16 0 (Cd.sz (Qv .u8))=some ⟨b,o,none⟩:=Qmg
  refine Ql rfl rfl rfl (Qg (c:=(QQ (Qv .u8) 4 (by decide))) (z:=Qjc 4 (QdS (Vector.toList x0.f_B) 0 4)) isAgg143 sizeOf143 (by rw [←hp7];rfl) (fun w1 hw=>Qlh (Row.sub (Qe7 .z (Qaf.comp lw (fun z=>{ x0 with f_B:=z }) (Q1 x0)) hw) (Qr9 (by decide))) h4 hp7)) ?_
  refine QI rfl rfl rfl ?_
  obtain ⟨t8,ht8,hF⟩:=bM hF
  refine Qbl func125 rfl (by kernel_rfl) rfl rfl (fun w hw=>(Qi7 _ _ ht8 w).mono fun _ _ h=>⟨h.1,hw.call h.2⟩) ?_
  refine QI rfl rfl rfl ?_
  refine Ql rfl rfl rfl (QdR (c:=Qd) (a:=x0) (b:=t8) (Qdu) rfl Tryz.eqGuardType55 rfl rfl (.inl rfl) rfl) ?_
  refine QI rfl rfl rfl ?_
  refine Ql rfl rfl rfl (QdZ rfl rfl rfl) ?_
  refine Ql rfl rfl rfl (QdZ rfl rfl rfl) ?_
  refine Ql rfl rfl rfl (Qcf rfl) ?_
  refine Qck ?_
  refine dz (wq [2] ?_)
  refine tn (qt ?_)
  have K:=os hF
  subst K
  exact r1 wb
 refine QdV (g:=10) rfl h3 ?_
 refine QJ rfl rfl rfl rfl rfl ?_
 refine QJ rfl rfl rfl rfl rfl ?_
 refine QJ rfl rfl rfl rfl rfl ?_
 refine QJ rfl rfl rfl rfl rfl ?_
 refine QJ rfl rfl rfl rfl rfl ?_
 refine QJ rfl rfl rfl rfl rfl ?_
 refine QJ rfl rfl rfl rfl rfl ?_
 refine QI rfl rfl rfl ?_
 refine Ql rfl rfl rfl (QdZ rfl rfl rfl) ?_
 refine Ql rfl rfl rfl (QdZ rfl rfl rfl) ?_
 refine Ql rfl rfl rfl (Qcf rfl) ?_
 refine Qck ?_
 refine dz (wq [2] ?_)
 refine tn (qt ?_)
 have K:=os hF
 subst K
 exact r1 wb
def Qdv(x0:Qj):Option (Int) :=
 Qdw x0>>=fun t2=>if (!t2)=true then (some 0) else (if (x0.f_V==4)=true then (some 32) else (some 128))
theorem Qeq(x0:Qj)(r:Int)(hF:Qdv x0=some r)(w:World) :
    Calls Tryz.prog 97 #[.agg (Cd.cs Qd x0).toArray] w (fun e w'=>e=.returned (.int .i64 r)∧Below w.heap.size w w'):=by
 unfold Qdv at hF
 refine ce (l:=[.agg (Cd.cs Qd x0).toArray]) func97 rfl rfl ?_
 refine QN ?_
 refine sr ?_
 refine Qbv (cs:=Cd.cs Qd x0) rfl rfl rfl ?_
 intro b1
 refine aa (nwq [1] ?_)
 refine qs (qb (sr ?_))
 refine aw (Qg (c:=Qd) (z:=x0) isAgg55 sizeOf55 rfl (Qp .z lw)) ?_
 obtain ⟨t2,ht2,hF⟩:=bM hF
 refine cB func92 rfl (fun w hw=>Qer _ _ ht2 w) ?_
 refine aw (Qcq rfl) ?_
 refine aa (nwq [3,1] ?_)
 obtain ⟨h3,hF⟩|⟨h3,hF⟩:=oi hF
 ·refine ct h3 ?_
  refine sr (aa (qn (dz (wq [2] ?_))))
  refine tn (qt ?_)
  refine br (tr ?_)
  have K:=os hF
  subst K
  exact r1 wb
 refine cf h3 ?_
 refine sr (fa 0 underlying55 rfl sizeOf3 ?_)
 refine aw (Qe isAgg3 rfl (Qm (c:=(Qv .i64)) (y:=x0.f_V) .z (Qaf.comp lw (fun z=>{ x0 with f_V:=z }) (Q5 x0)) rfl)) ?_
 refine aw xq (aa (qn (dz (wq [7] ?_))))
 refine tn ?_
 obtain ⟨h4,hF⟩|⟨h4,hF⟩:=oi hF
 ·refine ct h4 ?_
  refine sr (aa (nwq [2] ?_))
  refine qt ?_
  refine br (tr ?_)
  have K:=os hF
  subst K
  exact r1 wb
 refine cf h4 ?_
 refine QbQ ?_
 refine bm ?_
 refine sr (aa (nwq [2] ?_))
 refine qt ?_
 have K:=os hF
 subst K
 exact r1 wb
def Qd3(x0:Qj):Option (ByteArray) :=
 Qdw x0>>=fun t2=>if (!t2)=true then (some (⟨#[]⟩)) else (if (x0.f_V==4)=true then (if 4≤(QdS (Vector.toList x0.f_B) 0 4).length then Qdi (Qjc 4 (QdS (Vector.toList x0.f_B) 0 4))>>=fun t9=>some t9 else none) else (Qfd x0.f_B>>=fun t10=>some t10))
theorem Qg2(x0:Qj)(r:ByteArray)(hF:Qd3 x0=some r)(w:World)(hg_strconv_uint64pow10:GV_strconv_uint64pow10 w) :
    Calls Tryz.prog 98 #[.agg (Cd.cs Qd x0).toArray] w (fun e w'=>e=.returned (.string r)∧Below w.heap.size w w'):=by
 unfold Qd3 at hF
 refine ce (l:=[.agg (Cd.cs Qd x0).toArray]) func98 rfl rfl ?_
 refine QN ?_
 refine sr ?_
 refine Qbv (cs:=Cd.cs Qd x0) rfl rfl rfl ?_
 intro b1
 refine aa (nwq [1] ?_)
 refine qs (qb (sr ?_))
 refine aw (Qg (c:=Qd) (z:=x0) isAgg55 sizeOf55 rfl (Qp .z lw)) ?_
 obtain ⟨t2,ht2,hF⟩:=bM hF
 refine cB func92 rfl (fun w hw=>Qer _ _ ht2 w) ?_
 refine aw (Qcq rfl) ?_
 refine aa (nwq [3,1] ?_)
 obtain ⟨h3,hF⟩|⟨h3,hF⟩:=oi hF
 ·refine ct h3 ?_
  refine sr (aa (qn (dz (wq [2] ?_))))
  refine tn (qt ?_)
  refine br (tr ?_)
  have K:=os hF
  subst K
  exact r1 wb
 refine cf h3 ?_
 refine sr (fa 0 underlying55 rfl sizeOf3 ?_)
 refine aw (Qe isAgg3 rfl (Qm (c:=(Qv .i64)) (y:=x0.f_V) .z (Qaf.comp lw (fun z=>{ x0 with f_V:=z }) (Q5 x0)) rfl)) ?_
 refine aw xq (aa (nwq [7,1] ?_))
 obtain ⟨h4,hF⟩|⟨h4,hF⟩:=oi hF
 ·refine ct h4 ?_
  refine sr (fa 1 underlying55 rfl sizeOf53 ?_)
  refine aw (QiV (c:=(Qv .u8)) (v:=x0.f_B) (l:=0) (h:=4) underlying53 sizeOf5 rfl rfl ⟨_,rfl⟩ (by decide)) ?_
  obtain ⟨h5,hF⟩:=gd hF
  refine aw (Qln underlying143 rfl h5) ?_
  obtain ⟨b6,o7,hp8⟩:∃ b o,rsp (some ⟨b1,0+1,none⟩) 16 0 (Cd.sz (Qv .u8))=some ⟨b,o,none⟩:=Qmg
  refine aw (Qg (c:=(QQ (Qv .u8) 4 (by decide))) (z:=Qjc 4 (QdS (Vector.toList x0.f_B) 0 4)) isAgg143 sizeOf143 (by rw [←hp8];rfl) (fun w1 hw=>Qlh (Row.sub (Qe7 .z (Qaf.comp lw (fun z=>{ x0 with f_B:=z }) (Q1 x0)) hw) (Qr9 (by decide))) h5 hp8)) ?_
  obtain ⟨t9,ht9,hF⟩:=bM hF
  refine cB func131 rfl (fun w hw=>Qmx _ _ ht9 w (hg_strconv_uint64pow10.on hw.below)) ?_
  refine aa (qn (dz (wq [2] ?_)))
  refine tn (qt ?_)
  refine br (tr ?_)
  have K:=os hF
  subst K
  exact r1 wb
 refine cf h4 ?_
 refine QbQ ?_
 refine bm ?_
 refine sr (fa 1 underlying55 rfl sizeOf53 ?_)
 refine aw (Qg (c:=(QQ (Qv .u8) 16 (by decide))) (z:=x0.f_B) isAgg53 sizeOf53 rfl (Qp .z (Qaf.comp lw (fun z=>{ x0 with f_B:=z }) (Q1 x0)))) ?_
 obtain ⟨t10,ht10,hF⟩:=bM hF
 refine cB func132 rfl (fun w hw=>QlS _ _ ht10 w) ?_
 refine aa (qn (dz (wq [2] ?_)))
 refine tn (qt ?_)
 have K:=os hF
 subst K
 exact r1 wb
def Qee(x0:ByteArray):Option (Qj×Int) :=
 QcV x0 58>>=fun t2=>if t2.2.2=true then (Qcj x0>>=fun t4=>if (t4.2 != 0)=true then (some (({ f_V:=(0:Int),f_B:=(Vector.replicate 16 (0:Int):(Vector Int 16)) }:Qj),t4.2)) else (Qiq t4.1>>=fun t7=>some (t7,0))) else (QcQ x0>>=fun t8=>if (t8.2 != 0)=true then (some (({ f_V:=(0:Int),f_B:=(Vector.replicate 16 (0:Int):(Vector Int 16)) }:Qj),t8.2)) else (Qes t8.1>>=fun t11=>some (t11,0)))
theorem Qir(x0:ByteArray)(r:Qj×Int)(hF:Qee x0=some r)(w:World)(hg_strconv_ErrRange:GV_strconv_ErrRange w)(hg_strconv_ErrSyntax:GV_strconv_ErrSyntax w) :
    Calls Tryz.prog 118 #[.string x0] w (fun e w'=>e=.returned (.tuple #[.agg (Cd.cs Qd r.1).toArray,.int .i64 r.2])∧Below w.heap.size w w'):=by
 unfold Qee at hF
 refine ce (l:=[.string x0]) func118 rfl rfl ?_
 refine QN ?_
 refine sr ?_
 refine al (cs:=Cd.cs Qd zv2) zeroValue55 ?_
 intro b1
 refine aa (nt (qs (sr (am ?_))))
 obtain ⟨t2,ht2,hF⟩:=bM hF
 refine cB func148 rfl (fun w hw=>Qeb _ _ _ ht2 w) ?_
 refine am ?_
 refine aw xe (aw xe (aw xe (aa (aa (aa (ns (am (nwq [17,2,0] ?_))))))))
 obtain ⟨h3,hF⟩|⟨h3,hF⟩:=oi hF
 ·refine ct h3 ?_
  refine sr (am ?_)
  obtain ⟨t4,ht4,hF⟩:=bM hF
  refine cB func153 rfl (fun w hw=>QkC _ _ ht4 w (hg_strconv_ErrRange.on hw.below) (hg_strconv_ErrSyntax.on hw.below)) ?_
  refine am ?_
  refine aw xe (aw xe ?_)
  refine al (cs:=Cd.cs (QQ (Qv .u8) 16 (by decide)) zv3) zeroValue53 ?_
  intro b5
  refine Qn (c:=(QQ (Qv .u8) 16 (by decide))) (z:=t4.1) .z lw sizeOf53 rfl rfl rfl ?_
  refine aa (nt (qs (sr (am (aw xn (nwq [24,8,7,2] ?_))))))
  obtain ⟨h6,hF⟩|⟨h6,hF⟩:=oi hF
  ·refine ct h6 ?_
   refine sr ?_
   refine aw (Qw (zs:=Cd.cs Qd zv2) (cs:=Cd.cs Qd zv2) underlying55 zeroValue55 rfl (Qbt) rfl rfl) ?_
   refine am ?_
   refine Qn (c:=Qd) (z:=zv2) (.s .z) lw sizeOf55 rfl rfl rfl ?_
   refine aa (qn (dz (wq [3,2] ?_)))
   refine tn (qt ?_)
   refine tr (tr ?_)
   have K:=os hF
   subst K
   exact QU rfl (QE (c:=Qd) (y:=zv2) rfl .z lw isAgg55 sizeOf55 (.inl rfl)) (QS rfl) wb
  refine cf h6 ?_
  refine sns ?_
  refine aw (Qg (c:=(QQ (Qv .u8) 16 (by decide))) (z:=t4.1) isAgg53 sizeOf53 rfl (Qp .z lw)) ?_
  obtain ⟨t7,ht7,hF⟩:=bM hF
  refine cB func154 rfl (fun w hw=>QnY _ _ ht7 w) ?_
  refine Qn (c:=Qd) (z:=t7) (.s .z) lw sizeOf55 rfl rfl rfl ?_
  refine aa (qn (dz (wq [3,2] ?_)))
  refine tn (rt ?_)
  have K:=os hF
  subst K
  exact QU rfl (QE (c:=Qd) (y:=t7) rfl .z lw isAgg55 sizeOf55 (.inl rfl)) (QS rfl) wb
 refine cf h3 ?_
 refine sns (am ?_)
 obtain ⟨t8,ht8,hF⟩:=bM hF
 refine cB func155 rfl (fun w hw=>QhZ _ _ ht8 w (hg_strconv_ErrRange.on hw.below) (hg_strconv_ErrSyntax.on hw.below)) ?_
 refine am ?_
 refine aw xe (aw xe ?_)
 refine al (cs:=Cd.cs (QQ (Qv .u8) 4 (by decide)) zv5) zeroValue143 ?_
 intro b9
 refine Qn (c:=(QQ (Qv .u8) 4 (by decide))) (z:=t8.1) .z lw sizeOf143 rfl rfl rfl ?_
 refine aa (nt (qs (sr (am (aw xn (nwq [35,10,9,2] ?_))))))
 obtain ⟨h10,hF⟩|⟨h10,hF⟩:=oi hF
 ·refine ct h10 ?_
  refine sr ?_
  refine aw (Qw (zs:=Cd.cs Qd zv2) (cs:=Cd.cs Qd zv2) underlying55 zeroValue55 rfl (Qbt) rfl rfl) ?_
  refine am ?_
  refine Qn (c:=Qd) (z:=zv2) (.s .z) lw sizeOf55 rfl rfl rfl ?_
  refine aa (qn (dz (wq [3,2] ?_)))
  refine tn (rt ?_)
  have K:=os hF
  subst K
  exact QU rfl (QE (c:=Qd) (y:=zv2) rfl .z lw isAgg55 sizeOf55 (.inl rfl)) (QS rfl) wb
 refine cf h10 ?_
 refine sns ?_
 refine aw (Qg (c:=(QQ (Qv .u8) 4 (by decide))) (z:=t8.1) isAgg143 sizeOf143 rfl (Qp .z lw)) ?_
 obtain ⟨t11,ht11,hF⟩:=bM hF
 refine cB func125 rfl (fun w hw=>Qi7 _ _ ht11 w) ?_
 refine Qn (c:=Qd) (z:=t11) (.s .z) lw sizeOf55 rfl rfl rfl ?_
 refine aa (qn (dz (wq [3,2] ?_)))
 refine tn (qt ?_)
 have K:=os hF
 subst K
 exact QU rfl (QE (c:=Qd) (y:=t11) rfl .z lw isAgg55 sizeOf55 (.inl rfl)) (QS rfl) wb
def Q8.l0(x0:Qj)(i4:Int):Option (Ctl (Bool) (Unit)) :=
 if (decide (i4<16))=true then (if (0:Int)≤i4∧i4<16 then if (Qbb x0.f_B i4 != 0)=true then (some (.ret false)) else (Q8.l0 x0 (wr .i64 (i4+1))) else none) else (some (.nx ()))
 partial_fixpoint
def Q8(x0:Qj):Option (Bool) :=
 if (x0.f_V==6)=true then (some true) else (Q8.l0 x0 4>>=fun q3=>match q3 with | .ret r'=>some r' | .nx sq3=>(some (x0.f_V==4)))
theorem QbZ(x0:Qj)(r:Bool)(hF:Q8 x0=some r)(w:World) :
    Calls Tryz.prog 72 #[.agg (Cd.cs Qd x0).toArray] w (fun e w'=>e=.returned (.bool r)∧Below w.heap.size w w'):=by
 unfold Q8 at hF
 refine ce (l:=[.agg (Cd.cs Qd x0).toArray]) func72 rfl rfl ?_
 refine QN ?_
 refine sr ?_
 refine Qbv (cs:=Cd.cs Qd x0) rfl rfl rfl ?_
 intro b1
 refine aa (nt (qs (sr (fa 0 underlying55 rfl sizeOf3 ?_))))
 refine aw (Qe isAgg3 rfl (Qm (c:=(Qv .i64)) (y:=x0.f_V) .z (Qaf.comp lw (fun z=>{ x0 with f_V:=z }) (Q5 x0)) rfl)) ?_
 refine aw xq (nwq [6,1] ?_)
 obtain ⟨h2,hF⟩|⟨h2,hF⟩:=oi hF
 ·refine ct h2 ?_
  refine sr (aa (qn (dz (wq [2] ?_))))
  refine tn (rt ?_)
  have K:=os hF
  subst K
  exact r1 wb
 refine cf h2 ?_
 refine sn (qs (sr (aa (nwq [3,1] ?_))))
 refine qb ?_
 obtain ⟨q3,hq3,hF⟩:=bM hF
 refine wq [3,1] ?_
 refine Qbn (B:=0) (r:=r) (q:=q3) (A:=fun (_:Unit) Y=>At 19 [(1,.pointer (some ⟨b1,0,none⟩))] (Wd w [Qi b1 (Cd.cs Qd x0) 55]) Y) ?_ ?_
 ·intro K
  refine Q8.l0.partial_correctness x0 (motive:=fun i4 x=>KR (fun (_:Unit) Y=>At 19 [(1,.pointer (some ⟨b1,0,none⟩))] (Wd w [Qi b1 (Cd.cs Qd x0) 55]) Y) _ 0 r x→QbB (fun Y=>At 19 [(1,.pointer (some ⟨b1,0,none⟩)),(3,.int .i64 i4)] (Wd w [Qi b1 (Cd.cs Qd x0) 55]) Y) _ _ _) ?_ _ _ hq3 K
  ·clear K hF
   intro g ih i4 x hF K
   refine QW ?_
   refine qs (sr (am (aw xl (nwq [8,3,1] ?_))))
   obtain ⟨h5,hF⟩|⟨h5,hF⟩:=oi hF
   ·refine ct h5 ?_
    refine sn (qs (qb (sr (am (fa 1 underlying55 rfl sizeOf53 ?_)))))
    obtain ⟨h6,hF⟩:=gd hF
    refine aw (Qas underlying53 sizeOf5 rfl rfl h6) ?_
    refine aw (Qe isAgg5 rfl (Qm (c:=(Qv .u8)) (y:=Qbb x0.f_B i4) .z (Qaf.comp (Qaf.comp lw (fun z=>{ x0 with f_B:=z }) (Q1 x0)) (fun z=>Qb2 x0.f_B i4 z) (Qaf.vec (Qv .u8) (by decide) x0.f_B i4 h6)) rfl)) ?_
    refine aw xn (nwq [15,3,1] ?_)
    obtain ⟨h7,hF⟩|⟨h7,hF⟩:=oi hF
    ·refine ct h7 ?_
     refine sr (aa (qn (dz (wq [2] ?_))))
     refine tn (qt ?_)
     refine br (tr (tr (br (tr ?_))))
     obtain rfl:=os hF
     subst K
     exact r1 wb
    refine cf h7 ?_
    refine QbQ ?_
    refine bm ?_
    refine qr (am (aw xa (aa (nwq [3,1] ?_))))
    exact Qk (ih _ _ hF K) ⟨rfl,rfl,trivial⟩
   refine cf h5 ?_
   refine Q7 ?_
   refine te (te ?_)
   obtain rfl:=os hF
   exact Qk K ⟨rfl,trivial⟩
 cases q3 with
 | ret r'=>exact os hF
 | nx sq3 =>
  skip
  refine QD ?_
  refine tn (sr (fa 0 underlying55 rfl sizeOf3 ?_))
  refine aw (Qe isAgg3 rfl (Qm (c:=(Qv .i64)) (y:=x0.f_V) .z (Qaf.comp lw (fun z=>{ x0 with f_V:=z }) (Q5 x0)) rfl)) ?_
  refine aw xq (aa (qn (dz (wq [2] ?_))))
  refine tn (qt ?_)
  have K:=os hF
  subst K
  exact r1 wb
def Qat.l0(x0:List Int)(i9:Int)(i10:Qj):Option (Qj) :=
 if (decide (i9<(x0.length:Int)))=true then (if (0:Int)≤i9∧i9<(x0.length:Int) then if (0:Int)≤i9∧i9<16 then Qat.l0 x0 (wr .i64 (i9+1)) ({ i10 with f_B:=Qb2 i10.f_B i9 (QO x0 i9) }) else none else none) else (some i10)
 partial_fixpoint
def Qat.l1(x0:List Int)(i21:Int)(i22:Qj):Option (Qj) :=
 if (decide (i21<(x0.length:Int)))=true then (if (0:Int)≤i21∧i21<(x0.length:Int) then if (0:Int)≤i21∧i21<16 then Qat.l1 x0 (wr .i64 (i21+1)) ({ i22 with f_B:=Qb2 i22.f_B i21 (QO x0 i21) }) else none else none) else (some i22)
 partial_fixpoint
def Qat(x0:List Int):Option (Qj×Bool) :=
 if ((x0.length:Int) != 4)=true then (if ((x0.length:Int) != 16)=true then (some (({ f_V:=(0:Int),f_B:=(Vector.replicate 16 (0:Int):(Vector Int 16)) }:Qj),false)) else ((if ((x0.length:Int)==16)=true then (some ({ { ({ f_V:=(0:Int),f_B:=(Vector.replicate 16 (0:Int):(Vector Int 16)) }:Qj) with f_V:=4 } with f_V:=6 })) else (some ({ ({ f_V:=(0:Int),f_B:=(Vector.replicate 16 (0:Int):(Vector Int 16)) }:Qj) with f_V:=4 })))>>=fun q5=>Qat.l0 x0 0 q5>>=fun q8=>some (q8,true))) else ((if ((x0.length:Int)==16)=true then (some ({ { ({ f_V:=(0:Int),f_B:=(Vector.replicate 16 (0:Int):(Vector Int 16)) }:Qj) with f_V:=4 } with f_V:=6 })) else (some ({ ({ f_V:=(0:Int),f_B:=(Vector.replicate 16 (0:Int):(Vector Int 16)) }:Qj) with f_V:=4 })))>>=fun q17=>Qat.l1 x0 0 q17>>=fun q20=>some (q20,true))
theorem QhM(x0:List Int)(p0_:Option Addr)(c0_:Nat)(r:Qj×Bool)(hF:Qat x0=some r)(w:World)(hr0:Row (Qv .u8) w p0_ c0_ x0) :
    Calls Tryz.prog 122 #[.slice p0_ x0.length c0_] w (fun e w'=>e=.returned (.tuple #[.agg (Cd.cs Qd r.1).toArray,.bool r.2])∧Below w.heap.size w w'):=by
 unfold Qat at hF
 refine ce (l:=[.slice p0_ x0.length c0_]) func122 rfl rfl ?_
 refine QN ?_
 refine sr ?_
 refine al (cs:=Cd.cs Qd zv2) zeroValue55 ?_
 intro b1
 refine aa (ns ?_)
 refine al (cs:=Cd.cs Qd zv2) zeroValue55 ?_
 intro b2
 refine nwq [4,2,0] ?_
 refine qs (sr (am ?_))
 refine aw (QZ underlying85 rfl) ?_
 refine aw xn (am ?_)
 obtain ⟨h3,hF⟩|⟨h3,hF⟩:=oi hF
 ·refine fx 9 h3 ?_
  refine gy (am (gy ?_))
  refine aw (QZ underlying85 rfl) ?_
  refine gy (aw xn (aw xp (nwq [13,4,2,0] ?_)))
  obtain ⟨h4,hF⟩|⟨h4,hF⟩:=oi hF
  ·refine ct h4 ?_
   refine sr ?_
   refine aw (Qg (c:=Qd) (z:=zv2) isAgg55 sizeOf55 rfl (Qp .z lw)) ?_
   refine Qn (c:=Qd) (z:=zv2) (.s .z) lw sizeOf55 rfl rfl rfl ?_
   refine aa (qn (dz (wq [3,2] ?_)))
   refine tn (rt ?_)
   have K:=os hF
   subst K
   exact QU rfl (QE (c:=Qd) (y:=zv2) rfl .z lw isAgg55 sizeOf55 (.inl rfl)) (QS rfl) wb
  refine cf h4 ?_
  refine sns (fa 0 underlying55 rfl sizeOf3 ?_)
  refine Qn (c:=(Qv .i64)) (z:=4) .z (Qaf.comp lw (fun z=>{ zv2 with f_V:=z }) (Q5 zv2)) sizeOf3 rfl rfl rfl ?_
  refine nwq [4,2,0] ?_
  obtain ⟨q5,hq5,hF⟩:=bM hF
  refine Qjx (A:=fun Y=>At 34 [(0,.slice p0_ x0.length c0_),(2,.pointer (some ⟨b1,0,none⟩)),(4,.pointer (some ⟨b2,0,none⟩))] (Wd w [Qi b2 (Cd.cs Qd q5) 55,Qi b1 (Cd.cs Qd zv2) 55]) Y) ?_ ?_
  ·intro Y K
   replace hF:=hq5
   refine sr (am ?_)
   refine aw (QZ underlying85 rfl) ?_
   refine aw xq (nwq [18,4,2,0] ?_)
   obtain ⟨h7,hF⟩|⟨h7,hF⟩:=oi hF
   ·refine ct h7 ?_
    refine qr (fa 0 underlying55 rfl sizeOf3 ?_)
    refine Qn (c:=(Qv .i64)) (z:=6) .z (Qaf.comp lw (fun z=>{ { zv2 with f_V:=4 } with f_V:=z }) (Q5 ({ zv2 with f_V:=4 }))) sizeOf3 rfl rfl rfl ?_
    refine nwq [4,2,0] ?_
    obtain rfl:=os hF
    exact Qk K ⟨rfl,rfl,rfl,trivial⟩
   refine cf h7 ?_
   refine sn ?_
   obtain rfl:=os hF
   exact Qk K ⟨rfl,rfl,rfl,trivial⟩
  skip
  skip
  refine qs (sr (aa (nwq [5,4,2,0] ?_)))
  refine qb ?_
  obtain ⟨q8,hq8,hF⟩:=bM hF
  refine wq [5,4,2,0] ?_
  refine Qal (B:=0) (A:=fun Y=>At 34 [(2,.pointer (some ⟨b1,0,none⟩)),(4,.pointer (some ⟨b2,0,none⟩))] (Wd w [Qi b2 (Cd.cs Qd q8) 55,Qi b1 (Cd.cs Qd zv2) 55]) Y) ?_ ?_
  ·intro K
   refine Qat.l0.partial_correctness x0 (motive:=fun i9 i10 x=>KN (fun Y=>At 34 [(2,.pointer (some ⟨b1,0,none⟩)),(4,.pointer (some ⟨b2,0,none⟩))] (Wd w [Qi b2 (Cd.cs Qd x) 55,Qi b1 (Cd.cs Qd zv2) 55]) Y) _ 0→QbB (fun Y=>At 34 [(0,.slice p0_ x0.length c0_),(2,.pointer (some ⟨b1,0,none⟩)),(4,.pointer (some ⟨b2,0,none⟩)),(5,.int .i64 i9)] (Wd w [Qi b2 (Cd.cs Qd i10) 55,Qi b1 (Cd.cs Qd zv2) 55]) Y) _ _ _) ?_ _ _ _ hq8 K
   ·clear K hF
    intro g ih i9 i10 x hF K
    refine QW ?_
    refine qs (sr (am (am ?_)))
    refine aw (QZ underlying85 rfl) ?_
    refine aw xl (nwq [23,5,4,2,0] ?_)
    obtain ⟨h11,hF⟩|⟨h11,hF⟩:=oi hF
    ·refine ct h11 ?_
     refine sn (qs (qb (qr (am (am (am ?_))))))
     obtain ⟨h12,hF⟩:=gd hF
     obtain ⟨b14,o15,hp13⟩:=Qaa hr0 h12
     refine aw (QbD underlying85 sizeOf5 rfl rfl h12 hp13) ?_
     refine aw (Qe isAgg5 rfl (QP (fun _ h=>h.below) hr0 h12 hp13 rfl)) ?_
     refine fa 1 underlying55 rfl sizeOf53 ?_
     obtain ⟨h16,hF⟩:=gd hF
     refine aw (Qas underlying53 sizeOf5 rfl rfl h16) ?_
     refine Qn (c:=(Qv .u8)) (z:=QO x0 i9) .z (Qaf.comp (Qaf.comp lw (fun z=>{ i10 with f_B:=z }) (Q1 i10)) (fun z=>Qb2 i10.f_B i9 z) (Qaf.vec (Qv .u8) (by decide) i10.f_B i9 h16)) sizeOf5 rfl rfl rfl ?_
     refine qn (wq [5,4,2,0] ?_)
     refine bm ?_
     refine qr (am (aw xa (aa (nwq [5,4,2,0] ?_))))
     exact Qk (ih _ _ _ hF K) ⟨rfl,rfl,rfl,rfl,trivial⟩
    refine cf h11 ?_
    refine Q7 ?_
    refine te (te ?_)
    obtain rfl:=os hF
    exact Qk K ⟨rfl,rfl,trivial⟩
  skip
  skip
  refine QD ?_
  refine tn (sr ?_)
  refine aw (Qg (c:=Qd) (z:=q8) isAgg55 sizeOf55 rfl (Qp .z lw)) ?_
  refine Qn (c:=Qd) (z:=q8) (.s .z) lw sizeOf55 rfl rfl rfl ?_
  refine aa (qn (dz (wq [3,2] ?_)))
  refine tn (qt ?_)
  have K:=os hF
  subst K
  exact QU rfl (QE (c:=Qd) (y:=q8) rfl .z lw isAgg55 sizeOf55 (.inl rfl)) (QS rfl) wb
 refine fx 9 h3 ?_
 refine gn ?_
 refine gn ?_
 refine gn ?_
 refine aw xp (nwq [13,4,2,0] ?_)
 refine cf rfl ?_
 refine sns (fa 0 underlying55 rfl sizeOf3 ?_)
 refine Qn (c:=(Qv .i64)) (z:=4) .z (Qaf.comp lw (fun z=>{ zv2 with f_V:=z }) (Q5 zv2)) sizeOf3 rfl rfl rfl ?_
 refine nwq [4,2,0] ?_
 obtain ⟨q17,hq17,hF⟩:=bM hF
 refine Qjx (A:=fun Y=>At 34 [(0,.slice p0_ x0.length c0_),(2,.pointer (some ⟨b1,0,none⟩)),(4,.pointer (some ⟨b2,0,none⟩))] (Wd w [Qi b2 (Cd.cs Qd q17) 55,Qi b1 (Cd.cs Qd zv2) 55]) Y) ?_ ?_
 ·intro Y K
  replace hF:=hq17
  refine sr (am ?_)
  refine aw (QZ underlying85 rfl) ?_
  refine aw xq (nwq [18,4,2,0] ?_)
  obtain ⟨h19,hF⟩|⟨h19,hF⟩:=oi hF
  ·refine ct h19 ?_
   refine qr (fa 0 underlying55 rfl sizeOf3 ?_)
   refine Qn (c:=(Qv .i64)) (z:=6) .z (Qaf.comp lw (fun z=>{ { zv2 with f_V:=4 } with f_V:=z }) (Q5 ({ zv2 with f_V:=4 }))) sizeOf3 rfl rfl rfl ?_
   refine nwq [4,2,0] ?_
   obtain rfl:=os hF
   exact Qk K ⟨rfl,rfl,rfl,trivial⟩
  refine cf h19 ?_
  refine sn ?_
  obtain rfl:=os hF
  exact Qk K ⟨rfl,rfl,rfl,trivial⟩
 skip
 skip
 refine qs (sr (aa (nwq [5,4,2,0] ?_)))
 refine qb ?_
 obtain ⟨q20,hq20,hF⟩:=bM hF
 refine wq [5,4,2,0] ?_
 refine Qal (B:=0) (A:=fun Y=>At 34 [(2,.pointer (some ⟨b1,0,none⟩)),(4,.pointer (some ⟨b2,0,none⟩))] (Wd w [Qi b2 (Cd.cs Qd q20) 55,Qi b1 (Cd.cs Qd zv2) 55]) Y) ?_ ?_
 ·intro K
  refine Qat.l1.partial_correctness x0 (motive:=fun i21 i22 x=>KN (fun Y=>At 34 [(2,.pointer (some ⟨b1,0,none⟩)),(4,.pointer (some ⟨b2,0,none⟩))] (Wd w [Qi b2 (Cd.cs Qd x) 55,Qi b1 (Cd.cs Qd zv2) 55]) Y) _ 0→QbB (fun Y=>At 34 [(0,.slice p0_ x0.length c0_),(2,.pointer (some ⟨b1,0,none⟩)),(4,.pointer (some ⟨b2,0,none⟩)),(5,.int .i64 i21)] (Wd w [Qi b2 (Cd.cs Qd i22) 55,Qi b1 (Cd.cs Qd zv2) 55]) Y) _ _ _) ?_ _ _ _ hq20 K
  ·clear K hF
   intro g ih i21 i22 x hF K
   refine QW ?_
   refine qs (sr (am (am ?_)))
   refine aw (QZ underlying85 rfl) ?_
   refine aw xl (nwq [23,5,4,2,0] ?_)
   obtain ⟨h23,hF⟩|⟨h23,hF⟩:=oi hF
   ·refine ct h23 ?_
    refine sn (qs (qb (qr (am (am (am ?_))))))
    obtain ⟨h24,hF⟩:=gd hF
    obtain ⟨b26,o27,hp25⟩:=Qaa hr0 h24
    refine aw (QbD underlying85 sizeOf5 rfl rfl h24 hp25) ?_
    refine aw (Qe isAgg5 rfl (QP (fun _ h=>h.below) hr0 h24 hp25 rfl)) ?_
    refine fa 1 underlying55 rfl sizeOf53 ?_
    obtain ⟨h28,hF⟩:=gd hF
    refine aw (Qas underlying53 sizeOf5 rfl rfl h28) ?_
    refine Qn (c:=(Qv .u8)) (z:=QO x0 i21) .z (Qaf.comp (Qaf.comp lw (fun z=>{ i22 with f_B:=z }) (Q1 i22)) (fun z=>Qb2 i22.f_B i21 z) (Qaf.vec (Qv .u8) (by decide) i22.f_B i21 h28)) sizeOf5 rfl rfl rfl ?_
    refine qn (wq [5,4,2,0] ?_)
    refine bm ?_
    refine qr (am (aw xa (aa (nwq [5,4,2,0] ?_))))
    exact Qk (ih _ _ _ hF K) ⟨rfl,rfl,rfl,rfl,trivial⟩
   refine cf h23 ?_
   refine Q7 ?_
   refine te (te ?_)
   obtain rfl:=os hF
   exact Qk K ⟨rfl,rfl,trivial⟩
 skip
 skip
 refine QD ?_
 refine tn (sr ?_)
 refine aw (Qg (c:=Qd) (z:=q20) isAgg55 sizeOf55 rfl (Qp .z lw)) ?_
 refine Qn (c:=Qd) (z:=q20) (.s .z) lw sizeOf55 rfl rfl rfl ?_
 refine aa (qn (dz (wq [3,2] ?_)))
 refine tn (qt ?_)
 have K:=os hF
 subst K
 exact QU rfl (QE (c:=Qd) (y:=q20) rfl .z lw isAgg55 sizeOf55 (.inl rfl)) (QS rfl) wb
def Qbu(x0:Qj):Option (ByteArray) :=
 Q8 x0>>=fun t2=>if (!t2)=true then (some (⟨#[]⟩)) else (if (x0.f_V==6)=true then (QaE x0.f_B>>=fun t5=>some t5) else (QaF (Qb2 (Qb2 (Qb2 (Qb2 (Vector.replicate 4 (0:Int):(Vector Int 4)) 0 (Qbb x0.f_B 0)) 1 (Qbb x0.f_B 1)) 2 (Qbb x0.f_B 2)) 3 (Qbb x0.f_B 3))>>=fun t6=>some t6))
theorem QdH(x0:Qj)(r:ByteArray)(hF:Qbu x0=some r)(w:World) :
    Calls Tryz.prog 78 #[.agg (Cd.cs Qd x0).toArray] w (fun e w'=>e=.returned (.string r)∧Below w.heap.size w w'):=by
 unfold Qbu at hF
 refine ce (l:=[.agg (Cd.cs Qd x0).toArray]) func78 rfl rfl ?_
 refine QN ?_
 refine sr ?_
 refine Qbv (cs:=Cd.cs Qd x0) rfl rfl rfl ?_
 intro b1
 refine aa (nt (qs (sr ?_)))
 refine aw (Qg (c:=Qd) (z:=x0) isAgg55 sizeOf55 rfl (Qp .z lw)) ?_
 obtain ⟨t2,ht2,hF⟩:=bM hF
 refine cB func72 rfl (fun w hw=>QbZ _ _ ht2 w) ?_
 refine aw (Qcq rfl) ?_
 refine nwq [5,1] ?_
 obtain ⟨h3,hF⟩|⟨h3,hF⟩:=oi hF
 ·refine ct h3 ?_
  refine sr (aa (qn (dz (wq [2] ?_))))
  refine tn (rt ?_)
  have K:=os hF
  subst K
  exact r1 wb
 refine cf h3 ?_
 refine sn (qs (sr (fa 0 underlying55 rfl sizeOf3 ?_)))
 refine aw (Qe isAgg3 rfl (Qm (c:=(Qv .i64)) (y:=x0.f_V) .z (Qaf.comp lw (fun z=>{ x0 with f_V:=z }) (Q5 x0)) rfl)) ?_
 refine aw xq (nwq [8,1] ?_)
 obtain ⟨h4,hF⟩|⟨h4,hF⟩:=oi hF
 ·refine ct h4 ?_
  refine sr (fa 1 underlying55 rfl sizeOf53 ?_)
  refine aw (Qg (c:=(QQ (Qv .u8) 16 (by decide))) (z:=x0.f_B) isAgg53 sizeOf53 rfl (Qp .z (Qaf.comp lw (fun z=>{ x0 with f_B:=z }) (Q1 x0)))) ?_
  obtain ⟨t5,ht5,hF⟩:=bM hF
  refine cB func106 rfl (fun w hw=>QgW _ _ ht5 w) ?_
  refine aa (qn (dz (wq [2] ?_)))
  refine tn (rt ?_)
  have K:=os hF
  subst K
  exact r1 wb
 refine cf h4 ?_
 refine sns (fa 1 underlying55 rfl sizeOf53 ?_)
 refine aw (Qas underlying53 sizeOf5 rfl rfl (by decide)) ?_
 refine aw (Qe isAgg5 rfl (Qm (c:=(Qv .u8)) (y:=Qbb x0.f_B 0) .z (Qaf.comp (Qaf.comp lw (fun z=>{ x0 with f_B:=z }) (Q1 x0)) (fun z=>Qb2 x0.f_B 0 z) (Qaf.vec (Qv .u8) (by decide) x0.f_B 0 (by decide))) rfl)) ?_
 refine fa 1 underlying55 rfl sizeOf53 ?_
 refine aw (Qas underlying53 sizeOf5 rfl rfl (by decide)) ?_
 refine aw (Qe isAgg5 rfl (Qm (c:=(Qv .u8)) (y:=Qbb x0.f_B 1) .z (Qaf.comp (Qaf.comp lw (fun z=>{ x0 with f_B:=z }) (Q1 x0)) (fun z=>Qb2 x0.f_B 1 z) (Qaf.vec (Qv .u8) (by decide) x0.f_B 1 (by decide))) rfl)) ?_
 refine fa 1 underlying55 rfl sizeOf53 ?_
 refine aw (Qas underlying53 sizeOf5 rfl rfl (by decide)) ?_
 refine aw (Qe isAgg5 rfl (Qm (c:=(Qv .u8)) (y:=Qbb x0.f_B 2) .z (Qaf.comp (Qaf.comp lw (fun z=>{ x0 with f_B:=z }) (Q1 x0)) (fun z=>Qb2 x0.f_B 2 z) (Qaf.vec (Qv .u8) (by decide) x0.f_B 2 (by decide))) rfl)) ?_
 refine fa 1 underlying55 rfl sizeOf53 ?_
 refine aw (Qas underlying53 sizeOf5 rfl rfl (by decide)) ?_
 refine aw (Qe isAgg5 rfl (Qm (c:=(Qv .u8)) (y:=Qbb x0.f_B 3) .z (Qaf.comp (Qaf.comp lw (fun z=>{ x0 with f_B:=z }) (Q1 x0)) (fun z=>Qb2 x0.f_B 3 z) (Qaf.vec (Qv .u8) (by decide) x0.f_B 3 (by decide))) rfl)) ?_
 refine aw (Qb3 (zs:=Cd.cs (QQ (Qv .u8) 4 (by decide)) zv5) (cs:=Cd.cs (QQ (Qv .u8) 4 (by decide)) (Qb2 (Qb2 (Qb2 (Qb2 zv5 0 (Qbb x0.f_B 0)) 1 (Qbb x0.f_B 1)) 2 (Qbb x0.f_B 2)) 3 (Qbb x0.f_B 3))) underlying143 zeroValue143 rfl sizeOf5 rfl (QaB (c:=(Qv .u8)) (z:=Qbb x0.f_B 0) rfl (Qaf.vec (Qv .u8) (by decide) zv5 0 (by decide)) rfl (QaB (c:=(Qv .u8)) (z:=Qbb x0.f_B 1) rfl (Qaf.vec (Qv .u8) (by decide) (Qb2 zv5 0 (Qbb x0.f_B 0)) 1 (by decide)) rfl (QaB (c:=(Qv .u8)) (z:=Qbb x0.f_B 2) rfl (Qaf.vec (Qv .u8) (by decide) (Qb2 (Qb2 zv5 0 (Qbb x0.f_B 0)) 1 (Qbb x0.f_B 1)) 2 (by decide)) rfl (QaB (c:=(Qv .u8)) (z:=Qbb x0.f_B 3) rfl (Qaf.vec (Qv .u8) (by decide) (Qb2 (Qb2 (Qb2 zv5 0 (Qbb x0.f_B 0)) 1 (Qbb x0.f_B 1)) 2 (Qbb x0.f_B 2)) 3 (by decide)) rfl rfl))))) ?_
 obtain ⟨t6,ht6,hF⟩:=bM hF
 refine cB func107 rfl (fun w hw=>QgX _ _ ht6 w) ?_
 refine aa (qn (dz (wq [2] ?_)))
 refine tn (qt ?_)
 have K:=os hF
 subst K
 exact r1 wb
def QaT(x0:ByteArray):Option (Qj×Int) :=
 QG x0 58>>=fun t2=>if (decide ((t2.length:Int)>1))=true then (QC x0>>=fun t6=>if (!t6.2)=true then (some (({ f_V:=(0:Int),f_B:=(Vector.replicate 16 (0:Int):(Vector Int 16)) }:Qj),5)) else (some ({ { ({ f_V:=(0:Int),f_B:=(Vector.replicate 16 (0:Int):(Vector Int 16)) }:Qj) with f_V:=6 } with f_B:=t6.1 },0))) else (QaI x0>>=fun t9=>if (t9.2 != 0)=true then (some (({ f_V:=(0:Int),f_B:=(Vector.replicate 16 (0:Int):(Vector Int 16)) }:Qj),t9.2)) else (Qat ([Qbb t9.1 0,Qbb t9.1 1,Qbb t9.1 2,Qbb t9.1 3])>>=fun t13=>some (t13.1,0)))
theorem Qb0(x0:ByteArray)(r:Qj×Int)(hF:QaT x0=some r)(w:World) :
    Calls Tryz.prog 88 #[.string x0] w (fun e w'=>e=.returned (.tuple #[.agg (Cd.cs Qd r.1).toArray,.int .i64 r.2])∧Below w.heap.size w w'):=by
 unfold QaT at hF
 refine ce (l:=[.string x0]) func88 rfl rfl ?_
 refine QN ?_
 refine sr ?_
 refine al (cs:=Cd.cs Qd zv2) zeroValue55 ?_
 intro b1
 refine aa (nt (qs (sr (am ?_))))
 obtain ⟨t2,ht2,hF⟩:=bM hF
 refine QbU (c:=QbA) (e:=9) (ys:=t2) (V:=fun p cap=>.slice p t2.length cap) func19 rfl (by kernel_rfl) rfl rfl (fun w hw=>Qak _ _ _ ht2 w) ?_
 intro p3 c4
 refine aw (QZ underlying46 rfl) ?_
 refine aw (QbI rfl rfl) ?_
 refine qn (dz (wq [13,2,0] ?_))
 refine tn ?_
 obtain ⟨h5,hF⟩|⟨h5,hF⟩:=oi hF
 ·refine ct h5 ?_
  refine sr (am ?_)
  obtain ⟨t6,ht6,hF⟩:=bM hF
  refine cB func120 rfl (fun w hw=>Qgx _ _ ht6 w) ?_
  refine am ?_
  refine aw xe (aw xe ?_)
  refine al (cs:=Cd.cs (QQ (Qv .u8) 16 (by decide)) zv3) zeroValue53 ?_
  intro b7
  refine Qn (c:=(QQ (Qv .u8) 16 (by decide))) (z:=t6.1) .z lw sizeOf53 rfl rfl rfl ?_
  refine aa (nt (qs (sr (am ?_))))
  refine aw (Qcq rfl) ?_
  refine nwq [20,4,2] ?_
  obtain ⟨h8,hF⟩|⟨h8,hF⟩:=oi hF
  ·refine ct h8 ?_
   refine sr ?_
   refine aw (Qw (zs:=Cd.cs Qd zv2) (cs:=Cd.cs Qd zv2) underlying55 zeroValue55 rfl (Qbt) rfl rfl) ?_
   refine Qn (c:=Qd) (z:=zv2) (.s .z) lw sizeOf55 rfl rfl rfl ?_
   refine aa (qn (dz (wq [3,2] ?_)))
   refine tn (qt ?_)
   refine tr (tr ?_)
   have K:=os hF
   subst K
   exact QU rfl (QE (c:=Qd) (y:=zv2) rfl .z lw isAgg55 sizeOf55 (.inl rfl)) (QS rfl) wb
  refine cf h8 ?_
  refine sns ?_
  refine aw (Qg (c:=(QQ (Qv .u8) 16 (by decide))) (z:=t6.1) isAgg53 sizeOf53 rfl (Qp .z lw)) ?_
  refine aw (Qw (zs:=Cd.cs Qd zv2) (cs:=Cd.cs Qd ({ { zv2 with f_V:=6 } with f_B:=t6.1 })) underlying55 zeroValue55 rfl (Qbt) rfl (QaB (c:=(Qv .i64)) (z:=6) rfl (Q5 zv2) rfl (QaB (c:=(QQ (Qv .u8) 16 (by decide))) (z:=t6.1) rfl (Q1 ({ zv2 with f_V:=6 })) rfl rfl))) ?_
  refine Qn (c:=Qd) (z:={ { zv2 with f_V:=6 } with f_B:=t6.1 }) (.s .z) lw sizeOf55 rfl rfl rfl ?_
  refine aa (qn (dz (wq [3,2] ?_)))
  refine tn (rt ?_)
  have K:=os hF
  subst K
  exact QU rfl (QE (c:=Qd) (y:={ { zv2 with f_V:=6 } with f_B:=t6.1 }) rfl .z lw isAgg55 sizeOf55 (.inl rfl)) (QS rfl) wb
 refine cf h5 ?_
 refine sns (am ?_)
 obtain ⟨t9,ht9,hF⟩:=bM hF
 refine cB func121 rfl (fun w hw=>Qev _ _ ht9 w) ?_
 refine am ?_
 refine aw xe (aw xe ?_)
 refine al (cs:=Cd.cs (QQ (Qv .u8) 4 (by decide)) zv5) zeroValue143 ?_
 intro b10
 refine Qn (c:=(QQ (Qv .u8) 4 (by decide))) (z:=t9.1) .z lw sizeOf143 rfl rfl rfl ?_
 refine aa (nt (qs (sr (am (aw xn (nwq [30,7,6,2] ?_))))))
 obtain ⟨h11,hF⟩|⟨h11,hF⟩:=oi hF
 ·refine ct h11 ?_
  refine sr ?_
  refine aw (Qw (zs:=Cd.cs Qd zv2) (cs:=Cd.cs Qd zv2) underlying55 zeroValue55 rfl (Qbt) rfl rfl) ?_
  refine am ?_
  refine Qn (c:=Qd) (z:=zv2) (.s .z) lw sizeOf55 rfl rfl rfl ?_
  refine aa (qn (dz (wq [3,2] ?_)))
  refine tn (rt ?_)
  have K:=os hF
  subst K
  exact QU rfl (QE (c:=Qd) (y:=zv2) rfl .z lw isAgg55 sizeOf55 (.inl rfl)) (QS rfl) wb
 refine cf h11 ?_
 refine sns ?_
 refine aw (Qas underlying143 sizeOf5 rfl rfl (by decide)) ?_
 refine aw (Qe isAgg5 rfl (Qm (c:=(Qv .u8)) (y:=Qbb t9.1 0) .z (Qaf.comp lw (fun z=>Qb2 t9.1 0 z) (Qaf.vec (Qv .u8) (by decide) t9.1 0 (by decide))) rfl)) ?_
 refine aw (Qas underlying143 sizeOf5 rfl rfl (by decide)) ?_
 refine aw (Qe isAgg5 rfl (Qm (c:=(Qv .u8)) (y:=Qbb t9.1 1) .z (Qaf.comp lw (fun z=>Qb2 t9.1 1 z) (Qaf.vec (Qv .u8) (by decide) t9.1 1 (by decide))) rfl)) ?_
 refine aw (Qas underlying143 sizeOf5 rfl rfl (by decide)) ?_
 refine aw (Qe isAgg5 rfl (Qm (c:=(Qv .u8)) (y:=Qbb t9.1 2) .z (Qaf.comp lw (fun z=>Qb2 t9.1 2 z) (Qaf.vec (Qv .u8) (by decide) t9.1 2 (by decide))) rfl)) ?_
 refine aw (Qas underlying143 sizeOf5 rfl rfl (by decide)) ?_
 refine aw (Qe isAgg5 rfl (Qm (c:=(Qv .u8)) (y:=Qbb t9.1 3) .z (Qaf.comp lw (fun z=>Qb2 t9.1 3 z) (Qaf.vec (Qv .u8) (by decide) t9.1 3 (by decide))) rfl)) ?_
 refine Qep (cs:=(Qv .u8).all ([Qbb t9.1 0,Qbb t9.1 1,Qbb t9.1 2,Qbb t9.1 3]:List Int)) underlying85 sizeOf5 zeroValue5 rfl rfl rfl (by kernel_rfl) rfl ?_
 intro b12
 obtain ⟨t13,ht13,hF⟩:=bM hF
 refine cB func122 rfl (fun w hw=>QhM _ _ _ _ ht13 w (QgZ (hw.ok (Upd.mem .z)))) ?_
 refine am ?_
 refine aw xe (aw xe ?_)
 refine al (cs:=Cd.cs Qd zv2) zeroValue55 ?_
 intro b14
 refine Qn (c:=Qd) (z:=t13.1) .z lw sizeOf55 rfl rfl rfl ?_
 refine aa (qn ?_)
 refine Qam (H:=_) (.s .z) ?_
 refine Qam (H:=_) (.s .z) ?_
 refine tn (sr ?_)
 refine aw (Qg (c:=Qd) (z:=t13.1) isAgg55 sizeOf55 rfl (Qp .z lw)) ?_
 refine Qn (c:=Qd) (z:=t13.1) (.s .z) lw sizeOf55 rfl rfl rfl ?_
 refine aa (qn (dz (wq [3,2] ?_)))
 refine tn (qt ?_)
 have K:=os hF
 subst K
 exact QU rfl (QE (c:=Qd) (y:=t13.1) rfl .z lw isAgg55 sizeOf55 (.inl rfl)) (QS rfl) wb
end Go.Proofs.YtnekckhjmnhinaaGreatDoor
namespace Go.Proofs.YtnekckhjmnhinaaGreatDoor
open E Go.RowKit _root_.Go.Proofs.Tryz
def Qc5.l0(x1:Int)(i6:Int)(i7:Qj):Option (Qj) :=
 if (decide (i6<16))=true then (if (decide (x1<0))=true then (if (0:Int)≤i6∧i6<16 then if (0:Int)≤wr .u64 (wr .i64 (8-0)) then if (0:Int)≤i6∧i6<16 then Qc5.l0 x1 (wr .i64 (i6+1)) ({ i7 with f_B:=Qb2 i7.f_B i6 (Qjd .u8 (Qbb i7.f_B i6) (Qh9 .u8 255 (wr .u64 (wr .i64 (8-0))))) }) else none else none else none) else (if (0:Int)≤i6∧i6<16 then if (0:Int)≤wr .u64 (wr .i64 (8-(if 8<(if wr .i64 (x1-(wr .i64 (8*i6)))<0 then 0 else wr .i64 (x1-(wr .i64 (8*i6)))) then 8 else (if wr .i64 (x1-(wr .i64 (8*i6)))<0 then 0 else wr .i64 (x1-(wr .i64 (8*i6))))))) then if (0:Int)≤i6∧i6<16 then Qc5.l0 x1 (wr .i64 (i6+1)) ({ i7 with f_B:=Qb2 i7.f_B i6 (Qjd .u8 (Qbb i7.f_B i6) (Qh9 .u8 255 (wr .u64 (wr .i64 (8-(if 8<(if wr .i64 (x1-(wr .i64 (8*i6)))<0 then 0 else wr .i64 (x1-(wr .i64 (8*i6)))) then 8 else (if wr .i64 (x1-(wr .i64 (8*i6)))<0 then 0 else wr .i64 (x1-(wr .i64 (8*i6)))))))))) }) else none else none else none)) else (some i7)
 partial_fixpoint
def Qc5(x0:Qj)(x1:Int):Option (Qj) :=
 Qdw x0>>=fun t3=>if (!t3)=true then (some ({ f_V:=(0:Int),f_B:=(Vector.replicate 16 (0:Int):(Vector Int 16)) }:Qj)) else (Qc5.l0 x1 0 x0>>=fun q5=>some q5)
theorem Qm3(x0:Qj)(x1:Int)(r:Qj)(hF:Qc5 x0 x1=some r)(w:World) :
    Calls Tryz.prog 158 #[.agg (Cd.cs Qd x0).toArray,.int .i64 x1] w (fun e w'=>e=.returned (.agg (Cd.cs Qd r).toArray)∧Below w.heap.size w w'):=by
 unfold Qc5 at hF
 refine ce (l:=[.agg (Cd.cs Qd x0).toArray,.int .i64 x1]) func158 rfl rfl ?_
 refine QN ?_
 refine sr ?_
 refine Qbv (cs:=Cd.cs Qd x0) rfl rfl rfl ?_
 intro b1
 refine al (cs:=Cd.cs Qd zv2) zeroValue55 ?_
 intro b2
 refine nt (qs (sr ?_))
 refine aw (Qg (c:=Qd) (z:=x0) isAgg55 sizeOf55 rfl (Qp (.s .z) lw)) ?_
 obtain ⟨t3,ht3,hF⟩:=bM hF
 refine cB func92 rfl (fun w hw=>Qer _ _ ht3 w) ?_
 refine aw (Qcq rfl) ?_
 refine nwq [9,4,2,1] ?_
 obtain ⟨h4,hF⟩|⟨h4,hF⟩:=oi hF
 ·refine ct h4 ?_
  refine sr ?_
  refine aw (Qw (zs:=Cd.cs Qd zv2) (cs:=Cd.cs Qd zv2) underlying55 zeroValue55 rfl (Qbt) rfl rfl) ?_
  refine Qn (c:=Qd) (z:=zv2) .z lw sizeOf55 rfl rfl rfl ?_
  refine qn ?_
  refine Qam (H:=_) (.s .z) ?_
  refine wq [4] ?_
  refine tn (rt ?_)
  have K:=os hF
  subst K
  exact Qd9 rfl (QE (c:=Qd) (y:=zv2) rfl .z lw isAgg55 sizeOf55 (.inl rfl)) wb
 refine cf h4 ?_
 refine sn (qs (sr (am (nwq [11,4,2,1] ?_))))
 refine qb ?_
 obtain ⟨q5,hq5,hF⟩:=bM hF
 refine wq [11,4,2,1] ?_
 refine Qal (B:=0) (A:=fun Y=>At 35 [(2,.pointer (some ⟨b1,0,none⟩)),(4,.pointer (some ⟨b2,0,none⟩))] (Wd w [Qi b2 (Cd.cs Qd zv2) 55,Qi b1 (Cd.cs Qd q5) 55]) Y) ?_ ?_
 ·intro K
  refine Qc5.l0.partial_correctness x1 (motive:=fun i6 i7 x=>KN (fun Y=>At 35 [(2,.pointer (some ⟨b1,0,none⟩)),(4,.pointer (some ⟨b2,0,none⟩))] (Wd w [Qi b2 (Cd.cs Qd zv2) 55,Qi b1 (Cd.cs Qd x) 55]) Y) _ 0→QbB (fun Y=>At 35 [(1,.int .i64 x1),(2,.pointer (some ⟨b1,0,none⟩)),(4,.pointer (some ⟨b2,0,none⟩)),(11,.int .i64 i6)] (Wd w [Qi b2 (Cd.cs Qd zv2) 55,Qi b1 (Cd.cs Qd i7) 55]) Y) _ _ _) ?_ _ _ _ hq5 K
  ·clear K hF
   intro g ih i6 i7 x hF K
   refine QW ?_
   refine sr (aw xl (nwq [12,11,4,2,1] ?_))
   refine qs ?_
   obtain ⟨h8,hF⟩|⟨h8,hF⟩:=oi hF
   ·refine ct h8 ?_
    refine sn (qs (qb (sr (am (aa (ns (am (am ?_))))))))
    refine aw (QcT rfl rfl) ?_
    refine aw (Qdh rfl rfl) ?_
    refine aw (Qwq rfl rfl) ?_
    refine aw (Qqy rfl rfl) ?_
    refine aa (nt (qs (sr (am (aw xl (nwq [21,11,6,5,4,2,1] ?_))))))
    obtain ⟨h9,hF⟩|⟨h9,hF⟩:=oi hF
    ·refine ct h9 ?_
     refine qr (aa (nt (qr (am (fa 1 underlying55 rfl sizeOf53 ?_)))))
     obtain ⟨h10,hF⟩:=gd hF
     refine aw (Qas underlying53 sizeOf5 rfl rfl h10) ?_
     refine aw (Qe isAgg5 rfl (Qm (c:=(Qv .u8)) (y:=Qbb i7.f_B i6) (.s .z) (Qaf.comp (Qaf.comp lw (fun z=>{ i7 with f_B:=z }) (Q1 i7)) (fun z=>Qb2 i7.f_B i6 z) (Qaf.vec (Qv .u8) (by decide) i7.f_B i6 h10)) rfl)) ?_
     refine am ?_
     refine aw (Qdh rfl rfl) ?_
     refine aw (QaW underlying3 underlying78 rfl) ?_
     obtain ⟨h11,hF⟩:=gd hF
     refine aw (QgI rfl rfl h11) ?_
     refine aw (QkM rfl rfl) ?_
     refine fa 1 underlying55 rfl sizeOf53 ?_
     obtain ⟨h12,hF⟩:=gd hF
     refine aw (Qas underlying53 sizeOf5 rfl rfl h12) ?_
     refine Qn (c:=(Qv .u8)) (z:=Qjd .u8 (Qbb i7.f_B i6) (Qh9 .u8 255 (wr .u64 (wr .i64 (8-0))))) (.s .z) (Qaf.comp (Qaf.comp lw (fun z=>{ i7 with f_B:=z }) (Q1 i7)) (fun z=>Qb2 i7.f_B i6 z) (Qaf.vec (Qv .u8) (by decide) i7.f_B i6 h12)) sizeOf5 rfl rfl rfl ?_
     refine qn (wq [11,4,2,1] ?_)
     refine bm ?_
     refine qr (aw xa (am (nwq [11,4,2,1] ?_)))
     exact Qk (ih _ _ _ hF K) ⟨rfl,rfl,rfl,rfl,trivial⟩
    refine cf h9 ?_
    refine sn (qr (am (fa 1 underlying55 rfl sizeOf53 ?_)))
    obtain ⟨h13,hF⟩:=gd hF
    refine aw (Qas underlying53 sizeOf5 rfl rfl h13) ?_
    refine aw (Qe isAgg5 rfl (Qm (c:=(Qv .u8)) (y:=Qbb i7.f_B i6) (.s .z) (Qaf.comp (Qaf.comp lw (fun z=>{ i7 with f_B:=z }) (Q1 i7)) (fun z=>Qb2 i7.f_B i6 z) (Qaf.vec (Qv .u8) (by decide) i7.f_B i6 h13)) rfl)) ?_
    refine am ?_
    refine aw (Qdh rfl rfl) ?_
    refine aw (QaW underlying3 underlying78 rfl) ?_
    obtain ⟨h14,hF⟩:=gd hF
    refine aw (QgI rfl rfl h14) ?_
    refine aw (QkM rfl rfl) ?_
    refine fa 1 underlying55 rfl sizeOf53 ?_
    obtain ⟨h15,hF⟩:=gd hF
    refine aw (Qas underlying53 sizeOf5 rfl rfl h15) ?_
    refine Qn (c:=(Qv .u8)) (z:=Qjd .u8 (Qbb i7.f_B i6) (Qh9 .u8 255 (wr .u64 (wr .i64 (8-(if 8<(if wr .i64 (x1-(wr .i64 (8*i6)))<0 then 0 else wr .i64 (x1-(wr .i64 (8*i6)))) then 8 else (if wr .i64 (x1-(wr .i64 (8*i6)))<0 then 0 else wr .i64 (x1-(wr .i64 (8*i6)))))))))) (.s .z) (Qaf.comp (Qaf.comp lw (fun z=>{ i7 with f_B:=z }) (Q1 i7)) (fun z=>Qb2 i7.f_B i6 z) (Qaf.vec (Qv .u8) (by decide) i7.f_B i6 h15)) sizeOf5 rfl rfl rfl ?_
    refine qn (wq [11,4,2,1] ?_)
    refine bm ?_
    refine qr (aw xa (am (nwq [11,4,2,1] ?_)))
    exact Qk (ih _ _ _ hF K) ⟨rfl,rfl,rfl,rfl,trivial⟩
   refine cf h8 ?_
   refine Q7 ?_
   refine te (te ?_)
   obtain rfl:=os hF
   exact Qk K ⟨rfl,rfl,trivial⟩
 skip
 skip
 refine QD ?_
 refine tn (sr ?_)
 refine aw (Qg (c:=Qd) (z:=q5) isAgg55 sizeOf55 rfl (Qp (.s .z) lw)) ?_
 refine Qn (c:=Qd) (z:=q5) .z lw sizeOf55 rfl rfl rfl ?_
 refine qn ?_
 refine Qam (H:=_) (.s .z) ?_
 refine wq [4] ?_
 refine tn (qt ?_)
 have K:=os hF
 subst K
 exact Qd9 rfl (QE (c:=Qd) (y:=q5) rfl .z lw isAgg55 sizeOf55 (.inl rfl)) wb
def Qa9(x0:Qj):Option (Int) :=
 Q8 x0>>=fun t2=>if (!t2)=true then (some 0) else (if (x0.f_V==4)=true then (some 32) else (some 128))
theorem Qcs(x0:Qj)(r:Int)(hF:Qa9 x0=some r)(w:World) :
    Calls Tryz.prog 73 #[.agg (Cd.cs Qd x0).toArray] w (fun e w'=>e=.returned (.int .i64 r)∧Below w.heap.size w w'):=by
 unfold Qa9 at hF
 refine ce (l:=[.agg (Cd.cs Qd x0).toArray]) func73 rfl rfl ?_
 refine QN ?_
 refine sr ?_
 refine Qbv (cs:=Cd.cs Qd x0) rfl rfl rfl ?_
 intro b1
 refine aa (nt (qs (sr ?_)))
 refine aw (Qg (c:=Qd) (z:=x0) isAgg55 sizeOf55 rfl (Qp .z lw)) ?_
 obtain ⟨t2,ht2,hF⟩:=bM hF
 refine cB func72 rfl (fun w hw=>QbZ _ _ ht2 w) ?_
 refine aw (Qcq rfl) ?_
 refine nwq [5,1] ?_
 obtain ⟨h3,hF⟩|⟨h3,hF⟩:=oi hF
 ·refine ct h3 ?_
  refine sr (aa (qn (dz (wq [2] ?_))))
  refine tn (rt ?_)
  have K:=os hF
  subst K
  exact r1 wb
 refine cf h3 ?_
 refine sn (qs (sr (fa 0 underlying55 rfl sizeOf3 ?_)))
 refine aw (Qe isAgg3 rfl (Qm (c:=(Qv .i64)) (y:=x0.f_V) .z (Qaf.comp lw (fun z=>{ x0 with f_V:=z }) (Q5 x0)) rfl)) ?_
 refine aw xq (qn (dz (wq [8] ?_)))
 refine tn ?_
 obtain ⟨h4,hF⟩|⟨h4,hF⟩:=oi hF
 ·refine ct h4 ?_
  refine sr (aa (nwq [2] ?_))
  refine rt ?_
  have K:=os hF
  subst K
  exact r1 wb
 refine cf h4 ?_
 refine sns (aa (nwq [2] ?_))
 refine qt ?_
 have K:=os hF
 subst K
 exact r1 wb
def QaG.l0(x1:Int)(i4:Int)(i5:Int):Option (Int) :=
 if (decide (i5>Int.tmod x1 8))=true then (QaG.l0 x1 (wr .i64 (Int.tdiv i4 2)) (wr .i64 (i5-1))) else (some i4)
 partial_fixpoint
def QaG(x0:Qj)(x1:Int):Option (Int) :=
 if (0:Int)≤wr .i64 (Int.tdiv x1 8)∧wr .i64 (Int.tdiv x1 8)<16 then QaG.l0 x1 (wr .i64 (Qbb x0.f_B (wr .i64 (Int.tdiv x1 8)))) 7>>=fun q3=>some (Int.tmod q3 2) else none
theorem Qgw(x0:Qj)(x1:Int)(r:Int)(hF:QaG x0 x1=some r)(w:World) :
    Calls Tryz.prog 103 #[.agg (Cd.cs Qd x0).toArray,.int .i64 x1] w (fun e w'=>e=.returned (.int .i64 r)∧Below w.heap.size w w'):=by
 unfold QaG at hF
 refine ce (l:=[.agg (Cd.cs Qd x0).toArray,.int .i64 x1]) func103 rfl rfl ?_
 refine QN ?_
 refine sr ?_
 refine Qbv (cs:=Cd.cs Qd x0) rfl rfl rfl ?_
 intro b1
 refine aa (ns (am ?_))
 refine aw (Qfl rfl rfl (by decide)) ?_
 refine fa 1 underlying55 rfl sizeOf53 ?_
 obtain ⟨h2,hF⟩:=gd hF
 refine aw (Qas underlying53 sizeOf5 rfl rfl h2) ?_
 refine aw (Qe isAgg5 rfl (Qm (c:=(Qv .u8)) (y:=Qbb x0.f_B (wr .i64 (Int.tdiv x1 8))) .z (Qaf.comp (Qaf.comp lw (fun z=>{ x0 with f_B:=z }) (Q1 x0)) (fun z=>Qb2 x0.f_B (wr .i64 (Int.tdiv x1 8)) z) (Qaf.vec (Qv .u8) (by decide) x0.f_B (wr .i64 (Int.tdiv x1 8)) h2)) rfl)) ?_
 refine aw (QaW underlying5 underlying3 rfl) ?_
 refine aa (qn (dz (tn (qs (sr (aa (nwq [6,5,1] ?_)))))))
 refine qb ?_
 obtain ⟨q3,hq3,hF⟩:=bM hF
 refine wq [6,5,1] ?_
 refine Qal (B:=0) (A:=fun Y=>At 23 [(5,.int .i64 q3)] (Wd w []) Y) ?_ ?_
 ·intro K
  refine QaG.l0.partial_correctness x1 (motive:=fun i4 i5 x=>KN (fun Y=>At 23 [(5,.int .i64 x)] (Wd w []) Y) _ 0→QbB (fun Y=>At 23 [(1,.int .i64 x1),(5,.int .i64 i4),(6,.int .i64 i5)] (Wd w []) Y) _ _ _) ?_ _ _ _ hq3 K
  ·clear K hF
   intro g ih i4 i5 x hF K
   refine QW ?_
   refine qs (sr (am (am ?_)))
   refine aw (QfL rfl rfl (by decide)) ?_
   refine aw (QbI rfl rfl) ?_
   refine nwq [16,6,5,1] ?_
   obtain ⟨h6,hF⟩|⟨h6,hF⟩:=oi hF
   ·refine ct h6 ?_
    refine sn (qs (qb (qr (am ?_))))
    refine aw (Qfl rfl rfl (by decide)) ?_
    refine aa (qn (wq [6,5,1] ?_))
    refine bm ?_
    refine qr (am ?_)
    refine aw (Qdh rfl rfl) ?_
    refine aa (nwq [6,5,1] ?_)
    exact Qk (ih _ _ _ hF K) ⟨rfl,rfl,rfl,trivial⟩
   refine cf h6 ?_
   refine Q7 ?_
   refine te (te ?_)
   obtain rfl:=os hF
   exact Qk K ⟨rfl,trivial⟩
 skip
 skip
 refine QD ?_
 refine tn (sr (am ?_))
 refine aw (QfL rfl rfl (by decide)) ?_
 refine aa (nwq [4] ?_)
 refine qt ?_
 have K:=os hF
 subst K
 exact r1 wb
def Q0.l1(i9:Int)(i17:Int)(i18:Int):Option (Int) :=
 if (decide (i18<Int.tmod i9 8))=true then (Q0.l1 i9 (wr .i64 (Int.tdiv i17 2)) (wr .i64 (i18+1))) else (some i17)
 partial_fixpoint
def Q0.l0(x0:Qj)(x1:Int)(t6:Int)(i9:Int)(i10:Qj):Option (Qj) :=
 if (decide (i9<t6))=true then (if (decide (i9<x1))=true then (QaG x0 i9>>=fun t13=>if (t13==1)=true then (Q0.l1 i9 128 0>>=fun q15=>if (0:Int)≤wr .i64 (Int.tdiv i9 8)∧wr .i64 (Int.tdiv i9 8)<16 then if (0:Int)≤wr .i64 (Int.tdiv i9 8)∧wr .i64 (Int.tdiv i9 8)<16 then Q0.l0 x0 x1 t6 (wr .i64 (i9+1)) ({ i10 with f_B:=Qb2 i10.f_B (wr .i64 (Int.tdiv i9 8)) (wr .u8 ((Qbb i10.f_B (wr .i64 (Int.tdiv i9 8)))+(wr .u8 q15))) }) else none else none) else (Q0.l0 x0 x1 t6 (wr .i64 (i9+1)) i10)) else (some i10)) else (some i10)
 partial_fixpoint
def Q0(x0:Qj)(x1:Int):Option (Qj) :=
 Q8 x0>>=fun t3=>if (!t3)=true then (some ({ f_V:=(0:Int),f_B:=(Vector.replicate 16 (0:Int):(Vector Int 16)) }:Qj)) else (Qa9 x0>>=fun t6=>Q0.l0 x0 x1 t6 0 ({ ({ f_V:=(0:Int),f_B:=(Vector.replicate 16 (0:Int):(Vector Int 16)) }:Qj) with f_V:=x0.f_V })>>=fun q7=>some q7)
theorem QeS(x0:Qj)(x1:Int)(r:Qj)(hF:Q0 x0 x1=some r)(w:World) :
    Calls Tryz.prog 74 #[.agg (Cd.cs Qd x0).toArray,.int .i64 x1] w (fun e w'=>e=.returned (.agg (Cd.cs Qd r).toArray)∧Below w.heap.size w w'):=by
 unfold Q0 at hF
 refine ce (l:=[.agg (Cd.cs Qd x0).toArray,.int .i64 x1]) func74 rfl rfl ?_
 refine QN ?_
 refine sr ?_
 refine Qbv (cs:=Cd.cs Qd x0) rfl rfl rfl ?_
 intro b1
 refine al (cs:=Cd.cs Qd zv2) zeroValue55 ?_
 intro b2
 refine nt (qs (sr ?_))
 refine aw (Qg (c:=Qd) (z:=x0) isAgg55 sizeOf55 rfl (Qp (.s .z) lw)) ?_
 obtain ⟨t3,ht3,hF⟩:=bM hF
 refine cB func72 rfl (fun w hw=>QbZ _ _ ht3 w) ?_
 refine aw (Qcq rfl) ?_
 refine nwq [12,4,2,1] ?_
 obtain ⟨h4,hF⟩|⟨h4,hF⟩:=oi hF
 ·refine ct h4 ?_
  refine sr ?_
  refine aw (Qw (zs:=Cd.cs Qd zv2) (cs:=Cd.cs Qd zv2) underlying55 zeroValue55 rfl (Qbt) rfl rfl) ?_
  refine Qn (c:=Qd) (z:=zv2) .z lw sizeOf55 rfl rfl rfl ?_
  refine qn ?_
  refine Qam (H:=_) (.s .z) ?_
  refine wq [4] ?_
  refine tn (rt ?_)
  have K:=os hF
  subst K
  exact Qd9 rfl (QE (c:=Qd) (y:=zv2) rfl .z lw isAgg55 sizeOf55 (.inl rfl)) wb
 refine cf h4 ?_
 refine sns (fa 0 underlying55 rfl sizeOf3 ?_)
 refine aw (Qe isAgg3 rfl (Qm (c:=(Qv .i64)) (y:=x0.f_V) (.s .z) (Qaf.comp lw (fun z=>{ x0 with f_V:=z }) (Q5 x0)) rfl)) ?_
 refine aw (Qw (zs:=Cd.cs Qd zv2) (cs:=Cd.cs Qd ({ zv2 with f_V:=x0.f_V })) underlying55 zeroValue55 rfl (Qbt) rfl (QaB (c:=(Qv .i64)) (z:=x0.f_V) rfl (Q5 zv2) rfl rfl)) ?_
 refine al (cs:=Cd.cs Qd zv2) zeroValue55 ?_
 intro b5
 refine Qn (c:=Qd) (z:={ zv2 with f_V:=x0.f_V }) .z lw sizeOf55 rfl rfl rfl ?_
 refine ns ?_
 refine aw (Qg (c:=Qd) (z:=x0) isAgg55 sizeOf55 rfl (Qp (.s (.s .z)) lw)) ?_
 obtain ⟨t6,ht6,hF⟩:=bM hF
 refine cB func73 rfl (fun w hw=>Qcs _ _ ht6 w) ?_
 refine aa (nt (qs (sr (aa (nwq [7,6,5,4,2,1] ?_)))))
 refine qb ?_
 obtain ⟨q7,hq7,hF⟩:=bM hF
 refine wq [7,6,5,4,2,1] ?_
 refine Qal (B:=0) (A:=fun Y=>At 54 [(4,.pointer (some ⟨b2,0,none⟩)),(5,.pointer (some ⟨b5,0,none⟩))] (Wd w [Qi b5 (Cd.cs Qd q7) 55,Qi b2 (Cd.cs Qd zv2) 55]) Y) ?_ ?_
 ·intro K
  refine Q0.l0.partial_correctness x0 x1 t6 (motive:=fun i9 i10 x=>KN (fun Y=>At 54 [(4,.pointer (some ⟨b2,0,none⟩)),(5,.pointer (some ⟨b5,0,none⟩))] (Wd w [Qi b5 (Cd.cs Qd x) 55,Qi b2 (Cd.cs Qd zv2) 55]) Y) _ 0→QbB (fun Y=>At 54 [(1,.int .i64 x1),(2,.pointer (some ⟨b1,0,none⟩)),(4,.pointer (some ⟨b2,0,none⟩)),(5,.pointer (some ⟨b5,0,none⟩)),(6,.int .i64 t6),(7,.int .i64 i9)] (Wd w [Qi b5 (Cd.cs Qd i10) 55,Qi b2 (Cd.cs Qd zv2) 55,Qi b1 (Cd.cs Qd x0) 55]) Y) _ _ _) ?_ _ _ _ hq7 K
  ·clear K hF
   intro g ih i9 i10 x hF K
   refine QW ?_
   refine qs (sr (am (am (aw xl (am ?_)))))
   obtain ⟨h11,hF⟩|⟨h11,hF⟩:=oi hF
   ·refine fx 22 h11 ?_
    refine gy (am (gy (am (gy (aw xl (aw xp (nwq [26,7,6,5,4,2,1] ?_)))))))
    obtain ⟨h12,hF⟩|⟨h12,hF⟩:=oi hF
    ·refine ct h12 ?_
     refine sn (qs (qb (sr ?_)))
     refine aw (Qg (c:=Qd) (z:=x0) isAgg55 sizeOf55 rfl (Qp (.s (.s .z)) lw)) ?_
     refine am ?_
     obtain ⟨t13,ht13,hF⟩:=bM hF
     refine cB func103 rfl (fun w hw=>Qgw _ _ _ ht13 w) ?_
     refine aw xq (nwq [32,7,6,5,4,2,1] ?_)
     obtain ⟨h14,hF⟩|⟨h14,hF⟩:=oi hF
     ·refine ct h14 ?_
      refine sr (aa (nt (qs (sr (aa (nwq [9,8,7,6,5,4,2,1] ?_))))))
      refine qb ?_
      obtain ⟨q15,hq15,hF⟩:=bM hF
      refine wq [9,8,7,6,5,4,2,1] ?_
      refine Qal (B:=2) (A:=fun Y=>At 54 [(1,.int .i64 x1),(2,.pointer (some ⟨b1,0,none⟩)),(4,.pointer (some ⟨b2,0,none⟩)),(5,.pointer (some ⟨b5,0,none⟩)),(6,.int .i64 t6),(7,.int .i64 i9),(8,.int .i64 q15)] (Wd w [Qi b5 (Cd.cs Qd i10) 55,Qi b2 (Cd.cs Qd zv2) 55,Qi b1 (Cd.cs Qd x0) 55]) Y) ?_ ?_
      ·intro K
       refine Q0.l1.partial_correctness i9 (motive:=fun i17 i18 x=>KN (fun Y=>At 54 [(1,.int .i64 x1),(2,.pointer (some ⟨b1,0,none⟩)),(4,.pointer (some ⟨b2,0,none⟩)),(5,.pointer (some ⟨b5,0,none⟩)),(6,.int .i64 t6),(7,.int .i64 i9),(8,.int .i64 x)] (Wd w [Qi b5 (Cd.cs Qd i10) 55,Qi b2 (Cd.cs Qd zv2) 55,Qi b1 (Cd.cs Qd x0) 55]) Y) _ 2→QbB (fun Y=>At 54 [(1,.int .i64 x1),(2,.pointer (some ⟨b1,0,none⟩)),(4,.pointer (some ⟨b2,0,none⟩)),(5,.pointer (some ⟨b5,0,none⟩)),(6,.int .i64 t6),(7,.int .i64 i9),(8,.int .i64 i17),(9,.int .i64 i18)] (Wd w [Qi b5 (Cd.cs Qd i10) 55,Qi b2 (Cd.cs Qd zv2) 55,Qi b1 (Cd.cs Qd x0) 55]) Y) _ _ _) ?_ _ _ _ hq15 K
       ·clear K hF
        intro g ih i17 i18 x hF K
        refine QW ?_
        refine qs (sr (am (am ?_)))
        refine aw (QfL rfl rfl (by decide)) ?_
        refine aw xl (nwq [36,9,8,7,6,5,4,2,1] ?_)
        obtain ⟨h19,hF⟩|⟨h19,hF⟩:=oi hF
        ·refine ct h19 ?_
         refine sn (qs (qb (qr (am ?_))))
         refine aw (Qfl rfl rfl (by decide)) ?_
         refine aa (qn (wq [9,8,7,6,5,4,2,1] ?_))
         refine bm ?_
         refine qr (am (aw xa (aa (nwq [9,8,7,6,5,4,2,1] ?_))))
         exact Qk (ih _ _ _ hF K) ⟨rfl,rfl,rfl,rfl,rfl,rfl,rfl,rfl,trivial⟩
        refine cf h19 ?_
        refine Q7 ?_
        refine te (te ?_)
        obtain rfl:=os hF
        exact Qk K ⟨rfl,rfl,rfl,rfl,rfl,rfl,rfl,trivial⟩
      skip
      skip
      refine QD ?_
      refine tn (qr (am ?_))
      refine aw (Qfl rfl rfl (by decide)) ?_
      refine am ?_
      refine aw (Qfl rfl rfl (by decide)) ?_
      refine fa 1 underlying55 rfl sizeOf53 ?_
      obtain ⟨h20,hF⟩:=gd hF
      refine aw (Qas underlying53 sizeOf5 rfl rfl h20) ?_
      refine aw (Qe isAgg5 rfl (Qm (c:=(Qv .u8)) (y:=Qbb i10.f_B (wr .i64 (Int.tdiv i9 8))) .z (Qaf.comp (Qaf.comp lw (fun z=>{ i10 with f_B:=z }) (Q1 i10)) (fun z=>Qb2 i10.f_B (wr .i64 (Int.tdiv i9 8)) z) (Qaf.vec (Qv .u8) (by decide) i10.f_B (wr .i64 (Int.tdiv i9 8)) h20)) rfl)) ?_
      refine am ?_
      refine aw (QaW underlying3 underlying5 rfl) ?_
      refine aw xa (fa 1 underlying55 rfl sizeOf53 ?_)
      obtain ⟨h21,hF⟩:=gd hF
      refine aw (Qas underlying53 sizeOf5 rfl rfl h21) ?_
      refine Qn (c:=(Qv .u8)) (z:=wr .u8 ((Qbb i10.f_B (wr .i64 (Int.tdiv i9 8)))+(wr .u8 q15))) .z (Qaf.comp (Qaf.comp lw (fun z=>{ i10 with f_B:=z }) (Q1 i10)) (fun z=>Qb2 i10.f_B (wr .i64 (Int.tdiv i9 8)) z) (Qaf.vec (Qv .u8) (by decide) i10.f_B (wr .i64 (Int.tdiv i9 8)) h21)) sizeOf5 rfl rfl rfl ?_
      refine qn (wq [7,6,5,4,2,1] ?_)
      refine bm ?_
      refine qr (am (aw xa (aa (nwq [7,6,5,4,2,1] ?_))))
      exact Qk (ih _ _ _ hF K) ⟨rfl,rfl,rfl,rfl,rfl,rfl,trivial⟩
     refine cf h14 ?_
     refine QbQ ?_
     refine bm ?_
     refine qr (am (aw xa (aa (nwq [7,6,5,4,2,1] ?_))))
     exact Qk (ih _ _ _ hF K) ⟨rfl,rfl,rfl,rfl,rfl,rfl,trivial⟩
    refine cf h12 ?_
    refine Q7 ?_
    refine te (te ?_)
    refine Qam (H:=_) (.s (.s .z)) ?_
    obtain rfl:=os hF
    exact Qk K ⟨rfl,rfl,trivial⟩
   refine fx 22 h11 ?_
   refine gn ?_
   refine gn ?_
   refine gn ?_
   refine aw xp (nwq [26,7,6,5,4,2,1] ?_)
   refine cf rfl ?_
   refine Q7 ?_
   refine te (te ?_)
   refine Qam (H:=_) (.s (.s .z)) ?_
   obtain rfl:=os hF
   exact Qk K ⟨rfl,rfl,trivial⟩
 skip
 skip
 refine QD ?_
 refine tn (sr ?_)
 refine aw (Qg (c:=Qd) (z:=q7) isAgg55 sizeOf55 rfl (Qp .z lw)) ?_
 refine Qn (c:=Qd) (z:=q7) (.s .z) lw sizeOf55 rfl rfl rfl ?_
 refine qn (dz (wq [4] ?_))
 refine tn (qt ?_)
 have K:=os hF
 subst K
 exact Qd9 rfl (QE (c:=Qd) (y:=q7) rfl .z lw isAgg55 sizeOf55 (.inl rfl)) wb
def QfD(x0:Qj)(x1:Int):Option (Qo×Int) :=
 Qdw x0>>=fun t3=>if (!t3)=true then (some (({ f_A:=({ f_V:=(0:Int),f_B:=(Vector.replicate 16 (0:Int):(Vector Int 16)) }:Qj),f_Bits:=(0:Int) }:Qo),1)) else (if (decide (x1<0))=true then (some (({ f_A:=({ f_V:=(0:Int),f_B:=(Vector.replicate 16 (0:Int):(Vector Int 16)) }:Qj),f_Bits:=(0:Int) }:Qo),6)) else (Qdv x0>>=fun t6=>if (decide (x1>t6))=true then (some (({ f_A:=({ f_V:=(0:Int),f_B:=(Vector.replicate 16 (0:Int):(Vector Int 16)) }:Qj),f_Bits:=(0:Int) }:Qo),6)) else (Qc5 x0 x1>>=fun t8=>some ({ { ({ f_A:=({ f_V:=(0:Int),f_B:=(Vector.replicate 16 (0:Int):(Vector Int 16)) }:Qj),f_Bits:=(0:Int) }:Qo) with f_A:=t8 } with f_Bits:=x1 },0))))
theorem Qhi(x0:Qj)(x1:Int)(r:Qo×Int)(hF:QfD x0 x1=some r)(w:World) :
    Calls Tryz.prog 123 #[.agg (Cd.cs Qd x0).toArray,.int .i64 x1] w (fun e w'=>e=.returned (.tuple #[.agg (Cd.cs Qc r.1).toArray,.int .i64 r.2])∧Below w.heap.size w w'):=by
 unfold QfD at hF
 refine ce (l:=[.agg (Cd.cs Qd x0).toArray,.int .i64 x1]) func123 rfl rfl ?_
 refine QN ?_
 refine sr ?_
 refine Qbv (cs:=Cd.cs Qd x0) rfl rfl rfl ?_
 intro b1
 refine al (cs:=Cd.cs Qc Qdl) zeroValue74 ?_
 intro b2
 refine aa (nwq [4,2,1] ?_)
 refine qs (qb (sr ?_))
 refine aw (Qg (c:=Qd) (z:=x0) isAgg55 sizeOf55 rfl (Qp (.s .z) lw)) ?_
 obtain ⟨t3,ht3,hF⟩:=bM hF
 refine cB func92 rfl (fun w hw=>Qer _ _ ht3 w) ?_
 refine aw (Qcq rfl) ?_
 refine aa (nwq [6,4,2,1] ?_)
 obtain ⟨h4,hF⟩|⟨h4,hF⟩:=oi hF
 ·refine ct h4 ?_
  refine sr ?_
  refine aw (Qw (zs:=Cd.cs Qc Qdl) (cs:=Cd.cs Qc Qdl) underlying74 zeroValue74 rfl (QaM) rfl rfl) ?_
  refine Qn (c:=Qc) (z:=Qdl) .z lw sizeOf74 rfl rfl rfl ?_
  refine aa (qn ?_)
  refine Qam (H:=_) (.s .z) ?_
  refine wq [5,4] ?_
  refine tn (qt ?_)
  refine br (tr ?_)
  have K:=os hF
  subst K
  exact QU rfl (QE (c:=Qc) (y:=Qdl) rfl .z lw isAgg74 sizeOf74 (.inl rfl)) (QS rfl) wb
 refine cf h4 ?_
 refine sr (am (aw xl (am ?_)))
 obtain ⟨h5,hF⟩|⟨h5,hF⟩:=oi hF
 ·refine fx 14 h5 ?_
  refine gn ?_
  refine gn ?_
  refine gn ?_
  refine gn ?_
  refine aw xp (aa (nwq [11,4,2,1] ?_))
  refine ct rfl ?_
  refine sr ?_
  refine aw (Qw (zs:=Cd.cs Qc Qdl) (cs:=Cd.cs Qc Qdl) underlying74 zeroValue74 rfl (QaM) rfl rfl) ?_
  refine Qn (c:=Qc) (z:=Qdl) .z lw sizeOf74 rfl rfl rfl ?_
  refine aa (qn ?_)
  refine Qam (H:=_) (.s .z) ?_
  refine wq [5,4] ?_
  refine tn (qt ?_)
  refine br (tr ?_)
  have K:=os hF
  subst K
  exact QU rfl (QE (c:=Qc) (y:=Qdl) rfl .z lw isAgg74 sizeOf74 (.inl rfl)) (QS rfl) wb
 refine fx 14 h5 ?_
 refine gy (am (gy ?_))
 refine aw (Qg (c:=Qd) (z:=x0) isAgg55 sizeOf55 rfl (Qp (.s .z) lw)) ?_
 refine gy ?_
 obtain ⟨t6,ht6,hF⟩:=bM hF
 refine cB func97 rfl (fun w hw=>Qeq _ _ ht6 w) ?_
 refine gy ?_
 refine aw (QbI rfl rfl) ?_
 refine aw xp (aa (nwq [11,4,2,1] ?_))
 obtain ⟨h7,hF⟩|⟨h7,hF⟩:=oi hF
 ·refine ct h7 ?_
  refine sr ?_
  refine aw (Qw (zs:=Cd.cs Qc Qdl) (cs:=Cd.cs Qc Qdl) underlying74 zeroValue74 rfl (QaM) rfl rfl) ?_
  refine Qn (c:=Qc) (z:=Qdl) .z lw sizeOf74 rfl rfl rfl ?_
  refine aa (qn ?_)
  refine Qam (H:=_) (.s .z) ?_
  refine wq [5,4] ?_
  refine tn (qt ?_)
  refine br (tr ?_)
  have K:=os hF
  subst K
  exact QU rfl (QE (c:=Qc) (y:=Qdl) rfl .z lw isAgg74 sizeOf74 (.inl rfl)) (QS rfl) wb
 refine cf h7 ?_
 refine QbQ ?_
 refine bm ?_
 refine sr ?_
 refine aw (Qg (c:=Qd) (z:=x0) isAgg55 sizeOf55 rfl (Qp (.s .z) lw)) ?_
 refine am ?_
 obtain ⟨t8,ht8,hF⟩:=bM hF
 refine cB func158 rfl (fun w hw=>Qm3 _ _ _ ht8 w) ?_
 refine am ?_
 refine aw (Qw (zs:=Cd.cs Qc Qdl) (cs:=Cd.cs Qc ({ { Qdl with f_A:=t8 } with f_Bits:=x1 })) underlying74 zeroValue74 rfl (QaM) rfl (QaB (c:=Qd) (z:=t8) rfl (Qai Qdl) rfl (QaB (c:=(Qv .i64)) (z:=x1) rfl (Qan ({ Qdl with f_A:=t8 })) rfl rfl))) ?_
 refine Qn (c:=Qc) (z:={ { Qdl with f_A:=t8 } with f_Bits:=x1 }) .z lw sizeOf74 rfl rfl rfl ?_
 refine aa (qn ?_)
 refine Qam (H:=_) (.s .z) ?_
 refine wq [5,4] ?_
 refine tn (qt ?_)
 have K:=os hF
 subst K
 exact QU rfl (QE (c:=Qc) (y:={ { Qdl with f_A:=t8 } with f_Bits:=x1 }) rfl .z lw isAgg74 sizeOf74 (.inl rfl)) (QS rfl) wb
def QcF(x0:Qj)(x1:Int):Option (Qo×Int) :=
 Q8 x0>>=fun t3=>if (!t3)=true then (some (({ f_A:=({ f_V:=(0:Int),f_B:=(Vector.replicate 16 (0:Int):(Vector Int 16)) }:Qj),f_Bits:=(0:Int) }:Qo),1)) else (if (decide (x1<0))=true then (some (({ f_A:=({ f_V:=(0:Int),f_B:=(Vector.replicate 16 (0:Int):(Vector Int 16)) }:Qj),f_Bits:=(0:Int) }:Qo),6)) else (Qa9 x0>>=fun t6=>if (decide (x1>t6))=true then (some (({ f_A:=({ f_V:=(0:Int),f_B:=(Vector.replicate 16 (0:Int):(Vector Int 16)) }:Qj),f_Bits:=(0:Int) }:Qo),6)) else (Q0 x0 x1>>=fun t8=>some ({ { ({ f_A:=({ f_V:=(0:Int),f_B:=(Vector.replicate 16 (0:Int):(Vector Int 16)) }:Qj),f_Bits:=(0:Int) }:Qo) with f_A:=t8 } with f_Bits:=x1 },0))))
theorem Qfq(x0:Qj)(x1:Int)(r:Qo×Int)(hF:QcF x0 x1=some r)(w:World) :
    Calls Tryz.prog 89 #[.agg (Cd.cs Qd x0).toArray,.int .i64 x1] w (fun e w'=>e=.returned (.tuple #[.agg (Cd.cs Qc r.1).toArray,.int .i64 r.2])∧Below w.heap.size w w'):=by
 unfold QcF at hF
 refine ce (l:=[.agg (Cd.cs Qd x0).toArray,.int .i64 x1]) func89 rfl rfl ?_
 refine QN ?_
 refine sr ?_
 refine Qbv (cs:=Cd.cs Qd x0) rfl rfl rfl ?_
 intro b1
 refine al (cs:=Cd.cs Qc Qdl) zeroValue74 ?_
 intro b2
 refine aa (nt (qs (sr ?_)))
 refine aw (Qg (c:=Qd) (z:=x0) isAgg55 sizeOf55 rfl (Qp (.s .z) lw)) ?_
 obtain ⟨t3,ht3,hF⟩:=bM hF
 refine cB func72 rfl (fun w hw=>QbZ _ _ ht3 w) ?_
 refine aw (Qcq rfl) ?_
 refine nwq [8,4,2,1] ?_
 obtain ⟨h4,hF⟩|⟨h4,hF⟩:=oi hF
 ·refine ct h4 ?_
  refine sr ?_
  refine aw (Qw (zs:=Cd.cs Qc Qdl) (cs:=Cd.cs Qc Qdl) underlying74 zeroValue74 rfl (QaM) rfl rfl) ?_
  refine Qn (c:=Qc) (z:=Qdl) .z lw sizeOf74 rfl rfl rfl ?_
  refine aa (qn ?_)
  refine Qam (H:=_) (.s .z) ?_
  refine wq [5,4] ?_
  refine tn (rt ?_)
  have K:=os hF
  subst K
  exact QU rfl (QE (c:=Qc) (y:=Qdl) rfl .z lw isAgg74 sizeOf74 (.inl rfl)) (QS rfl) wb
 refine cf h4 ?_
 refine sn (qs (sr (am (aw xl (am ?_)))))
 obtain ⟨h5,hF⟩|⟨h5,hF⟩:=oi hF
 ·refine fx 12 h5 ?_
  refine gn ?_
  refine gn ?_
  refine gn ?_
  refine gn ?_
  refine aw xp (nwq [17,4,2,1] ?_)
  refine ct rfl ?_
  refine sr ?_
  refine aw (Qw (zs:=Cd.cs Qc Qdl) (cs:=Cd.cs Qc Qdl) underlying74 zeroValue74 rfl (QaM) rfl rfl) ?_
  refine Qn (c:=Qc) (z:=Qdl) .z lw sizeOf74 rfl rfl rfl ?_
  refine aa (qn ?_)
  refine Qam (H:=_) (.s .z) ?_
  refine wq [5,4] ?_
  refine tn (rt ?_)
  have K:=os hF
  subst K
  exact QU rfl (QE (c:=Qc) (y:=Qdl) rfl .z lw isAgg74 sizeOf74 (.inl rfl)) (QS rfl) wb
 refine fx 12 h5 ?_
 refine gy (am (gy ?_))
 refine aw (Qg (c:=Qd) (z:=x0) isAgg55 sizeOf55 rfl (Qp (.s .z) lw)) ?_
 refine gy ?_
 obtain ⟨t6,ht6,hF⟩:=bM hF
 refine cB func73 rfl (fun w hw=>Qcs _ _ ht6 w) ?_
 refine gy ?_
 refine aw (QbI rfl rfl) ?_
 refine aw xp (nwq [17,4,2,1] ?_)
 obtain ⟨h7,hF⟩|⟨h7,hF⟩:=oi hF
 ·refine ct h7 ?_
  refine sr ?_
  refine aw (Qw (zs:=Cd.cs Qc Qdl) (cs:=Cd.cs Qc Qdl) underlying74 zeroValue74 rfl (QaM) rfl rfl) ?_
  refine Qn (c:=Qc) (z:=Qdl) .z lw sizeOf74 rfl rfl rfl ?_
  refine aa (qn ?_)
  refine Qam (H:=_) (.s .z) ?_
  refine wq [5,4] ?_
  refine tn (rt ?_)
  have K:=os hF
  subst K
  exact QU rfl (QE (c:=Qc) (y:=Qdl) rfl .z lw isAgg74 sizeOf74 (.inl rfl)) (QS rfl) wb
 refine cf h7 ?_
 refine sns ?_
 refine aw (Qg (c:=Qd) (z:=x0) isAgg55 sizeOf55 rfl (Qp (.s .z) lw)) ?_
 refine am ?_
 obtain ⟨t8,ht8,hF⟩:=bM hF
 refine cB func74 rfl (fun w hw=>QeS _ _ _ ht8 w) ?_
 refine am ?_
 refine aw (Qw (zs:=Cd.cs Qc Qdl) (cs:=Cd.cs Qc ({ { Qdl with f_A:=t8 } with f_Bits:=x1 })) underlying74 zeroValue74 rfl (QaM) rfl (QaB (c:=Qd) (z:=t8) rfl (Qai Qdl) rfl (QaB (c:=(Qv .i64)) (z:=x1) rfl (Qan ({ Qdl with f_A:=t8 })) rfl rfl))) ?_
 refine Qn (c:=Qc) (z:={ { Qdl with f_A:=t8 } with f_Bits:=x1 }) .z lw sizeOf74 rfl rfl rfl ?_
 refine aa (qn ?_)
 refine Qam (H:=_) (.s .z) ?_
 refine wq [5,4] ?_
 refine tn (qt ?_)
 have K:=os hF
 subst K
 exact QU rfl (QE (c:=Qc) (y:={ { Qdl with f_A:=t8 } with f_Bits:=x1 }) rfl .z lw isAgg74 sizeOf74 (.inl rfl)) (QS rfl) wb
def Qed(x0:Qo):Option (Bool) :=
 QfD x0.f_A x0.f_Bits>>=fun t2=>if (t2.2==0)=true then (some (decide (t2.1=x0))) else (some false)
theorem Qij(x0:Qo)(r:Bool)(hF:Qed x0=some r)(w:World) :
    Calls Tryz.prog 90 #[.agg (Cd.cs Qc x0).toArray] w (fun e w'=>e=.returned (.bool r)∧Below w.heap.size w w'):=by
 unfold Qed at hF
 refine ce (l:=[.agg (Cd.cs Qc x0).toArray]) func90 rfl rfl ?_
 refine QN ?_
 refine sr ?_
 refine Qbv (cs:=Cd.cs Qc x0) rfl rfl rfl ?_
 intro b1
 refine aa (ns (fa 0 underlying74 rfl sizeOf55 ?_))
 refine aw (Qg (c:=Qd) (z:=x0.f_A) isAgg55 sizeOf55 rfl (Qp .z (Qaf.comp lw (fun z=>{ x0 with f_A:=z }) (Qai x0)))) ?_
 refine fa 17 underlying74 rfl sizeOf3 ?_
 refine aw (Qe isAgg3 rfl (Qm (c:=(Qv .i64)) (y:=x0.f_Bits) .z (Qaf.comp lw (fun z=>{ x0 with f_Bits:=z }) (Qan x0)) rfl)) ?_
 obtain ⟨t2,ht2,hF⟩:=bM hF
 refine cB func123 rfl (fun w hw=>Qhi _ _ _ ht2 w) ?_
 refine am ?_
 refine aw xe (aw xe ?_)
 refine al (cs:=Cd.cs Qc Qdl) zeroValue74 ?_
 intro b3
 refine Qn (c:=Qc) (z:=t2.1) .z lw sizeOf74 rfl rfl rfl ?_
 refine aa (nwx [4,3,1] ?_)
 refine am (aw xq (am ?_))
 obtain ⟨h4,hF⟩|⟨h4,hF⟩:=oi hF
 ·refine fx 15 h4 ?_
  refine gy ?_
  refine aw (Qg (c:=Qc) (z:=t2.1) isAgg74 sizeOf74 rfl (Qp .z lw)) ?_
  refine gy ?_
  refine aw (Qg (c:=Qc) (z:=x0) isAgg74 sizeOf74 rfl (Qp (.s .z) lw)) ?_
  refine gy ?_
  refine aw (QdR (c:=Qc) (a:=t2.1) (b:=x0) (Qds) rfl Tryz.eqGuardType74 rfl rfl (.inl rfl) rfl) ?_
  refine aw xp (aa (qn (dz (dz (wq [2] ?_)))))
  refine tn (qt ?_)
  have K:=os hF
  subst K
  exact r1 wb
 refine fx 15 h4 ?_
 refine gn ?_
 refine gn ?_
 refine gn ?_
 refine aw xp (aa (qn (dz (dz (wq [2] ?_)))))
 refine tn (qt ?_)
 have K:=os hF
 subst K
 exact r1 wb
def QfU(x0:Qj):Option (Qo) :=
 Qdv x0>>=fun t3=>QfD x0 t3>>=fun t4=>some t4.1
set_option maxHeartbeats 3200000 in
theorem QlT(x0:Qj)(r:Qo)(hF:QfU x0=some r)(w:World) :
    Calls Tryz.prog 149 #[.agg (Cd.cs Qd x0).toArray] w (fun e w'=>e=.returned (.agg (Cd.cs Qc r).toArray)∧Below w.heap.size w w'):=by
 unfold QfU at hF
 refine ce (l:=[.agg (Cd.cs Qd x0).toArray]) func149 rfl rfl ?_
 refine QN ?_
 refine sr ?_
 refine Qbv (cs:=Cd.cs Qd x0) rfl rfl rfl ?_
 intro b1
 refine al (cs:=Cd.cs Qc Qdl) zeroValue74 ?_
 intro b2
 refine nt (qs (wq [2,1] ?_))
 obtain ⟨t3,ht3,hF⟩:=bM hF
 obtain ⟨t4,ht4,hF⟩:=bM hF
 refine Qey [.q 6 (fun g6=>.agg (Cd.cs Qd x0).toArray) [] 0 1,.q 7 (fun g6=>.agg (Cd.cs Qd x0).toArray) [] 0 1,.q 8 (fun g6=>.int .i64 t3) [1] 0 1,.q 9 (fun g6=>.tuple #[.agg (Cd.cs Qc t4.1).toArray,.int .i64 t4.2]) [0,2] 0 1,.q 5 (fun g6=>.tuple #[.agg (Cd.cs Qc t4.1).toArray,.int .i64 t4.2]) [3] 0 1,.q 10 (fun g6=>.agg (Cd.cs Qc t4.1).toArray) [4] 0 1,.q 11 (fun g6=>.int .i64 t4.2) [4] 0 2,.al 0 3 (fun g6=>.pointer (some ⟨((g6 0).1),0,none⟩)) [],.st 1 none [7,5],.q 4 (fun g6=>.int .i64 t4.2) [6] 2 2] (fun g6 s=>match s with | 0=>(Wd w [Qi b2 (Cd.cs Qc Qdl) 74,Qi b1 (Cd.cs Qd x0) 55]) | 1=>(Wd w [Qi ((g6 0).1) (Cd.cs Qc Qdl) 74,Qi b2 (Cd.cs Qc Qdl) 74,Qi b1 (Cd.cs Qd x0) 55]) | _=>(Wd w [Qi ((g6 0).1) (Cd.cs Qc t4.1) 74,Qi b2 (Cd.cs Qc Qdl) 74,Qi b1 (Cd.cs Qd x0) 55])) 2 (by kernel_rfl) (by kernel_rfl) (by kernel_rfl) (by kernel_rfl) (by kernel_rfl) ⟨fun _ _ _=>rfl,fun _ _ _=>rfl,fun _ _ _=>rfl,fun _ _ _=>rfl,fun _ _ _=>rfl,fun _ _ _=>rfl,fun _ _ _=>rfl,fun g6 g2 h=>by show (.pointer (some ⟨((g6 0).1),0,none⟩):Value)=.pointer (some ⟨((g2 0).1),0,none⟩);rw [h 0 (show 0<1 by decide)],fun _ _ _=>rfl,fun _ _ _=>rfl,trivial⟩ (by kernel_rfl) (fun w_ h=>⟨fun _=>g3 0 none 0 none w_,h.drew⟩) ⟨?_,?_,?_,?_,?_,?_,?_,?_,?_,?_,trivial⟩ ?_
 ·intro Lx g6 s K hl hh k
  show At 13 ((1,_)::(2,_)::Lx) _ _
  rcases (by omega:s=0∨s=1) with rfl | rfl
  ·skip
   refine aw (Qg (c:=Qd) (z:=x0) isAgg55 sizeOf55 rfl (Qp (.s .z) lw)) ?_
   exact Qs k
  skip
  refine aw (Qg (c:=Qd) (z:=x0) isAgg55 sizeOf55 rfl (Qp (.s (.s .z)) lw)) ?_
  exact Qs k
 ·intro Lx g6 s K hl hh k
  show At 13 ((1,_)::(2,_)::Lx) _ _
  rcases (by omega:s=0∨s=1) with rfl | rfl
  ·skip
   refine aw (Qg (c:=Qd) (z:=x0) isAgg55 sizeOf55 rfl (Qp (.s .z) lw)) ?_
   exact Qs k
  skip
  refine aw (Qg (c:=Qd) (z:=x0) isAgg55 sizeOf55 rfl (Qp (.s (.s .z)) lw)) ?_
  exact Qs k
 ·intro Lx g6 s K hl hh k
  show At 13 ((7,_)::(1,_)::(2,_)::Lx) _ _
  rcases (by omega:s=0∨s=1) with rfl | rfl
  ·skip
   refine cB func97 rfl (fun w hw=>Qeq _ _ ht3 w) ?_
   exact Qs k
  skip
  refine cB func97 rfl (fun w hw=>Qeq _ _ ht3 w) ?_
  exact Qs k
 ·intro Lx g6 s K hl hh k
  show At 13 ((6,_)::(8,_)::(1,_)::(2,_)::Lx) _ _
  rcases (by omega:s=0∨s=1) with rfl | rfl
  ·skip
   refine cB func123 rfl (fun w hw=>Qhi _ _ _ ht4 w) ?_
   exact Qs k
  skip
  refine cB func123 rfl (fun w hw=>Qhi _ _ _ ht4 w) ?_
  exact Qs k
 ·intro Lx g6 s K hl hh k
  show At 13 ((9,_)::(1,_)::(2,_)::Lx) _ _
  refine am ?_
  exact Qs k
 ·intro Lx g6 s K hl hh k
  show At 13 ((5,_)::(1,_)::(2,_)::Lx) _ _
  refine aw xe ?_
  exact Qs k
 ·intro Lx g6 s K hl hh k
  show At 13 ((5,_)::(1,_)::(2,_)::Lx) _ _
  refine aw xe ?_
  exact Qs k
 ·intro Lx g6 K k
  show At 13 ((1,_)::(2,_)::Lx) _ _
  refine al (cs:=Cd.cs Qc Qdl) zeroValue74 ?_
  intro b5
  exact Qs (k (g3 b5 none 0 none w))
 ·intro Lx g6 K k
  show At 13 ((3,_)::(10,_)::(1,_)::(2,_)::Lx) _ _
  refine Qn (c:=Qc) (z:=t4.1) .z lw sizeOf74 rfl rfl rfl ?_
  exact Qs k
 ·intro Lx g6 s K hl hh k
  show At 13 ((11,_)::(1,_)::(2,_)::Lx) _ _
  refine aa ?_
  exact Qs k
 intro g6
 show At 13 [(6,_),(7,_),(8,_),(9,_),(5,_),(10,_),(11,_),(3,_),(4,_),(1,_),(2,_)] _ _
 refine Qam (H:=_) (.s (.s .z)) ?_
 refine tn (sr ?_)
 refine aw (Qg (c:=Qc) (z:=t4.1) isAgg74 sizeOf74 rfl (Qp .z lw)) ?_
 refine Qn (c:=Qc) (z:=t4.1) (.s .z) lw sizeOf74 rfl rfl rfl ?_
 refine qn (dz (wq [2] ?_))
 refine tn (qt ?_)
 have K:=os hF
 subst K
 exact Qd9 rfl (QE (c:=Qc) (y:=t4.1) rfl .z lw isAgg74 sizeOf74 (.inl rfl)) wb
def Qfr(x0:Qo):Option (ByteArray) :=
 Qed x0>>=fun t2=>if (!t2)=true then (some (⟨#[]⟩)) else (Qd3 x0.f_A>>=fun t4=>if t4.size+(⟨#[47]⟩:ByteArray).size≤140737488355328 then Qbi (wr .u64 x0.f_Bits)>>=fun t6=>if (t4++(⟨#[47]⟩:ByteArray)).size+t6.size≤140737488355328 then some ((t4++(⟨#[47]⟩:ByteArray))++t6) else none else none)
theorem QmU(x0:Qo)(r:ByteArray)(hF:Qfr x0=some r)(w:World)(hg_strconv_uint64pow10:GV_strconv_uint64pow10 w) :
    Calls Tryz.prog 67 #[.agg (Cd.cs Qc x0).toArray] w (fun e w'=>e=.returned (.string r)∧Below w.heap.size w w'):=by
 unfold Qfr at hF
 refine ce (l:=[.agg (Cd.cs Qc x0).toArray]) func67 rfl rfl ?_
 refine QN ?_
 refine sr ?_
 refine Qbv (cs:=Cd.cs Qc x0) rfl rfl rfl ?_
 intro b1
 refine aa (nt (qs (sr ?_)))
 refine aw (Qg (c:=Qc) (z:=x0) isAgg74 sizeOf74 rfl (Qp .z lw)) ?_
 obtain ⟨t2,ht2,hF⟩:=bM hF
 refine cB func90 rfl (fun w hw=>Qij _ _ ht2 w) ?_
 refine aw (Qcq rfl) ?_
 refine nwq [5,1] ?_
 obtain ⟨h3,hF⟩|⟨h3,hF⟩:=oi hF
 ·refine ct h3 ?_
  refine sr (aa (qn (dz (wq [2] ?_))))
  refine tn (rt ?_)
  have K:=os hF
  subst K
  exact r1 wb
 refine cf h3 ?_
 refine sn (qs ?_)
 refine Qdd (by kernel_rfl) (by kernel_rfl) (fun _ h=>h.drew) ?_
 refine Ql rfl rfl rfl (Q4 (fo:=0) underlying74 rfl rfl (fun w=>⟨_,sizeOf55 w⟩) rfl) ?_
 refine Ql rfl rfl rfl (Qg (c:=Qd) (z:=x0.f_A) isAgg55 sizeOf55 rfl (Qp .z (Qaf.comp lw (fun z=>{ x0 with f_A:=z }) (Qai x0)))) ?_
 obtain ⟨t4,ht4,hF⟩:=bM hF
 refine Qbl func98 rfl (by kernel_rfl) rfl rfl (fun w hw=>(Qg2 _ _ ht4 w (hg_strconv_uint64pow10.on hw.below)).mono fun _ _ h=>⟨h.1,hw.call h.2⟩) ?_
 obtain ⟨h5,hF⟩:=gd hF
 refine Ql rfl rfl rfl (Q2 rfl rfl h5) ?_
 refine Ql rfl rfl rfl (Q4 (fo:=17) underlying74 rfl rfl (fun w=>⟨_,sizeOf3 w⟩) rfl) ?_
 refine Ql rfl rfl rfl (Qe isAgg3 rfl (Qm (c:=(Qv .i64)) (y:=x0.f_Bits) .z (Qaf.comp lw (fun z=>{ x0 with f_Bits:=z }) (Qan x0)) rfl)) ?_
 refine Ql rfl rfl rfl (QaW underlying3 underlying41 rfl) ?_
 obtain ⟨t6,ht6,hF⟩:=bM hF
 refine Qbl func28 rfl (by kernel_rfl) rfl rfl (fun w hw=>(Qb1 _ _ ht6 w (hg_strconv_uint64pow10.on hw.below)).mono fun _ _ h=>⟨h.1,hw.call h.2⟩) ?_
 obtain ⟨h7,hF⟩:=gd hF
 refine Ql rfl rfl rfl (Q2 rfl rfl h7) ?_
 refine Ql rfl rfl rfl (Qcf rfl) ?_
 refine Qck ?_
 refine dz (wq [2] ?_)
 refine tn (qt ?_)
 have K:=os hF
 subst K
 exact r1 wb
def Qfe(x0:ByteArray):Option (Qo×Int) :=
 QcV x0 47>>=fun t2=>Qee t2.1>>=fun t3=>if (t3.2 != 0)=true then (some (({ f_A:=({ f_V:=(0:Int),f_B:=(Vector.replicate 16 (0:Int):(Vector Int 16)) }:Qj),f_Bits:=(0:Int) }:Qo),t3.2)) else (if (!t2.2.2)=true then (QfU t3.1>>=fun t7=>some (t7,0)) else (Qdv t3.1>>=fun t8=>QcP t2.2.1 (wr .u64 t8)>>=fun t9=>if (t9.2 != 0)=true then (some (({ f_A:=({ f_V:=(0:Int),f_B:=(Vector.replicate 16 (0:Int):(Vector Int 16)) }:Qj),f_Bits:=(0:Int) }:Qo),t9.2)) else (QfD t3.1 (wr .i64 t9.1)>>=fun t11=>some (t11.1,t11.2))))
theorem QlU(x0:ByteArray)(r:Qo×Int)(hF:Qfe x0=some r)(w:World)(hg_strconv_ErrRange:GV_strconv_ErrRange w)(hg_strconv_ErrSyntax:GV_strconv_ErrSyntax w) :
    Calls Tryz.prog 116 #[.string x0] w (fun e w'=>e=.returned (.tuple #[.agg (Cd.cs Qc r.1).toArray,.int .i64 r.2])∧Below w.heap.size w w'):=by
 unfold Qfe at hF
 refine ce (l:=[.string x0]) func116 rfl rfl ?_
 refine QN ?_
 refine sr ?_
 refine al (cs:=Cd.cs Qc Qdl) zeroValue74 ?_
 intro b1
 refine aa (ns (am ?_))
 obtain ⟨t2,ht2,hF⟩:=bM hF
 refine cB func148 rfl (fun w hw=>Qeb _ _ _ ht2 w) ?_
 refine am ?_
 refine aw xe (aw xe (aw xe (aa (aa (aa (ns (am ?_)))))))
 obtain ⟨t3,ht3,hF⟩:=bM hF
 refine cB func118 rfl (fun w hw=>Qir _ _ ht3 w (hg_strconv_ErrRange.on hw.below) (hg_strconv_ErrSyntax.on hw.below)) ?_
 refine am ?_
 refine aw xe (aw xe ?_)
 refine al (cs:=Cd.cs Qd zv2) zeroValue55 ?_
 intro b4
 refine Qn (c:=Qd) (z:=t3.1) .z lw sizeOf55 rfl rfl rfl ?_
 refine aa (nwq [8,7,6,5,2] ?_)
 refine qs (qb (sr (am (aw xn (aa (nwq [21,8,7,6,5,2] ?_))))))
 obtain ⟨h5,hF⟩|⟨h5,hF⟩:=oi hF
 ·refine ct h5 ?_
  refine sr ?_
  refine aw (Qw (zs:=Cd.cs Qc Qdl) (cs:=Cd.cs Qc Qdl) underlying74 zeroValue74 rfl (QaM) rfl rfl) ?_
  refine am ?_
  refine Qn (c:=Qc) (z:=Qdl) (.s .z) lw sizeOf74 rfl rfl rfl ?_
  refine aa (qn (dz (wq [3,2] ?_)))
  refine tn (qt ?_)
  refine br (tr ?_)
  have K:=os hF
  subst K
  exact QU rfl (QE (c:=Qc) (y:=Qdl) rfl .z lw isAgg74 sizeOf74 (.inl rfl)) (QS rfl) wb
 refine cf h5 ?_
 refine sr (am ?_)
 refine aw (Qcq rfl) ?_
 refine aa (nwq [26,7,5,2] ?_)
 obtain ⟨h6,hF⟩|⟨h6,hF⟩:=oi hF
 ·refine ct h6 ?_
  refine sr ?_
  refine aw (Qg (c:=Qd) (z:=t3.1) isAgg55 sizeOf55 rfl (Qp .z lw)) ?_
  obtain ⟨t7,ht7,hF⟩:=bM hF
  refine cB func149 rfl (fun w hw=>QlT _ _ ht7 w) ?_
  refine Qn (c:=Qc) (z:=t7) (.s .z) lw sizeOf74 rfl rfl rfl ?_
  refine aa (qn (dz (wq [3,2] ?_)))
  refine tn (qt ?_)
  refine br (tr ?_)
  have K:=os hF
  subst K
  exact QU rfl (QE (c:=Qc) (y:=t7) rfl .z lw isAgg74 sizeOf74 (.inl rfl)) (QS rfl) wb
 refine cf h6 ?_
 refine QbQ ?_
 refine bm ?_
 refine sr (am ?_)
 refine aw (Qg (c:=Qd) (z:=t3.1) isAgg55 sizeOf55 rfl (Qp .z lw)) ?_
 obtain ⟨t8,ht8,hF⟩:=bM hF
 refine cB func97 rfl (fun w hw=>Qeq _ _ ht8 w) ?_
 refine aw (QaW underlying3 underlying41 rfl) ?_
 obtain ⟨t9,ht9,hF⟩:=bM hF
 refine cB func82 rfl (fun w hw=>Qem _ _ _ ht9 w (hg_strconv_ErrRange.on hw.below) (hg_strconv_ErrSyntax.on hw.below)) ?_
 refine am ?_
 refine aw xe (aw xe (aa (aa (nt (qs (sr (am (aw xn ?_))))))))
 refine nwq [40,9,8,7,2] ?_
 obtain ⟨h10,hF⟩|⟨h10,hF⟩:=oi hF
 ·refine ct h10 ?_
  refine sr ?_
  refine aw (Qw (zs:=Cd.cs Qc Qdl) (cs:=Cd.cs Qc Qdl) underlying74 zeroValue74 rfl (QaM) rfl rfl) ?_
  refine am ?_
  refine Qn (c:=Qc) (z:=Qdl) (.s .z) lw sizeOf74 rfl rfl rfl ?_
  refine aa (qn (dz (wq [3,2] ?_)))
  refine tn (rt ?_)
  have K:=os hF
  subst K
  exact QU rfl (QE (c:=Qc) (y:=Qdl) rfl .z lw isAgg74 sizeOf74 (.inl rfl)) (QS rfl) wb
 refine cf h10 ?_
 refine sns ?_
 refine aw (Qg (c:=Qd) (z:=t3.1) isAgg55 sizeOf55 rfl (Qp .z lw)) ?_
 refine am ?_
 refine aw (QaW underlying41 underlying3 rfl) ?_
 obtain ⟨t11,ht11,hF⟩:=bM hF
 refine cB func123 rfl (fun w hw=>Qhi _ _ _ ht11 w) ?_
 refine aw xe (aw xe ?_)
 refine Qn (c:=Qc) (z:=t11.1) (.s .z) lw sizeOf74 rfl rfl rfl ?_
 refine aa (qn (dz (wq [3,2] ?_)))
 refine tn (qt ?_)
 have K:=os hF
 subst K
 exact QU rfl (QE (c:=Qc) (y:=t11.1) rfl .z lw isAgg74 sizeOf74 (.inl rfl)) (QS rfl) wb
def Qb7(x0:Qo):Option (Bool) :=
 Q8 x0.f_A>>=fun t2=>if (!t2)=true then (some false) else (if (decide (x0.f_Bits<0))=true then (some false) else (Qa9 x0.f_A>>=fun t5=>if (decide (x0.f_Bits>t5))=true then (some false) else (Q0 x0.f_A x0.f_Bits>>=fun t7=>some (decide (x0.f_A=t7)))))
theorem Qeu(x0:Qo)(r:Bool)(hF:Qb7 x0=some r)(w:World) :
    Calls Tryz.prog 36 #[.agg (Cd.cs Qc x0).toArray] w (fun e w'=>e=.returned (.bool r)∧Below w.heap.size w w'):=by
 unfold Qb7 at hF
 refine ce (l:=[.agg (Cd.cs Qc x0).toArray]) func36 rfl rfl ?_
 refine QN ?_
 refine sr ?_
 refine Qbv (cs:=Cd.cs Qc x0) rfl rfl rfl ?_
 intro b1
 refine aa (nwq [1] ?_)
 refine qs (qs ?_)
 refine Qdd (by kernel_rfl) (by kernel_rfl) (fun _ h=>h.drew) ?_
 refine Ql rfl rfl rfl (Q4 (fo:=0) underlying74 rfl rfl (fun w=>⟨_,sizeOf55 w⟩) rfl) ?_
 refine Ql rfl rfl rfl (Qg (c:=Qd) (z:=x0.f_A) isAgg55 sizeOf55 rfl (Qp .z (Qaf.comp lw (fun z=>{ x0 with f_A:=z }) (Qai x0)))) ?_
 obtain ⟨t2,ht2,hF⟩:=bM hF
 refine Qbl func72 rfl (by kernel_rfl) rfl rfl (fun w hw=>(QbZ _ _ ht2 w).mono fun _ _ h=>⟨h.1,hw.call h.2⟩) ?_
 refine Ql rfl rfl rfl (Qcq rfl) ?_
 refine Ql rfl rfl rfl (Qbz rfl) ?_
 obtain ⟨h3,hF⟩|⟨h3,hF⟩:=oi hF
 ·refine QdV (g:=7) rfl h3 ?_
  refine QJ rfl rfl rfl rfl rfl ?_
  refine QJ rfl rfl rfl rfl rfl ?_
  refine QJ rfl rfl rfl rfl rfl ?_
  refine Ql rfl rfl rfl (QdZ rfl rfl rfl) ?_
  refine Ql rfl rfl rfl (Qbz rfl) ?_
  refine QJ rfl rfl rfl rfl rfl ?_
  refine QJ rfl rfl rfl rfl rfl ?_
  refine QJ rfl rfl rfl rfl rfl ?_
  refine QJ rfl rfl rfl rfl rfl ?_
  refine QJ rfl rfl rfl rfl rfl ?_
  refine QJ rfl rfl rfl rfl rfl ?_
  refine Ql rfl rfl rfl (QdZ rfl rfl rfl) ?_
  refine Qck ?_
  refine wq [19,1] ?_
  refine tn ?_
  refine ct rfl ?_
  refine sr (aa (qn (dz (wq [2] ?_))))
  refine tn (rt ?_)
  have K:=os hF
  subst K
  exact r1 wb
 refine QdV (g:=7) rfl h3 ?_
 refine QI rfl rfl rfl ?_
 refine Ql rfl rfl rfl (Q4 (fo:=17) underlying74 rfl rfl (fun w=>⟨_,sizeOf3 w⟩) rfl) ?_
 refine QI rfl rfl rfl ?_
 refine Ql rfl rfl rfl (Qe isAgg3 rfl (Qm (c:=(Qv .i64)) (y:=x0.f_Bits) .z (Qaf.comp lw (fun z=>{ x0 with f_Bits:=z }) (Qan x0)) rfl)) ?_
 refine QI rfl rfl rfl ?_
 refine Ql rfl rfl rfl (Qoi rfl rfl) ?_
 refine Ql rfl rfl rfl (QdZ rfl rfl rfl) ?_
 refine Ql rfl rfl rfl (Qbz rfl) ?_
 obtain ⟨h4,hF⟩|⟨h4,hF⟩:=oi hF
 ·refine QdV (g:=12) rfl h4 ?_
  refine QJ rfl rfl rfl rfl rfl ?_
  refine QJ rfl rfl rfl rfl rfl ?_
  refine QJ rfl rfl rfl rfl rfl ?_
  refine QJ rfl rfl rfl rfl rfl ?_
  refine QJ rfl rfl rfl rfl rfl ?_
  refine QJ rfl rfl rfl rfl rfl ?_
  refine Ql rfl rfl rfl (QdZ rfl rfl rfl) ?_
  refine Qck ?_
  refine wq [19,1] ?_
  refine tn ?_
  refine ct rfl ?_
  refine sr (aa (qn (dz (wq [2] ?_))))
  refine tn (rt ?_)
  have K:=os hF
  subst K
  exact r1 wb
 refine QdV (g:=12) rfl h4 ?_
 refine QI rfl rfl rfl ?_
 refine Ql rfl rfl rfl (Q4 (fo:=17) underlying74 rfl rfl (fun w=>⟨_,sizeOf3 w⟩) rfl) ?_
 refine QI rfl rfl rfl ?_
 refine Ql rfl rfl rfl (Qe isAgg3 rfl (Qm (c:=(Qv .i64)) (y:=x0.f_Bits) .z (Qaf.comp lw (fun z=>{ x0 with f_Bits:=z }) (Qan x0)) rfl)) ?_
 refine QI rfl rfl rfl ?_
 refine Ql rfl rfl rfl (Q4 (fo:=0) underlying74 rfl rfl (fun w=>⟨_,sizeOf55 w⟩) rfl) ?_
 refine QI rfl rfl rfl ?_
 refine Ql rfl rfl rfl (Qg (c:=Qd) (z:=x0.f_A) isAgg55 sizeOf55 rfl (Qp .z (Qaf.comp lw (fun z=>{ x0 with f_A:=z }) (Qai x0)))) ?_
 refine QI rfl rfl rfl ?_
 obtain ⟨t5,ht5,hF⟩:=bM hF
 refine Qbl func73 rfl (by kernel_rfl) rfl rfl (fun w hw=>(Qcs _ _ ht5 w).mono fun _ _ h=>⟨h.1,hw.call h.2⟩) ?_
 refine QI rfl rfl rfl ?_
 refine Ql rfl rfl rfl (QbI rfl rfl) ?_
 refine Ql rfl rfl rfl (QdZ rfl rfl rfl) ?_
 refine Qck ?_
 refine wq [19,1] ?_
 refine tn ?_
 obtain ⟨h6,hF⟩|⟨h6,hF⟩:=oi hF
 ·refine ct h6 ?_
  refine sr (aa (qn (dz (wq [2] ?_))))
  refine tn (rt ?_)
  have K:=os hF
  subst K
  exact r1 wb
 refine cf h6 ?_
 refine sn (qs ?_)
 refine Qdd (by kernel_rfl) (by kernel_rfl) (fun _ h=>h.drew) ?_
 refine Ql rfl rfl rfl (Q4 (fo:=0) underlying74 rfl rfl (fun w=>⟨_,sizeOf55 w⟩) rfl) ?_
 refine Ql rfl rfl rfl (Qg (c:=Qd) (z:=x0.f_A) isAgg55 sizeOf55 rfl (Qp .z (Qaf.comp lw (fun z=>{ x0 with f_A:=z }) (Qai x0)))) ?_
 refine Ql rfl rfl rfl (Q4 (fo:=0) underlying74 rfl rfl (fun w=>⟨_,sizeOf55 w⟩) rfl) ?_
 refine Ql rfl rfl rfl (Qg (c:=Qd) (z:=x0.f_A) isAgg55 sizeOf55 rfl (Qp .z (Qaf.comp lw (fun z=>{ x0 with f_A:=z }) (Qai x0)))) ?_
 refine Ql rfl rfl rfl (Q4 (fo:=17) underlying74 rfl rfl (fun w=>⟨_,sizeOf3 w⟩) rfl) ?_
 refine Ql rfl rfl rfl (Qe isAgg3 rfl (Qm (c:=(Qv .i64)) (y:=x0.f_Bits) .z (Qaf.comp lw (fun z=>{ x0 with f_Bits:=z }) (Qan x0)) rfl)) ?_
 obtain ⟨t7,ht7,hF⟩:=bM hF
 refine Qbl func74 rfl (by kernel_rfl) rfl rfl (fun w hw=>(QeS _ _ _ ht7 w).mono fun _ _ h=>⟨h.1,hw.call h.2⟩) ?_
 refine Ql rfl rfl rfl (QdR (c:=Qd) (a:=x0.f_A) (b:=t7) (Qdu) rfl Tryz.eqGuardType55 rfl rfl (.inl rfl) rfl) ?_
 refine Ql rfl rfl rfl (Qcf rfl) ?_
 refine Qck ?_
 refine dz (wq [2] ?_)
 refine tn (qt ?_)
 have K:=os hF
 subst K
 exact r1 wb
def Qch(x0:Qo):Option (ByteArray) :=
 Qb7 x0>>=fun t2=>if (!t2)=true then (some (⟨#[]⟩)) else (Qbu x0.f_A>>=fun t4=>if t4.size+(⟨#[47]⟩:ByteArray).size≤140737488355328 then Qab (wr .u64 x0.f_Bits)>>=fun t6=>if (t4++(⟨#[47]⟩:ByteArray)).size+t6.size≤140737488355328 then some ((t4++(⟨#[47]⟩:ByteArray))++t6) else none else none)
theorem QeR(x0:Qo)(r:ByteArray)(hF:Qch x0=some r)(w:World) :
    Calls Tryz.prog 79 #[.agg (Cd.cs Qc x0).toArray] w (fun e w'=>e=.returned (.string r)∧Below w.heap.size w w'):=by
 unfold Qch at hF
 refine ce (l:=[.agg (Cd.cs Qc x0).toArray]) func79 rfl rfl ?_
 refine QN ?_
 refine sr ?_
 refine Qbv (cs:=Cd.cs Qc x0) rfl rfl rfl ?_
 intro b1
 refine aa (nt (qs (sr ?_)))
 refine aw (Qg (c:=Qc) (z:=x0) isAgg74 sizeOf74 rfl (Qp .z lw)) ?_
 obtain ⟨t2,ht2,hF⟩:=bM hF
 refine cB func36 rfl (fun w hw=>Qeu _ _ ht2 w) ?_
 refine aw (Qcq rfl) ?_
 refine nwq [5,1] ?_
 obtain ⟨h3,hF⟩|⟨h3,hF⟩:=oi hF
 ·refine ct h3 ?_
  refine sr (aa (qn (dz (wq [2] ?_))))
  refine tn (rt ?_)
  have K:=os hF
  subst K
  exact r1 wb
 refine cf h3 ?_
 refine sn (qs ?_)
 refine Qdd (by kernel_rfl) (by kernel_rfl) (fun _ h=>h.drew) ?_
 refine Ql rfl rfl rfl (Q4 (fo:=0) underlying74 rfl rfl (fun w=>⟨_,sizeOf55 w⟩) rfl) ?_
 refine Ql rfl rfl rfl (Qg (c:=Qd) (z:=x0.f_A) isAgg55 sizeOf55 rfl (Qp .z (Qaf.comp lw (fun z=>{ x0 with f_A:=z }) (Qai x0)))) ?_
 obtain ⟨t4,ht4,hF⟩:=bM hF
 refine Qbl func78 rfl (by kernel_rfl) rfl rfl (fun w hw=>(QdH _ _ ht4 w).mono fun _ _ h=>⟨h.1,hw.call h.2⟩) ?_
 obtain ⟨h5,hF⟩:=gd hF
 refine Ql rfl rfl rfl (Q2 rfl rfl h5) ?_
 refine Ql rfl rfl rfl (Q4 (fo:=17) underlying74 rfl rfl (fun w=>⟨_,sizeOf3 w⟩) rfl) ?_
 refine Ql rfl rfl rfl (Qe isAgg3 rfl (Qm (c:=(Qv .i64)) (y:=x0.f_Bits) .z (Qaf.comp lw (fun z=>{ x0 with f_Bits:=z }) (Qan x0)) rfl)) ?_
 refine Ql rfl rfl rfl (QaW underlying3 underlying41 rfl) ?_
 obtain ⟨t6,ht6,hF⟩:=bM hF
 refine Qbl func45 rfl (by kernel_rfl) rfl rfl (fun w hw=>(Qa2 _ _ ht6 w).mono fun _ _ h=>⟨h.1,hw.call h.2⟩) ?_
 obtain ⟨h7,hF⟩:=gd hF
 refine Ql rfl rfl rfl (Q2 rfl rfl h7) ?_
 refine Ql rfl rfl rfl (Qcf rfl) ?_
 refine Qck ?_
 refine dz (wq [2] ?_)
 refine tn (qt ?_)
 have K:=os hF
 subst K
 exact r1 wb
def Qcv(x0:ByteArray):Option (Qo×Int) :=
 QG x0 47>>=fun t2=>if (0:Int)≤0∧0<(t2.length:Int) then QaT (QO t2 0)>>=fun t9=>if (t9.2 != 0)=true then (some (({ f_A:=({ f_V:=(0:Int),f_B:=(Vector.replicate 16 (0:Int):(Vector Int 16)) }:Qj),f_Bits:=(0:Int) }:Qo),t9.2)) else (if ((t2.length:Int)==1)=true then (Qa9 t9.1>>=fun t13=>QcF t9.1 t13>>=fun t14=>some (t14.1,t14.2)) else (if (0:Int)≤0∧0<(t2.length:Int) then if (0:Int)≤wr .i64 (((QO t2 0).size:Int)+1)∧wr .i64 (((QO t2 0).size:Int)+1)≤(x0.size:Int)∧(x0.size:Int)≤(x0.size:Int) then Qa9 t9.1>>=fun t21=>QA (x0.extract (Int.toNat (wr .i64 (((QO t2 0).size:Int)+1))) (Int.toNat (x0.size:Int))) (wr .u64 t21)>>=fun t22=>if (t22.2 != 0)=true then (some (({ f_A:=({ f_V:=(0:Int),f_B:=(Vector.replicate 16 (0:Int):(Vector Int 16)) }:Qj),f_Bits:=(0:Int) }:Qo),t22.2)) else (QcF t9.1 (wr .i64 t22.1)>>=fun t25=>some (t25.1,t25.2)) else none else none)) else none
set_option maxHeartbeats 3200000 in
theorem Qgv(x0:ByteArray)(r:Qo×Int)(hF:Qcv x0=some r)(w:World) :
    Calls Tryz.prog 56 #[.string x0] w (fun e w'=>e=.returned (.tuple #[.agg (Cd.cs Qc r.1).toArray,.int .i64 r.2])∧Below w.heap.size w w'):=by
 unfold Qcv at hF
 refine ce (l:=[.string x0]) func56 rfl rfl ?_
 refine QN ?_
 refine sr ?_
 refine al (cs:=Cd.cs Qc Qdl) zeroValue74 ?_
 intro b1
 refine aa (ns (am ?_))
 obtain ⟨t2,ht2,hF⟩:=bM hF
 refine QbU (c:=QbA) (e:=9) (ys:=t2) (V:=fun p cap=>.slice p t2.length cap) func19 rfl (by kernel_rfl) rfl rfl (fun w hw=>Qak _ _ _ ht2 w) ?_
 intro p3 c4
 refine aa (ns (am ?_))
 obtain ⟨h5,hF⟩:=gd hF
 refine Qae (φ:=∃ b o,p3=some ⟨b,o,none⟩) (fun _ hw=>Qaa (hw.own .z).row h5) ?_
 rintro ⟨b7,o8,hp6⟩
 refine aw (QbD underlying46 sizeOf9 rfl rfl h5 hp6) ?_
 refine aw (Qe isAgg9 rfl (fun _ hw=>QP (W:=fun w1=>w1=_) (fun w1 h=>by subst h;exact Below.refl _ _) (hw.own .z).row h5 hp6 rfl _ rfl)) ?_
 obtain ⟨t9,ht9,hF⟩:=bM hF
 refine cB func88 rfl (fun w hw=>Qb0 _ _ ht9 w) ?_
 refine am ?_
 refine aw xe (aw xe ?_)
 refine al (cs:=Cd.cs Qd zv2) zeroValue55 ?_
 intro b10
 refine Qn (c:=Qd) (z:=t9.1) .z lw sizeOf55 rfl rfl rfl ?_
 refine aa (nt (qs (sr (am (aw xn (nwq [19,6,5,4,2,0] ?_))))))
 obtain ⟨h11,hF⟩|⟨h11,hF⟩:=oi hF
 ·refine ct h11 ?_
  refine sr ?_
  refine aw (Qw (zs:=Cd.cs Qc Qdl) (cs:=Cd.cs Qc Qdl) underlying74 zeroValue74 rfl (QaM) rfl rfl) ?_
  refine am ?_
  refine Qn (c:=Qc) (z:=Qdl) (.s (.s .z)) lw sizeOf74 rfl rfl rfl ?_
  refine aa (qn (dz (dz (wq [3,2] ?_))))
  refine tn (rt ?_)
  have K:=os hF
  subst K
  exact QU rfl (QE (c:=Qc) (y:=Qdl) rfl .z lw isAgg74 sizeOf74 (.inl rfl)) (QS rfl) wb
 refine cf h11 ?_
 refine sn (qs (sr (am ?_)))
 refine aw (QZ underlying46 rfl) ?_
 refine aw xq (nwq [24,5,4,2,0] ?_)
 obtain ⟨h12,hF⟩|⟨h12,hF⟩:=oi hF
 ·refine ct h12 ?_
  refine qs (wq [5,2] ?_)
  obtain ⟨t13,ht13,hF⟩:=bM hF
  obtain ⟨t14,ht14,hF⟩:=bM hF
  refine Qey [.q 25 (fun g15=>.agg (Cd.cs Qd t9.1).toArray) [] 0 0,.q 26 (fun g15=>.agg (Cd.cs Qd t9.1).toArray) [] 0 0,.q 27 (fun g15=>.int .i64 t13) [1] 0 0,.q 28 (fun g15=>.tuple #[.agg (Cd.cs Qc t14.1).toArray,.int .i64 t14.2]) [0,2] 0 0,.q 29 (fun g15=>.agg (Cd.cs Qc t14.1).toArray) [3] 0 0,.q 30 (fun g15=>.int .i64 t14.2) [3] 0 0,.st 0 none [4],.q 3 (fun g15=>.int .i64 t14.2) [5] 1 1] (fun g15 s=>match s with | 0=>(Wd w [Qi b10 (Cd.cs Qd t9.1) 55,Qbm QbA 9 p3 c4 t2,Qi b1 (Cd.cs Qc Qdl) 74]) | _=>(Wd w [Qi b10 (Cd.cs Qd t9.1) 55,Qbm QbA 9 p3 c4 t2,Qi b1 (Cd.cs Qc t14.1) 74])) 1 (by kernel_rfl) (by kernel_rfl) (by kernel_rfl) (by kernel_rfl) (by kernel_rfl) ⟨fun _ _ _=>rfl,fun _ _ _=>rfl,fun _ _ _=>rfl,fun _ _ _=>rfl,fun _ _ _=>rfl,fun _ _ _=>rfl,fun _ _ _=>rfl,fun _ _ _=>rfl,trivial⟩ (by kernel_rfl) (fun w_ h=>⟨fun _=>g3 0 none 0 none w_,h.drew⟩) ⟨?_,?_,?_,?_,?_,?_,?_,?_,trivial⟩ ?_
  ·intro Lx g15 s K hl hh k
   show At 55 ((2,_)::(5,_)::Lx) _ _
   obtain rfl:s=0:=by omega
   refine aw (Qg (c:=Qd) (z:=t9.1) isAgg55 sizeOf55 rfl (Qp .z lw)) ?_
   exact Qs k
  ·intro Lx g15 s K hl hh k
   show At 55 ((2,_)::(5,_)::Lx) _ _
   obtain rfl:s=0:=by omega
   refine aw (Qg (c:=Qd) (z:=t9.1) isAgg55 sizeOf55 rfl (Qp .z lw)) ?_
   exact Qs k
  ·intro Lx g15 s K hl hh k
   show At 55 ((26,_)::(2,_)::(5,_)::Lx) _ _
   obtain rfl:s=0:=by omega
   refine cB func73 rfl (fun w hw=>Qcs _ _ ht13 w) ?_
   exact Qs k
  ·intro Lx g15 s K hl hh k
   show At 55 ((25,_)::(27,_)::(2,_)::(5,_)::Lx) _ _
   obtain rfl:s=0:=by omega
   refine cB func89 rfl (fun w hw=>Qfq _ _ _ ht14 w) ?_
   exact Qs k
  ·intro Lx g15 s K hl hh k
   show At 55 ((28,_)::(2,_)::(5,_)::Lx) _ _
   refine aw xe ?_
   exact Qs k
  ·intro Lx g15 s K hl hh k
   show At 55 ((28,_)::(2,_)::(5,_)::Lx) _ _
   refine aw xe ?_
   exact Qs k
  ·intro Lx g15 K k
   show At 55 ((29,_)::(2,_)::(5,_)::Lx) _ _
   refine Qn (c:=Qc) (z:=t14.1) (.s (.s .z)) lw sizeOf74 rfl rfl rfl ?_
   exact Qs k
  ·intro Lx g15 s K hl hh k
   show At 55 ((30,_)::(2,_)::(5,_)::Lx) _ _
   refine aa ?_
   exact Qs k
  intro g15
  show At 55 [(25,_),(26,_),(27,_),(28,_),(29,_),(30,_),(3,_),(2,_),(5,_)] _ _
  refine dz (dz (wq [3,2] ?_))
  refine tn (rt ?_)
  have K:=os hF
  subst K
  exact QU rfl (QE (c:=Qc) (y:=t14.1) rfl .z lw isAgg74 sizeOf74 (.inl rfl)) (QS rfl) wb
 refine cf h12 ?_
 refine sn (qs (wq [5,4,2,0] ?_))
 obtain ⟨h16,hF⟩:=gd hF
 refine Qae (φ:=∃ b o,p3=some ⟨b,o,none⟩) (fun _ hw=>Qaa (hw.own (.s .z)).row h16) ?_
 rintro ⟨b18,o19,hp17⟩
 obtain ⟨h20,hF⟩:=gd hF
 obtain ⟨t21,ht21,hF⟩:=bM hF
 obtain ⟨t22,ht22,hF⟩:=bM hF
 refine Qey [.q 32 (fun g23=>.string x0) [] 0 0,.q 33 (fun g23=>.slice p3 t2.length c4) [] 0 0,.q 34 (fun g23=>.pointer (some ⟨b18,o19+Int.toNat 0*1,none⟩)) [1] 0 0,.q 35 (fun g23=>.string (QO t2 0)) [2] 0 0,.q 36 (fun g23=>.int .i64 ((QO t2 0).size:Int)) [3] 0 0,.q 37 (fun g23=>.int .i64 (wr .i64 (((QO t2 0).size:Int)+1))) [4] 0 0,.q 38 (fun g23=>.string (x0.extract (Int.toNat (wr .i64 (((QO t2 0).size:Int)+1))) (Int.toNat (x0.size:Int)))) [0,5] 0 0,.q 39 (fun g23=>.agg (Cd.cs Qd t9.1).toArray) [] 0 0,.q 40 (fun g23=>.int .i64 t21) [7] 0 0,.q 41 (fun g23=>.int .u64 (wr .u64 t21)) [8] 0 0,.q 42 (fun g23=>.tuple #[.int .u64 t22.1,.int .i64 t22.2]) [6,9] 0 0,.q 31 (fun g23=>.tuple #[.int .u64 t22.1,.int .i64 t22.2]) [10] 0 0,.q 43 (fun g23=>.int .u64 t22.1) [11] 0 0,.q 44 (fun g23=>.int .i64 t22.2) [11] 0 0,.q 7 (fun g23=>.int .u64 t22.1) [12] 0 0,.q 8 (fun g23=>.int .i64 t22.2) [13] 0 0] (fun g23 s=>match s with | _=>(Wd w [Qi b10 (Cd.cs Qd t9.1) 55,Qbm QbA 9 p3 c4 t2,Qi b1 (Cd.cs Qc Qdl) 74])) 0 (by kernel_rfl) (by kernel_rfl) (by kernel_rfl) (by kernel_rfl) (by kernel_rfl) ⟨fun _ _ _=>rfl,fun _ _ _=>rfl,fun _ _ _=>rfl,fun _ _ _=>rfl,fun _ _ _=>rfl,fun _ _ _=>rfl,fun _ _ _=>rfl,fun _ _ _=>rfl,fun _ _ _=>rfl,fun _ _ _=>rfl,fun _ _ _=>rfl,fun _ _ _=>rfl,fun _ _ _=>rfl,fun _ _ _=>rfl,fun _ _ _=>rfl,fun _ _ _=>rfl,trivial⟩ (by kernel_rfl) (fun w_ h=>⟨fun _=>g3 0 none 0 none w_,h.drew⟩) ⟨?_,?_,?_,?_,?_,?_,?_,?_,?_,?_,?_,?_,?_,?_,?_,?_,trivial⟩ ?_
 ·intro Lx g23 s K hl hh k
  show At 55 ((0,_)::(2,_)::(4,_)::(5,_)::Lx) _ _
  refine am ?_
  exact Qs k
 ·intro Lx g23 s K hl hh k
  show At 55 ((0,_)::(2,_)::(4,_)::(5,_)::Lx) _ _
  refine am ?_
  exact Qs k
 ·intro Lx g23 s K hl hh k
  show At 55 ((33,_)::(0,_)::(2,_)::(4,_)::(5,_)::Lx) _ _
  refine aw (QbD underlying46 sizeOf9 rfl rfl h16 hp17) ?_
  exact Qs k
 ·intro Lx g23 s K hl hh k
  show At 55 ((34,_)::(0,_)::(2,_)::(4,_)::(5,_)::Lx) _ _
  obtain rfl:s=0:=by omega
  refine aw (Qe isAgg9 rfl (fun _ hw=>QP (W:=fun w1=>w1=_) (fun w1 h=>by subst h;exact Below.refl _ _) (hw.own (.s .z)).row h16 hp17 rfl _ rfl)) ?_
  exact Qs k
 ·intro Lx g23 s K hl hh k
  show At 55 ((35,_)::(0,_)::(2,_)::(4,_)::(5,_)::Lx) _ _
  obtain rfl:s=0:=by omega
  refine aw (QaR underlying9 rfl) ?_
  exact Qs k
 ·intro Lx g23 s K hl hh k
  show At 55 ((36,_)::(0,_)::(2,_)::(4,_)::(5,_)::Lx) _ _
  refine aw xa ?_
  exact Qs k
 ·intro Lx g23 s K hl hh k
  show At 55 ((32,_)::(37,_)::(0,_)::(2,_)::(4,_)::(5,_)::Lx) _ _
  obtain rfl:s=0:=by omega
  refine aw (Qbc underlying9 rfl ⟨_,rfl⟩ rfl h20) ?_
  exact Qs k
 ·intro Lx g23 s K hl hh k
  show At 55 ((0,_)::(2,_)::(4,_)::(5,_)::Lx) _ _
  obtain rfl:s=0:=by omega
  refine aw (Qg (c:=Qd) (z:=t9.1) isAgg55 sizeOf55 rfl (Qp .z lw)) ?_
  exact Qs k
 ·intro Lx g23 s K hl hh k
  show At 55 ((39,_)::(0,_)::(2,_)::(4,_)::(5,_)::Lx) _ _
  obtain rfl:s=0:=by omega
  refine cB func73 rfl (fun w hw=>Qcs _ _ ht21 w) ?_
  exact Qs k
 ·intro Lx g23 s K hl hh k
  show At 55 ((40,_)::(0,_)::(2,_)::(4,_)::(5,_)::Lx) _ _
  refine aw (QaW underlying3 underlying41 rfl) ?_
  exact Qs k
 ·intro Lx g23 s K hl hh k
  show At 55 ((38,_)::(41,_)::(0,_)::(2,_)::(4,_)::(5,_)::Lx) _ _
  obtain rfl:s=0:=by omega
  refine Qav func21 rfl (by kernel_rfl) rfl rfl (fun w=>Qah _ _ _ ht22 w) ?_
  exact Qs k
 ·intro Lx g23 s K hl hh k
  show At 55 ((42,_)::(0,_)::(2,_)::(4,_)::(5,_)::Lx) _ _
  refine am ?_
  exact Qs k
 ·intro Lx g23 s K hl hh k
  show At 55 ((31,_)::(0,_)::(2,_)::(4,_)::(5,_)::Lx) _ _
  refine aw xe ?_
  exact Qs k
 ·intro Lx g23 s K hl hh k
  show At 55 ((31,_)::(0,_)::(2,_)::(4,_)::(5,_)::Lx) _ _
  refine aw xe ?_
  exact Qs k
 ·intro Lx g23 s K hl hh k
  show At 55 ((43,_)::(0,_)::(2,_)::(4,_)::(5,_)::Lx) _ _
  refine aa ?_
  exact Qs k
 ·intro Lx g23 s K hl hh k
  show At 55 ((44,_)::(0,_)::(2,_)::(4,_)::(5,_)::Lx) _ _
  refine aa ?_
  exact Qs k
 intro g23
 show At 55 [(32,_),(33,_),(34,_),(35,_),(36,_),(37,_),(38,_),(39,_),(40,_),(41,_),(42,_),(31,_),(43,_),(44,_),(7,_),(8,_),(0,_),(2,_),(4,_),(5,_)] _ _
 refine Qam (H:=_) (.s .z) ?_
 refine tn (qs (sr (am (aw xn (nwq [46,8,7,5,2] ?_)))))
 obtain ⟨h24,hF⟩|⟨h24,hF⟩:=oi hF
 ·refine ct h24 ?_
  refine sr ?_
  refine aw (Qw (zs:=Cd.cs Qc Qdl) (cs:=Cd.cs Qc Qdl) underlying74 zeroValue74 rfl (QaM) rfl rfl) ?_
  refine am ?_
  refine Qn (c:=Qc) (z:=Qdl) (.s .z) lw sizeOf74 rfl rfl rfl ?_
  refine aa (qn (dz (wq [3,2] ?_)))
  refine tn (rt ?_)
  have K:=os hF
  subst K
  exact QU rfl (QE (c:=Qc) (y:=Qdl) rfl .z lw isAgg74 sizeOf74 (.inl rfl)) (QS rfl) wb
 refine cf h24 ?_
 refine sns ?_
 refine aw (Qg (c:=Qd) (z:=t9.1) isAgg55 sizeOf55 rfl (Qp .z lw)) ?_
 refine am ?_
 refine aw (QaW underlying41 underlying3 rfl) ?_
 obtain ⟨t25,ht25,hF⟩:=bM hF
 refine cB func89 rfl (fun w hw=>Qfq _ _ _ ht25 w) ?_
 refine aw xe (aw xe ?_)
 refine Qn (c:=Qc) (z:=t25.1) (.s .z) lw sizeOf74 rfl rfl rfl ?_
 refine aa (qn (dz (wq [3,2] ?_)))
 refine tn (qt ?_)
 have K:=os hF
 subst K
 exact QU rfl (QE (c:=Qc) (y:=t25.1) rfl .z lw isAgg74 sizeOf74 (.inl rfl)) (QS rfl) wb
def Qa6.l0(x0:List Qo)(x1:List Qo)(i3:Int):Option (Ctl (Bool) (Unit)) :=
 if (decide (i3<(x0.length:Int)))=true then (if (0:Int)≤i3∧i3<(x0.length:Int) then if (0:Int)≤i3∧i3<(x1.length:Int) then if (!decide (QO x0 i3=QO x1 i3))=true then (some (.ret false)) else (Qa6.l0 x0 x1 (wr .i64 (i3+1))) else none else none) else (some (.nx ()))
 partial_fixpoint
def Qa6(x0:List Qo)(x1:List Qo):Option (Bool) :=
 if ((x0.length:Int) != (x1.length:Int))=true then (some false) else (Qa6.l0 x0 x1 0>>=fun q2=>match q2 with | .ret r'=>some r' | .nx sq2=>(some true))
theorem QgT(x0:List Qo)(p0_:Option Addr)(c0_:Nat)(x1:List Qo)(p1_:Option Addr)(c1_:Nat)(r:Bool)(hF:Qa6 x0 x1=some r)(w:World)(hr0:Row Qc w p0_ c0_ x0)(hr1:Row Qc w p1_ c1_ x1) :
    Calls Tryz.prog 57 #[.slice p0_ x0.length c0_,.slice p1_ x1.length c1_] w (fun e w'=>e=.returned (.bool r)∧Below w.heap.size w w'):=by
 unfold Qa6 at hF
 refine ce (l:=[.slice p0_ x0.length c0_,.slice p1_ x1.length c1_]) func57 rfl rfl ?_
 refine QN ?_
 refine sr (aa (nt (qs (sr (am ?_)))))
 refine aw (QZ underlying58 rfl) ?_
 refine am ?_
 refine aw (QZ underlying58 rfl) ?_
 refine aw xn (nwq [10,1,0] ?_)
 obtain ⟨h1,hF⟩|⟨h1,hF⟩:=oi hF
 ·refine ct h1 ?_
  refine sr (aa (nwq [4] ?_))
  refine rt ?_
  have K:=os hF
  subst K
  exact r1 wb
 refine cf h1 ?_
 refine sn (qs (sr (aa (nwq [5,1,0] ?_))))
 refine qb ?_
 obtain ⟨q2,hq2,hF⟩:=bM hF
 refine wq [5,1,0] ?_
 refine Qbn (B:=0) (r:=r) (q:=q2) (A:=fun (_:Unit) Y=>At 26 [] (Wd w []) Y) ?_ ?_
 ·intro K
  refine Qa6.l0.partial_correctness x0 x1 (motive:=fun i3 x=>KR (fun (_:Unit) Y=>At 26 [] (Wd w []) Y) _ 0 r x→QbB (fun Y=>At 26 [(0,.slice p0_ x0.length c0_),(1,.slice p1_ x1.length c1_),(5,.int .i64 i3)] (Wd w []) Y) _ _ _) ?_ _ _ hq2 K
  ·clear K hF
   intro g ih i3 x hF K
   refine QW ?_
   refine qs (sr (am (am ?_)))
   refine aw (QZ underlying58 rfl) ?_
   refine aw xl (nwq [14,5,1,0] ?_)
   obtain ⟨h4,hF⟩|⟨h4,hF⟩:=oi hF
   ·refine ct h4 ?_
    refine sn (qs (qb (qs ?_)))
    refine Qdd (by kernel_rfl) (by kernel_rfl) (fun _ h=>h.drew) ?_
    refine Ql rfl rfl rfl (Qbz rfl) ?_
    refine Ql rfl rfl rfl (Qbz rfl) ?_
    obtain ⟨h5,hF⟩:=gd hF
    obtain ⟨b7,o8,hp6⟩:=Qaa hr0 h5
    refine Ql rfl rfl rfl (QbD underlying58 sizeOf74 rfl rfl h5 hp6) ?_
    refine Ql rfl rfl rfl (Qg (c:=Qc) (z:=QO x0 i3) isAgg74 sizeOf74 rfl (QdB (fun _ h=>h.below) hr0 h5 hp6)) ?_
    refine Ql rfl rfl rfl (Qbz rfl) ?_
    refine Ql rfl rfl rfl (Qbz rfl) ?_
    obtain ⟨h9,hF⟩:=gd hF
    obtain ⟨b11,o12,hp10⟩:=Qaa hr1 h9
    refine Ql rfl rfl rfl (QbD underlying58 sizeOf74 rfl rfl h9 hp10) ?_
    refine Ql rfl rfl rfl (Qg (c:=Qc) (z:=QO x1 i3) isAgg74 sizeOf74 rfl (QdB (fun _ h=>h.below) hr1 h9 hp10)) ?_
    refine Ql rfl rfl rfl (QdR (c:=Qc) (a:=QO x0 i3) (b:=QO x1 i3) (Qds) rfl Tryz.eqGuardType74 rfl rfl (.inr rfl) rfl) ?_
    refine Qck ?_
    refine wq [25,5,1,0] ?_
    refine tn ?_
    obtain ⟨h13,hF⟩|⟨h13,hF⟩:=oi hF
    ·refine ct h13 ?_
     refine sr (aa (nwq [4] ?_))
     refine qt ?_
     refine br (tr (tr (br (tr ?_))))
     obtain rfl:=os hF
     subst K
     exact r1 wb
    refine cf h13 ?_
    refine QbQ ?_
    refine bm ?_
    refine qr (am (aw xa (aa (nwq [5,1,0] ?_))))
    exact Qk (ih _ _ hF K) ⟨rfl,rfl,rfl,trivial⟩
   refine cf h4 ?_
   refine Q7 ?_
   refine te (te ?_)
   obtain rfl:=os hF
   exact Qk K trivial
 cases q2 with
 | ret r'=>exact os hF
 | nx sq2 =>
  skip
  refine QD ?_
  refine tn (sr (aa (nwq [4] ?_)))
  refine qt ?_
  have K:=os hF
  subst K
  exact r1 wb
def Qe9(x0:List Int)(x1:List Int):Option (Int) :=
 some (Lib.compareBytes (unb x0) (unb x1))
theorem Qjh(x0:List Int)(p0_:Option Addr)(c0_:Nat)(x1:List Int)(p1_:Option Addr)(c1_:Nat)(r:Int)(hF:Qe9 x0 x1=some r)(w:World)(hr0:Row (Qv .u8) w p0_ c0_ x0)(hr1:Row (Qv .u8) w p1_ c1_ x1) :
    Calls Tryz.prog 159 #[.slice p0_ x0.length c0_,.slice p1_ x1.length c1_] w (fun e w'=>e=.returned (.int .i64 r)∧w'=w):=by
 unfold Qe9 at hF
 refine ce (l:=[.slice p0_ x0.length c0_,.slice p1_ x1.length c1_]) func159 rfl rfl ?_
 refine sr (aa (ns (am (am ?_))))
 refine aw (Qwr (xs:=x0) (ys:=x1) func187 rfl rfl (by kernel_rfl) (by kernel_rfl) rfl rfl (fun w1 hw=>(hr0.below (by subst hw;exact Below.refl _ _))) (fun w1 hw=>(hr1.below (by subst hw;exact Below.refl _ _)))) ?_
 refine aa (nwq [4] ?_)
 refine qt ?_
 have K:=os hF
 subst K
 exact r1 (fun w1 hw=>⟨rfl,hw⟩)
def QfY(x0:Qj)(x1:Qj):Option (Bool) :=
 if (x0.f_V != x1.f_V)=true then (some (decide (x0.f_V<x1.f_V))) else (Qe9 (Vector.toList x0.f_B) (Vector.toList x1.f_B)>>=fun t4=>some (decide (t4<0)))
theorem Qm4(x0:Qj)(x1:Qj)(r:Bool)(hF:QfY x0 x1=some r)(w:World) :
    Calls Tryz.prog 124 #[.agg (Cd.cs Qd x0).toArray,.agg (Cd.cs Qd x1).toArray] w (fun e w'=>e=.returned (.bool r)∧Below w.heap.size w w'):=by
 unfold QfY at hF
 refine ce (l:=[.agg (Cd.cs Qd x0).toArray,.agg (Cd.cs Qd x1).toArray]) func124 rfl rfl ?_
 refine QN ?_
 refine sr ?_
 refine Qbv (cs:=Cd.cs Qd x0) rfl rfl rfl ?_
 intro b1
 refine Qbv (cs:=Cd.cs Qd x1) rfl rfl rfl ?_
 intro b2
 refine aa (nt (qs (sr (fa 0 underlying55 rfl sizeOf3 ?_))))
 refine aw (Qe isAgg3 rfl (Qm (c:=(Qv .i64)) (y:=x0.f_V) (.s .z) (Qaf.comp lw (fun z=>{ x0 with f_V:=z }) (Q5 x0)) rfl)) ?_
 refine fa 0 underlying55 rfl sizeOf3 ?_
 refine aw (Qe isAgg3 rfl (Qm (c:=(Qv .i64)) (y:=x1.f_V) .z (Qaf.comp lw (fun z=>{ x1 with f_V:=z }) (Q5 x1)) rfl)) ?_
 refine aw xn (nwq [9,3,2] ?_)
 obtain ⟨h3,hF⟩|⟨h3,hF⟩:=oi hF
 ·refine ct h3 ?_
  refine sr (fa 0 underlying55 rfl sizeOf3 ?_)
  refine aw (Qe isAgg3 rfl (Qm (c:=(Qv .i64)) (y:=x0.f_V) (.s .z) (Qaf.comp lw (fun z=>{ x0 with f_V:=z }) (Q5 x0)) rfl)) ?_
  refine fa 0 underlying55 rfl sizeOf3 ?_
  refine aw (Qe isAgg3 rfl (Qm (c:=(Qv .i64)) (y:=x1.f_V) .z (Qaf.comp lw (fun z=>{ x1 with f_V:=z }) (Q5 x1)) rfl)) ?_
  refine aw xl (aa (qn (dz (dz (wq [4] ?_)))))
  refine tn (rt ?_)
  have K:=os hF
  subst K
  exact r1 wb
 refine cf h3 ?_
 refine sn (qs ?_)
 refine Qdd (by kernel_rfl) (by kernel_rfl) (fun _ h=>h.drew) ?_
 refine Ql rfl rfl rfl (Q4 (fo:=1) underlying55 rfl rfl (fun w=>⟨_,sizeOf53 w⟩) rfl) ?_
 refine Ql rfl rfl rfl (QiD (c:=(Qv .u8)) x0.f_B (by decide) underlying53 sizeOf5 rfl) ?_
 refine Ql rfl rfl rfl (Q4 (fo:=1) underlying55 rfl rfl (fun w=>⟨_,sizeOf53 w⟩) rfl) ?_
 refine Ql rfl rfl rfl (QiD (c:=(Qv .u8)) x1.f_B (by decide) underlying53 sizeOf5 rfl) ?_
 obtain ⟨t4,ht4,hF⟩:=bM hF
 refine Qbl func159 rfl (by kernel_rfl) rfl rfl (fun w hw=>(Qjh _ _ _ _ _ _ _ ht4 w (Qe7 (.s .z) (Qaf.comp lw (fun z=>{ x0 with f_B:=z }) (Q1 x0)) hw) (Qe7 .z (Qaf.comp lw (fun z=>{ x1 with f_B:=z }) (Q1 x1)) hw)).mono fun _ _ h=>⟨h.1,h.2▸hw⟩) ?_
 refine Ql rfl rfl rfl (Qoi rfl rfl) ?_
 refine Ql rfl rfl rfl (Qcf rfl) ?_
 refine Qck ?_
 refine dz (dz (wq [4] ?_))
 refine tn (qt ?_)
 have K:=os hF
 subst K
 exact r1 wb
def QfV(x0:Qo)(x1:Qo):Option (Bool) :=
 if (decide (x0.f_A=x1.f_A))=true then (some (decide (x0.f_Bits<x1.f_Bits))) else (QfY x0.f_A x1.f_A>>=fun t4=>some t4)
theorem QmV(x0:Qo)(x1:Qo)(r:Bool)(hF:QfV x0 x1=some r)(w:World) :
    Calls Tryz.prog 91 #[.agg (Cd.cs Qc x0).toArray,.agg (Cd.cs Qc x1).toArray] w (fun e w'=>e=.returned (.bool r)∧Below w.heap.size w w'):=by
 unfold QfV at hF
 refine ce (l:=[.agg (Cd.cs Qc x0).toArray,.agg (Cd.cs Qc x1).toArray]) func91 rfl rfl ?_
 refine QN ?_
 refine sr ?_
 refine Qbv (cs:=Cd.cs Qc x0) rfl rfl rfl ?_
 intro b1
 refine Qbv (cs:=Cd.cs Qc x1) rfl rfl rfl ?_
 intro b2
 refine aa (nt (qs (sr (fa 0 underlying74 rfl sizeOf55 ?_))))
 refine aw (Qg (c:=Qd) (z:=x0.f_A) isAgg55 sizeOf55 rfl (Qp (.s .z) (Qaf.comp lw (fun z=>{ x0 with f_A:=z }) (Qai x0)))) ?_
 refine fa 0 underlying74 rfl sizeOf55 ?_
 refine aw (Qg (c:=Qd) (z:=x1.f_A) isAgg55 sizeOf55 rfl (Qp .z (Qaf.comp lw (fun z=>{ x1 with f_A:=z }) (Qai x1)))) ?_
 refine aw (QdR (c:=Qd) (a:=x0.f_A) (b:=x1.f_A) (Qdu) rfl Tryz.eqGuardType55 rfl rfl (.inl rfl) rfl) ?_
 refine nwq [9,3,2] ?_
 obtain ⟨h3,hF⟩|⟨h3,hF⟩:=oi hF
 ·refine ct h3 ?_
  refine sr (fa 17 underlying74 rfl sizeOf3 ?_)
  refine aw (Qe isAgg3 rfl (Qm (c:=(Qv .i64)) (y:=x0.f_Bits) (.s .z) (Qaf.comp lw (fun z=>{ x0 with f_Bits:=z }) (Qan x0)) rfl)) ?_
  refine fa 17 underlying74 rfl sizeOf3 ?_
  refine aw (Qe isAgg3 rfl (Qm (c:=(Qv .i64)) (y:=x1.f_Bits) .z (Qaf.comp lw (fun z=>{ x1 with f_Bits:=z }) (Qan x1)) rfl)) ?_
  refine aw xl (aa (qn (dz (dz (wq [4] ?_)))))
  refine tn (rt ?_)
  have K:=os hF
  subst K
  exact r1 wb
 refine cf h3 ?_
 refine sns (fa 0 underlying74 rfl sizeOf55 ?_)
 refine aw (Qg (c:=Qd) (z:=x0.f_A) isAgg55 sizeOf55 rfl (Qp (.s .z) (Qaf.comp lw (fun z=>{ x0 with f_A:=z }) (Qai x0)))) ?_
 refine fa 0 underlying74 rfl sizeOf55 ?_
 refine aw (Qg (c:=Qd) (z:=x1.f_A) isAgg55 sizeOf55 rfl (Qp .z (Qaf.comp lw (fun z=>{ x1 with f_A:=z }) (Qai x1)))) ?_
 obtain ⟨t4,ht4,hF⟩:=bM hF
 refine cB func124 rfl (fun w hw=>Qm4 _ _ _ ht4 w) ?_
 refine aa (qn (dz (dz (wq [4] ?_))))
 refine tn (qt ?_)
 have K:=os hF
 subst K
 exact r1 wb
def QaD.l0(x0:Qj)(x1:Qj)(i5:Int):Option (Ctl (Bool) (Unit)) :=
 if (decide (i5<16))=true then (if (0:Int)≤i5∧i5<16 then if (0:Int)≤i5∧i5<16 then if (Qbb x0.f_B i5 != Qbb x1.f_B i5)=true then (if (0:Int)≤i5∧i5<16 then if (0:Int)≤i5∧i5<16 then some (.ret (decide (Qbb x0.f_B i5<Qbb x1.f_B i5))) else none else none) else (QaD.l0 x0 x1 (wr .i64 (i5+1))) else none else none) else (some (.nx ()))
 partial_fixpoint
def QaD(x0:Qj)(x1:Qj):Option (Bool) :=
 if (x0.f_V != x1.f_V)=true then (some (decide (x0.f_V<x1.f_V))) else (QaD.l0 x0 x1 0>>=fun q4=>match q4 with | .ret r'=>some r' | .nx sq4=>(some false))
theorem QgV(x0:Qj)(x1:Qj)(r:Bool)(hF:QaD x0 x1=some r)(w:World) :
    Calls Tryz.prog 75 #[.agg (Cd.cs Qd x0).toArray,.agg (Cd.cs Qd x1).toArray] w (fun e w'=>e=.returned (.bool r)∧Below w.heap.size w w'):=by
 unfold QaD at hF
 refine ce (l:=[.agg (Cd.cs Qd x0).toArray,.agg (Cd.cs Qd x1).toArray]) func75 rfl rfl ?_
 refine QN ?_
 refine sr ?_
 refine Qbv (cs:=Cd.cs Qd x0) rfl rfl rfl ?_
 intro b1
 refine Qbv (cs:=Cd.cs Qd x1) rfl rfl rfl ?_
 intro b2
 refine aa (nt (qs (sr (fa 0 underlying55 rfl sizeOf3 ?_))))
 refine aw (Qe isAgg3 rfl (Qm (c:=(Qv .i64)) (y:=x0.f_V) (.s .z) (Qaf.comp lw (fun z=>{ x0 with f_V:=z }) (Q5 x0)) rfl)) ?_
 refine fa 0 underlying55 rfl sizeOf3 ?_
 refine aw (Qe isAgg3 rfl (Qm (c:=(Qv .i64)) (y:=x1.f_V) .z (Qaf.comp lw (fun z=>{ x1 with f_V:=z }) (Q5 x1)) rfl)) ?_
 refine aw xn (nwq [10,3,2] ?_)
 obtain ⟨h3,hF⟩|⟨h3,hF⟩:=oi hF
 ·refine ct h3 ?_
  refine sr (fa 0 underlying55 rfl sizeOf3 ?_)
  refine aw (Qe isAgg3 rfl (Qm (c:=(Qv .i64)) (y:=x0.f_V) (.s .z) (Qaf.comp lw (fun z=>{ x0 with f_V:=z }) (Q5 x0)) rfl)) ?_
  refine fa 0 underlying55 rfl sizeOf3 ?_
  refine aw (Qe isAgg3 rfl (Qm (c:=(Qv .i64)) (y:=x1.f_V) .z (Qaf.comp lw (fun z=>{ x1 with f_V:=z }) (Q5 x1)) rfl)) ?_
  refine aw xl (aa (qn (dz (dz (wq [4] ?_)))))
  refine tn (rt ?_)
  have K:=os hF
  subst K
  exact r1 wb
 refine cf h3 ?_
 refine sn (qs (sr (aa (nwq [5,3,2] ?_))))
 refine qb ?_
 obtain ⟨q4,hq4,hF⟩:=bM hF
 refine wq [5,3,2] ?_
 refine Qbn (B:=0) (r:=r) (q:=q4) (A:=fun (_:Unit) Y=>At 38 [] (Wd w []) Y) ?_ ?_
 ·intro K
  refine QaD.l0.partial_correctness x0 x1 (motive:=fun i5 x=>KR (fun (_:Unit) Y=>At 38 [] (Wd w []) Y) _ 0 r x→QbB (fun Y=>At 38 [(2,.pointer (some ⟨b1,0,none⟩)),(3,.pointer (some ⟨b2,0,none⟩)),(5,.int .i64 i5)] (Wd w [Qi b2 (Cd.cs Qd x1) 55,Qi b1 (Cd.cs Qd x0) 55]) Y) _ _ _) ?_ _ _ hq4 K
  ·clear K hF
   intro g ih i5 x hF K
   refine QW ?_
   refine qs (sr (am (aw xl (nwq [17,5,3,2] ?_))))
   obtain ⟨h6,hF⟩|⟨h6,hF⟩:=oi hF
   ·refine ct h6 ?_
    refine sn (qs (qb (qs ?_)))
    refine Qdd (by kernel_rfl) (by kernel_rfl) (fun _ h=>h.drew) ?_
    refine Ql rfl rfl rfl (Qbz rfl) ?_
    refine Ql rfl rfl rfl (Q4 (fo:=1) underlying55 rfl rfl (fun w=>⟨_,sizeOf53 w⟩) rfl) ?_
    obtain ⟨h7,hF⟩:=gd hF
    refine Ql rfl rfl rfl (Qas underlying53 sizeOf5 rfl rfl h7) ?_
    refine Ql rfl rfl rfl (Qe isAgg5 rfl (Qm (c:=(Qv .u8)) (y:=Qbb x0.f_B i5) (.s .z) (Qaf.comp (Qaf.comp lw (fun z=>{ x0 with f_B:=z }) (Q1 x0)) (fun z=>Qb2 x0.f_B i5 z) (Qaf.vec (Qv .u8) (by decide) x0.f_B i5 h7)) rfl)) ?_
    refine Ql rfl rfl rfl (Qbz rfl) ?_
    refine Ql rfl rfl rfl (Q4 (fo:=1) underlying55 rfl rfl (fun w=>⟨_,sizeOf53 w⟩) rfl) ?_
    obtain ⟨h8,hF⟩:=gd hF
    refine Ql rfl rfl rfl (Qas underlying53 sizeOf5 rfl rfl h8) ?_
    refine Ql rfl rfl rfl (Qe isAgg5 rfl (Qm (c:=(Qv .u8)) (y:=Qbb x1.f_B i5) .z (Qaf.comp (Qaf.comp lw (fun z=>{ x1 with f_B:=z }) (Q1 x1)) (fun z=>Qb2 x1.f_B i5 z) (Qaf.vec (Qv .u8) (by decide) x1.f_B i5 h8)) rfl)) ?_
    refine Ql rfl rfl rfl (Qtl rfl rfl) ?_
    refine Qck ?_
    refine wq [28,5,3,2] ?_
    refine tn ?_
    obtain ⟨h9,hF⟩|⟨h9,hF⟩:=oi hF
    ·refine ct h9 ?_
     refine qs ?_
     refine Qdd (by kernel_rfl) (by kernel_rfl) (fun _ h=>h.drew) ?_
     refine Ql rfl rfl rfl (Qbz rfl) ?_
     refine Ql rfl rfl rfl (Q4 (fo:=1) underlying55 rfl rfl (fun w=>⟨_,sizeOf53 w⟩) rfl) ?_
     obtain ⟨h10,hF⟩:=gd hF
     refine Ql rfl rfl rfl (Qas underlying53 sizeOf5 rfl rfl h10) ?_
     refine Ql rfl rfl rfl (Qe isAgg5 rfl (Qm (c:=(Qv .u8)) (y:=Qbb x0.f_B i5) (.s .z) (Qaf.comp (Qaf.comp lw (fun z=>{ x0 with f_B:=z }) (Q1 x0)) (fun z=>Qb2 x0.f_B i5 z) (Qaf.vec (Qv .u8) (by decide) x0.f_B i5 h10)) rfl)) ?_
     refine Ql rfl rfl rfl (Qbz rfl) ?_
     refine Ql rfl rfl rfl (Q4 (fo:=1) underlying55 rfl rfl (fun w=>⟨_,sizeOf53 w⟩) rfl) ?_
     obtain ⟨h11,hF⟩:=gd hF
     refine Ql rfl rfl rfl (Qas underlying53 sizeOf5 rfl rfl h11) ?_
     refine Ql rfl rfl rfl (Qe isAgg5 rfl (Qm (c:=(Qv .u8)) (y:=Qbb x1.f_B i5) .z (Qaf.comp (Qaf.comp lw (fun z=>{ x1 with f_B:=z }) (Q1 x1)) (fun z=>Qb2 x1.f_B i5 z) (Qaf.vec (Qv .u8) (by decide) x1.f_B i5 h11)) rfl)) ?_
     refine Ql rfl rfl rfl (Qoi rfl rfl) ?_
     refine Ql rfl rfl rfl (Qcf rfl) ?_
     refine Qck ?_
     refine dz (dz (wq [4] ?_))
     refine tn (qt ?_)
     refine br (tr (tr (br (tr ?_))))
     obtain rfl:=os hF
     subst K
     exact r1 wb
    refine cf h9 ?_
    refine QbQ ?_
    refine bm ?_
    refine qr (am (aw xa (aa (nwq [5,3,2] ?_))))
    exact Qk (ih _ _ hF K) ⟨rfl,rfl,rfl,trivial⟩
   refine cf h6 ?_
   refine Q7 ?_
   refine te (te ?_)
   refine dz (dz ?_)
   obtain rfl:=os hF
   exact Qk K trivial
 cases q4 with
 | ret r'=>exact os hF
 | nx sq4 =>
  skip
  refine QD ?_
  refine tn (sr (aa (nwq [4] ?_)))
  refine qt ?_
  have K:=os hF
  subst K
  exact r1 wb
def Qci(x0:Qo)(x1:Qo):Option (Bool) :=
 if (!decide (x0.f_A=x1.f_A))=true then (QaD x0.f_A x1.f_A>>=fun t4=>some t4) else (some (decide (x0.f_Bits<x1.f_Bits)))
theorem QgU(x0:Qo)(x1:Qo)(r:Bool)(hF:Qci x0 x1=some r)(w:World) :
    Calls Tryz.prog 37 #[.agg (Cd.cs Qc x0).toArray,.agg (Cd.cs Qc x1).toArray] w (fun e w'=>e=.returned (.bool r)∧Below w.heap.size w w'):=by
 unfold Qci at hF
 refine ce (l:=[.agg (Cd.cs Qc x0).toArray,.agg (Cd.cs Qc x1).toArray]) func37 rfl rfl ?_
 refine QN ?_
 refine sr ?_
 refine Qbv (cs:=Cd.cs Qc x0) rfl rfl rfl ?_
 intro b1
 refine Qbv (cs:=Cd.cs Qc x1) rfl rfl rfl ?_
 intro b2
 refine aa (nt (qs (sr (fa 0 underlying74 rfl sizeOf55 ?_))))
 refine aw (Qg (c:=Qd) (z:=x0.f_A) isAgg55 sizeOf55 rfl (Qp (.s .z) (Qaf.comp lw (fun z=>{ x0 with f_A:=z }) (Qai x0)))) ?_
 refine fa 0 underlying74 rfl sizeOf55 ?_
 refine aw (Qg (c:=Qd) (z:=x1.f_A) isAgg55 sizeOf55 rfl (Qp .z (Qaf.comp lw (fun z=>{ x1 with f_A:=z }) (Qai x1)))) ?_
 refine aw (QdR (c:=Qd) (a:=x0.f_A) (b:=x1.f_A) (Qdu) rfl Tryz.eqGuardType55 rfl rfl (.inr rfl) rfl) ?_
 refine nwq [9,3,2] ?_
 obtain ⟨h3,hF⟩|⟨h3,hF⟩:=oi hF
 ·refine ct h3 ?_
  refine sr (fa 0 underlying74 rfl sizeOf55 ?_)
  refine aw (Qg (c:=Qd) (z:=x0.f_A) isAgg55 sizeOf55 rfl (Qp (.s .z) (Qaf.comp lw (fun z=>{ x0 with f_A:=z }) (Qai x0)))) ?_
  refine fa 0 underlying74 rfl sizeOf55 ?_
  refine aw (Qg (c:=Qd) (z:=x1.f_A) isAgg55 sizeOf55 rfl (Qp .z (Qaf.comp lw (fun z=>{ x1 with f_A:=z }) (Qai x1)))) ?_
  obtain ⟨t4,ht4,hF⟩:=bM hF
  refine cB func75 rfl (fun w hw=>QgV _ _ _ ht4 w) ?_
  refine aa (qn (dz (dz (wq [4] ?_))))
  refine tn (rt ?_)
  have K:=os hF
  subst K
  exact r1 wb
 refine cf h3 ?_
 refine sns (fa 17 underlying74 rfl sizeOf3 ?_)
 refine aw (Qe isAgg3 rfl (Qm (c:=(Qv .i64)) (y:=x0.f_Bits) (.s .z) (Qaf.comp lw (fun z=>{ x0 with f_Bits:=z }) (Qan x0)) rfl)) ?_
 refine fa 17 underlying74 rfl sizeOf3 ?_
 refine aw (Qe isAgg3 rfl (Qm (c:=(Qv .i64)) (y:=x1.f_Bits) .z (Qaf.comp lw (fun z=>{ x1 with f_Bits:=z }) (Qan x1)) rfl)) ?_
 refine aw xl (aa (qn (dz (dz (wq [4] ?_)))))
 refine tn (qt ?_)
 have K:=os hF
 subst K
 exact r1 wb
end Go.Proofs.YtnekckhjmnhinaaGreatDoor
namespace Go.Proofs.YtnekckhjmnhinaaGreatDoor.Adr
open E Go.RowKit
def vb(l:List UInt8):Vector Int 16:=Qjc 16 (ob l)
theorem QdX{l:List UInt8}(h:l.length=16):(vb l).toList=ob l:=by
 unfold vb
 rw [Qda 16 (ob l) (by rw [Qa1];omega),List.take_of_length_le (by rw [Qa1];omega)]
theorem QtJ{v:Vector Int 16}{l:List UInt8}(h:v.toList=ob l):v=vb l:=by
 have hl:l.length=16:=by have:=congrArg List.length h;rw [Qa1] at this;simpa using this.symm
 apply Vector.toList_inj.1
 rw [QdX hl,h]
theorem QuW{l k:List UInt8}(hl:l.length=16)(hk:k.length=16):vb l=vb k↔l=k:=by
 constructor
 ·intro h
  have:=congrArg Vector.toList h
  rw [QdX hl,QdX hk] at this
  exact QvC this
 ·intro h;rw [h]
def mkA(V:Int)(l:List UInt8):Qj:={ f_V:=V,f_B:=vb l }
theorem QkY(a:Qj)(h:Qf6 a):∃ V l,a=mkA V l∧l.length=16∧(Lit.int .i64 V).wf=true:=by
 obtain ⟨l,hl⟩:=QmR a.f_B.toList h.2
 have hlen:l.length=16:=by have:=congrArg List.length hl;rw [Qa1] at this;simpa using this.symm
 refine ⟨a.f_V,l,?_,hlen,h.1⟩
 cases a with | mk V B =>
 show Qj.mk V B=Qj.mk V (vb l)
 have hB:B=vb l:=QtJ hl
 rw [hB]
theorem Qlw{V W:Int}{l k:List UInt8}(hl:l.length=16)(hk:k.length=16):mkA V l=mkA W k↔V=W∧l=k:=by
 unfold mkA
 rw [Qj.mk.injEq,QuW hl hk]
def bg(l:List UInt8)(i:Nat):Nat:=(l.getD i 0).toNat
theorem QwN(l:List UInt8)(i:Nat):bg l i<256:=(l.getD i 0).toNat_lt
theorem Qi4{l:List UInt8}{i:Nat}{c:UInt8}(h:l[i]? = some c):bg l i=c.toNat:=by
 unfold bg;rw [List.getD_eq_getElem?_getD,h];rfl
theorem QfB{l:List UInt8}(hl:l.length=16)(i:Nat)(hi:i<16):Qbb (vb l) (i:Int)=(bg l i:Int):=by
 unfold Qbb
 rw [QdX hl,Int.toNat_natCast]
 have hc:l[i]? = some l[i]:=List.getElem?_eq_getElem (by omega)
 rw [Qi4 hc,List.getD_eq_getElem?_getD]
 unfold ob
 rw [List.getElem?_map,hc];rfl
theorem Qm9{l:List UInt8}(hl:l.length=16)(i:Nat)(c:UInt8):Qb2 (vb l) (i:Int) (c.toNat:Int)=vb (l.set i c):=by
 apply Vector.toList_inj.1
 rw [Qd4,QdX hl,QdX (by simpa using hl),Int.toNat_natCast]
 unfold ob
 rw [List.map_set]
theorem Qk9:(Vector.replicate 16 (0:Int):Vector Int 16)=vb (List.replicate 16 0):=by
 apply QtJ
 rfl
theorem QfZ:({ f_V:=(0:Int),f_B:=(Vector.replicate 16 (0:Int):(Vector Int 16)) }:Qj)=mkA 0 (List.replicate 16 0):=by
 unfold mkA;rw [Qk9]
theorem Qt6(l:List UInt8)(n:Nat):(ob l).take n=ob (l.take n):=by unfold ob;rw [List.map_take]
theorem lsub_ob(l:List UInt8)(n:Nat):QdS (ob l) 0 (n:Int)=ob (l.take n):=by
 unfold QdS
 rw [Int.toNat_natCast,show (0:Int).toNat=0 from rfl,List.drop_zero,Qt6]
def Qig(m:List UInt8):List UInt8:=m++List.replicate 12 0
theorem QmO{m:List UInt8}(h:m.length=4):(Qig m).length=16:=by simp [Qig,h]
theorem four_eq(v:Vector Int 4)(m:List UInt8)(h:v.toList=ob m):Qes v=some (mkA 4 (Qig m)):=by
 have hm:m.length=4:=by have:=congrArg List.length h;rw [Qa1] at this;simpa using this.symm
 unfold Qes mkA
 refine congrArg some ?_
 show Qj.mk 4 _=Qj.mk 4 _
 congr 1
 apply QtJ
 show (QdW (Vector.replicate 16 (0:Int)) (Int.toNat 0) (List.take (Int.toNat (16-0)) v.toList)).toList=_
 rw [h,show Int.toNat (16-0)=16 from rfl,List.take_of_length_le (by rw [Qa1];omega),show Int.toNat 0=0 from rfl,QeI _ _ _ (by rw [Qa1];omega)]
 rw [List.take_zero,List.nil_append,Nat.zero_add,Qa1,hm]
 unfold Qig
 rw [Qh5];rfl
theorem Qu5{l:List UInt8}(hl:l.length=16):(Qjc 4 (QdS (vb l).toList 0 4)).toList=ob (l.take 4):=by
 have e:QdS (vb l).toList 0 4=ob (l.take 4):=by rw [QdX hl];exact lsub_ob l 4
 rw [e,Qda 4 _ (by rw [Qa1];simp;omega),List.take_of_length_le (by rw [Qa1];simp;omega)]
theorem Ql7{l:List UInt8}(hl:l.length=16):4≤(QdS (vb l).toList 0 4).length:=by
 have e:QdS (vb l).toList 0 4=ob (l.take 4):=by rw [QdX hl];exact lsub_ob l 4
 rw [e,Qa1];simp;omega
def low(l:List UInt8):Bool:=(l.drop 4).all (·==0)
def QbW(V:Int)(l:List UInt8):Bool:=V==6||(V==4&&low l)
theorem QoY:∀ (k:List UInt8),k.all (·==0)=true↔k=List.replicate k.length 0
 | []=>by simp
 | c::r=>by
  rw [List.all_cons,Bool.and_eq_true,QoY r,List.length_cons,List.replicate_succ,List.cons.injEq,beq_iff_eq]
theorem Qj1{l:List UInt8}(hl:l.length=16):low l=true↔l=Qig (l.take 4):=by
 unfold low Qig
 rw [QoY]
 have h12:(l.drop 4).length=12:=by simp;omega
 rw [h12]
 constructor
 ·intro h
  rw [←h];exact (List.take_append_drop 4 l).symm
 ·intro h
  have h1:l.drop 4=(l.take 4++List.replicate 12 0).drop 4:=congrArg (List.drop 4) h
  rw [h1]
  exact List.drop_left' (by simp;omega)
theorem right_code{V:Int}{l:List UInt8}(hl:l.length=16):Qdw (mkA V l)=some (QbW V l):=by
 unfold Qdw QbW
 show (if (V==6)=true then some true else (if (V==4)=true then (if 4≤(QdS (vb l).toList 0 4).length then Qes (Qjc 4 (QdS (vb l).toList 0 4))>>=fun t8=>some (decide (mkA V l=t8)) else none) else some false))=_
 cases h6:(V==6)
 ·cases h4:(V==4)
  ·rfl
  ·have hV:V=4:=by simpa using h4
   rw [if_neg Bool.false_ne_true,if_pos rfl,if_pos (Ql7 hl),four_eq _ _ (Qu5 hl),Qa]
   congr 1
   rw [Bool.false_or,Bool.true_and,Bool.eq_iff_iff,decide_eq_true_eq,Qlw hl (QmO (by simp;omega)),Qj1 hl]
   exact ⟨fun h=>h.2,fun h=>⟨hV,h⟩⟩
 ·rfl
theorem Qo7{V:Int}{l:List UInt8}(hl:l.length=16):∀ (k i:Nat),i+k=16→Q8.l0 (mkA V l) (i:Int)=some (if (l.drop i).all (·==0)=true then .nx () else .ret false):=by
 intro k
 induction k with
 | zero =>
  intro i hi
  have hz:decide ((i:Int)<16)=false:=decide_eq_false (by omega)
  rw [Q8.l0.eq_def,hz,List.drop_eq_nil_of_le (by omega)];rfl
 | succ k ih =>
  intro i hi
  have hz:decide ((i:Int)<16)=true:=decide_eq_true (by omega)
  obtain ⟨c,hc,hd⟩:=QcC l i (by omega)
  have hg:(0:Int)≤(i:Int)∧(i:Int)<16:=by omega
  rw [Q8.l0.eq_def,hz,if_pos rfl,if_pos hg,hd,List.all_cons]
  show (if (Qbb (vb l) (i:Int) != 0)=true then _ else _)=_
  rw [QfB hl i (by omega),Qi4 hc]
  by_cases h0:c=0
  ·subst h0
   have e1:(((0:UInt8).toNat:Int) != 0)=false:=rfl
   rw [e1,if_neg Bool.false_ne_true,QX (by omega) (by omega),show ((i:Int)+1)=((i+1:Nat):Int) by omega,ih (i+1) (by omega)]
   rw [show ((0:UInt8)==0)=true from rfl,Bool.true_and]
  ·have hne:c.toNat≠0:=fun e=>h0 (UInt8.toNat.inj e)
   have e1:((c.toNat:Int) != 0)=true:=by rw [bne_iff_ne];omega
   have e2:(c==0)=false:=by rw [beq_eq_false_iff_ne];exact h0
   rw [e1,if_pos rfl,e2,Bool.false_and];rfl
theorem QfI{V:Int}{l:List UInt8}(hl:l.length=16):Q8 (mkA V l)=some (QbW V l):=by
 unfold Q8 QbW
 have h:=Qo7 (V:=V) hl 12 4 rfl
 rw [show ((4:Nat):Int)=4 from rfl] at h
 rw [h]
 show (if (V==6)=true then some true else _)=_
 cases h6:(V==6)
 ·rw [if_neg Bool.false_ne_true,Qa]
  unfold low
  by_cases hz:(l.drop 4).all (·==0)=true
  ·rw [if_pos hz,hz]
   show some (V==4)=_
   rw [Bool.false_or,Bool.and_true]
  ·rw [if_neg hz]
   have:(l.drop 4).all (·==0)=false:=by simpa using hz
   rw [this,Bool.and_false];rfl
 ·rfl
def QbL(V:Int)(l:List UInt8):Nat:=if QbW V l=true then (if V=4 then 32 else 128) else 0
theorem QfF{V:Int}{l:List UInt8}(hl:l.length=16):Qdv (mkA V l)=some ((QbL V l:Nat):Int):=by
 unfold Qdv QbL
 rw [right_code hl,Qa]
 cases QbW V l
 ·rfl
 ·show (if (V==4)=true then some (32:Int) else some 128)=_
  by_cases h:V=4
  ·rw [if_pos (by simpa using h),if_pos rfl,if_pos h];rfl
  ·rw [if_neg (by simpa using h),if_pos rfl,if_neg h];rfl
theorem Qd6{V:Int}{l:List UInt8}(h:QbW V l=true):V=6∨(V=4∧low l=true):=by
 unfold QbW at h
 rw [Bool.or_eq_true,Bool.and_eq_true,beq_iff_eq,beq_iff_eq] at h
 exact h
theorem Qe3{V:Int}{l:List UInt8}:QbL V l≤128:=by
 unfold QbL;split<;>(try split)<;>omega
end Go.Proofs.YtnekckhjmnhinaaGreatDoor.Adr
namespace Go.Proofs.YtnekckhjmnhinaaGreatDoor.Adr
open E Go.RowKit
theorem QgE{V:Int}{l:List UInt8}(hl:l.length=16):Qa9 (mkA V l)=some ((QbL V l:Nat):Int):=by
 unfold Qa9 QbL
 rw [QfI hl,Qa]
 cases QbW V l
 ·rfl
 ·show (if (V==4)=true then some (32:Int) else some 128)=_
  by_cases h:V=4
  ·rw [if_pos (by simpa using h),if_pos rfl,if_pos h];rfl
  ·rw [if_neg (by simpa using h),if_pos rfl,if_neg h];rfl
def mb(b:UInt8)(k:Nat):UInt8:=UInt8.ofNat (b.toNat-b.toNat%2 ^ (8-k))
theorem QvD:∀ (b:Fin 256) (k:Fin 9),Qjd .u8 ((b.val:Nat):Int) (Qh9 .u8 255 ((8-k.val:Nat):Int))=((b.val-b.val%2 ^ (8-k.val):Nat):Int):=by decide +kernel
theorem Qfx(b:UInt8)(k:Nat):(mb b k).toNat=b.toNat-b.toNat%2 ^ (8-k):=by
 unfold mb
 have:=b.toNat_lt
 rw [UInt8.toNat_ofNat',Nat.mod_eq_of_lt (by omega)]
theorem Quc(b:UInt8)(k:Nat)(hk:k≤8):Qjd .u8 (b.toNat:Int) (Qh9 .u8 255 ((8-k:Nat):Int))=((mb b k).toNat:Int):=by
 rw [Qfx]
 exact QvD ⟨b.toNat,b.toNat_lt⟩ ⟨k,by omega⟩
theorem Qt9(b:UInt8):mb b 0=0:=by
 apply UInt8.toNat.inj
 have:=b.toNat_lt
 rw [Qfx,show 2 ^ (8-0)=256 from rfl,Nat.mod_eq_of_lt (by omega),Nat.sub_self];rfl
theorem QiF(k:Nat):mb 0 k=0:=by
 apply UInt8.toNat.inj
 rw [Qfx,show (0:UInt8).toNat=0 from rfl,Nat.zero_mod]
theorem Qnr:∀ (b:Fin 256) (k:Fin 8),b.val-b.val%2 ^ (8-(k.val+1))=b.val-b.val%2 ^ (8-k.val)+(b.val/2 ^ (7-k.val)%2)*(128/2 ^ k.val):=by decide +kernel
theorem Qua(b:UInt8)(k:Nat)(hk:k<8):(mb b (k+1)).toNat=(mb b k).toNat+(b.toNat/2 ^ (7-k)%2)*(128/2 ^ k):=by
 rw [Qfx,Qfx]
 exact Qnr ⟨b.toNat,b.toNat_lt⟩ ⟨k,hk⟩
theorem Qns:∀ (b:Fin 256) (k:Fin 9),(b.val-b.val%2 ^ (8-k.val))-(b.val-b.val%2 ^ (8-k.val))%2 ^ (8-k.val)=b.val-b.val%2 ^ (8-k.val):=by decide +kernel
theorem Qub(b:UInt8)(k:Nat)(hk:k≤8):mb (mb b k) k=mb b k:=by
 apply UInt8.toNat.inj
 rw [Qfx,Qfx]
 exact Qns ⟨b.toNat,b.toNat_lt⟩ ⟨k,by omega⟩
def lft(bits:Int)(q:Nat):Nat:=(min (max (bits-8*(q:Int)) 0) 8).toNat
theorem Qtu(bits:Int)(q:Nat):lft bits q≤8:=by unfold lft;omega
def QdD(l:List UInt8)(bits:Int):List UInt8:=l.mapIdx fun q b=>mb b (lft bits q)
theorem Qj0(l:List UInt8)(bits:Int):(QdD l bits).length=l.length:=by simp [QdD]
theorem QfP(l:List UInt8)(bits:Int)(i:Nat):(QdD l bits)[i]? = (l[i]?).map fun b=>mb b (lft bits i):=by
 unfold QdD;rw [List.getElem?_mapIdx]
theorem set_step{α:Type}(A l:List α)(i:Nat)(x:α)(hA:A.length=l.length)(hx:A[i]? = some x):(A.take i++l.drop i).set i x=A.take (i+1)++l.drop (i+1):=by
 have hi:i<A.length:=(List.getElem?_eq_some_iff.1 hx).1
 apply List.ext_getElem?
 intro j
 have h1:(A.take i).length=i:=by simp;omega
 have h2:(A.take (i+1)).length=i+1:=by simp;omega
 rw [List.getElem?_set]
 by_cases hj:i=j
 ·subst hj
  have hl:i<(A.take i++l.drop i).length:=by simp;omega
  rw [if_pos rfl,if_pos hl,List.getElem?_append_left (by omega),List.getElem?_take,if_pos (by omega),hx]
 ·rw [if_neg hj]
  by_cases hlt:j<i
  ·rw [List.getElem?_append_left (by omega),List.getElem?_append_left (by omega),List.getElem?_take,List.getElem?_take,if_pos hlt,if_pos (by omega)]
  ·rw [List.getElem?_append_right (by omega),List.getElem?_append_right (by omega),List.getElem?_drop,List.getElem?_drop,h1,h2]
   congr 1;omega
theorem QsK(bits:Int)(hb : -9223372036854775808≤bits∧bits<9223372036854775808)(i:Nat)(hi:i<16)(h0:¬ bits<0) :
  (if 8<(if wr .i64 (bits-(wr .i64 (8*(i:Int))))<0 then 0 else wr .i64 (bits-(wr .i64 (8*(i:Int))))) then 8 else (if wr .i64 (bits-(wr .i64 (8*(i:Int))))<0 then 0 else wr .i64 (bits-(wr .i64 (8*(i:Int))))))=((lft bits i:Nat):Int):=by
 have e1:wr .i64 (8*(i:Int))=8*(i:Int):=QX (by omega) (by omega)
 rw [e1,QX (by omega) (by omega)]
 unfold lft
 by_cases h1:bits-8*(i:Int)<0
 ·rw [if_pos h1];split<;>omega
 ·rw [if_neg h1];split<;>omega
theorem QqX(V bits:Int)(l:List UInt8)(hl:l.length=16)(hb : -9223372036854775808≤bits∧bits<9223372036854775808):∀ (k i:Nat),i+k=16 →
  Qc5.l0 bits (i:Int) (mkA V ((QdD l bits).take i++l.drop i))=some (mkA V (QdD l bits)):=by
 have hml:=Qj0 l bits
 intro k
 induction k with
 | zero =>
  intro i hi
  have hz:decide ((i:Int)<16)=false:=decide_eq_false (by omega)
  rw [Qc5.l0.eq_def,hz,if_neg Bool.false_ne_true,List.drop_eq_nil_of_le (by omega),List.append_nil,List.take_of_length_le (by omega)]
 | succ k ih =>
  intro i hi
  have hz:decide ((i:Int)<16)=true:=decide_eq_true (by omega)
  have hc:l[i]? = some l[i]:=List.getElem?_eq_getElem (by omega)
  generalize hcc:l[i]=c at hc
  have hAlen:((QdD l bits).take i++l.drop i).length=16:=by simp;omega
  have hAi:((QdD l bits).take i++l.drop i)[i]? = some c:=by
   rw [List.getElem?_append_right (by simp;omega),List.getElem?_drop]
   have:i+(i-((QdD l bits).take i).length)=i:=by simp;omega
   rw [this,hc]
  have hg:(0:Int)≤(i:Int)∧(i:Int)<16:=by omega
  have hv:Qbb (vb ((QdD l bits).take i++l.drop i)) (i:Int)=(c.toNat:Int):=by rw [QfB hAlen i (by omega),Qi4 hAi]
  have hstep:=set_step (QdD l bits) l i (mb c (lft bits i)) hml (by rw [QfP,hc];rfl)
  have hle:=Qtu bits i
  have hset:∀ s:Int,s=((8-lft bits i:Nat):Int)→({ mkA V ((QdD l bits).take i++l.drop i) with f_B:=Qb2 (vb ((QdD l bits).take i++l.drop i)) (i:Int) (Qjd .u8 (Qbb (vb ((QdD l bits).take i++l.drop i)) (i:Int)) (Qh9 .u8 255 s)) }:Qj) =
    mkA V ((QdD l bits).take (i+1)++l.drop (i+1)):=fun s hs=>by
   rw [hs,hv,Quc c _ hle,Qm9 hAlen,hstep];rfl
  have e8:wr .u64 (wr .i64 (8-((lft bits i:Nat):Int)))=((8-lft bits i:Nat):Int):=by
   rw [QX (by omega) (by omega),QcI (by omega) (by omega)];omega
  have hn:(0:Int)≤((8-lft bits i:Nat):Int):=by omega
  have hi1:wr .i64 ((i:Int)+1)=((i+1:Nat):Int):=by rw [QX (by omega) (by omega)];omega
  rw [Qc5.l0.eq_def,hz,if_pos rfl]
  by_cases h0:bits<0
  ·have hl0:lft bits i=0:=by unfold lft;omega
   have e80:wr .u64 (wr .i64 (8-0))=((8-lft bits i:Nat):Int):=by rw [hl0];rfl
   rw [if_pos (decide_eq_true h0),if_pos hg,e80,if_pos hn,if_pos hg,hi1]
   have:=hset _ rfl
   rw [show (mkA V ((QdD l bits).take i++l.drop i)).f_B=vb ((QdD l bits).take i++l.drop i) from rfl,this]
   exact ih (i+1) (by omega)
  ·rw [if_neg (by rw [decide_eq_true_eq];exact h0),if_pos hg,QsK bits hb i (by omega) h0,e8,if_pos hn,if_pos hg,hi1]
   have:=hset _ rfl
   rw [show (mkA V ((QdD l bits).take i++l.drop i)).f_B=vb ((QdD l bits).take i++l.drop i) from rfl,this]
   exact ih (i+1) (by omega)
def Qnt(V:Int)(l:List UInt8)(bits:Int):Qj:=if QbW V l=true then mkA V (QdD l bits) else mkA 0 (List.replicate 16 0)
theorem QqY{V bits:Int}{l:List UInt8}(hl:l.length=16)(hb : -9223372036854775808≤bits∧bits<9223372036854775808):Qc5 (mkA V l) bits=some (Qnt V l bits):=by
 unfold Qc5 Qnt
 rw [right_code hl,Qa]
 cases QbW V l
 ·show some _=_
  rw [QfZ];rfl
 ·have h:=QqX V bits l hl hb 16 0 rfl
  rw [List.take_zero,List.nil_append,List.drop_zero,show ((0:Nat):Int)=0 from rfl] at h
  show (Qc5.l0 bits 0 (mkA V l)>>=fun q5=>some q5)=_
  rw [h];rfl
def bit(l:List UInt8)(i:Nat):Nat:=bg l (i/8)/2 ^ (7-i%8)%2
theorem QpI(i:Nat)(hi:i<9223372036854775808):∀ (k n:Nat),n<256→i%8+k≤7→QaG.l0 (i:Int) (n:Int) ((i%8+k:Nat):Int)=some ((n/2 ^ k:Nat):Int):=by
 intro k
 have hm:Int.tmod (i:Int) 8=((i%8:Nat):Int):=by rw [Int.tmod_eq_emod_of_nonneg (by omega)];omega
 induction k with
 | zero =>
  intro n hn hk
  rw [QaG.l0.eq_def,hm,if_neg (by rw [decide_eq_true_eq];omega),Nat.pow_zero,Nat.div_one]
 | succ k ih =>
  intro n hn hk
  have e1:wr .i64 (Int.tdiv (n:Int) 2)=((n/2:Nat):Int):=by
   have:Int.tdiv (n:Int) 2=((n/2:Nat):Int):=by rw [Int.tdiv_eq_ediv_of_nonneg (by omega)];omega
   rw [this,QX (by omega) (by omega)]
  have e2:wr .i64 (((i%8+(k+1):Nat):Int)-1)=((i%8+k:Nat):Int):=by rw [QX (by omega) (by omega)];omega
  rw [QaG.l0.eq_def,hm,if_pos (decide_eq_true (by omega)),e1,e2,ih (n/2) (by omega) (by omega),Nat.div_div_eq_div_mul]
  rw [Nat.pow_succ,Nat.mul_comm]
theorem QrF{V:Int}{l:List UInt8}(hl:l.length=16)(i:Nat)(hi:i<128):QaG (mkA V l) (i:Int)=some ((bit l i:Nat):Int):=by
 have hd:wr .i64 (Int.tdiv (i:Int) 8)=((i/8:Nat):Int):=by
  have:Int.tdiv (i:Int) 8=((i/8:Nat):Int):=by rw [Int.tdiv_eq_ediv_of_nonneg (by omega)];omega
  rw [this,QX (by omega) (by omega)]
 have hb:=QwN l (i/8)
 unfold QaG
 rw [hd,if_pos (by omega)]
 show (QaG.l0 (i:Int) (wr .i64 (Qbb (vb l) ((i/8:Nat):Int))) 7>>=fun q3=>some (Int.tmod q3 2))=_
 rw [QfB hl _ (by omega),QX (by omega) (by omega)]
 have h:=QpI i (by omega) (7-i%8) (bg l (i/8)) hb (by omega)
 rw [show i%8+(7-i%8)=7 by omega,show ((7:Nat):Int)=7 from rfl] at h
 rw [h,Qa]
 unfold bit
 refine congrArg some ?_
 have:=Int.tmod_eq_emod_of_nonneg (a:=((bg l (i/8)/2 ^ (7-i%8):Nat):Int)) (b:=2) (Int.natCast_nonneg _)
 rw [this];exact (Int.natCast_emod _ 2).symm
theorem Qv5(l:List UInt8)(i:Nat):bit l i<2:=Nat.mod_lt _ (by omega)
def Qnx(t q:Nat):Nat:=min (t-8*q) 8
def Qks(l:List UInt8)(t:Nat):List UInt8:=l.mapIdx fun q b=>mb b (Qnx t q)
theorem Qod(l:List UInt8)(t:Nat):(Qks l t).length=l.length:=by simp [Qks]
theorem QhX(l:List UInt8)(t i:Nat):(Qks l t)[i]? = (l[i]?).map fun b=>mb b (Qnx t i):=by
 unfold Qks;rw [List.getElem?_mapIdx]
theorem Qqs(l:List UInt8)(hl:l.length=16)(i:Nat)(hi:i<128):Qks l (i+1)=(Qks l i).set (i/8) (mb (l.getD (i/8) 0) (i%8+1)):=by
 apply List.ext_getElem?
 intro j
 rw [List.getElem?_set,QhX,QhX]
 by_cases hj:i/8=j
 ·subst hj
  have hlt:i/8<(Qks l i).length:=by rw [Qod];omega
  have hc:l[i/8]? = some l[i/8]:=List.getElem?_eq_getElem (by omega)
  have e:Qnx (i+1) (i/8)=i%8+1:=by unfold Qnx;omega
  rw [if_pos rfl,if_pos hlt,hc,List.getD_eq_getElem?_getD,hc,e];rfl
 ·rw [if_neg hj]
  have:Qnx (i+1) j=Qnx i j:=by unfold Qnx;omega
  rw [this]
theorem Qo9(i:Nat)(hi:i<9223372036854775808):∀ (k j n:Nat),n<256→j+k=i%8→Q0.l1 (i:Int) (n:Int) (j:Int)=some ((n/2 ^ k:Nat):Int):=by
 intro k
 have hm:Int.tmod (i:Int) 8=((i%8:Nat):Int):=by rw [Int.tmod_eq_emod_of_nonneg (by omega)];omega
 induction k with
 | zero =>
  intro j n hn hk
  rw [Q0.l1.eq_def,hm,if_neg (by rw [decide_eq_true_eq];omega),Nat.pow_zero,Nat.div_one]
 | succ k ih =>
  intro j n hn hk
  have e1:wr .i64 (Int.tdiv (n:Int) 2)=((n/2:Nat):Int):=by
   have:Int.tdiv (n:Int) 2=((n/2:Nat):Int):=by rw [Int.tdiv_eq_ediv_of_nonneg (by omega)];omega
   rw [this,QX (by omega) (by omega)]
  have e2:wr .i64 ((j:Int)+1)=((j+1:Nat):Int):=by rw [QX (by omega) (by omega)];omega
  rw [Q0.l1.eq_def,hm,if_pos (decide_eq_true (by omega)),e1,e2,ih (j+1) (n/2) (by omega) (by omega),Nat.div_div_eq_div_mul]
  rw [Nat.pow_succ,Nat.mul_comm]
theorem Qmn(V bits:Int)(l:List UInt8)(hl:l.length=16)(w:Nat)(hw:w≤128):∀ (k i:Nat),i+k=min w bits.toNat →
  Q0.l0 (mkA V l) bits (w:Int) (i:Int) (mkA V (Qks l i))=some (mkA V (Qks l (min w bits.toNat))):=by
 intro k
 induction k with
 | zero =>
  intro i hi
  rw [Q0.l0.eq_def]
  by_cases h1:i<w
  ·have hb:decide ((i:Int)<bits)=false:=decide_eq_false (by omega)
   rw [if_pos (decide_eq_true (by omega)),hb,if_neg Bool.false_ne_true,show i=min w bits.toNat by omega]
  ·rw [if_neg (by rw [decide_eq_true_eq];omega),show i=min w bits.toNat by omega]
 | succ k ih =>
  intro i hi
  have hi128:i<128:=by omega
  have hd:wr .i64 (Int.tdiv (i:Int) 8)=((i/8:Nat):Int):=by
   have:Int.tdiv (i:Int) 8=((i/8:Nat):Int):=by rw [Int.tdiv_eq_ediv_of_nonneg (by omega)];omega
   rw [this,QX (by omega) (by omega)]
  have hi1:wr .i64 ((i:Int)+1)=((i+1:Nat):Int):=by rw [QX (by omega) (by omega)];omega
  have hl1:=Qo9 i (by omega) (i%8) 0 128 (by omega) (by omega)
  rw [show ((128:Nat):Int)=128 from rfl,show ((0:Nat):Int)=0 from rfl] at hl1
  have hc:l[i/8]? = some l[i/8]:=List.getElem?_eq_getElem (by omega)
  generalize hcc:l[i/8]=c at hc
  have hgd:l.getD (i/8) 0=c:=by rw [List.getD_eq_getElem?_getD,hc];rfl
  have hbit:bit l i=c.toNat/2 ^ (7-i%8)%2:=by unfold bit;rw [Qi4 hc]
  have hst:=Qua c (i%8) (by omega)
  have hlt:=(mb c (i%8+1)).toNat_lt
  have hrl:(Qks l i).length=16:=by rw [Qod];exact hl
  have hri:(Qks l i)[i/8]? = some (mb c (i%8)):=by
   have e:Qnx i (i/8)=i%8:=by unfold Qnx;omega
   rw [QhX,hc,e];rfl
  have hstep:=Qqs l hl i hi128
  rw [hgd] at hstep
  rw [Q0.l0.eq_def,if_pos (decide_eq_true (by omega)),if_pos (decide_eq_true (by omega)),QrF hl i hi128,Qa,hl1,Qa,hd,hi1]
  by_cases hb:bit l i=1
  ·have hbb:(((bit l i:Nat):Int)==1)=true:=by rw [hb];rfl
   rw [hbb,if_pos rfl,if_pos (by omega),if_pos (by omega)]
   have hset:({ mkA V (Qks l i) with f_B:=Qb2 (mkA V (Qks l i)).f_B ((i/8:Nat):Int) (wr .u8 ((Qbb (mkA V (Qks l i)).f_B ((i/8:Nat):Int))+(wr .u8 ((128/2 ^ (i%8):Nat):Int)))) }:Qj)=mkA V (Qks l (i+1)):=by
    show Qj.mk V (Qb2 (vb (Qks l i)) ((i/8:Nat):Int) (wr .u8 ((Qbb (vb (Qks l i)) ((i/8:Nat):Int))+(wr .u8 ((128/2 ^ (i%8):Nat):Int)))))=_
    have hq:128/2 ^ (i%8)<256:=Nat.lt_of_le_of_lt (Nat.div_le_self _ _) (by omega)
    have e6:wr .u8 ((128/2 ^ (i%8):Nat):Int)=((128/2 ^ (i%8):Nat):Int):=by
     generalize 128/2 ^ (i%8)=z at hq
     exact Ql2 (by omega) (by omega)
    rw [QfB hrl _ (by omega),Qi4 hri,e6]
    have e5:wr .u8 (((mb c (i%8)).toNat:Int)+((128/2 ^ (i%8):Nat):Int))=((mb c (i%8+1)).toNat:Int):=by
     rw [hst,←hbit,hb,Nat.one_mul] at hlt
     rw [hst,←hbit,hb,Nat.one_mul]
     generalize 128/2 ^ (i%8)=z at hlt
     rw [Ql2 (by omega) (by omega)];omega
    rw [e5,Qm9 hrl,←hstep];rfl
   rw [hset]
   exact ih (i+1) (by omega)
  ·have h0:bit l i=0:=by have:=Qv5 l i;omega
   have hbb:(((bit l i:Nat):Int)==1)=false:=by rw [h0];rfl
   rw [hbb,if_neg Bool.false_ne_true]
   have:Qks l (i+1)=Qks l i:=by
    rw [hstep]
    have e6:mb c (i%8+1)=mb c (i%8):=by
     apply UInt8.toNat.inj
     rw [hst,←hbit,h0];omega
    rw [e6]
    apply List.ext_getElem?
    intro j
    rw [List.getElem?_set]
    by_cases hj:i/8=j
    ·subst hj;rw [if_pos rfl,if_pos (by omega),hri]
    ·rw [if_neg hj]
   rw [←this]
   exact ih (i+1) (by omega)
theorem Qqr(l:List UInt8)(hl:l.length=16):Qks l 0=List.replicate 16 0:=by
 apply List.ext_getElem?
 intro j
 rw [QhX]
 by_cases hj:j<16
 ·have hc:l[j]? = some l[j]:=List.getElem?_eq_getElem (by omega)
  rw [hc,List.getElem?_replicate,if_pos hj]
  have e:Qnx 0 j=0:=by unfold Qnx;omega
  rw [e]
  exact congrArg some (Qt9 _)
 ·rw [List.getElem?_eq_none (by omega),List.getElem?_eq_none (by simp;omega)];rfl
theorem Qqt{V bits:Int}{l:List UInt8}(hl:l.length=16)(hr:QbW V l=true):Qks l (min (QbL V l) bits.toNat)=QdD l bits:=by
 apply List.ext_getElem?
 intro j
 rw [QhX,QfP]
 by_cases hj:j<16
 ·have hc:l[j]? = some l[j]:=List.getElem?_eq_getElem (by omega)
  rw [hc]
  show some _=some _
  congr 1
  rcases Qd6 hr with h6 | ⟨h4,hlow⟩
  ·have hw:QbL V l=128:=by unfold QbL;rw [if_pos hr,if_neg (by omega)]
   have:Qnx (min (QbL V l) bits.toNat) j=lft bits j:=by rw [hw];unfold Qnx lft;omega
   rw [this]
  ·have hw:QbL V l=32:=by unfold QbL;rw [if_pos hr,if_pos h4]
   by_cases hj4:j<4
   ·have:Qnx (min (QbL V l) bits.toNat) j=lft bits j:=by rw [hw];unfold Qnx lft;omega
    rw [this]
   ·have hz:l[j]=0:=by
     have h1:=(Qj1 hl).1 hlow
     have h2:l[j]? = some 0:=by
      rw [h1];unfold Qig
      rw [List.getElem?_append_right (by simp;omega),List.getElem?_replicate,if_pos (by simp;omega)]
     rw [hc] at h2;exact Option.some.inj h2
    rw [hz]
    exact (QiF _).trans (QiF _).symm
 ·rw [List.getElem?_eq_none (by omega)];rfl
theorem Qoz{V bits:Int}{l:List UInt8}(hl:l.length=16):Q0 (mkA V l) bits=some (Qnt V l bits):=by
 unfold Q0 Qnt
 rw [QfI hl,Qa]
 cases hr:QbW V l
 ·show some _=_
  rw [QfZ];rfl
 ·have h:=Qmn V bits l hl (QbL V l) Qe3 (min (QbL V l) bits.toNat) 0 (by omega)
  rw [Qqr l hl,show ((0:Nat):Int)=0 from rfl,Qqt hl hr] at h
  show (Qa9 (mkA V l)>>=fun t6=>Q0.l0 (mkA V l) bits t6 0 (Qj.mk V (Vector.replicate 16 (0:Int)))>>=fun q7=>some q7)=_
  rw [QgE hl,Qa,Qk9]
  show (Q0.l0 (mkA V l) bits _ 0 (mkA V (List.replicate 16 0))>>=fun q7=>some q7)=_
  rw [h];rfl
theorem Qpl(l:List UInt8)(bits:Int):QdD (QdD l bits) bits=QdD l bits:=by
 apply List.ext_getElem?
 intro j
 rw [QfP,QfP]
 cases l[j]? with
 | none=>rfl
 | some c=>exact congrArg some (Qub c _ (Qtu bits j))
theorem Qq3{l:List UInt8}{bits:Int}(hl:l.length=16)(h:low l=true):low (QdD l bits)=true:=by
 unfold low at *
 rw [List.all_eq_true] at *
 intro x hx
 obtain ⟨i,hi⟩:=List.mem_iff_getElem?.1 hx
 rw [List.getElem?_drop,QfP] at hi
 cases hc:l[4+i]? with
 | none=>rw [hc] at hi;cases hi
 | some c =>
  rw [hc] at hi
  have hc0:c=0:=by
   have:=h c (List.mem_iff_getElem?.2 ⟨i,by rw [List.getElem?_drop];exact hc⟩)
   simpa using this
  have:mb c (lft bits (4+i))=x:=Option.some.inj hi
  rw [←this,hc0,QiF];rfl
theorem QjN{V bits:Int}{l:List UInt8}(hl:l.length=16)(h:QbW V l=true):QbW V (QdD l bits)=true:=by
 rcases Qd6 h with h6 | ⟨h4,hlow⟩
 ·unfold QbW;rw [h6];rfl
 ·unfold QbW;rw [h4,Qq3 hl hlow];rfl
end Go.Proofs.YtnekckhjmnhinaaGreatDoor.Adr
namespace Go.Proofs.YtnekckhjmnhinaaGreatDoor.Cid
open E Go.RowKit
open Adr
def mkP(A:Qj)(b:Int):Qo:={ f_A:=A,f_Bits:=b }
def zP:Qo:={ f_A:=({ f_V:=(0:Int),f_B:=(Vector.replicate 16 (0:Int):(Vector Int 16)) }:Qj),f_Bits:=(0:Int) }
theorem exists_mkP(a:Qo)(h:Qbx a):∃ V l b,a=mkP (mkA V l) b∧l.length=16∧(Lit.int .i64 b).wf=true:=by
 obtain ⟨V,l,hA,hl,_⟩:=QkY a.f_A h.1
 refine ⟨V,l,a.f_Bits,?_,hl,h.2⟩
 cases a with | mk A n =>
 simp only at hA
 subst hA;rfl
theorem Qt7{V W:Int}{l k:List UInt8}{b c:Int}(hl:l.length=16)(hk:k.length=16):mkP (mkA V l) b=mkP (mkA W k) c↔(V=W∧l=k)∧b=c:=by
 unfold mkP
 rw [Qo.mk.injEq,Qlw hl hk]
def Qkp(V:Int)(l:List UInt8)(b:Int):Bool:=QbW V l&&(decide (0≤b)&&decide (b≤(QbL V l:Int)))
theorem fits_iff{V:Int}{l:List UInt8}{b:Int}:Qkp V l b=true↔QbW V l=true∧0≤b∧b≤(QbL V l:Int):=by
 unfold Qkp
 simp only [Bool.and_eq_true,decide_eq_true_eq]
def ofP(V:Int)(l:List UInt8)(b:Int):Qo×Int:=if QbW V l=true then (if Qkp V l b=true then (mkP (mkA V (QdD l b)) b,0) else (zP,6)) else (zP,1)
theorem Qlq{V b:Int}{l:List UInt8}(hl:l.length=16):QfD (mkA V l) b=some (ofP V l b):=by
 unfold QfD ofP
 rw [right_code hl,Qa]
 have hw:=Qe3 (V:=V) (l:=l)
 cases hr:QbW V l with
 | false=>rfl
 | true =>
  rw [if_neg (show ¬ (!true)=true by decide),if_pos rfl]
  by_cases h0:b<0
  ·have hf:¬ Qkp V l b=true:=fun h=>by have:=(fits_iff.1 h).2.1;omega
   rw [if_pos (decide_eq_true h0),if_neg hf];rfl
  ·rw [if_neg (by rw [decide_eq_true_eq];exact h0),QfF hl,Qa]
   by_cases h1:b>(QbL V l:Int)
   ·have hf:¬ Qkp V l b=true:=fun h=>by have:=(fits_iff.1 h).2.2;omega
    rw [if_pos (decide_eq_true h1),if_neg hf];rfl
   ·have hf:Qkp V l b=true:=fits_iff.2 ⟨hr,by omega,by omega⟩
    rw [if_neg (by rw [decide_eq_true_eq];exact h1),QqY hl (by omega),Qa,if_pos hf]
    unfold Qnt
    rw [if_pos hr];rfl
def rightP(V:Int)(l:List UInt8)(b:Int):Bool:=Qkp V l b&&decide (QdD l b=l)
theorem rightP_iff{V:Int}{l:List UInt8}{b:Int}:rightP V l b=true↔(QbW V l=true∧0≤b∧b≤(QbL V l:Int))∧QdD l b=l:=by
 unfold rightP
 rw [Bool.and_eq_true,fits_iff,decide_eq_true_eq]
theorem mlen{l:List UInt8}(hl:l.length=16)(b:Int):(QdD l b).length=16:=by rw [Qj0,hl]
theorem cright_code{V b:Int}{l:List UInt8}(hl:l.length=16):Qed (mkP (mkA V l) b)=some (rightP V l b):=by
 unfold Qed
 show (QfD (mkA V l) b>>=fun t2=>if (t2.2==0)=true then some (decide (t2.1=mkP (mkA V l) b)) else some false)=_
 rw [Qlq hl,Qa]
 unfold ofP rightP
 cases hr:QbW V l with
 | false =>
  have hf:Qkp V l b=false:=by unfold Qkp;rw [hr];rfl
  rw [hf];rfl
 | true =>
  rw [if_pos rfl]
  cases hf:Qkp V l b with
  | false=>rfl
  | true =>
   rw [if_pos rfl]
   show (if ((0:Int)==0)=true then some (decide (mkP (mkA V (QdD l b)) b=mkP (mkA V l) b)) else some false)=_
   rw [if_pos (by rfl),Bool.true_and]
   refine congrArg some ?_
   rw [decide_eq_decide,Qt7 (mlen hl b) hl]
   exact ⟨fun h=>h.1.2,fun h=>⟨⟨rfl,h⟩,rfl⟩⟩
theorem Qk0{V b:Int}{l:List UInt8}(hl:l.length=16):Qb7 (mkP (mkA V l) b)=some (rightP V l b):=by
 unfold Qb7 rightP
 show (Q8 (mkA V l)>>=fun t2=>if (!t2)=true then some false else (if decide (b<0)=true then some false else (Qa9 (mkA V l)>>=fun t5=>if decide (b>t5)=true then some false else (Q0 (mkA V l) b>>=fun t7=>some (decide (mkA V l=t7))))))=_
 rw [QfI hl,Qa]
 cases hr:QbW V l with
 | false =>
  have hf:Qkp V l b=false:=by unfold Qkp;rw [hr];rfl
  rw [hf];rfl
 | true =>
  rw [if_neg (show ¬ (!true)=true by decide)]
  by_cases h0:b<0
  ·have hf:Qkp V l b=false:=by cases h:Qkp V l b with | false=>rfl | true=>have:=(fits_iff.1 h).2.1;omega
   rw [if_pos (decide_eq_true h0),hf];rfl
  ·rw [if_neg (by rw [decide_eq_true_eq];exact h0),QgE hl,Qa]
   by_cases h1:b>(QbL V l:Int)
   ·have hf:Qkp V l b=false:=by cases h:Qkp V l b with | false=>rfl | true=>have:=(fits_iff.1 h).2.2;omega
    rw [if_pos (decide_eq_true h1),hf];rfl
   ·have hf:Qkp V l b=true:=fits_iff.2 ⟨hr,by omega,by omega⟩
    rw [if_neg (by rw [decide_eq_true_eq];exact h1),Qoz hl,Qa,hf,Bool.true_and]
    unfold Qnt
    rw [if_pos hr]
    refine congrArg some ?_
    rw [decide_eq_decide,Qlw hl (mlen hl b)]
    exact ⟨fun h=>h.2.symm,fun h=>⟨rfl,h.symm⟩⟩
end Go.Proofs.YtnekckhjmnhinaaGreatDoor.Cid
namespace Go.Proofs.YtnekckhjmnhinaaGreatDoor.Hex
open Go.Lib (indexByte)
def dgs:ByteArray:=ByteArray.mk #[48,49,50,51,52,53,54,55,56,57,97,98,99,100,101,102]
def dgl:List UInt8:=[48,49,50,51,52,53,54,55,56,57,97,98,99,100,101,102]
def dg(n:Nat):UInt8:=dgl.getD n 0
def dig(n:Nat):ByteArray:=ByteArray.mk #[dg n]
theorem QvS:∀ n:Fin 16,dgs.extract n.1 (n.1+1)=dig n.1:=by decide +kernel
theorem QnN(n:Nat)(h:n<16):dgs.extract n (n+1)=dig n:=QvS ⟨n,h⟩
def vf(c:Nat)(great:Bool):Nat→Nat→Int
 | 0,_=>-1
 | f+1,i=>if (dg i).toNat=c∨great=true∧i>9∧(dg i).toNat=(c+32)%256 then (i:Int) else vf c great f (i+1)
def val(c:Nat)(great:Bool):Int:=vf c great 16 0
def Qsg(c:Nat):Nat:=if 65≤c∧c≤70 then c ||| 32 else c
def idx(c:Nat):Int:=indexByte dgl c.toUInt8
theorem Qrn:∀ c:Fin 256,idx (Qsg c.1)=val c.1 true:=by decide +kernel
theorem Ql4:∀ c:Fin 256,∀ g:Bool,-1≤val c.1 g∧val c.1 g<16:=by decide +kernel
theorem Qtf:∀ n:Fin 16,∀ g:Bool,val (dg n.1).toNat g=n.1:=by decide +kernel
def grp(n:Nat):ByteArray:=if n<16 then dig n else grp (n/16)++dig (n%16)
def gl(n:Nat)(o:ByteArray):ByteArray:=if n<16 then dig n++o else gl (n/16) (dig (n%16)++o)
theorem QwF(n:Nat):∀ o,gl n o=grp n++o:=by
 induction n using Nat.strongRecOn with
 | _ n ih =>
  intro o
  unfold gl grp
  split
  ·rfl
  ·rw [ih _ (by omega),ByteArray.append_assoc]
def rd(l:List UInt8):Nat→Option Nat:=l.foldr (fun c k n=>if val c.toNat true<0 then none else k (16*n+(val c.toNat true).toNat)) some
theorem QkJ(n:Nat):rd [] n=some n:=rfl
theorem QiC(c:UInt8)(l:List UInt8)(n:Nat):rd (c::l) n=if val c.toNat true<0 then none else rd l (16*n+(val c.toNat true).toNat):=rfl
def read(s:ByteArray):Option Nat:=if s.size<1∨s.size>4 then none else rd s.data.toList 0
theorem Qwp(l:List UInt8):∀ n m,rd l n=some m→m<(n+1)*16 ^ l.length:=by
 induction l with
 | nil=>intro n m h;simp [QkJ] at h;simp;omega
 | cons c l ih =>
  intro n m h
  rw [QiC] at h
  split at h
  ·cases h
  ·have hv:val c.toNat true<16:=(Ql4 ⟨c.toNat,c.toNat_lt⟩ true).2
   have:=ih _ _ h
   simp only [List.length_cons,Nat.pow_succ]
   have h2:(val c.toNat true).toNat<16:=by omega
   calc m<(16*n+(val c.toNat true).toNat+1)*16 ^ l.length:=this
    _≤(16*n+16)*16 ^ l.length:=Nat.mul_le_mul_right _ (by omega)
    _=_:=by rw [show 16*n+16=(n+1)*16 by omega,Nat.mul_assoc,Nat.mul_comm 16]
theorem Qqw(l k:List UInt8)(n:Nat):rd (l++k) n=(rd l n).bind (rd k):=by
 induction l generalizing n with
 | nil=>simp [QkJ]
 | cons c l ih =>
  simp only [List.cons_append,QiC]
  split
  ·rfl
  ·exact ih _
theorem Qvo(n:Nat):rd (grp n).data.toList 0=some n:=by
 induction n using Nat.strongRecOn with
 | _ n ih =>
  unfold grp
  split
  ·next h =>
   have:=Qtf ⟨n,h⟩ true
   simp only at this
   simp only [dig,QiC,QkJ,this]
   simp
  ·next h =>
   have hv:=Qtf ⟨n%16,by omega⟩ true
   simp only at hv
   simp only [ByteArray.data_append,Array.toList_append,Qqw,ih _ (show n/16<n by omega),dig,Option.bind_some,QiC,QkJ,hv]
   rw [if_neg (by omega)]
   congr 1
   omega
theorem grp_size(n:Nat):1≤(grp n).size∧∀ k,n<16 ^ (k+1)→(grp n).size≤k+1:=by
 induction n using Nat.strongRecOn with
 | _ n ih =>
  unfold grp
  split
  ·exact ⟨by simp [dig,ByteArray.size],fun k _=>by simp [dig,ByteArray.size]⟩
  ·next h =>
   have ih':=ih _ (show n/16<n by omega)
   rw [ByteArray.size_append]
   have hd:(dig (n%16)).size=1:=rfl
   refine ⟨by omega,fun k hk=>?_⟩
   cases k with
   | zero=>simp at hk;omega
   | succ k =>
    have:=ih'.2 k (by rw [Nat.pow_succ] at hk;omega)
    omega
theorem read_grp(n:Nat)(h:n<65536):read (grp n)=some n:=by
 unfold read
 rw [if_neg (by have h1:=grp_size n;have:=h1.2 3 (by simpa using h);omega)]
 exact Qvo n
end Go.Proofs.YtnekckhjmnhinaaGreatDoor.Hex
namespace Go.Proofs.YtnekckhjmnhinaaGreatDoor.Hex
open E Go.RowKit
theorem tab_size:(⟨#[48,49,50,51,52,53,54,55,56,57,97,98,99,100,101,102]⟩:ByteArray).size=16:=rfl
theorem tab_bt(n:Nat)(h:n<16):bt (⟨#[48,49,50,51,52,53,54,55,56,57,97,98,99,100,101,102]⟩:ByteArray) n=(dg n).toNat:=by
 have:∀ n:Fin 16,bt (⟨#[48,49,50,51,52,53,54,55,56,57,97,98,99,100,101,102]⟩:ByteArray) (n.1:Int)=(dg n.1).toNat:=by decide +kernel
 exact this ⟨n,h⟩
theorem value_eq(c:Nat):Qf8 c=some (wr .u16 (idx c),decide (idx c≥0)):=rfl
theorem Qnc(c:Nat)(hc:c<256):idx (Qsg c)=val c true:=Qrn ⟨c,hc⟩
end Go.Proofs.YtnekckhjmnhinaaGreatDoor.Hex
namespace Go.Proofs.YtnekckhjmnhinaaGreatDoor.Hex
open E Go.RowKit
theorem QlQ(n:Nat)(h:n<16):QbO n=some (dig n):=by
 unfold QbO
 rw [QX (by omega) (by omega),if_pos (by rw [tab_size];omega)]
 rw [show ((n:Int)+1).toNat=n+1 by omega,Int.toNat_natCast]
 exact congrArg some (QnN n h)
theorem QvT(n:Nat):bt (dig n) 0=(dg n).toNat:=rfl
theorem Qsa(c:Nat)(g:Bool)(hc:c<256)(f:Nat):∀ i:Nat,i+f=16 →
  QaA.l0 c g i=some (if vf c g f i = -1 then .nx () else .ret (vf c g f i)):=by
 induction f with
 | zero =>
  intro i hi
  obtain rfl:i=16:=by omega
  rw [QaA.l0.eq_def]
  simp [vf]
 | succ f ih =>
  intro i hi
  rw [QaA.l0.eq_def]
  have h1:decide ((i:Int)<16)=true:=by simp;omega
  have hs:((dig i).size:Int)=1:=rfl
  have ih':=ih (i+1) (by omega)
  have e1:wr .i64 ((i:Int)+1)=((i+1:Nat):Int):=by rw [QX (by omega) (by omega)];omega
  have e2:wr .u8 ((c:Int)+32)=(((c+32)%256:Nat):Int):=by rw [QhT];omega
  rw [if_pos h1,QlQ i (by omega)]
  simp only [Qa,QvT,hs,e1,e2,ih']
  rw [if_pos (by decide)]
  have hv:vf c g (f+1) i=if (dg i).toNat=c∨g=true∧i>9∧(dg i).toNat=(c+32)%256 then (i:Int) else vf c g f (i+1):=rfl
  by_cases hA:(dg i).toNat=c
  ·have hA':(((dg i).toNat:Int)==(c:Int))=true:=by simp;omega
   rw [if_pos (.inl hA)] at hv
   have:¬ (i:Int) = -1:=by omega
   simp only [hA',hv,this,↓reduceIte]
  ·have hA':(((dg i).toNat:Int)==(c:Int))=false:=by simp;omega
   cases g with
   | false=>
    rw [if_neg (by simp [hA])] at hv
    simp only [hA',hv,↓reduceIte,Bool.false_eq_true]
   | true =>
    by_cases h9:9<i
    ·have h9':decide ((i:Int)>9)=true:=by simp;omega
     by_cases hB:(dg i).toNat=(c+32)%256
     ·have hB':(((dg i).toNat:Int)==(((c+32)%256:Nat):Int))=true:=by simp;omega
      rw [if_pos (.inr ⟨rfl,h9,hB⟩)] at hv
      have:¬ (i:Int) = -1:=by omega
      simp only [hA',hB',h9',hv,this,↓reduceIte,Bool.false_eq_true,Int.le_refl,true_and,Int.zero_lt_one]
     ·have hB':(((dg i).toNat:Int)==(((c+32)%256:Nat):Int))=false:=by simp;omega
      rw [if_neg (by rintro (h | h);exact hA h;exact hB h.2.2)] at hv
      simp only [hA',hB',h9',hv,↓reduceIte,Bool.false_eq_true,Int.le_refl,true_and,Int.zero_lt_one]
    ·have h9':decide ((i:Int)>9)=false:=by simp;omega
     rw [if_neg (by rintro (h | h);exact hA h;exact h9 h.2.1)] at hv
     simp only [hA',h9',hv,↓reduceIte,Bool.false_eq_true]
theorem refValue_eq(c:Nat)(g:Bool)(hc:c<256):QaA c g=some (val c g):=by
 unfold QaA
 have:=Qsa c g hc 16 0 rfl
 rw [show ((0:Nat):Int)=0 from rfl] at this
 rw [this]
 simp only [Qa]
 unfold val
 by_cases hv:vf c g 16 0 = -1
 ·simp only [hv,↓reduceIte]
 ·simp only [hv,↓reduceIte]
end Go.Proofs.YtnekckhjmnhinaaGreatDoor.Hex
namespace Go.Proofs.YtnekckhjmnhinaaGreatDoor.Hex
open E Go.RowKit
theorem Qsf(c:Nat)(hc:c<256):Qfo c=some ((Qsg c:Nat):Int):=by
 unfold Qfo Qsg
 by_cases h1:65≤c
 ·by_cases h2:c≤70
  ·rw [if_pos (by simp;omega),if_pos (by simp;omega),if_pos ⟨h1,h2⟩]
   rw [show (32:Int)=((32:Nat):Int) from rfl,QhH .u8 rfl c 32 hc (by decide)]
  ·rw [if_pos (by simp;omega),if_neg (by simp;omega),if_neg (by omega)]
 ·rw [if_neg (by simp;omega),if_neg (by omega)]
theorem Qry:∀ n:Fin 16,Utf8.encode (bt (⟨#[48,49,50,51,52,53,54,55,56,57,97,98,99,100,101,102]⟩:ByteArray) (n.1:Int))=dig n.1:=by decide +kernel
theorem QsS(n:Nat):∀ o:ByteArray,n<65536→o.size+n≤100000→QcW.l0 n o=some (gl n o):=by
 induction n using Nat.strongRecOn with
 | _ n ih =>
  intro o hn ho
  rw [QcW.l0.eq_def]
  have e1:Qjd .u16 (n:Int) 15=((n%16:Nat):Int):=by
   rw [show (15:Int)=((15:Nat):Int) from rfl,QlH .u16 rfl n 15 hn (by decide),Nat.and_two_pow_sub_one_eq_mod n 4]
  have e2:Qh8 .u16 (n:Int) 4=((n/16:Nat):Int):=Qhe .u16 n 4 (by decide)
  have e3:=Qry ⟨n%16,by omega⟩
  simp only at e3
  have hd:(dig (n%16)).size=1:=rfl
  simp only [e1,e2,e3,hd,tab_size]
  rw [if_pos (by omega),if_pos (by omega)]
  unfold gl
  by_cases h:n<16
  ·rw [if_pos (by simp;omega),if_pos h,Nat.mod_eq_of_lt h]
  ·rw [if_neg (by simp;omega),if_neg h]
   exact ih _ (by omega) _ (by omega) (by rw [ByteArray.size_append,hd];omega)
theorem group_eq(n:Nat)(h:n<65536):QcW n=some (grp n):=by
 unfold QcW
 have:=QsS n ⟨#[]⟩ h (by show 0+n≤_;omega)
 rw [this,Qa,QwF,show (⟨#[]⟩:ByteArray)=ByteArray.empty from rfl,ByteArray.append_empty]
theorem QtW(s:ByteArray)(hs:s.size≤4)(f:Nat):∀ (i n:Nat),i+f=s.size→n<16 ^ i →
  Qa8.l0 s n i=some (match rd (s.data.toList.drop i) n with | some m=>.nx (m:Int) | none=>.ret (0,5)):=by
 induction f with
 | zero =>
  intro i n hi hn
  rw [Qa8.l0.eq_def,if_neg (by simp;omega),List.drop_eq_nil_of_le (by simp;omega),QkJ]
 | succ f ih =>
  intro i n hi hn
  have hlt:i<s.size:=by omega
  obtain ⟨c,hc⟩:∃ c,s.data.toList[i]? = some c:=⟨_,QrR s i hlt⟩
  have hdrop:s.data.toList.drop i=c::s.data.toList.drop (i+1):=by
   have hl:i<s.data.toList.length:=by simpa using hlt
   rw [List.drop_eq_getElem_cons hl]
   congr 1
   rw [List.getElem?_eq_getElem hl] at hc
   exact Option.some.inj hc
  have hb:bt s i=c.toNat:=by rw [QoW,hc];rfl
  have hcl:=c.toNat_lt
  have hv1 : -1≤val c.toNat true:=(Ql4 ⟨c.toNat,hcl⟩ true).1
  have hv2:val c.toNat true<16:=(Ql4 ⟨c.toNat,hcl⟩ true).2
  have hpow:(16:Nat) ^ i≤16 ^ 3:=Nat.pow_le_pow_right (by decide) (by omega)
  have e0:wr .i64 ((i:Int)+1)=((i+1:Nat):Int):=by rw [QX (by omega) (by omega)];omega
  rw [Qa8.l0.eq_def,if_pos (by simp;omega),if_pos (by omega),hb,Qsf _ hcl,hdrop,QiC]
  simp only [Qa,value_eq,Qnc _ hcl,e0]
  by_cases hneg:val c.toNat true<0
  ·rw [if_pos (by simp;omega),if_pos hneg]
  ·rw [if_neg (by simp;omega),if_neg hneg]
   obtain ⟨v,hv⟩:∃ v:Nat,val c.toNat true=v:=⟨(val c.toNat true).toNat,by omega⟩
   have e1:wr .u16 (val c.toNat true)=(v:Int):=by rw [hv,Qn1 (by omega) (by omega)]
   have e2:Qh9 .u16 (n:Int) 4=((n*16:Nat):Int):=by
    rw [show (4:Int)=((4:Nat):Int) from rfl,Qfy .u16 rfl n 4 (by decide)]
    rw [Nat.mod_eq_of_lt (by show n*2 ^ 4<2 ^ 16;omega)]
   have e3:ior .u16 ((n*16:Nat):Int) (v:Int)=((16*n+v:Nat):Int):=by
    rw [QhH .u16 rfl _ _ (by show n*16<2 ^ 16;omega) (by show v<2 ^ 16;omega)]
    rw [show n*16=n <<< 4 by rw [Nat.shiftLeft_eq],←Nat.shiftLeft_add_eq_or_of_lt (by omega:v<2 ^ 4),Nat.shiftLeft_eq]
    congr 1;omega
   rw [e1,e2,e3,ih (i+1) (16*n+v) (by omega) (by rw [Nat.pow_succ];omega),hv]
   simp
theorem read_eq(s:ByteArray):Qa8 s=some (match read s with | some n=>((n:Int),0) | none=>(0,5)):=by
 unfold Qa8 read
 by_cases h1:s.size<1
 ·rw [if_pos (by simp;omega),if_pos (.inl h1)]
 ·by_cases h2:s.size>4
  ·rw [if_neg (by simp;omega),if_pos (by simp;omega),if_pos (.inr h2)]
  ·rw [if_neg (by simp;omega),if_neg (by simp;omega),if_neg (by omega)]
   have:=QtW s (by omega) s.size 0 0 (by omega) (by simp)
   rw [show ((0:Nat):Int)=0 from rfl,List.drop_zero] at this
   rw [this]
   simp only [Qa]
   cases rd s.data.toList 0<;>rfl
theorem read_lt(s:ByteArray)(n:Nat)(h:read s=some n):n<65536:=by
 unfold read at h
 split at h
 ·cases h
 ·have:=Qwp _ _ _ h
  have hl:s.data.toList.length≤4:=by simp;omega
  have:(16:Nat) ^ s.data.toList.length≤16 ^ 4:=Nat.pow_le_pow_right (by decide) hl
  omega
end Go.Proofs.YtnekckhjmnhinaaGreatDoor.Hex
namespace Go.Proofs.YtnekckhjmnhinaaGreatDoor.Hex
open E Go.RowKit
theorem refGroup_eq(n:Nat):n<65536→Qb9 n=some (grp n):=by
 induction n using Nat.strongRecOn with
 | _ n ih =>
  intro h
  rw [Qb9.eq_def]
  unfold grp
  by_cases hn:n<16
  ·rw [if_pos (by simp;omega),if_pos hn,QlQ n hn];rfl
  ·have e1:wr .i64 (Int.tdiv (n:Int) 16)=((n/16:Nat):Int):=by
    rw [Int.tdiv_eq_ediv_of_nonneg (by omega),QX (by omega) (by omega)];omega
   have e2:Int.tmod (n:Int) 16=((n%16:Nat):Int):=by rw [Int.tmod_eq_emod_of_nonneg (by omega)];omega
   have hd:(dig (n%16)).size=1:=rfl
   have hs:=(grp_size (n/16)).2 3 (by omega)
   rw [if_neg (by simp;omega),if_neg hn,e1,ih _ (by omega) (by omega),e2]
   simp only [Qa,QlQ (n%16) (by omega),hd]
   rw [if_pos (by omega)]
theorem Qo8(s:ByteArray)(hs:s.size≤4)(f:Nat):∀ (i n:Nat),i+f=s.size→n<16 ^ i →
  Qau.l0 s n i=some (match rd (s.data.toList.drop i) n with | some m=>.nx (m:Int) | none=>.ret (-1)):=by
 induction f with
 | zero =>
  intro i n hi hn
  rw [Qau.l0.eq_def,if_neg (by simp;omega),List.drop_eq_nil_of_le (by simp;omega),QkJ]
 | succ f ih =>
  intro i n hi hn
  have hlt:i<s.size:=by omega
  obtain ⟨c,hc⟩:∃ c,s.data.toList[i]? = some c:=⟨_,QrR s i hlt⟩
  have hdrop:s.data.toList.drop i=c::s.data.toList.drop (i+1):=by
   have hl:i<s.data.toList.length:=by simpa using hlt
   rw [List.drop_eq_getElem_cons hl]
   congr 1
   rw [List.getElem?_eq_getElem hl] at hc
   exact Option.some.inj hc
  have hb:bt s i=c.toNat:=by rw [QoW,hc];rfl
  have hcl:=c.toNat_lt
  have hv1 : -1≤val c.toNat true:=(Ql4 ⟨c.toNat,hcl⟩ true).1
  have hv2:val c.toNat true<16:=(Ql4 ⟨c.toNat,hcl⟩ true).2
  have hpow:(16:Nat) ^ i≤16 ^ 3:=Nat.pow_le_pow_right (by decide) (by omega)
  have e0:wr .i64 ((i:Int)+1)=((i+1:Nat):Int):=by rw [QX (by omega) (by omega)];omega
  rw [Qau.l0.eq_def,if_pos (by simp;omega),if_pos (by omega),hb,refValue_eq _ _ hcl,hdrop,QiC]
  simp only [Qa,e0]
  by_cases hneg:val c.toNat true<0
  ·rw [if_pos (by simp;omega),if_pos hneg]
  ·rw [if_neg (by simp;omega),if_neg hneg]
   obtain ⟨v,hv⟩:∃ v:Nat,val c.toNat true=v:=⟨(val c.toNat true).toNat,by omega⟩
   have e1:wr .i64 (wr .i64 (16*(n:Int))+(v:Int))=((16*n+v:Nat):Int):=by
    have e2:wr .i64 (16*(n:Int))=16*(n:Int):=QX (by omega) (by omega)
    rw [e2,QX (by omega) (by omega)];omega
   rw [hv,e1,ih (i+1) (16*n+v) (by omega) (by rw [Nat.pow_succ];omega)]
   simp
theorem refRead_eq(s:ByteArray):Qau s=some (match read s with | some n=>(n:Int) | none=>-1):=by
 unfold Qau read
 by_cases h1:s.size<1
 ·rw [if_pos (by simp;omega),if_pos (.inl h1)]
 ·by_cases h2:s.size>4
  ·rw [if_neg (by simp;omega),if_pos (by simp;omega),if_pos (.inr h2)]
  ·rw [if_neg (by simp;omega),if_neg (by simp;omega),if_neg (by omega)]
   have:=Qo8 s (by omega) s.size 0 0 (by omega) (by simp)
   rw [show ((0:Nat):Int)=0 from rfl,List.drop_zero] at this
   rw [this]
   simp only [Qa]
   cases rd s.data.toList 0<;>rfl
end Go.Proofs.YtnekckhjmnhinaaGreatDoor.Hex
namespace Go.Proofs.YtnekckhjmnhinaaGreatDoor
open E
theorem QoH{α:Type}{xs ys:List α}(h:xs≠[]):(xs++ys).head? = xs.head?:=by
 cases xs with
 | nil=>exact absurd rfl h
 | cons a r=>rfl
def dig(c:UInt8):Bool:=decide (48≤c.toNat)&&decide (c.toNat≤57)
theorem QdG{c:UInt8}:dig c=true↔48≤c.toNat∧c.toNat≤57:=by simp [dig]
def Qc9(acc:Nat):List UInt8→Nat
 | []=>acc
 | c::r=>Qc9 (acc*10+(c.toNat-48)) r
theorem Qjj:∀ (l:List UInt8) (acc:Nat),acc≤Qc9 acc l
 | [],acc=>Nat.le_refl _
 | c::r,acc=>by
  have:=Qjj r (acc*10+(c.toNat-48))
  unfold Qc9;omega
theorem Qiv:∀ (l:List UInt8) (acc:Nat) (c:UInt8),Qc9 acc (l++[c])=Qc9 acc l*10+(c.toNat-48)
 | [],acc,c=>rfl
 | b::r,acc,c=>by
  rw [List.cons_append]
  unfold Qc9
  exact Qiv r _ c
theorem Qtn:∀ (l:List UInt8) (acc:Nat),l.all dig=true→acc≤18446744073709551615 →
  Lib.parseUintM (2 ^ 64-1) acc l=if Qc9 acc l≤18446744073709551615 then .ok (Qc9 acc l) else .range
 | [],acc,_,ha=>by
  unfold Lib.parseUintM Qc9
  rw [if_pos ha]
 | c::r,acc,h,ha=>by
  rw [List.all_cons,Bool.and_eq_true] at h
  have hc:=QdG.1 h.1
  have hs:=Qjj r (acc*10+(c.toNat-48))
  unfold Lib.parseUintM Qc9
  rw [if_pos hc]
  by_cases h1:1844674407370955162≤acc
  ·rw [if_pos h1,if_neg (by omega)]
  ·rw [if_neg h1]
   by_cases h2:2 ^ 64-1<acc*10+(c.toNat-48)
   ·rw [if_pos h2,if_neg (by omega)]
   ·rw [if_neg h2]
    exact Qtn r _ h.2 (by omega)
theorem parB{l:List UInt8}(hl:l≠[])(h:l.all dig=true):Lib.parseUintB 64 l=if Qc9 0 l≤18446744073709551615 then .ok (Qc9 0 l) else .range:=by
 unfold Lib.parseUintB
 rw [if_neg hl]
 exact Qtn l 0 h (by omega)
theorem Qbj{n:Nat}(h:n<10):Lib.decDigits n=[UInt8.ofNat (48+n)]:=Lib.decDigits_one h
theorem QcA{n:Nat}(h:¬ n<10):Lib.decDigits n=Lib.decDigits (n/10)++[UInt8.ofNat (48+n%10)]:=by
 rw [Lib.decDigits,dif_neg h]
theorem Ql6(d:Nat)(h:d<10):(UInt8.ofNat (48+d)).toNat=48+d:=by
 rw [UInt8.toNat_ofNat']
 omega
theorem QdN(n:Nat):(Lib.decDigits n).all dig=true:=by
 induction n using Nat.strongRecOn with
 | _ n ih =>
  by_cases h:n<10
  ·rw [Qbj h,List.all_cons,List.all_nil,Bool.and_true,QdG,Ql6 n h];omega
  ·rw [QcA h,List.all_append,ih (n/10) (by omega),List.all_cons,List.all_nil,Bool.and_true,Bool.true_and,QdG,Ql6 _ (by omega)];omega
theorem Qkc(n:Nat):Qc9 0 (Lib.decDigits n)=n:=by
 induction n using Nat.strongRecOn with
 | _ n ih =>
  by_cases h:n<10
  ·rw [Qbj h]
   show 0*10+((UInt8.ofNat (48+n)).toNat-48)=n
   rw [Ql6 n h];omega
  ·rw [QcA h,Qiv,ih (n/10) (by omega),Ql6 _ (by omega)];omega
theorem QgP(n:Nat):Lib.decDigits n≠[]:=by
 by_cases h:n<10
 ·rw [Qbj h];simp
 ·rw [QcA h];simp
theorem QkB(n:Nat)(hn:0<n):(Lib.decDigits n).head? ≠ some 48:=by
 induction n using Nat.strongRecOn with
 | _ n ih =>
  by_cases h:n<10
  ·rw [Qbj h]
   intro e
   have e1:UInt8.ofNat (48+n)=48:=by simpa using e
   have e2:=Ql6 n h
   rw [e1] at e2
   have:(48:UInt8).toNat=48:=rfl
   omega
  ·rw [QcA h,QoH (QgP _)]
   exact ih _ (by omega) (by omega)
theorem QkA:Lib.decDigits 0=[48]:=by rw [Qbj (by omega)];rfl
theorem Qqh:∀ (l:List UInt8) (acc:Nat),0<acc→0<Qc9 acc l:=fun l acc h=>Nat.lt_of_lt_of_le h (Qjj l acc)
theorem QjG{l:List UInt8}(hl:l≠[])(hd:l.all dig=true)(hz:1<l.length→l.head? ≠ some 48):Lib.decDigits (Qc9 0 l)=l:=by
 have key:∀ (k:Nat) (l:List UInt8),l.length=k→l≠[]→l.all dig=true→(1<l.length→l.head? ≠ some 48)→Lib.decDigits (Qc9 0 l)=l:=by
  intro k
  induction k with
  | zero=>intro l h1 h2;exact absurd (List.eq_nil_of_length_eq_zero h1) h2
  | succ k ih =>
   intro l h1 h2 h3 h4
   obtain ⟨r,c,rfl⟩:∃ r c,l=r++[c]:=⟨l.dropLast,l.getLast h2,(List.dropLast_concat_getLast h2).symm⟩
   rw [List.all_append,Bool.and_eq_true,List.all_cons,List.all_nil,Bool.and_true] at h3
   have hc:=QdG.1 h3.2
   have hcu:UInt8.ofNat (48+(c.toNat-48))=c:=by
    rw [show 48+(c.toNat-48)=c.toNat by omega];exact UInt8.ofNat_toNat
   rw [Qiv]
   by_cases hr:r=[]
   ·subst hr
    show Lib.decDigits (0*10+(c.toNat-48))=[c]
    rw [Qbj (by omega),show 0*10+(c.toNat-48)=c.toNat-48 by omega,hcu]
   ·have hlen:1<(r++[c]).length:=by
     have:0<r.length:=List.length_pos_iff.2 hr
     simp;omega
    have hhead:=h4 hlen
    rw [QoH hr] at hhead
    have hpos:0<Qc9 0 r:=by
     cases r with
     | nil=>exact absurd rfl hr
     | cons b r' =>
      rw [List.all_cons,Bool.and_eq_true] at h3
      have hb:=QdG.1 h3.1.1
      unfold Qc9
      refine Qqh _ _ ?_
      have:b.toNat≠48:=by
       intro e
       refine hhead ?_
       show some b=some 48
       congr 1
       exact UInt8.toNat.inj e
      omega
    rw [QcA (by omega),show (Qc9 0 r*10+(c.toNat-48))/10=Qc9 0 r by omega,show (Qc9 0 r*10+(c.toNat-48))%10=c.toNat-48 by omega,hcu]
    rw [ih r (by simp at h1;omega) hr h3.1 fun _=>hhead]
 exact key l.length l rfl hl hd hz
end Go.Proofs.YtnekckhjmnhinaaGreatDoor
namespace Go.Proofs.YtnekckhjmnhinaaGreatDoor
open E
theorem QaY(s:ByteArray):s.data.toList.length=s.size:=by
 show s.data.toList.length=s.data.size
 simp
theorem Qde{a b:ByteArray}(h:a.data.toList=b.data.toList):a=b:=by
 cases a with | mk a=>cases b with | mk b =>
 simp at h;subst h;rfl
theorem Qdr(n:Nat):(Qga (n:Int)).data.toList=Lib.decDigits n:=by simp [Qga]
theorem QdM(n:Nat)(h:n<18446744073709551616):(Lib.decDigits n).length≤20:=by
 have key:∀ (k n:Nat),n<10 ^ (k+1)→(Lib.decDigits n).length≤k+1:=by
  intro k
  induction k with
  | zero=>intro n h;rw [Qbj (by omega)];simp
  | succ k ih =>
   intro n h
   by_cases h1:n<10
   ·rw [Qbj h1];simp
   ·rw [QcA h1,List.length_append]
    have:=ih (n/10) (by rw [Nat.pow_succ] at h;omega)
    simp;omega
 exact key 19 n (by omega)
theorem Qfp(n:Nat)(h:n<18446744073709551616):(Qga (n:Int)).size≤20:=by
 rw [←QaY,Qdr];exact QdM n h
theorem Qa0(a b:ByteArray):(a++b).data.toList=a.data.toList++b.data.toList:=by simp [ByteArray.data_append]
theorem Qf0(n:Nat)(h:n<18446744073709551616):Qab (n:Int)=some (Qga n):=by
 induction n using Nat.strongRecOn with
 | _ n ih =>
  have hd:wr .u8 (wr .u64 (48+Int.tmod (n:Int) 10))=((48+n%10:Nat):Int):=by
   have e1:Int.tmod (n:Int) 10=((n%10:Nat):Int):=by rw [Int.tmod_eq_emod_of_nonneg (by omega)];omega
   rw [e1,QcI (by omega) (by omega),Ql2 (by omega) (by omega)];omega
  have hl:((⟨(unb ([wr .u8 (wr .u64 (48+(Int.tmod (n:Int) 10)))])).toArray⟩:ByteArray)).data.toList=[UInt8.ofNat (48+n%10)]:=by
   rw [hd];rfl
  rw [Qab.eq_def]
  by_cases h1:n<10
  ·rw [if_pos (decide_eq_true (by omega))]
   congr 1
   apply Qde
   rw [hl,Qdr,Qbj h1]
   rw [Nat.mod_eq_of_lt h1]
  ·rw [if_neg (by rw [decide_eq_true_eq];omega)]
   have e2:wr .u64 (Int.tdiv (n:Int) 10)=((n/10:Nat):Int):=by
    have:Int.tdiv (n:Int) 10=((n/10:Nat):Int):=by rw [Int.tdiv_eq_ediv_of_nonneg (by omega)];omega
    rw [this,QcI (by omega) (by omega)]
   rw [e2,ih (n/10) (by omega) (by omega),Qa]
   have hsz:=Qfp (n/10) (by omega)
   rw [if_pos]
   ·congr 1
    apply Qde
    rw [Qa0,hl,Qdr,Qdr,QcA h1]
   ·have:((⟨(unb ([wr .u8 (wr .u64 (48+(Int.tmod (n:Int) 10)))])).toArray⟩:ByteArray)).size=1:=by rw [←QaY,hl];rfl
    rw [this];omega
theorem QeK(n:Nat)(h:n<18446744073709551616):Qbi (n:Int)=some (Qga n):=by
 unfold Qbi
 rw [if_pos (by omega)]
def pfx(l:List UInt8):Nat:=(l.takeWhile dig).length
theorem QgK{c:UInt8}{r:List UInt8}(h:dig c=true):pfx (c::r)=pfx r+1:=by simp [pfx,List.takeWhile_cons,h]
theorem QhE{c:UInt8}{r:List UInt8}(h:dig c=false):pfx (c::r)=0:=by simp [pfx,List.takeWhile_cons,h]
theorem QqJ(l:List UInt8):pfx l≤l.length:=(List.takeWhile_prefix dig).length_le
theorem Qlo:∀ {l:List UInt8},pfx l=l.length↔l.all dig=true
 | []=>by simp [pfx]
 | c::r=>by
  cases h:dig c
  ·rw [QhE h];simp [h]
  ·rw [QgK h,List.length_cons,List.all_cons,h,Bool.true_and,←Qlo (l:=r)];omega
theorem QkE{s:ByteArray}{i:Nat}{c:UInt8}(h:s.data.toList[i]? = some c):bt s (i:Int)=(c.toNat:Int):=by
 rw [QoW,h];rfl
theorem QjT(s:ByteArray)(hs:s.size<9223372036854775808):∀ (k i:Nat),s.size-i=k→i≤s.size→QaO.l0 s (i:Int)=some ((i+pfx (s.data.toList.drop i):Nat):Int):=by
 intro k
 induction k with
 | zero =>
  intro i hk hi
  have:s.data.toList.drop i=[]:=List.drop_eq_nil_of_le (by rw [QaY];omega)
  rw [QaO.l0.eq_def,if_neg (by rw [decide_eq_true_eq];omega),this];rfl
 | succ k ih =>
  intro i hk hi
  obtain ⟨c,hc,hd⟩:=QcC s.data.toList i (by rw [QaY];omega)
  have hb:=QkE hc
  rw [QaO.l0.eq_def,if_pos (decide_eq_true (by omega)),if_pos (by omega),hd,hb]
  cases hdg:dig c
  ·rw [QhE hdg]
   have hn:¬ (48≤c.toNat∧c.toNat≤57):=fun h=>by rw [QdG.2 h] at hdg;cases hdg
   by_cases h1:48≤c.toNat
   ·rw [if_pos (decide_eq_true (by omega)),if_pos (by omega),if_neg (by rw [decide_eq_true_eq];omega)];rfl
   ·rw [if_neg (by rw [decide_eq_true_eq];omega)];rfl
  ·have hy:=QdG.1 hdg
   rw [if_pos (decide_eq_true (by omega)),if_pos (by omega),if_pos (decide_eq_true (by omega)),QX (by omega) (by omega)]
   have:=ih (i+1) (by omega) (by omega)
   rw [show ((i:Int)+1)=((i+1:Nat):Int) by omega,this,QgK hdg]
   congr 2;omega
theorem Qpf(s:ByteArray)(hs:s.size<9223372036854775808):QaO s=some ((pfx s.data.toList:Nat):Int):=by
 unfold QaO
 have:=QjT s hs _ 0 rfl (by omega)
 rw [show ((0:Nat):Int)=0 from rfl] at this
 rw [this,Qa];simp
theorem QoM{s:ByteArray}{i:Nat}{c:UInt8}(h:s.data.toList[i]? = some c):s.get! i=c:=by
 have hi:i<s.data.size:=by
  have:=(List.getElem?_eq_some_iff.1 h).1
  simpa using this
 have e:s.data[i]? = some c:=by simpa using h
 show s.data[i]! = c
 rw [getElem!_def,e]
theorem Qkd{s:ByteArray}{i:Nat}{c:UInt8}(h:s.data.toList[i]? = some c)(hc:c.toNat<128):Utf8.decode s i=(c.toNat,1):=by
 unfold Utf8.decode
 simp only [Nat.add_zero,QoM h]
 rw [if_pos hc]
theorem QnO{s:ByteArray}{i:Nat}{c:UInt8}(h:s.data.toList[i]? = some c)(hc:128≤c.toNat):128≤(Utf8.decode s i).1:=by
 unfold Utf8.decode
 simp only [Nat.add_zero,QoM h]
 rw [if_neg (by omega)]
 repeat' split
 all_goals (first | (simp only [Utf8.runeError];omega) | skip)
 all_goals (simp only [ge_iff_le,Bool.and_eq_true,decide_eq_true_eq] at *;omega)
theorem Qja(s:ByteArray):∀ (k i:Nat),s.size-i=k→i≤s.size→QbS.l0 s i=some (if pfx (s.data.toList.drop i)<s.size-i then .ret ((i+pfx (s.data.toList.drop i):Nat):Int) else .nx ()):=by
 intro k
 induction k with
 | zero =>
  intro i hk hi
  have:s.data.toList.drop i=[]:=List.drop_eq_nil_of_le (by rw [QaY];omega)
  have hz:decide (i<s.size)=false:=decide_eq_false (by omega)
  have hr:¬ pfx (s.data.toList.drop i)<s.size-i:=by omega
  rw [QbS.l0.eq_def,hz,if_neg hr];rfl
 | succ k ih =>
  intro i hk hi
  obtain ⟨c,hc,hd⟩:=QcC s.data.toList i (by rw [QaY];omega)
  have hz:decide (i<s.size)=true:=decide_eq_true (by omega)
  rw [QbS.l0.eq_def,if_pos hz,hd]
  cases hdg:dig c
  ·have hR:(if pfx (c::s.data.toList.drop (i+1))<s.size-i then (Ctl.ret ((i+pfx (c::s.data.toList.drop (i+1)):Nat):Int):Ctl Int Unit) else .nx ())=.ret (i:Int):=by
    have h0:0<s.size-i:=by omega
    rw [QhE hdg,if_pos h0];rfl
   rw [hR]
   have hn:¬ (48≤c.toNat∧c.toNat≤57):=fun h=>by rw [QdG.2 h] at hdg;cases hdg
   have hv:Qjf s i<48∨Qjf s i>57:=by
    by_cases h1:c.toNat<128
    ·have:Qjf s i=(c.toNat:Int):=by show ((Utf8.decode s i).1:Int)=_;rw [Qkd hc h1]
     omega
    ·have:=QnO hc (by omega)
     right;show ((Utf8.decode s i).1:Int)>57;omega
   by_cases h2:Qjf s i<48
   ·rw [if_pos (decide_eq_true h2)]
   ·have h6:Qjf s i>57:=by omega
    rw [if_neg (by rw [decide_eq_true_eq];exact h2),if_pos (decide_eq_true h6)]
  ·have hy:=QdG.1 hdg
   have hdc:=Qkd hc (by omega)
   have h3:Qjf s i=(c.toNat:Int):=by show ((Utf8.decode s i).1:Int)=_;rw [hdc]
   have h4:QrE s i=i+1:=by show i+(Utf8.decode s i).2=_;rw [hdc]
   have h6:decide (Qjf s i<48)=false:=decide_eq_false (by omega)
   have h7:decide (Qjf s i>57)=false:=decide_eq_false (by omega)
   rw [h6,h7,h4,ih (i+1) (by omega) (by omega),QgK hdg]
   simp only [Bool.false_eq_true,if_false]
   congr 1
   by_cases h5:pfx (s.data.toList.drop (i+1))<s.size-(i+1)
   ·rw [if_pos h5,if_pos (by omega)];congr 2;omega
   ·rw [if_neg h5,if_neg (by omega)]
theorem Qnm(s:ByteArray):QbS s=some ((pfx s.data.toList:Nat):Int):=by
 unfold QbS
 rw [Qja s _ 0 rfl (by omega),Qa,List.drop_zero]
 have:=QqJ s.data.toList
 rw [QaY] at this
 by_cases h:pfx s.data.toList<s.size-0
 ·rw [if_pos h];simp
 ·rw [if_neg h];show some _=some _;congr 2;omega
def rdU(l:List UInt8)(most:Nat):Nat×Nat :=
 if l=[]∨l.all dig=false∨(1<l.length∧l.head? = some 48) then (0,5)
 else if Qc9 0 l≤most then (Qc9 0 l,0) else (0,6)
def Ql0(p:Nat×Nat):Int×Int:=((p.1:Int),(p.2:Int))
theorem QlW{s:ByteArray}(h:0<s.size):(bt s 0==48)=true↔s.data.toList.head? = some 48:=by
 obtain ⟨c,hc,_⟩:=QcC s.data.toList 0 (by rw [QaY];exact h)
 have hb:=QkE hc
 rw [show ((0:Nat):Int)=0 from rfl] at hb
 rw [hb,List.head?_eq_getElem?,hc]
 constructor
 ·intro e
  have:(c.toNat:Int)=48:=by simpa using e
  congr 1;apply UInt8.toNat.inj;show c.toNat=48;omega
 ·intro e
  cases e;rfl
theorem Qnd{s:ByteArray}:s.data.toList=[]↔s.size=0:=by
 rw [←QaY];exact List.length_eq_zero_iff.symm
theorem QqT{l:List UInt8}(h:pfx l<l.length):l.all dig=false:=by
 cases e:l.all dig
 ·rfl
 ·have:=Qlo.2 e;omega
theorem QhY(s:ByteArray)(most:Nat)(hs:s.size≤281474976710656)(hm:most<18446744073709551616):QcP s (most:Int)=some (Ql0 (rdU s.data.toList most)):=by
 unfold QcP rdU
 have hlen:=QaY s
 by_cases h0:s.data.toList=[]
 ·have:s=⟨#[]⟩:=Qde h0
  rw [if_pos ((QeW _ _).2 this),if_pos (.inl h0)];rfl
 ·have hne:¬ (seq s (⟨#[]⟩:ByteArray))=true:=fun h=>h0 (by rw [(QeW _ _).1 h])
  have hpos:0<s.size:=Nat.pos_of_ne_zero fun h=>h0 (Qnd.2 h)
  rw [if_neg hne,Qnm,Qa]
  by_cases h1:pfx s.data.toList<s.size
  ·rw [if_pos (decide_eq_true (by omega)),if_pos (.inr (.inl (QqT (by omega))))];rfl
  ·rw [if_neg (by rw [decide_eq_true_eq];omega)]
   have hall:s.data.toList.all dig=true:=Qlo.1 (by have:=QqJ s.data.toList;omega)
   have hpar:Qol s=if Qc9 0 s.data.toList≤18446744073709551615 then ((Qc9 0 s.data.toList:Int),false) else (18446744073709551615,true):=by
    unfold Qol
    rw [parB h0 hall]
    by_cases h:Qc9 0 s.data.toList≤18446744073709551615
    ·rw [if_pos h,if_pos h]
    ·rw [if_neg h,if_neg h]
   have tail:(if s.size≤281474976710656 then (if (!!((Qol s).2))=true then some ((0:Int),(6:Int)) else (if (decide ((Qol s).1>(most:Int)))=true then some (0,6) else some ((Qol s).1,0))) else none) =
     some (Ql0 (if Qc9 0 s.data.toList≤most then (Qc9 0 s.data.toList,0) else (0,6))):=by
    rw [if_pos hs,hpar]
    by_cases h:Qc9 0 s.data.toList≤18446744073709551615
    ·rw [if_pos h,if_neg (by simp)]
     by_cases h2:Qc9 0 s.data.toList≤most
     ·rw [if_neg (by rw [decide_eq_true_eq];show ¬ ((Qc9 0 s.data.toList:Int)>(most:Int));omega),if_pos h2];rfl
     ·rw [if_pos (decide_eq_true (show ((Qc9 0 s.data.toList:Int)>(most:Int)) by omega)),if_neg h2];rfl
    ·rw [if_neg h,if_pos (by simp),if_neg (by omega)];rfl
   by_cases h2:1<s.size
   ·rw [if_pos (decide_eq_true (by omega)),if_pos (by omega)]
    by_cases h3:s.data.toList.head? = some 48
    ·rw [if_pos ((QlW hpos).2 h3),if_pos (.inr (.inr ⟨by omega,h3⟩))];rfl
    ·have hc:¬ (s.data.toList=[]∨s.data.toList.all dig=false∨(1<s.data.toList.length∧s.data.toList.head? = some 48)):=by
      rintro (h | h | h)
      ·exact h0 h
      ·rw [hall] at h;cases h
      ·exact h3 h.2
     rw [if_neg (fun h=>h3 ((QlW hpos).1 h)),tail,if_neg hc]
   ·have hc:¬ (s.data.toList=[]∨s.data.toList.all dig=false∨(1<s.data.toList.length∧s.data.toList.head? = some 48)):=by
     rintro (h | h | h)
     ·exact h0 h
     ·rw [hall] at h;cases h
     ·omega
    rw [if_neg (by rw [decide_eq_true_eq];omega),tail,if_neg hc]
theorem Qms(m most:Nat)(c:UInt8)(hc:dig c=true)(hm:most<18446744073709551616)(hle:m≤most) :
  wr .u64 (Int.tdiv (most:Int) 10)=((most/10:Nat):Int)∧wr .u64 ((wr .u64 (c.toNat:Int))-48)=((c.toNat-48:Nat):Int)∧(m≤most/10→wr .u64 (10*(m:Int))=((10*m:Nat):Int)):=by
 have hy:=QdG.1 hc
 refine ⟨?_,?_,fun h=>?_⟩
 ·have:Int.tdiv (most:Int) 10=((most/10:Nat):Int):=by rw [Int.tdiv_eq_ediv_of_nonneg (by omega)];omega
  rw [this,QcI (by omega) (by omega)]
 ·have e:wr .u64 (c.toNat:Int)=(c.toNat:Int):=QcI (by omega) (by omega)
  rw [e,QcI (by omega) (by omega)];omega
 ·rw [QcI (by omega) (by omega)];omega
def Qpj(l:List UInt8)(m most:Nat):Ctl (Int×Int) Int:=if Qc9 m l≤most then .nx (Qc9 m l:Int) else .ret (0,6)
theorem Qon{c:UInt8}{r:List UInt8}{m most:Nat}(h:m*10+(c.toNat-48)≤most):Qpj (c::r) m most=Qpj r (10*m+(c.toNat-48)) most:=by
 have e:Qc9 m (c::r)=Qc9 (10*m+(c.toNat-48)) r:=by
  show Qc9 (m*10+(c.toNat-48)) r=_
  rw [Nat.mul_comm]
 unfold Qpj
 rw [e]
theorem Qjr{c:UInt8}{r:List UInt8}{m most:Nat}(h:most<m*10+(c.toNat-48)):Qpj (c::r) m most=.ret (0,6):=by
 unfold Qpj
 have:=Qjj r (m*10+(c.toNat-48))
 rw [if_neg];show ¬ Qc9 (m*10+(c.toNat-48)) r≤most;omega
theorem Qpb(s:ByteArray)(most:Nat)(hs:s.size<9223372036854775808)(hm:most<18446744073709551616)(hall:s.data.toList.all dig=true) :
  ∀ (k i m:Nat),s.size-i=k→i≤s.size→m≤most→QA.l0 s most (m:Int) (i:Int)=some (Qpj (s.data.toList.drop i) m most):=by
 intro k
 induction k with
 | zero =>
  intro i m hk hi hmm
  have:s.data.toList.drop i=[]:=List.drop_eq_nil_of_le (by rw [QaY];omega)
  rw [QA.l0.eq_def,if_neg (by rw [decide_eq_true_eq];omega),this]
  unfold Qpj Qc9;rw [if_pos hmm]
 | succ k ih =>
  intro i m hk hi hmm
  obtain ⟨c,hc,hd⟩:=QcC s.data.toList i (by rw [QaY];omega)
  have hdg:dig c=true:=List.all_eq_true.1 hall c (List.mem_of_getElem? hc)
  have hy:=QdG.1 hdg
  obtain ⟨e1,e2,e3⟩:=Qms m most c hdg hm hmm
  rw [QA.l0.eq_def,if_pos (decide_eq_true (by omega)),if_pos (by omega),hd,QkE hc,e1,e2]
  by_cases h1:m≤most/10
  ·rw [if_neg (by rw [decide_eq_true_eq];omega),e3 h1]
   have e4:wr .u64 ((most:Int)-(if (most:Int)<((c.toNat-48:Nat):Int) then (most:Int) else ((c.toNat-48:Nat):Int)))=((most-(c.toNat-48):Nat):Int):=by
    by_cases h:(most:Int)<((c.toNat-48:Nat):Int)
    ·rw [if_pos h,QcI (by omega) (by omega)];omega
    ·rw [if_neg h,QcI (by omega) (by omega)];omega
   rw [e4]
   by_cases h2:most<m*10+(c.toNat-48)
   ·rw [Qjr h2]
    by_cases h3:10*m>most-(c.toNat-48)
    ·rw [if_pos (decide_eq_true (by omega))]
    ·rw [if_neg (by rw [decide_eq_true_eq];omega),if_pos (decide_eq_true (by omega))]
   ·rw [if_neg (by rw [decide_eq_true_eq];omega),if_neg (by rw [decide_eq_true_eq];omega),QX (by omega) (by omega),Qon (by omega)]
    have e5:wr .u64 (((10*m:Nat):Int)+((c.toNat-48:Nat):Int))=((10*m+(c.toNat-48):Nat):Int):=by rw [QcI (by omega) (by omega)];omega
    rw [e5,show ((i:Int)+1)=((i+1:Nat):Int) by omega]
    exact ih (i+1) _ (by omega) (by omega) (by omega)
  ·rw [if_pos (decide_eq_true (by omega)),Qjr (by omega)]
theorem Qpa(s:ByteArray)(most:Nat)(hs:s.size<9223372036854775808)(hm:most<18446744073709551616)(hall:s.data.toList.all dig=true) :
  ∀ (k i m:Nat),s.size-i=k→i≤s.size→m≤most→QA.l1 s most (m:Int) (i:Int)=some (Qpj (s.data.toList.drop i) m most):=by
 intro k
 induction k with
 | zero =>
  intro i m hk hi hmm
  have:s.data.toList.drop i=[]:=List.drop_eq_nil_of_le (by rw [QaY];omega)
  rw [QA.l1.eq_def,if_neg (by rw [decide_eq_true_eq];omega),this]
  unfold Qpj Qc9;rw [if_pos hmm]
 | succ k ih =>
  intro i m hk hi hmm
  obtain ⟨c,hc,hd⟩:=QcC s.data.toList i (by rw [QaY];omega)
  have hdg:dig c=true:=List.all_eq_true.1 hall c (List.mem_of_getElem? hc)
  have hy:=QdG.1 hdg
  obtain ⟨e1,e2,e3⟩:=Qms m most c hdg hm hmm
  rw [QA.l1.eq_def,if_pos (decide_eq_true (by omega)),if_pos (by omega),hd,QkE hc,e1,e2]
  by_cases h1:m≤most/10
  ·rw [if_neg (by rw [decide_eq_true_eq];omega),e3 h1]
   have e4:wr .u64 ((most:Int)-(if (most:Int)<((c.toNat-48:Nat):Int) then (most:Int) else ((c.toNat-48:Nat):Int)))=((most-(c.toNat-48):Nat):Int):=by
    by_cases h:(most:Int)<((c.toNat-48:Nat):Int)
    ·rw [if_pos h,QcI (by omega) (by omega)];omega
    ·rw [if_neg h,QcI (by omega) (by omega)];omega
   rw [e4]
   by_cases h2:most<m*10+(c.toNat-48)
   ·rw [Qjr h2]
    by_cases h3:10*m>most-(c.toNat-48)
    ·rw [if_pos (decide_eq_true (by omega))]
    ·rw [if_neg (by rw [decide_eq_true_eq];omega),if_pos (decide_eq_true (by omega))]
   ·rw [if_neg (by rw [decide_eq_true_eq];omega),if_neg (by rw [decide_eq_true_eq];omega),QX (by omega) (by omega),Qon (by omega)]
    have e5:wr .u64 (((10*m:Nat):Int)+((c.toNat-48:Nat):Int))=((10*m+(c.toNat-48):Nat):Int):=by rw [QcI (by omega) (by omega)];omega
    rw [e5,show ((i:Int)+1)=((i+1:Nat):Int) by omega]
    exact ih (i+1) _ (by omega) (by omega) (by omega)
  ·rw [if_pos (decide_eq_true (by omega)),Qjr (by omega)]
theorem Qjn(s:ByteArray)(most:Nat)(hs:s.size<9223372036854775808)(hm:most<18446744073709551616):QA s (most:Int)=some (Ql0 (rdU s.data.toList most)):=by
 unfold QA rdU
 have hlen:=QaY s
 by_cases h0:s.data.toList=[]
 ·have h00:=Qnd.1 h0
  rw [if_pos (by rw [h00];rfl),if_pos (.inl h0)];rfl
 ·have hpos:0<s.size:=Nat.pos_of_ne_zero fun h=>h0 (Qnd.2 h)
  rw [if_neg (by rw [beq_iff_eq];omega),Qpf s hs,Qa]
  by_cases h1:pfx s.data.toList<s.size
  ·rw [if_pos (decide_eq_true (by omega)),if_pos (.inr (.inl (QqT (by omega))))];rfl
  ·rw [if_neg (by rw [decide_eq_true_eq];omega)]
   have hall:s.data.toList.all dig=true:=Qlo.1 (by have:=QqJ s.data.toList;omega)
   have hl0:QA.l0 s most 0 0=some (Qpj s.data.toList 0 most):=by
    have:=Qpb s most hs hm hall _ 0 0 rfl (by omega) (by omega)
    rwa [List.drop_zero] at this
   have hl1:QA.l1 s most 0 0=some (Qpj s.data.toList 0 most):=by
    have:=Qpa s most hs hm hall _ 0 0 rfl (by omega) (by omega)
    rwa [List.drop_zero] at this
   by_cases h2:1<s.size
   ·rw [if_pos (decide_eq_true (by omega)),if_pos (by omega)]
    by_cases h3:s.data.toList.head? = some 48
    ·rw [if_pos ((QlW hpos).2 h3),if_pos (.inr (.inr ⟨by omega,h3⟩))];rfl
    ·have hc:¬ (s.data.toList=[]∨s.data.toList.all dig=false∨(1<s.data.toList.length∧s.data.toList.head? = some 48)):=by
      rintro (h | h | h)
      ·exact h0 h
      ·rw [hall] at h;cases h
      ·exact h3 h.2
     rw [if_neg (fun h=>h3 ((QlW hpos).1 h)),hl0,Qa,if_neg hc]
     unfold Qpj
     by_cases h:Qc9 0 s.data.toList≤most
     ·rw [if_pos h,if_pos h];rfl
     ·rw [if_neg h,if_neg h];rfl
   ·have hc:¬ (s.data.toList=[]∨s.data.toList.all dig=false∨(1<s.data.toList.length∧s.data.toList.head? = some 48)):=by
     rintro (h | h | h)
     ·exact h0 h
     ·rw [hall] at h;cases h
     ·omega
    rw [if_neg (by rw [decide_eq_true_eq];omega),hl1,Qa,if_neg hc]
    unfold Qpj
    by_cases h:Qc9 0 s.data.toList≤most
    ·rw [if_pos h,if_pos h];rfl
    ·rw [if_neg h,if_neg h];rfl
theorem Qjo(n most:Nat):rdU (Lib.decDigits n) most=if n≤most then (n,0) else (0,6):=by
 unfold rdU
 rw [Qkc,if_neg]
 rintro (h | h | h)
 ·exact QgP n h
 ·rw [QdN] at h;cases h
 ·by_cases hn:n=0
  ·subst hn;rw [QkA] at h;simp at h
  ·exact QkB n (by omega) h.2
theorem Qss{l:List UInt8}{most:Nat}(h:(rdU l most).2=0):Lib.decDigits (rdU l most).1=l∧(rdU l most).1≤most:=by
 unfold rdU at h ⊢
 by_cases h1:l=[]∨l.all dig=false∨(1<l.length∧l.head? = some 48)
 ·rw [if_pos h1] at h;cases h
 ·rw [if_neg h1] at h ⊢
  by_cases h2:Qc9 0 l≤most
  ·rw [if_pos h2]
   refine ⟨QjG (fun e=>h1 (.inl e)) ?_ fun hl he=>h1 (.inr (.inr ⟨hl,he⟩)),h2⟩
   cases e:l.all dig
   ·exact absurd (.inr (.inl e)) h1
   ·rfl
  ·rw [if_neg h2] at h;cases h
end Go.Proofs.YtnekckhjmnhinaaGreatDoor
