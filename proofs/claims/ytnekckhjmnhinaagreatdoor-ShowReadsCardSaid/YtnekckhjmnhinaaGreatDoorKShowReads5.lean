/- Texts of this claim, those in one that belong together; printed by a program of this project. -/
import Derived.Test.YtnekckhjmnhinaaGreatDoorProg
import Derived.Test.YtnekckhjmnhinaaGreatDoorKShowReads4
set_option linter.unusedVariables false
set_option linter.unusedSimpArgs false
set_option maxRecDepth 20000
namespace Go.Proofs.YtnekckhjmnhinaaGreatDoor
open E Go.RowKit _root_.Go.Proofs.Tryz
theorem Qpw:(Tryz.prog.info? 9).isSome=true:=by kernel_rfl
noncomputable def Qrg:TypeInfo:=(Tryz.prog.info? 9).get Qpw
theorem Qrh:Tryz.prog.info? 9=some Qrg:=(Option.some_get _).symm
def QbV.l0(x0:Int)(i5:Int):Option (Int) :=
 if (decide (i5<5))=true then (if (0:Int)≤wr .u64 (wr .i64 (10*(wr .i64 (i5+2)))) then if (decide (Qh8 .u64 x0 (wr .u64 (wr .i64 (10*(wr .i64 (i5+2)))))>0))=true then (QbV.l0 x0 (wr .i64 (i5+1))) else (some i5) else none) else (some i5)
 partial_fixpoint
def QbV.l1(q4:Int)(i12:Int)(i13:ByteArray)(i14:Int):Option (ByteArray) :=
 if (decide (i14<2))=true then (if (0:Int)≤wr .u64 (wr .i64 (10*(wr .i64 (q4+1)))) then Qbi (Qh8 .u64 (wr .u64 (i12*10)) (wr .u64 (wr .i64 (10*(wr .i64 (q4+1))))))>>=fun t17=>if i13.size+t17.size≤140737488355328 then if (0:Int)≤wr .u64 (wr .i64 (10*(wr .i64 (q4+1)))) then QbV.l1 q4 (Qjd .u64 (wr .u64 (i12*10)) (wr .u64 ((Qh9 .u64 1 (wr .u64 (wr .i64 (10*(wr .i64 (q4+1))))))-1))) (i13++t17) (wr .i64 (i14+1)) else none else none else none) else (some i13)
 partial_fixpoint
def QbV(x0:Int):Option (ByteArray) :=
 if (decide (x0<1024))=true then (Qbi x0>>=fun t2=>if t2.size+(⟨#[32,66]⟩:ByteArray).size≤140737488355328 then some (t2++(⟨#[32,66]⟩:ByteArray)) else none) else (QbV.l0 x0 0>>=fun q4=>if (0:Int)≤wr .u64 (wr .i64 (10*(wr .i64 (q4+1)))) then if (0:Int)≤wr .u64 (wr .i64 (10*(wr .i64 (q4+1)))) then QbV.l1 q4 (Qjd .u64 x0 (wr .u64 ((Qh9 .u64 1 (wr .u64 (wr .i64 (10*(wr .i64 (q4+1))))))-1))) (⟨#[]⟩) 0>>=fun q11=>Qbi (Qh8 .u64 x0 (wr .u64 (wr .i64 (10*(wr .i64 (q4+1))))))>>=fun t20=>if t20.size+(⟨#[46]⟩:ByteArray).size≤140737488355328 then if (t20++(⟨#[46]⟩:ByteArray)).size+q11.size≤140737488355328 then if ((t20++(⟨#[46]⟩:ByteArray))++q11).size+(⟨#[32]⟩:ByteArray).size≤140737488355328 then if (0:Int)≤q4∧q4<6 then if (((t20++(⟨#[46]⟩:ByteArray))++q11)++(⟨#[32]⟩:ByteArray)).size+(Qbb QcB q4).size≤140737488355328 then some ((((t20++(⟨#[46]⟩:ByteArray))++q11)++(⟨#[32]⟩:ByteArray))++(Qbb QcB q4)) else none else none else none else none else none else none else none)
theorem QgG(x0:Int)(r:ByteArray)(hF:QbV x0=some r)(w:World)(hg_show_units:GV_show_units w)(hg_strconv_uint64pow10:GV_strconv_uint64pow10 w) :
    Calls Tryz.prog 15 #[.int .u64 x0] w (fun e w'=>e=.returned (.string r)∧Below w.heap.size w w'):=by
 unfold QbV at hF
 refine ce (l:=[.int .u64 x0]) func15 rfl rfl ?_
 refine QN ?_
 refine sr (aa (nt (qs (sr (am (aw xl (nwq [9,0] ?_)))))))
 obtain ⟨h1,hF⟩|⟨h1,hF⟩:=oi hF
 ·refine ct h1 ?_
  refine sr (am ?_)
  obtain ⟨t2,ht2,hF⟩:=bM hF
  refine cB func28 rfl (fun w hw=>Qb1 _ _ ht2 w (hg_strconv_uint64pow10.on hw.below)) ?_
  obtain ⟨h3,hF⟩:=gd hF
  refine aw (Q2 rfl rfl h3) ?_
  refine aa (nwq [2] ?_)
  refine rt ?_
  have K:=os hF
  subst K
  exact r1 wb
 refine cf h1 ?_
 refine sns (aa (nwq [3,0] ?_))
 refine qs (qb ?_)
 obtain ⟨q4,hq4,hF⟩:=bM hF
 refine wq [3,0] ?_
 refine Qal (B:=0) (A:=fun Y=>At 64 [(0,.int .u64 x0),(3,.int .i64 q4)] (Wd w []) Y) ?_ ?_
 ·intro K
  refine QbV.l0.partial_correctness x0 (motive:=fun i5 x=>KN (fun Y=>At 64 [(0,.int .u64 x0),(3,.int .i64 x)] (Wd w []) Y) _ 0→QbB (fun Y=>At 64 [(0,.int .u64 x0),(3,.int .i64 i5)] (Wd w []) Y) _ _ _) ?_ _ _ hq4 K
  ·clear K hF
   intro g ih i5 x hF K
   refine QW ?_
   refine qs (sr (am (aw xl (am ?_))))
   obtain ⟨h6,hF⟩|⟨h6,hF⟩:=oi hF
   ·refine fx 15 h6 ?_
    refine gy (am (gy (am (gy (aw xa (gy ?_))))))
    refine aw (QcT rfl rfl) ?_
    refine gy ?_
    refine aw (QaW underlying3 underlying78 rfl) ?_
    refine gy ?_
    obtain ⟨h7,hF⟩:=gd hF
    refine aw (QjQ rfl rfl h7) ?_
    refine gy ?_
    refine aw (QbI rfl rfl) ?_
    refine aw xp (nwq [23,3,0] ?_)
    obtain ⟨h8,hF⟩|⟨h8,hF⟩:=oi hF
    ·refine ct h8 ?_
     refine sn (qb (qr (am (aw xa (aa (qn (wq [3,0] ?_)))))))
     refine bm ?_
     exact Qk (ih _ _ hF K) ⟨rfl,rfl,trivial⟩
    refine cf h8 ?_
    refine Q7 ?_
    refine te (te ?_)
    obtain rfl:=os hF
    exact Qk K ⟨rfl,rfl,trivial⟩
   refine fx 15 h6 ?_
   refine gn ?_
   refine gn ?_
   refine gn ?_
   refine gn ?_
   refine gn ?_
   refine gn ?_
   refine gn ?_
   refine aw xp (nwq [23,3,0] ?_)
   refine cf rfl ?_
   refine Q7 ?_
   refine te (te ?_)
   obtain rfl:=os hF
   exact Qk K ⟨rfl,rfl,trivial⟩
 skip
 skip
 refine QD ?_
 refine tn (sr (am (aw xa ?_)))
 refine aw (QcT rfl rfl) ?_
 refine aw (QaW underlying3 underlying78 rfl) ?_
 refine aa (ns (am (am ?_)))
 obtain ⟨h9,hF⟩:=gd hF
 refine aw (QjQ rfl rfl h9) ?_
 refine am (am ?_)
 obtain ⟨h10,hF⟩:=gd hF
 refine aw (QgI rfl rfl h10) ?_
 refine aw (Qdh rfl rfl) ?_
 refine aw (QkM rfl rfl) ?_
 refine aa (aa (ns (aa (nt (qs (sr (am (nwq [38,7,6,5,4,3] ?_))))))))
 refine qb ?_
 obtain ⟨q11,hq11,hF⟩:=bM hF
 refine wq [38,7,6,5,4,3] ?_
 refine Qal (B:=2) (A:=fun Y=>At 64 [(3,.int .i64 q4),(5,.int .u64 (Qh8 .u64 x0 (wr .u64 (wr .i64 (10*(wr .i64 (q4+1))))))),(7,.string q11)] (Wd w []) Y) ?_ ?_
 ·intro K
  refine QbV.l1.partial_correctness q4 (motive:=fun i12 i13 i14 x=>KN (fun Y=>At 64 [(3,.int .i64 q4),(5,.int .u64 (Qh8 .u64 x0 (wr .u64 (wr .i64 (10*(wr .i64 (q4+1))))))),(7,.string x)] (Wd w []) Y) _ 2→QbB (fun Y=>At 64 [(3,.int .i64 q4),(4,.int .u64 (wr .u64 (wr .i64 (10*(wr .i64 (q4+1)))))),(5,.int .u64 (Qh8 .u64 x0 (wr .u64 (wr .i64 (10*(wr .i64 (q4+1))))))),(6,.int .u64 i12),(7,.string i13),(38,.int .i64 i14)] (Wd w []) Y) _ _ _) ?_ _ _ _ _ hq11 K
  ·clear K hF
   intro g ih i12 i13 i14 x hF K
   refine QW ?_
   refine sr (aw xl (nwq [39,38,7,6,5,4,3] ?_))
   refine qs ?_
   obtain ⟨h15,hF⟩|⟨h15,hF⟩:=oi hF
   ·refine ct h15 ?_
    refine sn (qs (qb (sr (am ?_))))
    refine aw (QcT rfl rfl) ?_
    refine aa (ns (am (am (am ?_))))
    obtain ⟨h16,hF⟩:=gd hF
    refine aw (QjQ rfl rfl h16) ?_
    obtain ⟨t17,ht17,hF⟩:=bM hF
    refine cB func28 rfl (fun w hw=>Qb1 _ _ ht17 w (hg_strconv_uint64pow10.on hw.below)) ?_
    obtain ⟨h18,hF⟩:=gd hF
    refine aw (Q2 rfl rfl h18) ?_
    refine aa (nt (qr (am (am ?_))))
    obtain ⟨h19,hF⟩:=gd hF
    refine aw (QgI rfl rfl h19) ?_
    refine aw (Qdh rfl rfl) ?_
    refine aw (QkM rfl rfl) ?_
    refine aa (qn (wq [38,7,6,5,4,3] ?_))
    refine bm ?_
    refine qr (aw xa (am (nwq [38,7,6,5,4,3] ?_)))
    exact Qk (ih _ _ _ _ hF K) ⟨rfl,rfl,rfl,rfl,rfl,rfl,trivial⟩
   refine cf h15 ?_
   refine Q7 ?_
   refine te (te ?_)
   obtain rfl:=os hF
   exact Qk K ⟨rfl,rfl,rfl,trivial⟩
 skip
 skip
 refine QD ?_
 refine tn (qs ?_)
 refine Qdd (by kernel_rfl) (by kernel_rfl) (fun _ h=>h.drew) ?_
 refine Ql rfl rfl rfl (Qbz rfl) ?_
 obtain ⟨t20,ht20,hF⟩:=bM hF
 refine Qbl func28 rfl (by kernel_rfl) rfl rfl (fun w hw=>(Qb1 _ _ ht20 w (hg_strconv_uint64pow10.on hw.below)).mono fun _ _ h=>⟨h.1,hw.call h.2⟩) ?_
 obtain ⟨h21,hF⟩:=gd hF
 refine Ql rfl rfl rfl (Q2 rfl rfl h21) ?_
 refine Ql rfl rfl rfl (Qbz rfl) ?_
 obtain ⟨h22,hF⟩:=gd hF
 refine Ql rfl rfl rfl (Q2 rfl rfl h22) ?_
 obtain ⟨h23,hF⟩:=gd hF
 refine Ql rfl rfl rfl (Q2 rfl rfl h23) ?_
 refine Ql rfl rfl rfl (Qbz rfl) ?_
 obtain ⟨h24,hF⟩:=gd hF
 refine Ql rfl rfl rfl (Qas underlying79 sizeOf9 rfl rfl h24) ?_
 refine Ql rfl rfl rfl (Qe isAgg9 rfl (QpE (c':=QbA) (y:=Qbb QcB q4) (fun _ h=>h.below) hg_show_units Qi0 (Qaf.comp lw (fun z=>Qb2 QcB q4 z) (Qaf.vec QbA (by decide) QcB q4 h24)) rfl)) ?_
 obtain ⟨h25,hF⟩:=gd hF
 refine Ql rfl rfl rfl (Q2 rfl rfl h25) ?_
 refine Ql rfl rfl rfl (Qcf rfl) ?_
 refine Qck ?_
 refine wq [2] ?_
 refine tn (qt ?_)
 have K:=os hF
 subst K
 exact r1 wb
def QbG(x0:Int):Option (ByteArray) :=
 Qab (wr .u64 x0)>>=fun t1=>some t1
theorem Qdo(x0:Int)(r:ByteArray)(hF:QbG x0=some r)(w:World) :
    Calls Tryz.prog 38 #[.int .i64 x0] w (fun e w'=>e=.returned (.string r)∧Below w.heap.size w w'):=by
 unfold QbG at hF
 refine ce (l:=[.int .i64 x0]) func38 rfl rfl ?_
 refine QN ?_
 refine sr (aa (ns (am ?_)))
 refine aw (QaW underlying3 underlying41 rfl) ?_
 obtain ⟨t1,ht1,hF⟩:=bM hF
 refine cB func45 rfl (fun w hw=>Qa2 _ _ ht1 w) ?_
 refine aa (nwq [2] ?_)
 refine qt ?_
 have K:=os hF
 subst K
 exact r1 wb
def Qbq(x0:(Vector Int 32)):Option (ByteArray) :=
 QaU x0>>=fun t2=>QH t2>>=fun t5=>some t5
theorem QcJ(x0:(Vector Int 32))(r:ByteArray)(hF:Qbq x0=some r)(w:World) :
    Calls Tryz.prog 40 #[.agg (Cd.cs (QQ (Qv .u8) 32 (by decide)) x0).toArray] w (fun e w'=>e=.returned (.string r)∧Below w.heap.size w w'):=by
 unfold Qbq at hF
 refine ce (l:=[.agg (Cd.cs (QQ (Qv .u8) 32 (by decide)) x0).toArray]) func40 rfl rfl ?_
 refine QN ?_
 refine sr ?_
 refine Qbv (cs:=Cd.cs (QQ (Qv .u8) 32 (by decide)) x0) rfl rfl rfl ?_
 intro b1
 refine aa (ns ?_)
 refine aw (Qg (c:=(QQ (Qv .u8) 32 (by decide))) (z:=x0) isAgg24 sizeOf24 rfl (Qp .z lw)) ?_
 obtain ⟨t2,ht2,hF⟩:=bM hF
 refine QbU (c:=(Qv .u8)) (e:=5) (ys:=t2) (V:=fun p cap=>.slice p t2.length cap) func77 rfl (by kernel_rfl) rfl rfl (fun w hw=>Qgy _ _ ht2 w) ?_
 intro p3 c4
 obtain ⟨t5,ht5,hF⟩:=bM hF
 refine cB func76 rfl (fun w hw=>Qd1 (Qge _ _ _ _ ht5 w (hw.own .z).row)) ?_
 refine aa (qn (dz (dz (wq [2] ?_))))
 refine tn (qt ?_)
 have K:=os hF
 subst K
 exact r1 wb
def Qap.l0(x0:List Qo)(x1:ByteArray)(i9:ByteArray)(i10:Int):Option (ByteArray) :=
 if (decide (i10<(x0.length:Int)))=true then (if i9.size+x1.size≤140737488355328 then if (0:Int)≤i10∧i10<(x0.length:Int) then Qch (QO x0 i10)>>=fun t17=>if (i9++x1).size+t17.size≤140737488355328 then Qap.l0 x0 x1 ((i9++x1)++t17) (wr .i64 (i10+1)) else none else none else none) else (some i9)
 partial_fixpoint
def Qap(x0:List Qo)(x1:ByteArray):Option (ByteArray) :=
 if ((x0.length:Int)==0)=true then (some (⟨#[40,110,111,110,101,41]⟩)) else (if (0:Int)≤0∧0<(x0.length:Int) then Qch (QO x0 0)>>=fun t6=>Qap.l0 x0 x1 t6 1>>=fun q7=>some q7 else none)
theorem Qec(x0:List Qo)(p0_:Option Addr)(c0_:Nat)(x1:ByteArray)(r:ByteArray)(hF:Qap x0 x1=some r)(w:World)(hr0:Row Qc w p0_ c0_ x0) :
    Calls Tryz.prog 43 #[.slice p0_ x0.length c0_,.string x1] w (fun e w'=>e=.returned (.string r)∧Below w.heap.size w w'):=by
 unfold Qap at hF
 refine ce (l:=[.slice p0_ x0.length c0_,.string x1]) func43 rfl rfl ?_
 refine QN ?_
 refine sr (aa (nt (qs (sr (am ?_)))))
 refine aw (QZ underlying58 rfl) ?_
 refine aw xq (nwq [9,1,0] ?_)
 obtain ⟨h1,hF⟩|⟨h1,hF⟩:=oi hF
 ·refine ct h1 ?_
  refine sr (aa (nwq [4] ?_))
  refine rt ?_
  have K:=os hF
  subst K
  exact r1 wb
 refine cf h1 ?_
 refine sns (am ?_)
 obtain ⟨h2,hF⟩:=gd hF
 obtain ⟨b4,o5,hp3⟩:=Qaa hr0 h2
 refine aw (QbD underlying58 sizeOf74 rfl rfl h2 hp3) ?_
 refine aw (Qg (c:=Qc) (z:=QO x0 0) isAgg74 sizeOf74 rfl (QdB (fun _ h=>h.below) hr0 h2 hp3)) ?_
 obtain ⟨t6,ht6,hF⟩:=bM hF
 refine cB func79 rfl (fun w hw=>QeR _ _ ht6 w) ?_
 refine aa (nt (qs (sr (aa (nwq [6,5,1,0] ?_)))))
 refine qb ?_
 obtain ⟨q7,hq7,hF⟩:=bM hF
 refine wq [6,5,1,0] ?_
 refine Qal (B:=0) (A:=fun Y=>At 30 [(5,.string q7)] (Wd w []) Y) ?_ ?_
 ·intro K
  refine Qap.l0.partial_correctness x0 x1 (motive:=fun i9 i10 x=>KN (fun Y=>At 30 [(5,.string x)] (Wd w []) Y) _ 0→QbB (fun Y=>At 30 [(0,.slice p0_ x0.length c0_),(1,.string x1),(5,.string i9),(6,.int .i64 i10)] (Wd w []) Y) _ _ _) ?_ _ _ _ hq7 K
  ·clear K hF
   intro g ih i9 i10 x hF K
   refine QW ?_
   refine qs (sr (am (am ?_)))
   refine aw (QZ underlying58 rfl) ?_
   refine aw xl (nwq [17,6,5,1,0] ?_)
   obtain ⟨h11,hF⟩|⟨h11,hF⟩:=oi hF
   ·refine ct h11 ?_
    refine sn (qs (qb (qr (am (am ?_)))))
    obtain ⟨h12,hF⟩:=gd hF
    refine aw (Q2 rfl rfl h12) ?_
    refine am (am ?_)
    obtain ⟨h13,hF⟩:=gd hF
    obtain ⟨b15,o16,hp14⟩:=Qaa hr0 h13
    refine aw (QbD underlying58 sizeOf74 rfl rfl h13 hp14) ?_
    refine aw (Qg (c:=Qc) (z:=QO x0 i10) isAgg74 sizeOf74 rfl (QdB (fun _ h=>h.below) hr0 h13 hp14)) ?_
    obtain ⟨t17,ht17,hF⟩:=bM hF
    refine cB func79 rfl (fun w hw=>QeR _ _ ht17 w) ?_
    obtain ⟨h18,hF⟩:=gd hF
    refine aw (Q2 rfl rfl h18) ?_
    refine aa (qn (wq [6,5,1,0] ?_))
    refine bm ?_
    refine qr (am (aw xa (aa (nwq [6,5,1,0] ?_))))
    exact Qk (ih _ _ _ hF K) ⟨rfl,rfl,rfl,rfl,trivial⟩
   refine cf h11 ?_
   refine Q7 ?_
   refine te (te ?_)
   obtain rfl:=os hF
   exact Qk K ⟨rfl,trivial⟩
 skip
 skip
 refine QD ?_
 refine tn (sr (am (aa (nwq [4] ?_))))
 refine qt ?_
 have K:=os hF
 subst K
 exact r1 wb
def Qd5(x0:Int):Option (ByteArray) :=
 Qbi (wr .u64 x0)>>=fun t1=>some t1
theorem Qhu(x0:Int)(r:ByteArray)(hF:Qd5 x0=some r)(w:World)(hg_strconv_uint64pow10:GV_strconv_uint64pow10 w) :
    Calls Tryz.prog 27 #[.int .i64 x0] w (fun e w'=>e=.returned (.string r)∧Below w.heap.size w w'):=by
 unfold Qd5 at hF
 refine ce (l:=[.int .i64 x0]) func27 rfl rfl ?_
 refine QN ?_
 refine sr (aa (ns (am ?_)))
 refine aw (QaW underlying3 underlying41 rfl) ?_
 obtain ⟨t1,ht1,hF⟩:=bM hF
 refine cB func28 rfl (fun w hw=>Qb1 _ _ ht1 w (hg_strconv_uint64pow10.on hw.below)) ?_
 refine aa (nwq [2] ?_)
 refine qt ?_
 have K:=os hF
 subst K
 exact r1 wb
def Qca.l0(x0:List Qo)(i5:List ByteArray)(i6:Int):Option (List ByteArray) :=
 if (decide (i6<(x0.length:Int)))=true then (if (0:Int)≤i6∧i6<(x0.length:Int) then Qfr (QO x0 i6)>>=fun t17=>if (i5.length+1)*16≤140737488355328 then Qca.l0 x0 (i5++[t17]) (wr .i64 (i6+1)) else none else none) else (some i5)
 partial_fixpoint
def Qca(x0:List Qo)(x1:ByteArray):Option (ByteArray) :=
 if ((x0.length:Int)==0)=true then (some (⟨#[40,110,111,110,101,41]⟩)) else (Qca.l0 x0 ([]:List ByteArray) 0>>=fun q4=>if List.length q4≤140737488355328 then if (Qdp q4 x1).size≤140737488355328 then some (Qdp q4 x1) else none else none)
theorem QjI(x0:List Qo)(p0_:Option Addr)(c0_:Nat)(x1:ByteArray)(r:ByteArray)(hF:Qca x0 x1=some r)(w:World)(hr0:Row Qc w p0_ c0_ x0)(hg_strconv_uint64pow10:GV_strconv_uint64pow10 w) :
    Calls Tryz.prog 30 #[.slice p0_ x0.length c0_,.string x1] w (fun e w'=>e=.returned (.string r)∧Below w.heap.size w w'):=by
 unfold Qca at hF
 refine ce (l:=[.slice p0_ x0.length c0_,.string x1]) func30 rfl rfl ?_
 refine QN ?_
 refine sr (aa (nt (qs (sr (am ?_)))))
 refine aw (QZ underlying58 rfl) ?_
 refine aw xq (nwq [10,1,0] ?_)
 obtain ⟨h1,hF⟩|⟨h1,hF⟩:=oi hF
 ·refine ct h1 ?_
  refine sr (aa (nwq [4] ?_))
  refine rt ?_
  have K:=os hF
  subst K
  exact r1 wb
 refine cf h1 ?_
 refine sns (aa (nt (qs (sr (am ?_)))))
 refine aw (QZ underlying58 rfl) ?_
 refine am (nwq [13,12,11,5,1] ?_)
 refine qb ?_
 refine Qco QbA 9 ?_
 obtain ⟨q4,hq4,hF⟩:=bM hF
 refine wq [13,12,11,5,1] ?_
 refine Qal (B:=0) (A:=fun Y=>∀ (p9:Option Addr) (c10:Nat),At 26 [(1,.string x1),(5,.slice p9 q4.length c10)] (Wd w [Qbm QbA 9 p9 c10 q4]) Y) ?_ ?_
 ·intro K
  refine Qca.l0.partial_correctness x0 (motive:=fun i5 i6 x=>KN (fun Y=>∀ (p9:Option Addr) (c10:Nat),At 26 [(1,.string x1),(5,.slice p9 x.length c10)] (Wd w [Qbm QbA 9 p9 c10 x]) Y) _ 0→QbB (fun Y=>∀ (p7:Option Addr) (c8:Nat),At 26 [(1,.string x1),(5,.slice p7 i5.length c8),(11,.slice p0_ x0.length c0_),(12,.int .i64 (x0.length:Int)),(13,.int .i64 i6)] (Wd w [Qbm QbA 9 p7 c8 i5]) Y) _ _ _) ?_ _ _ _ hq4 K none 0
  ·clear K hF
   intro g ih i5 i6 x hF K p7 c8
   refine QW ?_
   refine sr (aw xl (nwq [14,13,12,11,5,1] ?_))
   refine qs ?_
   obtain ⟨h11,hF⟩|⟨h11,hF⟩:=oi hF
   ·refine ct h11 ?_
    refine sn (qs (qb (sr ?_)))
    obtain ⟨h12,hF⟩:=gd hF
    obtain ⟨b14,o15,hp13⟩:=Qaa hr0 h12
    refine aw (QbD underlying58 sizeOf74 rfl rfl h12 hp13) ?_
    refine aw (Qg (c:=Qc) (z:=QO x0 i6) isAgg74 sizeOf74 rfl (QdB (fun _ h=>h.below) hr0 h12 hp13)) ?_
    refine al (cs:=Cd.cs Qc Qdl) zeroValue74 ?_
    intro b16
    refine Qn (c:=Qc) (z:=QO x0 i6) .z lw sizeOf74 rfl rfl rfl ?_
    refine nt (qr (am ?_))
    refine aw (Qg (c:=Qc) (z:=QO x0 i6) isAgg74 sizeOf74 rfl (Qp .z lw)) ?_
    obtain ⟨t17,ht17,hF⟩:=bM hF
    refine cB func67 rfl (fun w hw=>QmU _ _ ht17 w (hg_strconv_uint64pow10.on hw.below)) ?_
    refine Qep (cs:=QbA.all ([t17]:List ByteArray)) underlying46 sizeOf9 zeroValue9 rfl rfl rfl (by kernel_rfl) rfl ?_
    intro b18
    obtain ⟨h19,hF⟩:=gd hF
    refine Qcl (z:=.string ⟨#[]⟩) (c:=QbA) (ys:=([t17]:List ByteArray)) (.s (.s .z)) underlying46 Qrh (by kernel_rfl) (by kernel_rfl) rfl rfl rfl rfl (fun _ hw=>QbX (hw.ok (Upd.mem .z))) (by kernel_rfl) h19 (QbR h19) rfl ?_
    intro p20 c21
    refine aa (qn (dz (dz (wq [13,12,11,5,1] ?_))))
    refine bm ?_
    refine qr (aw xa (am (nwq [13,12,11,5,1] ?_)))
    exact Qk (ih _ _ _ hF K p20 c21) ⟨rfl,rfl,rfl,rfl,rfl,trivial⟩
   refine cf h11 ?_
   refine Q7 ?_
   refine te (te ?_)
   obtain rfl:=os hF
   exact Qk (K p7 c8) ⟨rfl,rfl,trivial⟩
 skip
 intro p9 c10
 refine QD ?_
 refine tn (sr (am (am ?_)))
 obtain ⟨h22,hF⟩:=gd hF
 obtain ⟨h23,hF⟩:=gd hF
 refine cB func25 rfl (fun w1 hw=>Qj4 _ _ h22 h23 _ _ w1 (hw.own .z).row) ?_
 refine aa (qn (dz (wq [4] ?_)))
 refine tn (qt ?_)
 have K:=os hF
 subst K
 exact r1 wb
def Qg6(x0:Qr):Option (ByteArray) :=
 QdL x0>>=fun t2=>if t2=true then (some (⟨#[40,110,111,110,101,41]⟩)) else (QdK x0>>=fun t4=>some t4)
theorem Qne(x0:Qr)(r:ByteArray)(hF:Qg6 x0=some r)(w:World)(hg_strconv_uint64pow10:GV_strconv_uint64pow10 w) :
    Calls Tryz.prog 29 #[.agg (Cd.cs Qb x0).toArray] w (fun e w'=>e=.returned (.string r)∧Below w.heap.size w w'):=by
 unfold Qg6 at hF
 refine ce (l:=[.agg (Cd.cs Qb x0).toArray]) func29 rfl rfl ?_
 refine QN ?_
 refine sr ?_
 refine Qbv (cs:=Cd.cs Qb x0) rfl rfl rfl ?_
 intro b1
 refine aa (nt (qs (sr ?_)))
 refine aw (Qg (c:=Qb) (z:=x0) isAgg57 sizeOf57 rfl (Qp .z lw)) ?_
 obtain ⟨t2,ht2,hF⟩:=bM hF
 refine cB func60 rfl (fun w hw=>Qgo _ _ ht2 w) ?_
 refine nwq [4,1] ?_
 obtain ⟨h3,hF⟩|⟨h3,hF⟩:=oi hF
 ·refine ct h3 ?_
  refine sr (aa (qn (dz (wq [2] ?_))))
  refine tn (rt ?_)
  have K:=os hF
  subst K
  exact r1 wb
 refine cf h3 ?_
 refine sns ?_
 refine aw (Qg (c:=Qb) (z:=x0) isAgg57 sizeOf57 rfl (Qp .z lw)) ?_
 obtain ⟨t4,ht4,hF⟩:=bM hF
 refine cB func66 rfl (fun w hw=>Qje _ _ ht4 w (hg_strconv_uint64pow10.on hw.below)) ?_
 refine aa (qn (dz (wq [2] ?_)))
 refine tn (qt ?_)
 have K:=os hF
 subst K
 exact r1 wb
def Qcb.l0(x0:Qx)(i15:List ByteArray)(i17:Int):Option (List ByteArray) :=
 if (decide (i17<(x0.f_Peers.length:Int)))=true then (if (0:Int)≤i17∧i17<(x0.f_Peers.length:Int) then Qek ((QO x0.f_Peers i17).f_Key)>>=fun t34=>Qek ((QO x0.f_Peers i17).f_Psk)>>=fun t35=>Qg6 ((QO x0.f_Peers i17).f_End)>>=fun t36=>Qca ((QO x0.f_Peers i17).f_Allowed) (⟨#[44]⟩:ByteArray)>>=fun t37=>Qbi ((QO x0.f_Peers i17).f_Got)>>=fun t38=>Qbi ((QO x0.f_Peers i17).f_Sent)>>=fun t39=>Qd5 ((QO x0.f_Peers i17).f_Keep)>>=fun t40=>if List.length ([t34,t35,t36,t37,t38,t39,t40]:List ByteArray)≤140737488355328 then if (Qdp ([t34,t35,t36,t37,t38,t39,t40]:List ByteArray) (⟨#[9]⟩:ByteArray)).size≤140737488355328 then if (i15.length+1)*16≤140737488355328 then Qcb.l0 x0 (i15++[Qdp ([t34,t35,t36,t37,t38,t39,t40]:List ByteArray) (⟨#[9]⟩:ByteArray)]) (wr .i64 (i17+1)) else none else none else none else none) else (some i15)
 partial_fixpoint
def Qcb(x0:Qx):Option (ByteArray×Int) :=
 Qbd x0>>=fun t2=>if (!t2)=true then (some (⟨#[]⟩,1)) else (Qek x0.f_Private>>=fun t4=>Qd5 x0.f_Port>>=fun t5=>Qbi (wr .u64 x0.f_Mark)>>=fun t6=>if List.length ([t4,t5,t6]:List ByteArray)≤140737488355328 then if (Qdp ([t4,t5,t6]:List ByteArray) (⟨#[9]⟩:ByteArray)).size≤140737488355328 then Qcb.l0 x0 ([Qdp ([t4,t5,t6]:List ByteArray) (⟨#[9]⟩:ByteArray)]:List ByteArray) 0>>=fun q14=>Qc0 q14>>=fun t49=>some (t49,0) else none else none)
set_option maxHeartbeats 3200000 in
theorem QhW(g0_:Qbs)(x0:Qx)(r:ByteArray×Int)(hF:Qcb x0=some r)(w:World)(hn0:Qdk w (g0_,x0))(hg_strconv_uint64pow10:GV_strconv_uint64pow10 w) :
    Calls Tryz.prog 9 #[.agg (Cd.cs Qh (g0_,x0)).toArray] w (fun e w'=>e=.returned (.tuple #[.string r.1,.int .i64 r.2])∧Below w.heap.size w w'):=by
 unfold Qcb at hF
 refine ce (l:=[.agg (Cd.cs Qh (g0_,x0)).toArray]) func9 rfl rfl ?_
 refine QN ?_
 refine sr ?_
 refine Qbv (cs:=Cd.cs Qh (g0_,x0)) rfl rfl rfl ?_
 intro b1
 refine aa (aa (nt (qs (sr ?_))))
 refine aw (Qg (c:=Qh) (z:=(g0_,x0)) isAgg28 sizeOf28 rfl (Qp .z lw)) ?_
 obtain ⟨t2,ht2,hF⟩:=bM hF
 refine cB func24 rfl (fun w hw=>Qla _ _ _ ht2 w (Qdk.below hn0 hw.below)) ?_
 refine aw (Qcq rfl) ?_
 refine nwq [10,1] ?_
 obtain ⟨h3,hF⟩|⟨h3,hF⟩:=oi hF
 ·refine ct h3 ?_
  refine sr (aa (aa (qn (dz (wq [3,2] ?_)))))
  refine tn (rt ?_)
  have K:=os hF
  subst K
  exact Q6 rfl rfl rfl wb
 refine cf h3 ?_
 refine sn (qs (wq [1] ?_))
 obtain ⟨t4,ht4,hF⟩:=bM hF
 obtain ⟨t5,ht5,hF⟩:=bM hF
 obtain ⟨t6,ht6,hF⟩:=bM hF
 obtain ⟨h8,hF⟩:=gd hF
 obtain ⟨h9,hF⟩:=gd hF
 refine Qey [.q 11 (fun g11=>.pointer (some ⟨b1,0+0,none⟩)) [] 0 0,.q 12 (fun g11=>.agg (Cd.cs (QQ (Qv .u8) 32 (by decide)) x0.f_Private).toArray) [0] 0 0,.q 13 (fun g11=>.string t4) [1] 0 0,.q 14 (fun g11=>.pointer (some ⟨b1,0+32,none⟩)) [] 0 0,.q 15 (fun g11=>.int .i64 x0.f_Port) [3] 0 0,.q 16 (fun g11=>.string t5) [4] 0 0,.q 17 (fun g11=>.pointer (some ⟨b1,0+33,none⟩)) [] 0 0,.q 18 (fun g11=>.int .u32 x0.f_Mark) [6] 0 0,.q 19 (fun g11=>.int .u64 (wr .u64 x0.f_Mark)) [7] 0 0,.q 20 (fun g11=>.string t6) [8] 0 0,.al 0 21 (fun g11=>.slice (some ⟨((g11 0).1),0,none⟩) ([t4,t5,t6]:List ByteArray).length 3) [2,5,9],.q 22 (fun g11=>.string (Qdp ([t4,t5,t6]:List ByteArray) (⟨#[9]⟩:ByteArray))) [10] 1 1,.al 1 23 (fun g11=>.slice (some ⟨((g11 1).1),0,none⟩) ([Qdp ([t4,t5,t6]:List ByteArray) (⟨#[9]⟩:ByteArray)]:List ByteArray).length 1) [11],.q 4 (fun g11=>.slice (some ⟨((g11 1).1),0,none⟩) ([Qdp ([t4,t5,t6]:List ByteArray) (⟨#[9]⟩:ByteArray)]:List ByteArray).length 1) [12] 2 2] (fun g11 s=>match s with | 0=>(Wd w [Qi b1 (Cd.cs Qh (g0_,x0)) 28]) | 1=>(Wd w [Qi ((g11 0).1) (QbA.all ([t4,t5,t6]:List ByteArray)) 9,Qi b1 (Cd.cs Qh (g0_,x0)) 28]) | _=>(Wd w [Qi ((g11 1).1) (QbA.all ([Qdp ([t4,t5,t6]:List ByteArray) (⟨#[9]⟩:ByteArray)]:List ByteArray)) 9,Qi ((g11 0).1) (QbA.all ([t4,t5,t6]:List ByteArray)) 9,Qi b1 (Cd.cs Qh (g0_,x0)) 28])) 2 (by kernel_rfl) (by kernel_rfl) (by kernel_rfl) (by kernel_rfl) (by kernel_rfl) ⟨fun _ _ _=>rfl,fun _ _ _=>rfl,fun _ _ _=>rfl,fun _ _ _=>rfl,fun _ _ _=>rfl,fun _ _ _=>rfl,fun _ _ _=>rfl,fun _ _ _=>rfl,fun _ _ _=>rfl,fun _ _ _=>rfl,fun g11 g2 h=>by show (.slice (some ⟨((g11 0).1),0,none⟩) ([t4,t5,t6]:List ByteArray).length 3:Value)=.slice (some ⟨((g2 0).1),0,none⟩) ([t4,t5,t6]:List ByteArray).length 3;rw [h 0 (show 0<1 by decide)],fun _ _ _=>rfl,fun g11 g2 h=>by show (.slice (some ⟨((g11 1).1),0,none⟩) ([Qdp ([t4,t5,t6]:List ByteArray) (⟨#[9]⟩:ByteArray)]:List ByteArray).length 1:Value)=.slice (some ⟨((g2 1).1),0,none⟩) ([Qdp ([t4,t5,t6]:List ByteArray) (⟨#[9]⟩:ByteArray)]:List ByteArray).length 1;rw [h 1 (show 1<2 by decide)],fun g11 g2 h=>by show (.slice (some ⟨((g11 1).1),0,none⟩) ([Qdp ([t4,t5,t6]:List ByteArray) (⟨#[9]⟩:ByteArray)]:List ByteArray).length 1:Value)=.slice (some ⟨((g2 1).1),0,none⟩) ([Qdp ([t4,t5,t6]:List ByteArray) (⟨#[9]⟩:ByteArray)]:List ByteArray).length 1;rw [h 1 (show 1<2 by decide)],trivial⟩ (by kernel_rfl) (fun w_ h=>⟨fun _=>g3 0 none 0 none w_,h.drew⟩) ⟨?_,?_,?_,?_,?_,?_,?_,?_,?_,?_,?_,?_,?_,?_,trivial⟩ ?_
 ·intro Lx g11 s K hl hh k
  show At 61 ((1,_)::Lx) _ _
  refine fa 0 underlying28 rfl sizeOf24 ?_
  exact Qs k
 ·intro Lx g11 s K hl hh k
  show At 61 ((11,_)::(1,_)::Lx) _ _
  obtain rfl:s=0:=by omega
  refine aw (Qg (c:=(QQ (Qv .u8) 32 (by decide))) (z:=x0.f_Private) isAgg24 sizeOf24 rfl (Qp .z (Qcm g0_ x0))) ?_
  exact Qs k
 ·intro Lx g11 s K hl hh k
  show At 61 ((12,_)::(1,_)::Lx) _ _
  obtain rfl:s=0:=by omega
  refine cB func26 rfl (fun w hw=>QgL _ _ ht4 w) ?_
  exact Qs k
 ·intro Lx g11 s K hl hh k
  show At 61 ((1,_)::Lx) _ _
  refine fa 32 underlying28 rfl sizeOf3 ?_
  exact Qs k
 ·intro Lx g11 s K hl hh k
  show At 61 ((14,_)::(1,_)::Lx) _ _
  obtain rfl:s=0:=by omega
  refine aw (Qe isAgg3 rfl (Qm (c:=(Qv .i64)) (y:=x0.f_Port) .z (Qce g0_ x0) rfl)) ?_
  exact Qs k
 ·intro Lx g11 s K hl hh k
  show At 61 ((15,_)::(1,_)::Lx) _ _
  obtain rfl:s=0:=by omega
  refine cB func27 rfl (fun w hw=>Qhu _ _ ht5 w (hg_strconv_uint64pow10.on hw.below)) ?_
  exact Qs k
 ·intro Lx g11 s K hl hh k
  show At 61 ((1,_)::Lx) _ _
  refine fa 33 underlying28 rfl sizeOf25 ?_
  exact Qs k
 ·intro Lx g11 s K hl hh k
  show At 61 ((17,_)::(1,_)::Lx) _ _
  obtain rfl:s=0:=by omega
  refine aw (Qe isAgg25 rfl (Qm (c:=(Qv .u32)) (y:=x0.f_Mark) .z (QcR g0_ x0) rfl)) ?_
  exact Qs k
 ·intro Lx g11 s K hl hh k
  show At 61 ((18,_)::(1,_)::Lx) _ _
  refine aw (QaW underlying25 underlying41 rfl) ?_
  exact Qs k
 ·intro Lx g11 s K hl hh k
  show At 61 ((19,_)::(1,_)::Lx) _ _
  obtain rfl:s=0:=by omega
  refine cB func28 rfl (fun w hw=>Qb1 _ _ ht6 w (hg_strconv_uint64pow10.on hw.below)) ?_
  exact Qs k
 ·intro Lx g11 K k
  show At 61 ((13,_)::(16,_)::(20,_)::(1,_)::Lx) _ _
  refine Qep (cs:=QbA.all ([t4,t5,t6]:List ByteArray)) underlying46 sizeOf9 zeroValue9 rfl rfl rfl (by kernel_rfl) rfl ?_
  intro b7
  exact Qs (k (g3 b7 none 0 none w))
 ·intro Lx g11 s K hl hh k
  show At 61 ((21,_)::(1,_)::Lx) _ _
  obtain rfl:s=1:=by omega
  refine cB func25 rfl (fun w1 hw=>Qj4 _ _ h8 h9 _ _ w1 (QgZ (hw.ok (Upd.mem .z)))) ?_
  exact Qs k
 ·intro Lx g11 K k
  show At 61 ((22,_)::(1,_)::Lx) _ _
  refine Qep (cs:=QbA.all ([Qdp ([t4,t5,t6]:List ByteArray) (⟨#[9]⟩:ByteArray)]:List ByteArray)) underlying46 sizeOf9 zeroValue9 rfl rfl rfl (by kernel_rfl) rfl ?_
  intro b10
  exact Qs (k (g3 b10 none 0 none w))
 ·intro Lx g11 s K hl hh k
  show At 61 ((23,_)::(1,_)::Lx) _ _
  refine aa ?_
  exact Qs k
 intro g11
 show At 61 [(11,_),(12,_),(13,_),(14,_),(15,_),(16,_),(17,_),(18,_),(19,_),(20,_),(21,_),(22,_),(23,_),(4,_),(1,_)] _ _
 refine Qam (H:=_) (.s .z) ?_
 refine tn (qs (sr (fa 34 underlying28 rfl sizeOf26 ?_)))
 refine aw (Qe isAgg26 rfl (Qm (c:=cHd) (y:=⟨g0_.1,List.length x0.f_Peers,g0_.2⟩) (.s .z) (QV g0_ x0) rfl)) ?_
 refine aw (QZ underlying26 rfl) ?_
 refine am (qn ?_)
 refine Qam (H:=_) (.s .z) ?_
 refine wq [27,26,25,4] ?_
 refine tn (qb ?_)
 refine QpO (c:=QbA) (xs:=([Qdp ([t4,t5,t6]:List ByteArray) (⟨#[9]⟩:ByteArray)]:List ByteArray)) (m:=1) .z rfl rfl ?_
 obtain ⟨q14,hq14,hF⟩:=bM hF
 refine wq [27,26,25,4] ?_
 refine Qal (B:=0) (A:=fun Y=>∀ (p20:Option Addr) (c21:Nat),At 61 [(4,.slice p20 q14.length c21)] (Wd w [Qbm QbA 9 p20 c21 q14]) Y) ?_ ?_
 ·intro K
  refine Qcb.l0.partial_correctness x0 (motive:=fun i15 i17 x=>KN (fun Y=>∀ (p20:Option Addr) (c21:Nat),At 61 [(4,.slice p20 x.length c21)] (Wd w [Qbm QbA 9 p20 c21 x]) Y) _ 0→QbB (fun Y=>∀ (p18:Option Addr) (c19:Nat),At 61 [(4,.slice p18 i15.length c19),(25,.slice g0_.1 x0.f_Peers.length g0_.2),(26,.int .i64 (x0.f_Peers.length:Int)),(27,.int .i64 i17)] (Wd w [Qbm QbA 9 p18 c19 i15]) Y) _ _ _) ?_ _ _ _ hq14 K (some ⟨(g11 1).1,0,none⟩) 1
  ·clear K hF
   intro g ih i15 i17 x hF K p18 c19
   refine QW ?_
   refine sr (aw xl (nwq [28,27,26,25,4] ?_))
   refine qs ?_
   obtain ⟨h22,hF⟩|⟨h22,hF⟩:=oi hF
   ·refine ct h22 ?_
    refine sn (qs (qb (sr ?_)))
    obtain ⟨h23,hF⟩:=gd hF
    obtain ⟨zs27,hz28,hr29,hn30⟩:=id hn0
    obtain ⟨b25,o26,hp24⟩:=Qaa hr29 (QiT hz28 h23)
    obtain ⟨g31,hg32⟩:=QtH hz28 i17
    refine aw (QbD underlying26 sizeOf60 rfl rfl h23 hp24) ?_
    refine aw (Qg (c:=Qf) (z:=(g31,QO x0.f_Peers i17)) isAgg60 sizeOf60 rfl (Qpk (fun _ h=>h.below) hr29 (QiT hz28 h23) hp24 hg32)) ?_
    refine al (cs:=Cd.cs Qf QeF) zeroValue60 ?_
    intro b33
    refine Qn (c:=Qf) (z:=(g31,QO x0.f_Peers i17)) .z lw sizeOf60 rfl rfl rfl ?_
    refine nt (qs (wq [27,26,25,6,4] ?_))
    obtain ⟨t34,ht34,hF⟩:=bM hF
    obtain ⟨t35,ht35,hF⟩:=bM hF
    obtain ⟨t36,ht36,hF⟩:=bM hF
    obtain ⟨t37,ht37,hF⟩:=bM hF
    obtain ⟨t38,ht38,hF⟩:=bM hF
    obtain ⟨t39,ht39,hF⟩:=bM hF
    obtain ⟨t40,ht40,hF⟩:=bM hF
    refine Qey [.q 31 (fun g42=>.pointer (some ⟨b33,0+0,none⟩)) [] 0 0,.q 32 (fun g42=>.agg (Cd.cs (QQ (Qv .u8) 32 (by decide)) ((QO x0.f_Peers i17).f_Key)).toArray) [0] 0 0,.q 33 (fun g42=>.string t34) [1] 0 0,.q 34 (fun g42=>.pointer (some ⟨b33,0+32,none⟩)) [] 0 0,.q 35 (fun g42=>.agg (Cd.cs (QQ (Qv .u8) 32 (by decide)) ((QO x0.f_Peers i17).f_Psk)).toArray) [3] 0 0,.q 36 (fun g42=>.string t35) [4] 0 0,.q 37 (fun g42=>.pointer (some ⟨b33,0+64,none⟩)) [] 0 0,.q 38 (fun g42=>.agg (Cd.cs Qb ((QO x0.f_Peers i17).f_End)).toArray) [6] 0 0,.q 39 (fun g42=>.string t36) [7] 0 0,.q 40 (fun g42=>.pointer (some ⟨b33,0+85,none⟩)) [] 0 0,.q 41 (fun g42=>.slice g31.1 ((QO x0.f_Peers i17).f_Allowed).length g31.2) [9] 0 0,.q 42 (fun g42=>.string t37) [10] 0 0,.q 43 (fun g42=>.pointer (some ⟨b33,0+84,none⟩)) [] 0 0,.q 44 (fun g42=>.int .u64 ((QO x0.f_Peers i17).f_Got)) [12] 0 0,.q 45 (fun g42=>.string t38) [13] 0 0,.q 46 (fun g42=>.pointer (some ⟨b33,0+83,none⟩)) [] 0 0,.q 47 (fun g42=>.int .u64 ((QO x0.f_Peers i17).f_Sent)) [15] 0 0,.q 48 (fun g42=>.string t39) [16] 0 0,.q 49 (fun g42=>.pointer (some ⟨b33,0+82,none⟩)) [] 0 0,.q 50 (fun g42=>.int .i64 ((QO x0.f_Peers i17).f_Keep)) [18] 0 0,.q 51 (fun g42=>.string t40) [19] 0 0,.al 0 52 (fun g42=>.slice (some ⟨((g42 0).1),0,none⟩) ([t34,t35,t36,t37,t38,t39,t40]:List ByteArray).length 7) [2,5,8,11,14,17,20],.q 7 (fun g42=>.slice (some ⟨((g42 0).1),0,none⟩) ([t34,t35,t36,t37,t38,t39,t40]:List ByteArray).length 7) [21] 1 1] (fun g42 s=>match s with | 0=>(Wd w [Qi b33 (Cd.cs Qf (g31,QO x0.f_Peers i17)) 60,Qbm QbA 9 p18 c19 i15]) | _=>(Wd w [Qi ((g42 0).1) (QbA.all ([t34,t35,t36,t37,t38,t39,t40]:List ByteArray)) 9,Qi b33 (Cd.cs Qf (g31,QO x0.f_Peers i17)) 60,Qbm QbA 9 p18 c19 i15])) 1 (by kernel_rfl) (by kernel_rfl) (by kernel_rfl) (by kernel_rfl) (by kernel_rfl) ⟨fun _ _ _=>rfl,fun _ _ _=>rfl,fun _ _ _=>rfl,fun _ _ _=>rfl,fun _ _ _=>rfl,fun _ _ _=>rfl,fun _ _ _=>rfl,fun _ _ _=>rfl,fun _ _ _=>rfl,fun _ _ _=>rfl,fun _ _ _=>rfl,fun _ _ _=>rfl,fun _ _ _=>rfl,fun _ _ _=>rfl,fun _ _ _=>rfl,fun _ _ _=>rfl,fun _ _ _=>rfl,fun _ _ _=>rfl,fun _ _ _=>rfl,fun _ _ _=>rfl,fun _ _ _=>rfl,fun g42 g2 h=>by show (.slice (some ⟨((g42 0).1),0,none⟩) ([t34,t35,t36,t37,t38,t39,t40]:List ByteArray).length 7:Value)=.slice (some ⟨((g2 0).1),0,none⟩) ([t34,t35,t36,t37,t38,t39,t40]:List ByteArray).length 7;rw [h 0 (show 0<1 by decide)],fun g42 g2 h=>by show (.slice (some ⟨((g42 0).1),0,none⟩) ([t34,t35,t36,t37,t38,t39,t40]:List ByteArray).length 7:Value)=.slice (some ⟨((g2 0).1),0,none⟩) ([t34,t35,t36,t37,t38,t39,t40]:List ByteArray).length 7;rw [h 0 (show 0<1 by decide)],trivial⟩ (by kernel_rfl) (fun w_ h=>⟨fun _=>g3 0 none 0 none w_,h.drew⟩) ⟨?_,?_,?_,?_,?_,?_,?_,?_,?_,?_,?_,?_,?_,?_,?_,?_,?_,?_,?_,?_,?_,?_,?_,trivial⟩ ?_
    ·intro Lx g42 s K hl hh k
     show At 61 ((4,_)::(6,_)::(25,_)::(26,_)::(27,_)::Lx) _ _
     refine fa 0 underlying60 rfl sizeOf24 ?_
     exact Qs k
    ·intro Lx g42 s K hl hh k
     show At 61 ((31,_)::(4,_)::(6,_)::(25,_)::(26,_)::(27,_)::Lx) _ _
     obtain rfl:s=0:=by omega
     refine aw (Qg (c:=(QQ (Qv .u8) 32 (by decide))) (z:=(QO x0.f_Peers i17).f_Key) isAgg24 sizeOf24 rfl (Qp .z (Qbo g31 (QO x0.f_Peers i17)))) ?_
     exact Qs k
    ·intro Lx g42 s K hl hh k
     show At 61 ((32,_)::(4,_)::(6,_)::(25,_)::(26,_)::(27,_)::Lx) _ _
     obtain rfl:s=0:=by omega
     refine cB func26 rfl (fun w hw=>QgL _ _ ht34 w) ?_
     exact Qs k
    ·intro Lx g42 s K hl hh k
     show At 61 ((4,_)::(6,_)::(25,_)::(26,_)::(27,_)::Lx) _ _
     refine fa 32 underlying60 rfl sizeOf24 ?_
     exact Qs k
    ·intro Lx g42 s K hl hh k
     show At 61 ((34,_)::(4,_)::(6,_)::(25,_)::(26,_)::(27,_)::Lx) _ _
     obtain rfl:s=0:=by omega
     refine aw (Qg (c:=(QQ (Qv .u8) 32 (by decide))) (z:=(QO x0.f_Peers i17).f_Psk) isAgg24 sizeOf24 rfl (Qp .z (QcG g31 (QO x0.f_Peers i17)))) ?_
     exact Qs k
    ·intro Lx g42 s K hl hh k
     show At 61 ((35,_)::(4,_)::(6,_)::(25,_)::(26,_)::(27,_)::Lx) _ _
     obtain rfl:s=0:=by omega
     refine cB func26 rfl (fun w hw=>QgL _ _ ht35 w) ?_
     exact Qs k
    ·intro Lx g42 s K hl hh k
     show At 61 ((4,_)::(6,_)::(25,_)::(26,_)::(27,_)::Lx) _ _
     refine fa 64 underlying60 rfl sizeOf57 ?_
     exact Qs k
    ·intro Lx g42 s K hl hh k
     show At 61 ((37,_)::(4,_)::(6,_)::(25,_)::(26,_)::(27,_)::Lx) _ _
     obtain rfl:s=0:=by omega
     refine aw (Qg (c:=Qb) (z:=(QO x0.f_Peers i17).f_End) isAgg57 sizeOf57 rfl (Qp .z (QbE g31 (QO x0.f_Peers i17)))) ?_
     exact Qs k
    ·intro Lx g42 s K hl hh k
     show At 61 ((38,_)::(4,_)::(6,_)::(25,_)::(26,_)::(27,_)::Lx) _ _
     obtain rfl:s=0:=by omega
     refine cB func29 rfl (fun w hw=>Qne _ _ ht36 w (hg_strconv_uint64pow10.on hw.below)) ?_
     exact Qs k
    ·intro Lx g42 s K hl hh k
     show At 61 ((4,_)::(6,_)::(25,_)::(26,_)::(27,_)::Lx) _ _
     refine fa 85 underlying60 rfl sizeOf58 ?_
     exact Qs k
    ·intro Lx g42 s K hl hh k
     show At 61 ((40,_)::(4,_)::(6,_)::(25,_)::(26,_)::(27,_)::Lx) _ _
     obtain rfl:s=0:=by omega
     refine aw (Qe isAgg58 rfl (Qm (c:=cHd) (y:=⟨g31.1,List.length ((QO x0.f_Peers i17).f_Allowed),g31.2⟩) .z (QaP g31 (QO x0.f_Peers i17)) rfl)) ?_
     exact Qs k
    ·intro Lx g42 s K hl hh k
     show At 61 ((41,_)::(4,_)::(6,_)::(25,_)::(26,_)::(27,_)::Lx) _ _
     obtain rfl:s=0:=by omega
     refine cB func30 rfl (fun w hw=>QjI _ _ _ _ _ ht37 w ((nz hg32 hn30 (QiT hz28 h23)).below hw.below) (hg_strconv_uint64pow10.on hw.below)) ?_
     exact Qs k
    ·intro Lx g42 s K hl hh k
     show At 61 ((4,_)::(6,_)::(25,_)::(26,_)::(27,_)::Lx) _ _
     refine fa 84 underlying60 rfl sizeOf41 ?_
     exact Qs k
    ·intro Lx g42 s K hl hh k
     show At 61 ((43,_)::(4,_)::(6,_)::(25,_)::(26,_)::(27,_)::Lx) _ _
     obtain rfl:s=0:=by omega
     refine aw (Qe isAgg41 rfl (Qm (c:=(Qv .u64)) (y:=(QO x0.f_Peers i17).f_Got) .z (Qb4 g31 (QO x0.f_Peers i17)) rfl)) ?_
     exact Qs k
    ·intro Lx g42 s K hl hh k
     show At 61 ((44,_)::(4,_)::(6,_)::(25,_)::(26,_)::(27,_)::Lx) _ _
     obtain rfl:s=0:=by omega
     refine cB func28 rfl (fun w hw=>Qb1 _ _ ht38 w (hg_strconv_uint64pow10.on hw.below)) ?_
     exact Qs k
    ·intro Lx g42 s K hl hh k
     show At 61 ((4,_)::(6,_)::(25,_)::(26,_)::(27,_)::Lx) _ _
     refine fa 83 underlying60 rfl sizeOf41 ?_
     exact Qs k
    ·intro Lx g42 s K hl hh k
     show At 61 ((46,_)::(4,_)::(6,_)::(25,_)::(26,_)::(27,_)::Lx) _ _
     obtain rfl:s=0:=by omega
     refine aw (Qe isAgg41 rfl (Qm (c:=(Qv .u64)) (y:=(QO x0.f_Peers i17).f_Sent) .z (QbT g31 (QO x0.f_Peers i17)) rfl)) ?_
     exact Qs k
    ·intro Lx g42 s K hl hh k
     show At 61 ((47,_)::(4,_)::(6,_)::(25,_)::(26,_)::(27,_)::Lx) _ _
     obtain rfl:s=0:=by omega
     refine cB func28 rfl (fun w hw=>Qb1 _ _ ht39 w (hg_strconv_uint64pow10.on hw.below)) ?_
     exact Qs k
    ·intro Lx g42 s K hl hh k
     show At 61 ((4,_)::(6,_)::(25,_)::(26,_)::(27,_)::Lx) _ _
     refine fa 82 underlying60 rfl sizeOf3 ?_
     exact Qs k
    ·intro Lx g42 s K hl hh k
     show At 61 ((49,_)::(4,_)::(6,_)::(25,_)::(26,_)::(27,_)::Lx) _ _
     obtain rfl:s=0:=by omega
     refine aw (Qe isAgg3 rfl (Qm (c:=(Qv .i64)) (y:=(QO x0.f_Peers i17).f_Keep) .z (Qbr g31 (QO x0.f_Peers i17)) rfl)) ?_
     exact Qs k
    ·intro Lx g42 s K hl hh k
     show At 61 ((50,_)::(4,_)::(6,_)::(25,_)::(26,_)::(27,_)::Lx) _ _
     obtain rfl:s=0:=by omega
     refine cB func27 rfl (fun w hw=>Qhu _ _ ht40 w (hg_strconv_uint64pow10.on hw.below)) ?_
     exact Qs k
    ·intro Lx g42 K k
     show At 61 ((33,_)::(36,_)::(39,_)::(42,_)::(45,_)::(48,_)::(51,_)::(4,_)::(6,_)::(25,_)::(26,_)::(27,_)::Lx) _ _
     refine Qep (cs:=QbA.all ([t34,t35,t36,t37,t38,t39,t40]:List ByteArray)) underlying46 sizeOf9 zeroValue9 rfl rfl rfl (by kernel_rfl) rfl ?_
     intro b41
     exact Qs (k (g3 b41 none 0 none w))
    ·intro Lx g42 s K hl hh k
     show At 61 ((52,_)::(4,_)::(6,_)::(25,_)::(26,_)::(27,_)::Lx) _ _
     refine aa ?_
     exact Qs k
    intro g42
    show At 61 [(31,_),(32,_),(33,_),(34,_),(35,_),(36,_),(37,_),(38,_),(39,_),(40,_),(41,_),(42,_),(43,_),(44,_),(45,_),(46,_),(47,_),(48,_),(49,_),(50,_),(51,_),(52,_),(7,_),(4,_),(6,_),(25,_),(26,_),(27,_)] _ _
    refine Qam (H:=_) (.s .z) ?_
    refine tn (qr (am (am ?_)))
    obtain ⟨h43,hF⟩:=gd hF
    obtain ⟨h44,hF⟩:=gd hF
    refine cB func25 rfl (fun w1 hw=>Qj4 _ _ h43 h44 _ _ w1 (QgZ (hw.ok (Upd.mem .z)))) ?_
    refine Qep (cs:=QbA.all ([Qdp ([t34,t35,t36,t37,t38,t39,t40]:List ByteArray) (⟨#[9]⟩:ByteArray)]:List ByteArray)) underlying46 sizeOf9 zeroValue9 rfl rfl rfl (by kernel_rfl) rfl ?_
    intro b45
    obtain ⟨h46,hF⟩:=gd hF
    refine Qcl (z:=.string ⟨#[]⟩) (c:=QbA) (ys:=([Qdp ([t34,t35,t36,t37,t38,t39,t40]:List ByteArray) (⟨#[9]⟩:ByteArray)]:List ByteArray)) (.s (.s .z)) underlying46 Qrh (by kernel_rfl) (by kernel_rfl) rfl rfl rfl rfl (fun _ hw=>QbX (hw.ok (Upd.mem .z))) (by kernel_rfl) h46 (QbR h46) rfl ?_
    intro p47 c48
    refine aa (qn (dz (dz (wq [27,26,25,4] ?_))))
    refine bm ?_
    refine qr (aw xa (am (nwq [27,26,25,4] ?_)))
    exact Qk (ih _ _ _ hF K p47 c48) ⟨rfl,rfl,rfl,rfl,trivial⟩
   refine cf h22 ?_
   refine Q7 ?_
   refine te (te ?_)
   obtain rfl:=os hF
   exact Qk (K p18 c19) ⟨rfl,trivial⟩
 skip
 intro p20 c21
 refine QD ?_
 refine tn (sr (am ?_))
 obtain ⟨t49,ht49,hF⟩:=bM hF
 refine cB func31 rfl (fun w hw=>Qlz _ _ _ _ ht49 w (hw.own .z).row) ?_
 refine aa (aa (qn (dz (wq [3,2] ?_))))
 refine tn (qt ?_)
 have K:=os hF
 subst K
 exact Q6 rfl rfl rfl wb
def Qaw.l0(x0:Qx)(i11:ByteArray)(i12:Int):Option (ByteArray) :=
 if (decide (i12<(x0.f_Peers.length:Int)))=true then (if (0:Int)≤i12∧i12<(x0.f_Peers.length:Int) then if (!decide ((QO x0.f_Peers i12).f_End=({ f_A:=({ f_V:=(0:Int),f_B:=(Vector.replicate 16 (0:Int):(Vector Int 16)) }:Qj),f_Port:=(0:Int) }:Qr)))=true then (Qcg ((QO x0.f_Peers i12).f_End)>>=fun t26=>Qbq ((QO x0.f_Peers i12).f_Key)>>=fun t27=>if i11.size+t27.size≤140737488355328 then if (i11++t27).size+(⟨#[9]⟩:ByteArray).size≤140737488355328 then Qbq ((QO x0.f_Peers i12).f_Psk)>>=fun t30=>if ((i11++t27)++(⟨#[9]⟩:ByteArray)).size+t30.size≤140737488355328 then if (((i11++t27)++(⟨#[9]⟩:ByteArray))++t30).size+(⟨#[9]⟩:ByteArray).size≤140737488355328 then if ((((i11++t27)++(⟨#[9]⟩:ByteArray))++t30)++(⟨#[9]⟩:ByteArray)).size+t26.size≤140737488355328 then if (((((i11++t27)++(⟨#[9]⟩:ByteArray))++t30)++(⟨#[9]⟩:ByteArray))++t26).size+(⟨#[9]⟩:ByteArray).size≤140737488355328 then Qap ((QO x0.f_Peers i12).f_Allowed) (⟨#[44]⟩:ByteArray)>>=fun t35=>if ((((((i11++t27)++(⟨#[9]⟩:ByteArray))++t30)++(⟨#[9]⟩:ByteArray))++t26)++(⟨#[9]⟩:ByteArray)).size+t35.size≤140737488355328 then if (((((((i11++t27)++(⟨#[9]⟩:ByteArray))++t30)++(⟨#[9]⟩:ByteArray))++t26)++(⟨#[9]⟩:ByteArray))++t35).size+(⟨#[9]⟩:ByteArray).size≤140737488355328 then Qab ((QO x0.f_Peers i12).f_Got)>>=fun t38=>if ((((((((i11++t27)++(⟨#[9]⟩:ByteArray))++t30)++(⟨#[9]⟩:ByteArray))++t26)++(⟨#[9]⟩:ByteArray))++t35)++(⟨#[9]⟩:ByteArray)).size+t38.size≤140737488355328 then if (((((((((i11++t27)++(⟨#[9]⟩:ByteArray))++t30)++(⟨#[9]⟩:ByteArray))++t26)++(⟨#[9]⟩:ByteArray))++t35)++(⟨#[9]⟩:ByteArray))++t38).size+(⟨#[9]⟩:ByteArray).size≤140737488355328 then Qab ((QO x0.f_Peers i12).f_Sent)>>=fun t41=>if ((((((((((i11++t27)++(⟨#[9]⟩:ByteArray))++t30)++(⟨#[9]⟩:ByteArray))++t26)++(⟨#[9]⟩:ByteArray))++t35)++(⟨#[9]⟩:ByteArray))++t38)++(⟨#[9]⟩:ByteArray)).size+t41.size≤140737488355328 then if (((((((((((i11++t27)++(⟨#[9]⟩:ByteArray))++t30)++(⟨#[9]⟩:ByteArray))++t26)++(⟨#[9]⟩:ByteArray))++t35)++(⟨#[9]⟩:ByteArray))++t38)++(⟨#[9]⟩:ByteArray))++t41).size+(⟨#[9]⟩:ByteArray).size≤140737488355328 then QbG ((QO x0.f_Peers i12).f_Keep)>>=fun t44=>if ((((((((((((i11++t27)++(⟨#[9]⟩:ByteArray))++t30)++(⟨#[9]⟩:ByteArray))++t26)++(⟨#[9]⟩:ByteArray))++t35)++(⟨#[9]⟩:ByteArray))++t38)++(⟨#[9]⟩:ByteArray))++t41)++(⟨#[9]⟩:ByteArray)).size+t44.size≤140737488355328 then if (((((((((((((i11++t27)++(⟨#[9]⟩:ByteArray))++t30)++(⟨#[9]⟩:ByteArray))++t26)++(⟨#[9]⟩:ByteArray))++t35)++(⟨#[9]⟩:ByteArray))++t38)++(⟨#[9]⟩:ByteArray))++t41)++(⟨#[9]⟩:ByteArray))++t44).size+(⟨#[10]⟩:ByteArray).size≤140737488355328 then Qaw.l0 x0 ((((((((((((((i11++t27)++(⟨#[9]⟩:ByteArray))++t30)++(⟨#[9]⟩:ByteArray))++t26)++(⟨#[9]⟩:ByteArray))++t35)++(⟨#[9]⟩:ByteArray))++t38)++(⟨#[9]⟩:ByteArray))++t41)++(⟨#[9]⟩:ByteArray))++t44)++(⟨#[10]⟩:ByteArray)) (wr .i64 (i12+1)) else none else none else none else none else none else none else none else none else none else none else none else none else none else none) else (Qbq ((QO x0.f_Peers i12).f_Key)>>=fun t47=>if i11.size+t47.size≤140737488355328 then if (i11++t47).size+(⟨#[9]⟩:ByteArray).size≤140737488355328 then Qbq ((QO x0.f_Peers i12).f_Psk)>>=fun t50=>if ((i11++t47)++(⟨#[9]⟩:ByteArray)).size+t50.size≤140737488355328 then if (((i11++t47)++(⟨#[9]⟩:ByteArray))++t50).size+(⟨#[9]⟩:ByteArray).size≤140737488355328 then if ((((i11++t47)++(⟨#[9]⟩:ByteArray))++t50)++(⟨#[9]⟩:ByteArray)).size+(⟨#[40,110,111,110,101,41]⟩:ByteArray).size≤140737488355328 then if (((((i11++t47)++(⟨#[9]⟩:ByteArray))++t50)++(⟨#[9]⟩:ByteArray))++(⟨#[40,110,111,110,101,41]⟩:ByteArray)).size+(⟨#[9]⟩:ByteArray).size≤140737488355328 then Qap ((QO x0.f_Peers i12).f_Allowed) (⟨#[44]⟩:ByteArray)>>=fun t55=>if ((((((i11++t47)++(⟨#[9]⟩:ByteArray))++t50)++(⟨#[9]⟩:ByteArray))++(⟨#[40,110,111,110,101,41]⟩:ByteArray))++(⟨#[9]⟩:ByteArray)).size+t55.size≤140737488355328 then if (((((((i11++t47)++(⟨#[9]⟩:ByteArray))++t50)++(⟨#[9]⟩:ByteArray))++(⟨#[40,110,111,110,101,41]⟩:ByteArray))++(⟨#[9]⟩:ByteArray))++t55).size+(⟨#[9]⟩:ByteArray).size≤140737488355328 then Qab ((QO x0.f_Peers i12).f_Got)>>=fun t58=>if ((((((((i11++t47)++(⟨#[9]⟩:ByteArray))++t50)++(⟨#[9]⟩:ByteArray))++(⟨#[40,110,111,110,101,41]⟩:ByteArray))++(⟨#[9]⟩:ByteArray))++t55)++(⟨#[9]⟩:ByteArray)).size+t58.size≤140737488355328 then if (((((((((i11++t47)++(⟨#[9]⟩:ByteArray))++t50)++(⟨#[9]⟩:ByteArray))++(⟨#[40,110,111,110,101,41]⟩:ByteArray))++(⟨#[9]⟩:ByteArray))++t55)++(⟨#[9]⟩:ByteArray))++t58).size+(⟨#[9]⟩:ByteArray).size≤140737488355328 then Qab ((QO x0.f_Peers i12).f_Sent)>>=fun t61=>if ((((((((((i11++t47)++(⟨#[9]⟩:ByteArray))++t50)++(⟨#[9]⟩:ByteArray))++(⟨#[40,110,111,110,101,41]⟩:ByteArray))++(⟨#[9]⟩:ByteArray))++t55)++(⟨#[9]⟩:ByteArray))++t58)++(⟨#[9]⟩:ByteArray)).size+t61.size≤140737488355328 then if (((((((((((i11++t47)++(⟨#[9]⟩:ByteArray))++t50)++(⟨#[9]⟩:ByteArray))++(⟨#[40,110,111,110,101,41]⟩:ByteArray))++(⟨#[9]⟩:ByteArray))++t55)++(⟨#[9]⟩:ByteArray))++t58)++(⟨#[9]⟩:ByteArray))++t61).size+(⟨#[9]⟩:ByteArray).size≤140737488355328 then QbG ((QO x0.f_Peers i12).f_Keep)>>=fun t64=>if ((((((((((((i11++t47)++(⟨#[9]⟩:ByteArray))++t50)++(⟨#[9]⟩:ByteArray))++(⟨#[40,110,111,110,101,41]⟩:ByteArray))++(⟨#[9]⟩:ByteArray))++t55)++(⟨#[9]⟩:ByteArray))++t58)++(⟨#[9]⟩:ByteArray))++t61)++(⟨#[9]⟩:ByteArray)).size+t64.size≤140737488355328 then if (((((((((((((i11++t47)++(⟨#[9]⟩:ByteArray))++t50)++(⟨#[9]⟩:ByteArray))++(⟨#[40,110,111,110,101,41]⟩:ByteArray))++(⟨#[9]⟩:ByteArray))++t55)++(⟨#[9]⟩:ByteArray))++t58)++(⟨#[9]⟩:ByteArray))++t61)++(⟨#[9]⟩:ByteArray))++t64).size+(⟨#[10]⟩:ByteArray).size≤140737488355328 then Qaw.l0 x0 ((((((((((((((i11++t47)++(⟨#[9]⟩:ByteArray))++t50)++(⟨#[9]⟩:ByteArray))++(⟨#[40,110,111,110,101,41]⟩:ByteArray))++(⟨#[9]⟩:ByteArray))++t55)++(⟨#[9]⟩:ByteArray))++t58)++(⟨#[9]⟩:ByteArray))++t61)++(⟨#[9]⟩:ByteArray))++t64)++(⟨#[10]⟩:ByteArray)) (wr .i64 (i12+1)) else none else none else none else none else none else none else none else none else none else none else none else none else none else none) else none) else (some i11)
 partial_fixpoint
def Qaw(x0:Qx):Option (ByteArray) :=
 Qbq x0.f_Private>>=fun t2=>if t2.size+(⟨#[9]⟩:ByteArray).size≤140737488355328 then QbG x0.f_Port>>=fun t4=>if (t2++(⟨#[9]⟩:ByteArray)).size+t4.size≤140737488355328 then if ((t2++(⟨#[9]⟩:ByteArray))++t4).size+(⟨#[9]⟩:ByteArray).size≤140737488355328 then Qab (wr .u64 x0.f_Mark)>>=fun t7=>if (((t2++(⟨#[9]⟩:ByteArray))++t4)++(⟨#[9]⟩:ByteArray)).size+t7.size≤140737488355328 then if ((((t2++(⟨#[9]⟩:ByteArray))++t4)++(⟨#[9]⟩:ByteArray))++t7).size+(⟨#[10]⟩:ByteArray).size≤140737488355328 then Qaw.l0 x0 (((((t2++(⟨#[9]⟩:ByteArray))++t4)++(⟨#[9]⟩:ByteArray))++t7)++(⟨#[10]⟩:ByteArray)) 0>>=fun q10=>some q10 else none else none else none else none else none
theorem Qgs(g0_:Qbs)(x0:Qx)(r:ByteArray)(hF:Qaw x0=some r)(w:World)(hn0:Qdk w (g0_,x0)) :
    Calls Tryz.prog 14 #[.agg (Cd.cs Qh (g0_,x0)).toArray] w (fun e w'=>e=.returned (.string r)∧Below w.heap.size w w'):=by
 unfold Qaw at hF
 refine ce (l:=[.agg (Cd.cs Qh (g0_,x0)).toArray]) func14 rfl rfl ?_
 refine QN ?_
 refine sr ?_
 refine Qbv (cs:=Cd.cs Qh (g0_,x0)) rfl rfl rfl ?_
 intro b1
 refine aa (nwq [1] ?_)
 refine qs ?_
 refine Qdd (by kernel_rfl) (by kernel_rfl) (fun _ h=>h.drew) ?_
 refine Ql rfl rfl rfl (Q4 (fo:=0) underlying28 rfl rfl (fun w=>⟨_,sizeOf24 w⟩) rfl) ?_
 refine Ql rfl rfl rfl (Qg (c:=(QQ (Qv .u8) 32 (by decide))) (z:=x0.f_Private) isAgg24 sizeOf24 rfl (Qp .z (Qcm g0_ x0))) ?_
 obtain ⟨t2,ht2,hF⟩:=bM hF
 refine Qbl func40 rfl (by kernel_rfl) rfl rfl (fun w hw=>(QcJ _ _ ht2 w).mono fun _ _ h=>⟨h.1,hw.call h.2⟩) ?_
 obtain ⟨h3,hF⟩:=gd hF
 refine Ql rfl rfl rfl (Q2 rfl rfl h3) ?_
 refine Ql rfl rfl rfl (Q4 (fo:=32) underlying28 rfl rfl (fun w=>⟨_,sizeOf3 w⟩) rfl) ?_
 refine Ql rfl rfl rfl (Qe isAgg3 rfl (Qm (c:=(Qv .i64)) (y:=x0.f_Port) .z (Qce g0_ x0) rfl)) ?_
 obtain ⟨t4,ht4,hF⟩:=bM hF
 refine Qbl func38 rfl (by kernel_rfl) rfl rfl (fun w hw=>(Qdo _ _ ht4 w).mono fun _ _ h=>⟨h.1,hw.call h.2⟩) ?_
 obtain ⟨h5,hF⟩:=gd hF
 refine Ql rfl rfl rfl (Q2 rfl rfl h5) ?_
 obtain ⟨h6,hF⟩:=gd hF
 refine Ql rfl rfl rfl (Q2 rfl rfl h6) ?_
 refine Ql rfl rfl rfl (Q4 (fo:=33) underlying28 rfl rfl (fun w=>⟨_,sizeOf25 w⟩) rfl) ?_
 refine Ql rfl rfl rfl (Qe isAgg25 rfl (Qm (c:=(Qv .u32)) (y:=x0.f_Mark) .z (QcR g0_ x0) rfl)) ?_
 refine Ql rfl rfl rfl (QaW underlying25 underlying41 rfl) ?_
 obtain ⟨t7,ht7,hF⟩:=bM hF
 refine Qbl func45 rfl (by kernel_rfl) rfl rfl (fun w hw=>(Qa2 _ _ ht7 w).mono fun _ _ h=>⟨h.1,hw.call h.2⟩) ?_
 obtain ⟨h8,hF⟩:=gd hF
 refine Ql rfl rfl rfl (Q2 rfl rfl h8) ?_
 obtain ⟨h9,hF⟩:=gd hF
 refine Ql rfl rfl rfl (Q2 rfl rfl h9) ?_
 refine Ql rfl rfl rfl (Qcf rfl) ?_
 refine Qck ?_
 refine tn (qs (sr (aa (nwq [4,3,1] ?_))))
 refine qb ?_
 obtain ⟨q10,hq10,hF⟩:=bM hF
 refine wq [4,3,1] ?_
 refine Qal (B:=0) (A:=fun Y=>At 76 [(3,.string q10)] (Wd w []) Y) ?_ ?_
 ·intro K
  refine Qaw.l0.partial_correctness x0 (motive:=fun i11 i12 x=>KN (fun Y=>At 76 [(3,.string x)] (Wd w []) Y) _ 0→QbB (fun Y=>At 76 [(1,.pointer (some ⟨b1,0,none⟩)),(3,.string i11),(4,.int .i64 i12)] (Wd w [Qi b1 (Cd.cs Qh (g0_,x0)) 28]) Y) _ _ _) ?_ _ _ _ hq10 K
  ·clear K hF
   intro g ih i11 i12 x hF K
   refine QW ?_
   refine qs (sr (am (fa 34 underlying28 rfl sizeOf26 ?_)))
   refine aw (Qe isAgg26 rfl (Qm (c:=cHd) (y:=⟨g0_.1,List.length x0.f_Peers,g0_.2⟩) .z (QV g0_ x0) rfl)) ?_
   refine aw (QZ underlying26 rfl) ?_
   refine aw xl (nwq [26,4,3,1] ?_)
   obtain ⟨h13,hF⟩|⟨h13,hF⟩:=oi hF
   ·refine ct h13 ?_
    refine sn (qs (qb (sr (fa 34 underlying28 rfl sizeOf26 ?_))))
    refine aw (Qe isAgg26 rfl (Qm (c:=cHd) (y:=⟨g0_.1,List.length x0.f_Peers,g0_.2⟩) .z (QV g0_ x0) rfl)) ?_
    refine am ?_
    obtain ⟨h14,hF⟩:=gd hF
    obtain ⟨zs18,hz19,hr20,hn21⟩:=id hn0
    obtain ⟨b16,o17,hp15⟩:=Qaa hr20 (QiT hz19 h14)
    obtain ⟨g22,hg23⟩:=QtH hz19 i12
    refine aw (QbD underlying26 sizeOf60 rfl rfl h14 hp15) ?_
    refine aw (Qg (c:=Qf) (z:=(g22,QO x0.f_Peers i12)) isAgg60 sizeOf60 rfl (Qpk (fun _ h=>h.below) hr20 (QiT hz19 h14) hp15 hg23)) ?_
    refine al (cs:=Cd.cs Qf QeF) zeroValue60 ?_
    intro b24
    refine Qn (c:=Qf) (z:=(g22,QO x0.f_Peers i12)) .z lw sizeOf60 rfl rfl rfl ?_
    refine ns (aa (nt (qs (sr (fa 64 underlying60 rfl sizeOf57 ?_)))))
    refine aw (Qg (c:=Qb) (z:=(QO x0.f_Peers i12).f_End) isAgg57 sizeOf57 rfl (Qp .z (QbE g22 (QO x0.f_Peers i12)))) ?_
    refine aw (Qw (zs:=Cd.cs Qb zv9) (cs:=Cd.cs Qb zv9) underlying57 zeroValue57 rfl (Qz) rfl rfl) ?_
    refine aw (QdR (c:=Qb) (a:=(QO x0.f_Peers i12).f_End) (b:=zv9) (QdC) rfl Tryz.eqGuardType57 rfl rfl (.inr rfl) rfl) ?_
    refine nwq [37,6,5,4,3,1] ?_
    obtain ⟨h25,hF⟩|⟨h25,hF⟩:=oi hF
    ·refine ct h25 ?_
     refine qr (fa 64 underlying60 rfl sizeOf57 ?_)
     refine aw (Qg (c:=Qb) (z:=(QO x0.f_Peers i12).f_End) isAgg57 sizeOf57 rfl (Qp .z (QbE g22 (QO x0.f_Peers i12)))) ?_
     obtain ⟨t26,ht26,hF⟩:=bM hF
     refine cB func42 rfl (fun w hw=>QgS _ _ ht26 w) ?_
     refine aa (nwq [6,5,4,3,1] ?_)
     refine Qdd (by kernel_rfl) (by kernel_rfl) (fun _ h=>h.drew) ?_
     refine Ql rfl rfl rfl (Qbz rfl) ?_
     refine Ql rfl rfl rfl (Q4 (fo:=0) underlying60 rfl rfl (fun w=>⟨_,sizeOf24 w⟩) rfl) ?_
     refine Ql rfl rfl rfl (Qg (c:=(QQ (Qv .u8) 32 (by decide))) (z:=(QO x0.f_Peers i12).f_Key) isAgg24 sizeOf24 rfl (Qp .z (Qbo g22 (QO x0.f_Peers i12)))) ?_
     obtain ⟨t27,ht27,hF⟩:=bM hF
     refine Qbl func40 rfl (by kernel_rfl) rfl rfl (fun w hw=>(QcJ _ _ ht27 w).mono fun _ _ h=>⟨h.1,hw.call h.2⟩) ?_
     obtain ⟨h28,hF⟩:=gd hF
     refine Ql rfl rfl rfl (Q2 rfl rfl h28) ?_
     obtain ⟨h29,hF⟩:=gd hF
     refine Ql rfl rfl rfl (Q2 rfl rfl h29) ?_
     refine Ql rfl rfl rfl (Q4 (fo:=32) underlying60 rfl rfl (fun w=>⟨_,sizeOf24 w⟩) rfl) ?_
     refine Ql rfl rfl rfl (Qg (c:=(QQ (Qv .u8) 32 (by decide))) (z:=(QO x0.f_Peers i12).f_Psk) isAgg24 sizeOf24 rfl (Qp .z (QcG g22 (QO x0.f_Peers i12)))) ?_
     obtain ⟨t30,ht30,hF⟩:=bM hF
     refine Qbl func40 rfl (by kernel_rfl) rfl rfl (fun w hw=>(QcJ _ _ ht30 w).mono fun _ _ h=>⟨h.1,hw.call h.2⟩) ?_
     obtain ⟨h31,hF⟩:=gd hF
     refine Ql rfl rfl rfl (Q2 rfl rfl h31) ?_
     obtain ⟨h32,hF⟩:=gd hF
     refine Ql rfl rfl rfl (Q2 rfl rfl h32) ?_
     refine Ql rfl rfl rfl (Qbz rfl) ?_
     obtain ⟨h33,hF⟩:=gd hF
     refine Ql rfl rfl rfl (Q2 rfl rfl h33) ?_
     obtain ⟨h34,hF⟩:=gd hF
     refine Ql rfl rfl rfl (Q2 rfl rfl h34) ?_
     refine Ql rfl rfl rfl (Q4 (fo:=85) underlying60 rfl rfl (fun w=>⟨_,sizeOf58 w⟩) rfl) ?_
     refine Ql rfl rfl rfl (Qe isAgg58 rfl (Qm (c:=cHd) (y:=⟨g22.1,List.length ((QO x0.f_Peers i12).f_Allowed),g22.2⟩) .z (QaP g22 (QO x0.f_Peers i12)) rfl)) ?_
     obtain ⟨t35,ht35,hF⟩:=bM hF
     refine Qbl func43 rfl (by kernel_rfl) rfl rfl (fun w hw=>(Qec _ _ _ _ _ ht35 w ((nz hg23 hn21 (QiT hz19 h14)).below hw.below)).mono fun _ _ h=>⟨h.1,hw.call h.2⟩) ?_
     obtain ⟨h36,hF⟩:=gd hF
     refine Ql rfl rfl rfl (Q2 rfl rfl h36) ?_
     obtain ⟨h37,hF⟩:=gd hF
     refine Ql rfl rfl rfl (Q2 rfl rfl h37) ?_
     refine Ql rfl rfl rfl (Q4 (fo:=84) underlying60 rfl rfl (fun w=>⟨_,sizeOf41 w⟩) rfl) ?_
     refine Ql rfl rfl rfl (Qe isAgg41 rfl (Qm (c:=(Qv .u64)) (y:=(QO x0.f_Peers i12).f_Got) .z (Qb4 g22 (QO x0.f_Peers i12)) rfl)) ?_
     obtain ⟨t38,ht38,hF⟩:=bM hF
     refine Qbl func45 rfl (by kernel_rfl) rfl rfl (fun w hw=>(Qa2 _ _ ht38 w).mono fun _ _ h=>⟨h.1,hw.call h.2⟩) ?_
     obtain ⟨h39,hF⟩:=gd hF
     refine Ql rfl rfl rfl (Q2 rfl rfl h39) ?_
     obtain ⟨h40,hF⟩:=gd hF
     refine Ql rfl rfl rfl (Q2 rfl rfl h40) ?_
     refine Ql rfl rfl rfl (Q4 (fo:=83) underlying60 rfl rfl (fun w=>⟨_,sizeOf41 w⟩) rfl) ?_
     refine Ql rfl rfl rfl (Qe isAgg41 rfl (Qm (c:=(Qv .u64)) (y:=(QO x0.f_Peers i12).f_Sent) .z (QbT g22 (QO x0.f_Peers i12)) rfl)) ?_
     obtain ⟨t41,ht41,hF⟩:=bM hF
     refine Qbl func45 rfl (by kernel_rfl) rfl rfl (fun w hw=>(Qa2 _ _ ht41 w).mono fun _ _ h=>⟨h.1,hw.call h.2⟩) ?_
     obtain ⟨h42,hF⟩:=gd hF
     refine Ql rfl rfl rfl (Q2 rfl rfl h42) ?_
     obtain ⟨h43,hF⟩:=gd hF
     refine Ql rfl rfl rfl (Q2 rfl rfl h43) ?_
     refine Ql rfl rfl rfl (Q4 (fo:=82) underlying60 rfl rfl (fun w=>⟨_,sizeOf3 w⟩) rfl) ?_
     refine Ql rfl rfl rfl (Qe isAgg3 rfl (Qm (c:=(Qv .i64)) (y:=(QO x0.f_Peers i12).f_Keep) .z (Qbr g22 (QO x0.f_Peers i12)) rfl)) ?_
     obtain ⟨t44,ht44,hF⟩:=bM hF
     refine Qbl func38 rfl (by kernel_rfl) rfl rfl (fun w hw=>(Qdo _ _ ht44 w).mono fun _ _ h=>⟨h.1,hw.call h.2⟩) ?_
     obtain ⟨h45,hF⟩:=gd hF
     refine Ql rfl rfl rfl (Q2 rfl rfl h45) ?_
     obtain ⟨h46,hF⟩:=gd hF
     refine Ql rfl rfl rfl (Q2 rfl rfl h46) ?_
     refine Ql rfl rfl rfl (Qcf rfl) ?_
     refine Qck ?_
     refine dz (wq [4,3,1] ?_)
     refine bm ?_
     refine qr (am (aw xa (aa (nwq [4,3,1] ?_))))
     exact Qk (ih _ _ _ hF K) ⟨rfl,rfl,rfl,trivial⟩
    refine cf h25 ?_
    refine sn ?_
    refine Qdd (by kernel_rfl) (by kernel_rfl) (fun _ h=>h.drew) ?_
    refine Ql rfl rfl rfl (Qbz rfl) ?_
    refine Ql rfl rfl rfl (Q4 (fo:=0) underlying60 rfl rfl (fun w=>⟨_,sizeOf24 w⟩) rfl) ?_
    refine Ql rfl rfl rfl (Qg (c:=(QQ (Qv .u8) 32 (by decide))) (z:=(QO x0.f_Peers i12).f_Key) isAgg24 sizeOf24 rfl (Qp .z (Qbo g22 (QO x0.f_Peers i12)))) ?_
    obtain ⟨t47,ht47,hF⟩:=bM hF
    refine Qbl func40 rfl (by kernel_rfl) rfl rfl (fun w hw=>(QcJ _ _ ht47 w).mono fun _ _ h=>⟨h.1,hw.call h.2⟩) ?_
    obtain ⟨h48,hF⟩:=gd hF
    refine Ql rfl rfl rfl (Q2 rfl rfl h48) ?_
    obtain ⟨h49,hF⟩:=gd hF
    refine Ql rfl rfl rfl (Q2 rfl rfl h49) ?_
    refine Ql rfl rfl rfl (Q4 (fo:=32) underlying60 rfl rfl (fun w=>⟨_,sizeOf24 w⟩) rfl) ?_
    refine Ql rfl rfl rfl (Qg (c:=(QQ (Qv .u8) 32 (by decide))) (z:=(QO x0.f_Peers i12).f_Psk) isAgg24 sizeOf24 rfl (Qp .z (QcG g22 (QO x0.f_Peers i12)))) ?_
    obtain ⟨t50,ht50,hF⟩:=bM hF
    refine Qbl func40 rfl (by kernel_rfl) rfl rfl (fun w hw=>(QcJ _ _ ht50 w).mono fun _ _ h=>⟨h.1,hw.call h.2⟩) ?_
    obtain ⟨h51,hF⟩:=gd hF
    refine Ql rfl rfl rfl (Q2 rfl rfl h51) ?_
    obtain ⟨h52,hF⟩:=gd hF
    refine Ql rfl rfl rfl (Q2 rfl rfl h52) ?_
    refine Ql rfl rfl rfl (Qbz rfl) ?_
    obtain ⟨h53,hF⟩:=gd hF
    refine Ql rfl rfl rfl (Q2 rfl rfl h53) ?_
    obtain ⟨h54,hF⟩:=gd hF
    refine Ql rfl rfl rfl (Q2 rfl rfl h54) ?_
    refine Ql rfl rfl rfl (Q4 (fo:=85) underlying60 rfl rfl (fun w=>⟨_,sizeOf58 w⟩) rfl) ?_
    refine Ql rfl rfl rfl (Qe isAgg58 rfl (Qm (c:=cHd) (y:=⟨g22.1,List.length ((QO x0.f_Peers i12).f_Allowed),g22.2⟩) .z (QaP g22 (QO x0.f_Peers i12)) rfl)) ?_
    obtain ⟨t55,ht55,hF⟩:=bM hF
    refine Qbl func43 rfl (by kernel_rfl) rfl rfl (fun w hw=>(Qec _ _ _ _ _ ht55 w ((nz hg23 hn21 (QiT hz19 h14)).below hw.below)).mono fun _ _ h=>⟨h.1,hw.call h.2⟩) ?_
    obtain ⟨h56,hF⟩:=gd hF
    refine Ql rfl rfl rfl (Q2 rfl rfl h56) ?_
    obtain ⟨h57,hF⟩:=gd hF
    refine Ql rfl rfl rfl (Q2 rfl rfl h57) ?_
    refine Ql rfl rfl rfl (Q4 (fo:=84) underlying60 rfl rfl (fun w=>⟨_,sizeOf41 w⟩) rfl) ?_
    refine Ql rfl rfl rfl (Qe isAgg41 rfl (Qm (c:=(Qv .u64)) (y:=(QO x0.f_Peers i12).f_Got) .z (Qb4 g22 (QO x0.f_Peers i12)) rfl)) ?_
    obtain ⟨t58,ht58,hF⟩:=bM hF
    refine Qbl func45 rfl (by kernel_rfl) rfl rfl (fun w hw=>(Qa2 _ _ ht58 w).mono fun _ _ h=>⟨h.1,hw.call h.2⟩) ?_
    obtain ⟨h59,hF⟩:=gd hF
    refine Ql rfl rfl rfl (Q2 rfl rfl h59) ?_
    obtain ⟨h60,hF⟩:=gd hF
    refine Ql rfl rfl rfl (Q2 rfl rfl h60) ?_
    refine Ql rfl rfl rfl (Q4 (fo:=83) underlying60 rfl rfl (fun w=>⟨_,sizeOf41 w⟩) rfl) ?_
    refine Ql rfl rfl rfl (Qe isAgg41 rfl (Qm (c:=(Qv .u64)) (y:=(QO x0.f_Peers i12).f_Sent) .z (QbT g22 (QO x0.f_Peers i12)) rfl)) ?_
    obtain ⟨t61,ht61,hF⟩:=bM hF
    refine Qbl func45 rfl (by kernel_rfl) rfl rfl (fun w hw=>(Qa2 _ _ ht61 w).mono fun _ _ h=>⟨h.1,hw.call h.2⟩) ?_
    obtain ⟨h62,hF⟩:=gd hF
    refine Ql rfl rfl rfl (Q2 rfl rfl h62) ?_
    obtain ⟨h63,hF⟩:=gd hF
    refine Ql rfl rfl rfl (Q2 rfl rfl h63) ?_
    refine Ql rfl rfl rfl (Q4 (fo:=82) underlying60 rfl rfl (fun w=>⟨_,sizeOf3 w⟩) rfl) ?_
    refine Ql rfl rfl rfl (Qe isAgg3 rfl (Qm (c:=(Qv .i64)) (y:=(QO x0.f_Peers i12).f_Keep) .z (Qbr g22 (QO x0.f_Peers i12)) rfl)) ?_
    obtain ⟨t64,ht64,hF⟩:=bM hF
    refine Qbl func38 rfl (by kernel_rfl) rfl rfl (fun w hw=>(Qdo _ _ ht64 w).mono fun _ _ h=>⟨h.1,hw.call h.2⟩) ?_
    obtain ⟨h65,hF⟩:=gd hF
    refine Ql rfl rfl rfl (Q2 rfl rfl h65) ?_
    obtain ⟨h66,hF⟩:=gd hF
    refine Ql rfl rfl rfl (Q2 rfl rfl h66) ?_
    refine Ql rfl rfl rfl (Qcf rfl) ?_
    refine Qck ?_
    refine dz (wq [4,3,1] ?_)
    refine bm ?_
    refine qr (am (aw xa (aa (nwq [4,3,1] ?_))))
    exact Qk (ih _ _ _ hF K) ⟨rfl,rfl,rfl,trivial⟩
   refine cf h13 ?_
   refine Q7 ?_
   refine te (te ?_)
   refine dz ?_
   obtain rfl:=os hF
   exact Qk K ⟨rfl,trivial⟩
 skip
 skip
 refine QD ?_
 refine tn (sr (am (aa (nwq [2] ?_))))
 refine qt ?_
 have K:=os hF
 subst K
 exact r1 wb
def QbP:Option (Bool) :=
 QbV 1536>>=fun t1=>if (seq t1 (⟨#[49,46,53,48,32,75,105,66]⟩:ByteArray))=true then (QbV 18446744073709551615>>=fun t3=>if (seq t3 (⟨#[49,53,46,57,57,32,69,105,66]⟩:ByteArray))=true then (QbV 7>>=fun t5=>some (seq t5 (⟨#[55,32,66]⟩:ByteArray))) else (some false)) else (some false)
theorem Qdz(r:Bool)(hF:QbP =some r)(w:World)(hg_show_units:GV_show_units w)(hg_strconv_uint64pow10:GV_strconv_uint64pow10 w) :
    Calls Tryz.prog 5 #[] w (fun e w'=>e=.returned (.bool r)∧Below w.heap.size w w'):=by
 unfold QbP at hF
 refine ce (l:=[]) func5 rfl rfl ?_
 refine QN ?_
 refine Qkj [] trivial ?_
 refine sr (aa ?_)
 refine nws [] trivial ?_
 obtain ⟨t1,ht1,hF⟩:=bM hF
 refine cB func15 rfl (fun w hw=>QgG _ _ ht1 w (hg_show_units.on hw.below) (hg_strconv_uint64pow10.on hw.below)) ?_
 refine aw (QfK rfl rfl) ?_
 refine am ?_
 obtain ⟨h2,hF⟩|⟨h2,hF⟩:=oi hF
 ·refine fx 3 h2 ?_
  refine gy ?_
  obtain ⟨t3,ht3,hF⟩:=bM hF
  refine cB func15 rfl (fun w hw=>QgG _ _ ht3 w (hg_show_units.on hw.below) (hg_strconv_uint64pow10.on hw.below)) ?_
  refine gy ?_
  refine aw (QfK rfl rfl) ?_
  refine aw xp (am ?_)
  obtain ⟨h4,hF⟩|⟨h4,hF⟩:=oi hF
  ·refine fx 7 h4 ?_
   refine gy ?_
   obtain ⟨t5,ht5,hF⟩:=bM hF
   refine cB func15 rfl (fun w hw=>QgG _ _ ht5 w (hg_show_units.on hw.below) (hg_strconv_uint64pow10.on hw.below)) ?_
   refine gy ?_
   refine aw (QfK rfl rfl) ?_
   refine aw xp (aa (nwq [0] ?_))
   refine qt ?_
   have K:=os hF
   subst K
   exact r1 wb
  refine fx 7 h4 ?_
  refine gn ?_
  refine gn ?_
  refine aw xp (aa (nwq [0] ?_))
  refine qt ?_
  have K:=os hF
  subst K
  exact r1 wb
 refine fx 3 h2 ?_
 refine gn ?_
 refine gn ?_
 refine aw xp (am ?_)
 refine gn ?_
 refine gn ?_
 refine aw xp (aa (nwq [0] ?_))
 refine qt ?_
 have K:=os hF
 subst K
 exact r1 wb
end Go.Proofs.YtnekckhjmnhinaaGreatDoor
namespace Go.Proofs.YtnekckhjmnhinaaGreatDoor
open E Go.RowKit _root_.Go.Proofs.Tryz
theorem QnF:(Tryz.prog.info? 74).isSome=true:=by kernel_rfl
noncomputable def Qpv:TypeInfo:=(Tryz.prog.info? 74).get QnF
theorem QsP:Tryz.prog.info? 74=some Qpv:=(Option.some_get _).symm
def Qbe(x0:Q3)(x1:Int):Option (Q3) :=
 if (x0.f_e==0)=true then (some ({ x0 with f_e:=x1 })) else (some x0)
theorem QbN(x0:Q3)(b0_:Nat)(x1:Int)(r:Q3)(hF:Qbe x0 x1=some r)(w:World){w0:World}{H_ G_:List Ent}{f_:Ent→List Ent}(hu_:Upd H_ (Qi b0_ (Cd.cs Qt x0) 44) f_ G_)(hw_:Wd w0 H_ w) :
    Calls Tryz.prog 50 #[.pointer (some ⟨b0_,0,none⟩),.int .i64 x1] w (fun e w'=>e=.returned (.tuple #[])∧Wd w0 (f_ (Qi b0_ (Cd.cs Qt r) 44)) w'):=by
 unfold Qbe at hF
 refine ce (l:=[.pointer (some ⟨b0_,0,none⟩),.int .i64 x1]) func50 rfl rfl ?_
 refine QdJ hu_ hw_ ?_
 refine sr (am ?_)
 refine aw (Qa3 rfl) ?_
 refine fa 0 underlying44 rfl sizeOf29 ?_
 refine aw (Qe isAgg29 rfl (Qm (c:=(Qv .i64)) (y:=x0.f_e) (Upd.again hu_ _) (Qaf.comp lw (fun z=>{ x0 with f_e:=z }) (QeC x0)) rfl)) ?_
 refine aw xq (nwq [8,1,0] ?_)
 obtain ⟨h1,hF⟩|⟨h1,hF⟩:=oi hF
 ·refine ct h1 ?_
  refine qr (am (am ?_))
  refine aw (Qa3 rfl) ?_
  refine fa 0 underlying44 rfl sizeOf29 ?_
  refine Qn (c:=(Qv .i64)) (z:=x1) (Upd.again hu_ _) (Qaf.comp lw (fun z=>{ x0 with f_e:=z }) (QeC x0)) sizeOf29 rfl rfl rfl ?_
  refine qn ?_
  refine Qkj [] trivial ?_
  have K:=os hF
  subst K
  exact Qk5 rfl (fun w1 hw=>⟨rfl,hw⟩)
 refine cf h1 ?_
 refine QbQ ?_
 have K:=os hF
 subst K
 exact Qk5 rfl (fun w1 hw=>⟨rfl,hw⟩)
def QcS(x0:Q3)(x1:ByteArray):Option ((Vector Int 32)×Q3) :=
 QfR x1>>=fun t2=>Qbe x0 t2.2>>=fun t4=>some (t2.1,t4)
theorem Qeh(x0:Q3)(b0_:Nat)(x1:ByteArray)(r:(Vector Int 32)×Q3)(hF:QcS x0 x1=some r)(w:World){w0:World}{H_ G_:List Ent}{f_:Ent→List Ent}(hu_:Upd H_ (Qi b0_ (Cd.cs Qt x0) 44) f_ G_)(hw_:Wd w0 H_ w) :
    Calls Tryz.prog 47 #[.pointer (some ⟨b0_,0,none⟩),.string x1] w (fun e w'=>e=.returned (.agg (Cd.cs (QQ (Qv .u8) 32 (by decide)) r.1).toArray)∧Wd w0 (f_ (Qi b0_ (Cd.cs Qt r.2) 44)) w'):=by
 unfold QcS at hF
 refine ce (l:=[.pointer (some ⟨b0_,0,none⟩),.string x1]) func47 rfl rfl ?_
 refine QdJ hu_ hw_ ?_
 refine sr ?_
 refine al (cs:=Cd.cs (QQ (Qv .u8) 32 (by decide)) zv4) zeroValue24 ?_
 intro b1
 refine ns (am ?_)
 obtain ⟨t2,ht2,hF⟩:=bM hF
 refine cB func81 rfl (fun w hw=>QlD _ _ ht2 w) ?_
 refine am ?_
 refine aw xe (aw xe ?_)
 refine al (cs:=Cd.cs (QQ (Qv .u8) 32 (by decide)) zv4) zeroValue24 ?_
 intro b3
 refine Qn (c:=(QQ (Qv .u8) 32 (by decide))) (z:=t2.1) .z lw sizeOf24 rfl rfl rfl ?_
 refine aa (ns (am (am ?_)))
 obtain ⟨t4,ht4,hF⟩:=bM hF
 refine QbM (E':=Qi b0_ (Cd.cs Qt t4) 44) func50 rfl (by kernel_rfl) rfl rfl (fun w hw=>QbN _ _ _ _ ht4 w (.s (.s (Upd.again hu_ _))) hw) ?_
 refine ns ?_
 refine aw (Qg (c:=(QQ (Qv .u8) 32 (by decide))) (z:=t2.1) isAgg24 sizeOf24 rfl (Qp .z lw)) ?_
 refine Qn (c:=(QQ (Qv .u8) 32 (by decide))) (z:=t2.1) (.s .z) lw sizeOf24 rfl rfl rfl ?_
 refine qn (dz (wq [4] ?_))
 refine tn (qt ?_)
 have K:=os hF
 subst K
 exact Qd9 rfl (QE (c:=(QQ (Qv .u8) 32 (by decide))) (y:=t2.1) rfl .z lw isAgg24 sizeOf24 (.inl rfl)) (fun w1 hw=>⟨rfl,hw.pop⟩)
def QbC(x0:Q3)(x1:ByteArray)(x2:Int):Option (Int×Q3) :=
 QcP x1 x2>>=fun t1=>Qbe x0 t1.2>>=fun t2=>some (t1.1,t2)
theorem QbY(x0:Q3)(b0_:Nat)(x1:ByteArray)(x2:Int)(r:Int×Q3)(hF:QbC x0 x1 x2=some r)(w:World){w0:World}{H_ G_:List Ent}{f_:Ent→List Ent}(hu_:Upd H_ (Qi b0_ (Cd.cs Qt x0) 44) f_ G_)(hw_:Wd w0 H_ w)(hg_strconv_ErrRange:GV_strconv_ErrRange w0)(hg_strconv_ErrSyntax:GV_strconv_ErrSyntax w0) :
    Calls Tryz.prog 48 #[.pointer (some ⟨b0_,0,none⟩),.string x1,.int .u64 x2] w (fun e w'=>e=.returned (.int .u64 r.1)∧Wd w0 (f_ (Qi b0_ (Cd.cs Qt r.2) 44)) w'):=by
 unfold QbC at hF
 refine ce (l:=[.pointer (some ⟨b0_,0,none⟩),.string x1,.int .u64 x2]) func48 rfl rfl ?_
 refine QdJ hu_ hw_ ?_
 refine sr (aa (ns (am (am ?_))))
 obtain ⟨t1,ht1,hF⟩:=bM hF
 refine cB func82 rfl (fun w hw=>Qem _ _ _ ht1 w (hg_strconv_ErrRange.on hw.below) (hg_strconv_ErrSyntax.on hw.below)) ?_
 refine am ?_
 refine aw xe (aw xe (aa (aa (ns (am (am ?_))))))
 obtain ⟨t2,ht2,hF⟩:=bM hF
 refine QbM (E':=Qi b0_ (Cd.cs Qt t2) 44) func50 rfl (by kernel_rfl) rfl rfl (fun w hw=>QbN _ _ _ _ ht2 w (Upd.again hu_ _) hw) ?_
 refine ns (am (aa (nwq [6] ?_)))
 refine qt ?_
 have K:=os hF
 subst K
 exact r1 (fun w1 hw=>⟨rfl,hw⟩)
def QaL.l0(t2:List ByteArray)(i9:List Qo)(i10:Int)(i11:Q3):Option (List Qo×Q3) :=
 if (decide (i10<(t2.length:Int)))=true then (if (0:Int)≤i10∧i10<(t2.length:Int) then Qfe (QO t2 i10)>>=fun t21=>Qbe i11 t21.2>>=fun t23=>if (i9.length+1)*32≤140737488355328 then QaL.l0 t2 (i9++[t21.1]) (wr .i64 (i10+1)) t23 else none else none) else (some (i9,i11))
 partial_fixpoint
def QaL(x0:Q3)(x1:ByteArray):Option (List Qo×Q3) :=
 if (seq x1 (⟨#[40,110,111,110,101,41]⟩:ByteArray))=true then (some (([]:List Qo),x0)) else (Qb5 x1 44>>=fun t2=>QaL.l0 t2 ([]:List Qo) 0 x0>>=fun q8=>some (q8.1,q8.2))
theorem Qf1{x0:Q3}{x1:ByteArray}{r:List Qo×Q3}(hF:QaL x0 x1=some r):∀ {w0 w:World} {G_:List Ent} {Z_:List Nat} {s_:World} {b0_:Nat} (hw_:Wd w0 (QcM w0 Z_ s_::Qi b0_ (Cd.cs Qt x0) 44::G_) w) (hg_strconv_ErrRange:GV_strconv_ErrRange w0) (hg_strconv_ErrSyntax:GV_strconv_ErrSyntax w0),
    Calls Tryz.prog 83 #[.pointer (some ⟨b0_,0,none⟩),.string x1] w (fun e w'=>∃ (Z':List Nat) (s':World) (z:Option Addr×Nat),Qc7 (KZ w0 Z_) s_ (KZ w0 Z') s'∧e=.returned (.slice z.1 (List.length r.1) z.2)∧(RowK (KZ w0 Z') Qc s' z.1 z.2 r.1)∧Wd w0 (QcM w0 Z' s'::Qi b0_ (Cd.cs Qt r.2) 44::G_) w'):=by
 intro w0 w G_ Z_ s_ b0_  hw_ hg_strconv_ErrRange hg_strconv_ErrSyntax
 unfold QaL at hF
 refine ce (l:=[.pointer (some ⟨b0_,0,none⟩),.string x1]) func83 rfl rfl ?_
 refine QfX hw_ ?_
 clear hw_
 obtain ⟨Z0_,hZ0_⟩:∃ Z0_,Z0_=Z_:=⟨_,rfl⟩
 obtain ⟨s0_,hs0_⟩:∃ s0_,s0_=s_:=⟨_,rfl⟩
 have hM_:Qc7 (KZ w0 Z0_) s0_ (KZ w0 Z_) s_:=by rw [hZ0_,hs0_];exact Qc7.refl _ _
 rw [←hZ0_,←hs0_]
 rw [show QcM w0 Z0_ s0_=QcM w0 Z_ s_ from by rw [hZ0_,hs0_]]
 refine sr (aa (nt (qs (sr (am ?_)))))
 refine aw (QfK rfl rfl) ?_
 refine nwq [11,1,0] ?_
 obtain ⟨h1,hF⟩|⟨h1,hF⟩:=oi hF
 ·refine ct h1 ?_
  refine sr (aa (nwq [4] ?_))
  refine rt ?_
  have K:=os hF
  subst K
  exact r1 (fun w1 hw=>⟨Z_,s_,(none,0),hM_,rfl,RowK.nil ..,hw⟩)
 refine cf h1 ?_
 refine sns (aa (nt (qs (sr (am ?_)))))
 obtain ⟨t2,ht2,hF⟩:=bM hF
 refine QbU (c:=QbA) (e:=9) (ys:=t2) (V:=fun p cap=>.slice p t2.length cap) func115 rfl (by kernel_rfl) rfl rfl (fun w hw=>Qhz _ _ _ ht2 w) ?_
 intro p3 c4
 refine aw (QZ underlying46 rfl) ?_
 refine am (nwq [15,14,13,5,0] ?_)
 refine qb ?_
 refine Qco Qc 74 ?_
 obtain ⟨q8,hq8,hF⟩:=bM hF
 refine wq [15,14,13,5,0] ?_
 refine Qal (B:=0) (A:=fun Y=>∀ (p14:Option Addr) (c15:Nat),At 33 [(5,.slice p14 q8.1.length c15)] (Wd w0 (Qbm Qc 74 p14 c15 q8.1::QcM w0 Z_ s_::Qi b0_ (Cd.cs Qt q8.2) 44::G_)) Y) ?_ ?_
 ·intro K
  refine QaL.l0.partial_correctness t2 (motive:=fun i9 i10 i11 x=>KN (fun Y=>∀ (p14:Option Addr) (c15:Nat),At 33 [(5,.slice p14 x.1.length c15)] (Wd w0 (Qbm Qc 74 p14 c15 x.1::QcM w0 Z_ s_::Qi b0_ (Cd.cs Qt x.2) 44::G_)) Y) _ 0→QbB (fun Y=>∀ (p12:Option Addr) (c13:Nat),At 33 [(0,.pointer (some ⟨b0_,0,none⟩)),(5,.slice p12 i9.length c13),(13,.slice p3 t2.length c4),(14,.int .i64 (t2.length:Int)),(15,.int .i64 i10)] (Wd w0 (Qbm Qc 74 p12 c13 i9::Qbm QbA 9 p3 c4 t2::QcM w0 Z_ s_::Qi b0_ (Cd.cs Qt i11) 44::G_)) Y) _ _ _) ?_ _ _ _ _ hq8 K (nn 5) 0
  ·clear K hF
   intro g ih i9 i10 i11 x hF K p12 c13
   refine QW ?_
   refine sr (aw xl (nwq [16,15,14,13,5,0] ?_))
   refine qs ?_
   obtain ⟨h16,hF⟩|⟨h16,hF⟩:=oi hF
   ·refine ct h16 ?_
    refine sn (qs (qb (sr ?_)))
    obtain ⟨h17,hF⟩:=gd hF
    refine Qae (φ:=∃ b o,p3=some ⟨b,o,none⟩) (fun _ hw=>Qaa (hw.own (.s .z)).row h17) ?_
    rintro ⟨b19,o20,hp18⟩
    refine aw (QbD underlying46 sizeOf9 rfl rfl h17 hp18) ?_
    refine aw (Qe isAgg9 rfl (fun _ hw=>QP (W:=fun w1=>w1=_) (fun w1 h=>by subst h;exact Below.refl _ _) (hw.own (.s .z)).row h17 hp18 rfl _ rfl)) ?_
    refine aa (ns (am ?_))
    obtain ⟨t21,ht21,hF⟩:=bM hF
    refine cB func116 rfl (fun w hw=>QlU _ _ ht21 w (hg_strconv_ErrRange.on hw.below) (hg_strconv_ErrSyntax.on hw.below)) ?_
    refine am ?_
    refine aw xe (aw xe ?_)
    refine al (cs:=Cd.cs Qc Qdl) zeroValue74 ?_
    intro b22
    refine Qn (c:=Qc) (z:=t21.1) .z lw sizeOf74 rfl rfl rfl ?_
    refine aa (ns (am (am ?_)))
    obtain ⟨t23,ht23,hF⟩:=bM hF
    refine QbM (E':=Qi b0_ (Cd.cs Qt t23) 44) func50 rfl (by kernel_rfl) rfl rfl (fun w hw=>QbN _ _ _ _ ht23 w (.s (.s (.s (.s .z)))) hw) ?_
    refine nt (qr (am ?_))
    refine aw (Qg (c:=Qc) (z:=t21.1) isAgg74 sizeOf74 rfl (Qp .z lw)) ?_
    refine QhP (c:=Qc) ([Qdl]:List Qo) ([t21.1]:List Qo) underlying58 sizeOf74 zeroValue74 rfl rfl rfl (by kernel_rfl) (QaB (c:=Qc) (z:=t21.1) rfl (Qaf.all Qc ([Qdl]:List Qo) 0 (by first | decide | exact Nat.le_of_ble_eq_true rfl)) rfl rfl) rfl ?_
    intro b24
    obtain ⟨h25,hF⟩:=gd hF
    refine Qcl (z:=.agg (Cd.cs Qc Qdl).toArray) (c:=Qc) (ys:=([t21.1]:List Qo)) (.s (.s .z)) underlying58 QsP (by kernel_rfl) (by kernel_rfl) rfl rfl rfl rfl (fun _ hw=>QbX (hw.ok (Upd.mem .z))) (by kernel_rfl) h25 (QbR h25) rfl ?_
    intro p26 c27
    refine aa (qn (dz (dz (wq [15,14,13,5,0] ?_))))
    refine bm ?_
    refine qr (aw xa (am (nwq [15,14,13,5,0] ?_)))
    exact Qk (ih _ _ _ _ hF K p26 c27) ⟨rfl,rfl,rfl,rfl,rfl,trivial⟩
   refine cf h16 ?_
   refine Q7 ?_
   refine te (te ?_)
   refine Qam (H:=_) (.s .z) ?_
   obtain rfl:=os hF
   exact Qk (K p12 c13) ⟨rfl,trivial⟩
 skip
 intro p14 c15
 refine QD ?_
 refine tn (sr (am (aa (nwq [4] ?_))))
 refine qt ?_
 refine Qd2 .z ?_
 intro Z_ s_ hm28 hk29
 replace hM_:=Qc7.mono hM_ hm28
 have K:=os hF
 subst K
 exact r1 (fun w1 hw=>⟨Z_,s_,(p14,c15),hM_,rfl,hk29,hw⟩)
def QcZ(x0:Q3)(x1:List ByteArray):Option (Qq×Q3) :=
 if (0:Int)≤0∧0<(x1.length:Int) then QcS x0 (QO x1 0)>>=fun t7=>if (0:Int)≤1∧1<(x1.length:Int) then QcS t7.2 (QO x1 1)>>=fun t12=>if (0:Int)≤3∧3<(x1.length:Int) then QaL t12.2 (QO x1 3)>>=fun t17=>if (0:Int)≤2∧2<(x1.length:Int) then if (!seq (QO x1 2) (⟨#[40,110,111,110,101,41]⟩:ByteArray))=true then (if (0:Int)≤2∧2<(x1.length:Int) then Qdt (QO x1 2)>>=fun t34=>Qbe t17.2 t34.2>>=fun t36=>if (0:Int)≤4∧4<(x1.length:Int) then QbC t36 (QO x1 4) 18446744073709551615>>=fun t41=>if (0:Int)≤5∧5<(x1.length:Int) then QbC t41.2 (QO x1 5) 18446744073709551615>>=fun t46=>if (0:Int)≤6∧6<(x1.length:Int) then QbC t46.2 (QO x1 6) 65535>>=fun t51=>some ({ { { { { { { ({ f_Key:=(Vector.replicate 32 (0:Int):(Vector Int 32)),f_Psk:=(Vector.replicate 32 (0:Int):(Vector Int 32)),f_End:=({ f_A:=({ f_V:=(0:Int),f_B:=(Vector.replicate 16 (0:Int):(Vector Int 16)) }:Qj),f_Port:=(0:Int) }:Qr),f_Keep:=(0:Int),f_Sent:=(0:Int),f_Got:=(0:Int),f_Allowed:=([]:List Qo) }:Qq) with f_Key:=t7.1 } with f_Psk:=t12.1 } with f_Allowed:=t17.1 } with f_End:=t34.1 } with f_Got:=t41.1 } with f_Sent:=t46.1 } with f_Keep:=wr .i64 t51.1 },t51.2) else none else none else none else none) else (if (0:Int)≤4∧4<(x1.length:Int) then QbC t17.2 (QO x1 4) 18446744073709551615>>=fun t58=>if (0:Int)≤5∧5<(x1.length:Int) then QbC t58.2 (QO x1 5) 18446744073709551615>>=fun t63=>if (0:Int)≤6∧6<(x1.length:Int) then QbC t63.2 (QO x1 6) 65535>>=fun t68=>some ({ { { { { { ({ f_Key:=(Vector.replicate 32 (0:Int):(Vector Int 32)),f_Psk:=(Vector.replicate 32 (0:Int):(Vector Int 32)),f_End:=({ f_A:=({ f_V:=(0:Int),f_B:=(Vector.replicate 16 (0:Int):(Vector Int 16)) }:Qj),f_Port:=(0:Int) }:Qr),f_Keep:=(0:Int),f_Sent:=(0:Int),f_Got:=(0:Int),f_Allowed:=([]:List Qo) }:Qq) with f_Key:=t7.1 } with f_Psk:=t12.1 } with f_Allowed:=t17.1 } with f_Got:=t58.1 } with f_Sent:=t63.1 } with f_Keep:=wr .i64 t68.1 },t68.2) else none else none else none) else none else none else none else none
set_option maxHeartbeats 3200000 in
theorem Qfi{x0:Q3}{x1:List ByteArray}{r:Qq×Q3}(hF:QcZ x0 x1=some r):∀ {w0 w:World} {G_:List Ent} {Z_:List Nat} {s_:World} {b0_:Nat} {p1_:Option Addr} {c1_:Nat} (hz1:RowK (KZ w0 Z_) QbA s_ p1_ c1_ x1) (hw_:Wd w0 (QcM w0 Z_ s_::Qi b0_ (Cd.cs Qt x0) 44::G_) w) (hg_bytealg_MaxLen:GV_bytealg_MaxLen w0) (hg_strconv_ErrRange:GV_strconv_ErrRange w0) (hg_strconv_ErrSyntax:GV_strconv_ErrSyntax w0),
    Calls Tryz.prog 49 #[.pointer (some ⟨b0_,0,none⟩),.slice p1_ x1.length c1_] w (fun e w'=>∃ (Z':List Nat) (s':World) (z:QR),Qc7 (KZ w0 Z_) s_ (KZ w0 Z') s'∧e=.returned (.agg (Cd.cs Qf (z,r.1)).toArray)∧(Qu (KZ w0 Z') s' (z,r.1))∧Wd w0 (QcM w0 Z' s'::Qi b0_ (Cd.cs Qt r.2) 44::G_) w'):=by
 intro w0 w G_ Z_ s_ b0_ p1_ c1_ hz1 hw_ hg_bytealg_MaxLen hg_strconv_ErrRange hg_strconv_ErrSyntax
 unfold QcZ at hF
 refine ce (l:=[.pointer (some ⟨b0_,0,none⟩),.slice p1_ x1.length c1_]) func49 rfl rfl ?_
 refine QfX hw_ ?_
 clear hw_
 obtain ⟨Z0_,hZ0_⟩:∃ Z0_,Z0_=Z_:=⟨_,rfl⟩
 obtain ⟨s0_,hs0_⟩:∃ s0_,s0_=s_:=⟨_,rfl⟩
 have hM_:Qc7 (KZ w0 Z0_) s0_ (KZ w0 Z_) s_:=by rw [hZ0_,hs0_];exact Qc7.refl _ _
 rw [←hZ0_,←hs0_]
 rw [show QcM w0 Z0_ s0_=QcM w0 Z_ s_ from by rw [hZ0_,hs0_]]
 refine sr ?_
 refine al (cs:=Cd.cs Qf QeF) zeroValue60 ?_
 intro b1
 refine nt (qs (wq [4,1,0] ?_))
 refine QpN (b:=0) (cs:=(Cd.cs Qf QeF)) (t:=60) ?_
 obtain ⟨h3,hF⟩:=gd hF
 obtain ⟨b5,o6,hp4⟩:=Qaa (RowK.row hz1) h3
 obtain ⟨t7,ht7,hF⟩:=bM hF
 obtain ⟨h8,hF⟩:=gd hF
 obtain ⟨b10,o11,hp9⟩:=Qaa (RowK.row hz1) h8
 obtain ⟨t12,ht12,hF⟩:=bM hF
 obtain ⟨h13,hF⟩:=gd hF
 obtain ⟨b15,o16,hp14⟩:=Qaa (RowK.row hz1) h13
 obtain ⟨t17,ht17,hF⟩:=bM hF
 refine QuJ [.q 8 (fun g24=>.pointer (some ⟨b0_,0,none⟩)) [] 0 0,.q 9 (fun g24=>.slice p1_ x1.length c1_) [] 0 0,.q 10 (fun g24=>.pointer (some ⟨b5,o6+Int.toNat 0*1,none⟩)) [1] 0 0,.q 11 (fun g24=>.string (QO x1 0)) [2] 0 0,.st 0 (some (12,fun g24=>.agg (Cd.cs (QQ (Qv .u8) 32 (by decide)) t7.1).toArray)) [0,3],.q 13 (fun g24=>.pointer (some ⟨b0_,0,none⟩)) [] 0 1,.q 14 (fun g24=>.slice p1_ x1.length c1_) [] 0 1,.q 15 (fun g24=>.pointer (some ⟨b10,o11+Int.toNat 1*1,none⟩)) [6] 0 1,.q 16 (fun g24=>.string (QO x1 1)) [7] 0 1,.st 1 (some (17,fun g24=>.agg (Cd.cs (QQ (Qv .u8) 32 (by decide)) t12.1).toArray)) [5,8],.q 18 (fun g24=>.pointer (some ⟨b0_,0,none⟩)) [] 0 2,.q 19 (fun g24=>.slice p1_ x1.length c1_) [] 0 2,.q 20 (fun g24=>.pointer (some ⟨b15,o16+Int.toNat 3*1,none⟩)) [11] 0 2,.q 21 (fun g24=>.string (QO x1 3)) [12] 0 2,.al 2 22 (fun g24=>.slice (((g24 2).2.2.2.2.2.2 0)).1 t17.1.length (((g24 2).2.2.2.2.2.2 0)).2) [10,13],.q 23 (fun g24=>.agg (Cd.cs Qf (((((g24 2).2.2.2.2.2.2 0)).1,(((g24 2).2.2.2.2.2.2 0)).2),{ { { QfE with f_Key:=t7.1 } with f_Psk:=t12.1 } with f_Allowed:=t17.1 })).toArray) [4,9,14] 3 3,.q 5 (fun g24=>.pointer (some ⟨((g24 20).1),0,none⟩)) [] 0 3,.st 3 none [16,15]] (fun g24 s=>match s with | 0=>(Wd w0 (QpT ((g24 20).2.2.1) ((g24 20).1) (Cd.cs Qf QeF) 60::Qi b1 (Cd.cs Qf QeF) 60::QcM w0 Z_ s_::Qi b0_ (Cd.cs Qt x0) 44::G_)) | 1=>(Wd w0 (QpT ((g24 20).2.2.1) ((g24 20).1) (Cd.cs Qf QeF) 60::Qi b1 (Cd.cs Qf QeF) 60::QcM w0 Z_ s_::Qi b0_ (Cd.cs Qt t7.2) 44::G_)) | 2=>(Wd w0 (QpT ((g24 20).2.2.1) ((g24 20).1) (Cd.cs Qf QeF) 60::Qi b1 (Cd.cs Qf QeF) 60::QcM w0 Z_ s_::Qi b0_ (Cd.cs Qt t12.2) 44::G_)) | 3=>(Wd w0 (Qbh (RowK (KZ w0 ((g24 2).2.2.2.2.1)) Qc ((g24 2).2.2.2.2.2.1) (((g24 2).2.2.2.2.2.2 0)).1 (((g24 2).2.2.2.2.2.2 0)).2 t17.1)::Qbh (RowK (KZ w0 ((g24 2).2.2.2.2.1)) QbA ((g24 2).2.2.2.2.2.1) p1_ c1_ x1)::Qbh (Qc7 (KZ w0 Z0_) s0_ (KZ w0 ((g24 2).2.2.2.2.1)) ((g24 2).2.2.2.2.2.1))::QcM w0 ((g24 2).2.2.2.2.1) ((g24 2).2.2.2.2.2.1)::Qi b0_ (Cd.cs Qt t17.2) 44::QpT ((g24 20).2.2.1) ((g24 20).1) (Cd.cs Qf QeF) 60::Qi b1 (Cd.cs Qf QeF) 60::G_)) | _=>(Wd w0 (Qbh (RowK (KZ w0 ((g24 2).2.2.2.2.1)) Qc ((g24 2).2.2.2.2.2.1) (((g24 2).2.2.2.2.2.2 0)).1 (((g24 2).2.2.2.2.2.2 0)).2 t17.1)::Qbh (RowK (KZ w0 ((g24 2).2.2.2.2.1)) QbA ((g24 2).2.2.2.2.2.1) p1_ c1_ x1)::Qbh (Qc7 (KZ w0 Z0_) s0_ (KZ w0 ((g24 2).2.2.2.2.1)) ((g24 2).2.2.2.2.2.1))::QcM w0 ((g24 2).2.2.2.2.1) ((g24 2).2.2.2.2.2.1)::Qi b0_ (Cd.cs Qt t17.2) 44::Qi ((g24 20).1) (Cd.cs Qf (((((g24 2).2.2.2.2.2.2 0)).1,(((g24 2).2.2.2.2.2.2 0)).2),{ { { QfE with f_Key:=t7.1 } with f_Psk:=t12.1 } with f_Allowed:=t17.1 })) 60::Qi b1 (Cd.cs Qf QeF) 60::G_))) 4 [false,false,false,false,false,false,false,false,false,false,false,false,false,false,false,false,true,false] [[],[],[],[],[],[],[],[],[],[],[],[],[],[],[],[],[],[16]] (by kernel_rfl) (by kernel_rfl) (by kernel_rfl) (by kernel_rfl) (by kernel_rfl) ⟨fun _ _ _ _ _=>rfl,fun _ _ _ _ _=>rfl,fun _ _ _ _ _=>rfl,fun _ _ _ _ _=>rfl,fun _ _ _ _ _=>rfl,fun _ _ _ _ _=>rfl,fun _ _ _ _ _=>rfl,fun _ _ _ _ _=>rfl,fun _ _ _ _ _=>rfl,fun _ _ _ _ _=>rfl,fun _ _ _ _ _=>rfl,fun _ _ _ _ _=>rfl,fun _ _ _ _ _=>rfl,fun _ _ _ _ _=>rfl,fun g24 g2 h h2 _=>by show (.slice (((g24 2).2.2.2.2.2.2 0)).1 t17.1.length (((g24 2).2.2.2.2.2.2 0)).2:Value)=.slice (((g2 2).2.2.2.2.2.2 0)).1 t17.1.length (((g2 2).2.2.2.2.2.2 0)).2;rw [h 2 (show 2<3 by decide)],fun g24 g2 h h2 _=>by show (.agg (Cd.cs Qf (((((g24 2).2.2.2.2.2.2 0)).1,(((g24 2).2.2.2.2.2.2 0)).2),{ { { QfE with f_Key:=t7.1 } with f_Psk:=t12.1 } with f_Allowed:=t17.1 })).toArray:Value)=.agg (Cd.cs Qf (((((g2 2).2.2.2.2.2.2 0)).1,(((g2 2).2.2.2.2.2.2 0)).2),{ { { QfE with f_Key:=t7.1 } with f_Psk:=t12.1 } with f_Allowed:=t17.1 })).toArray;rw [h 2 (show 2<3 by decide)],fun g24 g2 _ _ h3=>by show (.pointer (some ⟨((g24 20).1),0,none⟩):Value)=.pointer (some ⟨((g2 20).1),0,none⟩);rw [h3 rfl],fun _ _ _ _ _=>rfl,trivial⟩ (by kernel_rfl) (by kernel_rfl) (fun w_ h=>⟨fun _=>g3 0 none 0 none w_,fun _=>Nat.zero_ne_one,h.drew⟩) ⟨?_,?_,?_,?_,?_,?_,?_,?_,?_,?_,?_,?_,?_,?_,?_,?_,?_,?_,trivial⟩ ?_
 ·intro Lx g24 s K hf_ hl hh k
  show At 60 ((0,_)::(1,_)::(4,_)::Lx) _ _
  refine am ?_
  exact Qs k
 ·intro Lx g24 s K hf_ hl hh k
  show At 60 ((0,_)::(1,_)::(4,_)::Lx) _ _
  refine am ?_
  exact Qs k
 ·intro Lx g24 s K hf_ hl hh k
  show At 60 ((9,_)::(0,_)::(1,_)::(4,_)::Lx) _ _
  refine aw (QbD underlying46 sizeOf9 rfl rfl h3 hp4) ?_
  exact Qs k
 ·intro Lx g24 s K hf_ hl hh k
  show At 60 ((10,_)::(0,_)::(1,_)::(4,_)::Lx) _ _
  obtain rfl:s=0:=by omega
  refine aw (Qe isAgg9 rfl (fun w1 hw=>QP (W:=fun w1=>w1=_) (fun w1 h=>by subst h;exact Below.refl _ _) (RowK.row (RowK.mono hz1 (QaX (.s (.s .z)) hw))) h3 hp4 rfl _ rfl)) ?_
  exact Qs k
 ·intro Lx g24 K hf_ k
  show At 60 ((8,_)::(11,_)::(0,_)::(1,_)::(4,_)::Lx) _ _
  refine QbM (E':=Qi b0_ (Cd.cs Qt t7.2) 44) func47 rfl (by kernel_rfl) rfl rfl (fun w hw=>Qeh _ _ _ _ ht7 w (.s (.s (.s .z))) hw) ?_
  exact Qs k
 ·intro Lx g24 s K hf_ hl hh k
  show At 60 ((0,_)::(1,_)::(4,_)::Lx) _ _
  refine am ?_
  exact Qs k
 ·intro Lx g24 s K hf_ hl hh k
  show At 60 ((0,_)::(1,_)::(4,_)::Lx) _ _
  refine am ?_
  exact Qs k
 ·intro Lx g24 s K hf_ hl hh k
  show At 60 ((14,_)::(0,_)::(1,_)::(4,_)::Lx) _ _
  refine aw (QbD underlying46 sizeOf9 rfl rfl h8 hp9) ?_
  exact Qs k
 ·intro Lx g24 s K hf_ hl hh k
  show At 60 ((15,_)::(0,_)::(1,_)::(4,_)::Lx) _ _
  rcases (by omega:s=0∨s=1) with rfl | rfl
  ·skip
   refine aw (Qe isAgg9 rfl (fun w1 hw=>QP (W:=fun w1=>w1=_) (fun w1 h=>by subst h;exact Below.refl _ _) (RowK.row (RowK.mono hz1 (QaX (.s (.s .z)) hw))) h8 hp9 rfl _ rfl)) ?_
   exact Qs k
  skip
  refine aw (Qe isAgg9 rfl (fun w1 hw=>QP (W:=fun w1=>w1=_) (fun w1 h=>by subst h;exact Below.refl _ _) (RowK.row (RowK.mono hz1 (QaX (.s (.s .z)) hw))) h8 hp9 rfl _ rfl)) ?_
  exact Qs k
 ·intro Lx g24 K hf_ k
  show At 60 ((13,_)::(16,_)::(0,_)::(1,_)::(4,_)::Lx) _ _
  refine QbM (E':=Qi b0_ (Cd.cs Qt t12.2) 44) func47 rfl (by kernel_rfl) rfl rfl (fun w hw=>Qeh _ _ _ _ ht12 w (.s (.s (.s .z))) hw) ?_
  exact Qs k
 ·intro Lx g24 s K hf_ hl hh k
  show At 60 ((0,_)::(1,_)::(4,_)::Lx) _ _
  refine am ?_
  exact Qs k
 ·intro Lx g24 s K hf_ hl hh k
  show At 60 ((0,_)::(1,_)::(4,_)::Lx) _ _
  refine am ?_
  exact Qs k
 ·intro Lx g24 s K hf_ hl hh k
  show At 60 ((19,_)::(0,_)::(1,_)::(4,_)::Lx) _ _
  refine aw (QbD underlying46 sizeOf9 rfl rfl h13 hp14) ?_
  exact Qs k
 ·intro Lx g24 s K hf_ hl hh k
  show At 60 ((20,_)::(0,_)::(1,_)::(4,_)::Lx) _ _
  rcases (by omega:s=0∨s=1∨s=2) with rfl | rfl | rfl
  ·skip
   refine aw (Qe isAgg9 rfl (fun w1 hw=>QP (W:=fun w1=>w1=_) (fun w1 h=>by subst h;exact Below.refl _ _) (RowK.row (RowK.mono hz1 (QaX (.s (.s .z)) hw))) h13 hp14 rfl _ rfl)) ?_
   exact Qs k
  ·skip
   refine aw (Qe isAgg9 rfl (fun w1 hw=>QP (W:=fun w1=>w1=_) (fun w1 h=>by subst h;exact Below.refl _ _) (RowK.row (RowK.mono hz1 (QaX (.s (.s .z)) hw))) h13 hp14 rfl _ rfl)) ?_
   exact Qs k
  skip
  refine aw (Qe isAgg9 rfl (fun w1 hw=>QP (W:=fun w1=>w1=_) (fun w1 h=>by subst h;exact Below.refl _ _) (RowK.row (RowK.mono hz1 (QaX (.s (.s .z)) hw))) h13 hp14 rfl _ rfl)) ?_
  exact Qs k
 ·intro Lx g24 K hf_ k
  show At 60 ((18,_)::(21,_)::(0,_)::(1,_)::(4,_)::Lx) _ _
  refine Qac (.s .z) ?_
  refine Qac (.s .z) ?_
  refine Qac (.s (.s (.s .z))) ?_
  refine Qac (.s (.s (.s .z))) ?_
  refine Qim (H':=(Qi b0_ (Cd.cs Qt t17.2) 44::QpT ((g24 20).2.2.1) ((g24 20).1) (Cd.cs Qf QeF) 60::Qi b1 (Cd.cs Qf QeF) 60::G_)) (γ:=Option Addr×Nat) (V:=fun z=>.slice z.1 (List.length t17.1) z.2) (Φ:=fun K s z=>RowK K Qc s z.1 z.2 t17.1) func83 rfl (by kernel_rfl) rfl rfl (fun w hw=>Qf1 ht17 hw hg_strconv_ErrRange hg_strconv_ErrSyntax) ?_
  intro Z18 s19 g21 hm20 hk22
  replace hM_:=Qc7.mono hM_ hm20
  replace hz1:=RowK.mono hz1 hm20
  refine QcH hM_ ?_
  refine QcH hz1 ?_
  refine QcH hk22 ?_
  exact Qs (k (0,none,0,none,Z18,s19,fun i_=>match i_ with | 0=>g21 | _=>(none,0)))
 ·intro Lx g24 s K hf_ hl hh k
  show At 60 ((12,_)::(17,_)::(22,_)::(0,_)::(1,_)::(4,_)::Lx) _ _
  obtain rfl:s=3:=by omega
  refine aw (Qw (zs:=Cd.cs Qf QeF) (cs:=Cd.cs Qf (((((g24 2).2.2.2.2.2.2 0)).1,(((g24 2).2.2.2.2.2.2 0)).2),{ { { QfE with f_Key:=t7.1 } with f_Psk:=t12.1 } with f_Allowed:=t17.1 })) underlying60 zeroValue60 rfl (Qh2) rfl (QaB (c:=(QQ (Qv .u8) 32 (by decide))) (z:=t7.1) rfl (Qbo zv8 QfE) rfl (QaB (c:=(QQ (Qv .u8) 32 (by decide))) (z:=t12.1) rfl (QcG zv8 ({ QfE with f_Key:=t7.1 })) rfl (QaB (c:=cHd) (z:=⟨(((g24 2).2.2.2.2.2.2 0)).1,List.length t17.1,(((g24 2).2.2.2.2.2.2 0)).2⟩) rfl (QaP zv8 ({ { QfE with f_Key:=t7.1 } with f_Psk:=t12.1 })) rfl rfl)))) ?_
  exact Qs k
 ·intro Lx g24 s K hl hf_ k
  show At 60 ((0,_)::(1,_)::(4,_)::Lx) _ _
  rcases (by omega:s=0∨s=1∨s=2∨s=3) with rfl | rfl | rfl | rfl
  ·skip
   refine al (cs:=Cd.cs Qf QeF) zeroValue60 ?_
   intro b23
   refine Qil (fl':=1) .z hf_ rfl ?_
   exact Qs (k (g3 b23 none 1 none w0) rfl)
  ·skip
   refine al (cs:=Cd.cs Qf QeF) zeroValue60 ?_
   intro b23
   refine Qil (fl':=1) .z hf_ rfl ?_
   exact Qs (k (g3 b23 none 1 none w0) rfl)
  ·skip
   refine al (cs:=Cd.cs Qf QeF) zeroValue60 ?_
   intro b23
   refine Qil (fl':=1) .z hf_ rfl ?_
   exact Qs (k (g3 b23 none 1 none w0) rfl)
  skip
  refine al (cs:=Cd.cs Qf QeF) zeroValue60 ?_
  intro b23
  refine Qil (fl':=1) (.s (.s (.s (.s (.s .z))))) hf_ rfl ?_
  exact Qs (k (g3 b23 none 1 none w0) rfl)
 ·intro Lx g24 K hf_ k
  show At 60 ((5,_)::(23,_)::(0,_)::(1,_)::(4,_)::Lx) _ _
  refine Qs9 (.s (.s (.s (.s (.s .z))))) (hf_ 16 (by decide)) ?_
  refine Qn (c:=Qf) (z:=(((((g24 2).2.2.2.2.2.2 0)).1,(((g24 2).2.2.2.2.2.2 0)).2),{ { { QfE with f_Key:=t7.1 } with f_Psk:=t12.1 } with f_Allowed:=t17.1 })) (.s (.s (.s (.s (.s .z))))) lw sizeOf60 rfl rfl rfl ?_
  exact Qs k
 intro g24 hf_
 show At 60 [(8,_),(9,_),(10,_),(11,_),(12,_),(13,_),(14,_),(15,_),(16,_),(17,_),(18,_),(19,_),(20,_),(21,_),(22,_),(23,_),(5,_),(0,_),(1,_),(4,_)] _ _
 refine Qae (φ:=RowK (KZ w0 ((g24 2).2.2.2.2.1)) Qc ((g24 2).2.2.2.2.2.1) (((g24 2).2.2.2.2.2.2 0)).1 (((g24 2).2.2.2.2.2.2 0)).2 t17.1) (fun _ hw=>hw.ok (Upd.mem .z)) ?_
 intro hk22
 refine Qae (φ:=RowK (KZ w0 ((g24 2).2.2.2.2.1)) QbA ((g24 2).2.2.2.2.2.1) p1_ c1_ x1) (fun _ hw=>hw.ok (Upd.mem (.s .z))) ?_
 intro hz1
 refine Qae (φ:=Qc7 (KZ w0 Z0_) s0_ (KZ w0 ((g24 2).2.2.2.2.1)) ((g24 2).2.2.2.2.2.1)) (fun _ hw=>hw.ok (Upd.mem (.s (.s .z)))) ?_
 intro hM_
 refine dz (dz (dz (tn (qs (sr (am ?_))))))
 obtain ⟨h25,hF⟩:=gd hF
 obtain ⟨b27,o28,hp26⟩:=Qaa (RowK.row hz1) h25
 refine aw (QbD underlying46 sizeOf9 rfl rfl h25 hp26) ?_
 refine aw (Qe isAgg9 rfl (fun w1 hw=>QP (W:=fun w1=>w1=_) (fun w1 h=>by subst h;exact Below.refl _ _) (RowK.row (RowK.mono hz1 (QaX .z hw))) h25 hp26 rfl _ rfl)) ?_
 refine aw (Qmu rfl rfl) ?_
 refine nwq [27,5,4,1,0] ?_
 obtain ⟨h29,hF⟩|⟨h29,hF⟩:=oi hF
 ·refine ct h29 ?_
  refine sr (am ?_)
  obtain ⟨h30,hF⟩:=gd hF
  obtain ⟨b32,o33,hp31⟩:=Qaa (RowK.row hz1) h30
  refine aw (QbD underlying46 sizeOf9 rfl rfl h30 hp31) ?_
  refine aw (Qe isAgg9 rfl (fun w1 hw=>QP (W:=fun w1=>w1=_) (fun w1 h=>by subst h;exact Below.refl _ _) (RowK.row (RowK.mono hz1 (QaX .z hw))) h30 hp31 rfl _ rfl)) ?_
  obtain ⟨t34,ht34,hF⟩:=bM hF
  refine cB func84 rfl (fun w hw=>QiL _ _ ht34 w (hg_bytealg_MaxLen.on hw.below) (hg_strconv_ErrRange.on hw.below) (hg_strconv_ErrSyntax.on hw.below)) ?_
  refine am ?_
  refine aw xe (aw xe ?_)
  refine al (cs:=Cd.cs Qb zv9) zeroValue57 ?_
  intro b35
  refine Qn (c:=Qb) (z:=t34.1) .z lw sizeOf57 rfl rfl rfl ?_
  refine aa (ns (am (am ?_)))
  obtain ⟨t36,ht36,hF⟩:=bM hF
  refine QbM (E':=Qi b0_ (Cd.cs Qt t36) 44) func50 rfl (by kernel_rfl) rfl rfl (fun w hw=>QbN _ _ _ _ ht36 w (.s (.s .z)) hw) ?_
  refine nt (qr ?_)
  refine aw (Qg (c:=Qb) (z:=t34.1) isAgg57 sizeOf57 rfl (Qp .z lw)) ?_
  refine fa 64 underlying60 rfl sizeOf57 ?_
  refine Qn (c:=Qb) (z:=t34.1) (.s (.s (.s .z))) (QbE ((((g24 2).2.2.2.2.2.2 0)).1,(((g24 2).2.2.2.2.2.2 0)).2) ({ { { QfE with f_Key:=t7.1 } with f_Psk:=t12.1 } with f_Allowed:=t17.1 })) sizeOf57 rfl rfl rfl ?_
  refine qn (dz (tn (qs (wq [5,4,1,0] ?_))))
  obtain ⟨h37,hF⟩:=gd hF
  obtain ⟨b39,o40,hp38⟩:=Qaa (RowK.row hz1) h37
  obtain ⟨t41,ht41,hF⟩:=bM hF
  obtain ⟨h42,hF⟩:=gd hF
  obtain ⟨b44,o45,hp43⟩:=Qaa (RowK.row hz1) h42
  obtain ⟨t46,ht46,hF⟩:=bM hF
  obtain ⟨h47,hF⟩:=gd hF
  obtain ⟨b49,o50,hp48⟩:=Qaa (RowK.row hz1) h47
  obtain ⟨t51,ht51,hF⟩:=bM hF
  refine Qey [.q 40 (fun g52=>.pointer (some ⟨b0_,0,none⟩)) [] 0 0,.q 41 (fun g52=>.slice p1_ x1.length c1_) [] 0 0,.q 42 (fun g52=>.pointer (some ⟨b39,o40+Int.toNat 4*1,none⟩)) [1] 0 0,.q 43 (fun g52=>.string (QO x1 4)) [2] 0 0,.st 0 (some (44,fun g52=>.int .u64 t41.1)) [0,3],.q 45 (fun g52=>.pointer (some ⟨b0_,0,none⟩)) [] 0 1,.q 46 (fun g52=>.slice p1_ x1.length c1_) [] 0 1,.q 47 (fun g52=>.pointer (some ⟨b44,o45+Int.toNat 5*1,none⟩)) [6] 0 1,.q 48 (fun g52=>.string (QO x1 5)) [7] 0 1,.st 1 (some (49,fun g52=>.int .u64 t46.1)) [5,8],.q 50 (fun g52=>.pointer (some ⟨b0_,0,none⟩)) [] 0 2,.q 51 (fun g52=>.slice p1_ x1.length c1_) [] 0 2,.q 52 (fun g52=>.pointer (some ⟨b49,o50+Int.toNat 6*1,none⟩)) [11] 0 2,.q 53 (fun g52=>.string (QO x1 6)) [12] 0 2,.st 2 (some (54,fun g52=>.int .u64 t51.1)) [10,13],.q 55 (fun g52=>.int .i64 (wr .i64 t51.1)) [14] 3 5,.q 56 (fun g52=>.pointer (some ⟨(g24 20).1,0+84,none⟩)) [] 1 3,.st 3 none [4,16],.q 57 (fun g52=>.pointer (some ⟨(g24 20).1,0+83,none⟩)) [] 4 4,.st 4 none [9,18],.q 58 (fun g52=>.pointer (some ⟨(g24 20).1,0+82,none⟩)) [] 5 5,.st 5 none [15,20]] (fun g52 s=>match s with | 0=>(Wd w0 (QcM w0 ((g24 2).2.2.2.2.1) ((g24 2).2.2.2.2.2.1)::Qi b0_ (Cd.cs Qt t36) 44::Qi (g24 20).1 (Cd.cs Qf (((((g24 2).2.2.2.2.2.2 0)).1,(((g24 2).2.2.2.2.2.2 0)).2),{ { { { QfE with f_Key:=t7.1 } with f_Psk:=t12.1 } with f_Allowed:=t17.1 } with f_End:=t34.1 })) 60::Qi b1 (Cd.cs Qf QeF) 60::G_)) | 1=>(Wd w0 (QcM w0 ((g24 2).2.2.2.2.1) ((g24 2).2.2.2.2.2.1)::Qi b0_ (Cd.cs Qt t41.2) 44::Qi (g24 20).1 (Cd.cs Qf (((((g24 2).2.2.2.2.2.2 0)).1,(((g24 2).2.2.2.2.2.2 0)).2),{ { { { QfE with f_Key:=t7.1 } with f_Psk:=t12.1 } with f_Allowed:=t17.1 } with f_End:=t34.1 })) 60::Qi b1 (Cd.cs Qf QeF) 60::G_)) | 2=>(Wd w0 (QcM w0 ((g24 2).2.2.2.2.1) ((g24 2).2.2.2.2.2.1)::Qi b0_ (Cd.cs Qt t46.2) 44::Qi (g24 20).1 (Cd.cs Qf (((((g24 2).2.2.2.2.2.2 0)).1,(((g24 2).2.2.2.2.2.2 0)).2),{ { { { QfE with f_Key:=t7.1 } with f_Psk:=t12.1 } with f_Allowed:=t17.1 } with f_End:=t34.1 })) 60::Qi b1 (Cd.cs Qf QeF) 60::G_)) | 3=>(Wd w0 (QcM w0 ((g24 2).2.2.2.2.1) ((g24 2).2.2.2.2.2.1)::Qi b0_ (Cd.cs Qt t51.2) 44::Qi (g24 20).1 (Cd.cs Qf (((((g24 2).2.2.2.2.2.2 0)).1,(((g24 2).2.2.2.2.2.2 0)).2),{ { { { QfE with f_Key:=t7.1 } with f_Psk:=t12.1 } with f_Allowed:=t17.1 } with f_End:=t34.1 })) 60::Qi b1 (Cd.cs Qf QeF) 60::G_)) | 4=>(Wd w0 (QcM w0 ((g24 2).2.2.2.2.1) ((g24 2).2.2.2.2.2.1)::Qi b0_ (Cd.cs Qt t51.2) 44::Qi (g24 20).1 (Cd.cs Qf (((((g24 2).2.2.2.2.2.2 0)).1,(((g24 2).2.2.2.2.2.2 0)).2),{ { { { { QfE with f_Key:=t7.1 } with f_Psk:=t12.1 } with f_Allowed:=t17.1 } with f_End:=t34.1 } with f_Got:=t41.1 })) 60::Qi b1 (Cd.cs Qf QeF) 60::G_)) | 5=>(Wd w0 (QcM w0 ((g24 2).2.2.2.2.1) ((g24 2).2.2.2.2.2.1)::Qi b0_ (Cd.cs Qt t51.2) 44::Qi (g24 20).1 (Cd.cs Qf (((((g24 2).2.2.2.2.2.2 0)).1,(((g24 2).2.2.2.2.2.2 0)).2),{ { { { { { QfE with f_Key:=t7.1 } with f_Psk:=t12.1 } with f_Allowed:=t17.1 } with f_End:=t34.1 } with f_Got:=t41.1 } with f_Sent:=t46.1 })) 60::Qi b1 (Cd.cs Qf QeF) 60::G_)) | _=>(Wd w0 (QcM w0 ((g24 2).2.2.2.2.1) ((g24 2).2.2.2.2.2.1)::Qi b0_ (Cd.cs Qt t51.2) 44::Qi (g24 20).1 (Cd.cs Qf (((((g24 2).2.2.2.2.2.2 0)).1,(((g24 2).2.2.2.2.2.2 0)).2),{ { { { { { { QfE with f_Key:=t7.1 } with f_Psk:=t12.1 } with f_Allowed:=t17.1 } with f_End:=t34.1 } with f_Got:=t41.1 } with f_Sent:=t46.1 } with f_Keep:=wr .i64 t51.1 })) 60::Qi b1 (Cd.cs Qf QeF) 60::G_))) 6 (by kernel_rfl) (by kernel_rfl) (by kernel_rfl) (by kernel_rfl) (by kernel_rfl) ⟨fun _ _ _=>rfl,fun _ _ _=>rfl,fun _ _ _=>rfl,fun _ _ _=>rfl,fun _ _ _=>rfl,fun _ _ _=>rfl,fun _ _ _=>rfl,fun _ _ _=>rfl,fun _ _ _=>rfl,fun _ _ _=>rfl,fun _ _ _=>rfl,fun _ _ _=>rfl,fun _ _ _=>rfl,fun _ _ _=>rfl,fun _ _ _=>rfl,fun _ _ _=>rfl,fun _ _ _=>rfl,fun _ _ _=>rfl,fun _ _ _=>rfl,fun _ _ _=>rfl,fun _ _ _=>rfl,fun _ _ _=>rfl,trivial⟩ (by kernel_rfl) (fun w_ h=>⟨fun _=>g3 0 none 0 none w_,h.drew⟩) ⟨?_,?_,?_,?_,?_,?_,?_,?_,?_,?_,?_,?_,?_,?_,?_,?_,?_,?_,?_,?_,?_,?_,trivial⟩ ?_
  ·intro Lx g52 s K hl hh k
   show At 60 ((0,_)::(1,_)::(4,_)::(5,_)::Lx) _ _
   refine am ?_
   exact Qs k
  ·intro Lx g52 s K hl hh k
   show At 60 ((0,_)::(1,_)::(4,_)::(5,_)::Lx) _ _
   refine am ?_
   exact Qs k
  ·intro Lx g52 s K hl hh k
   show At 60 ((41,_)::(0,_)::(1,_)::(4,_)::(5,_)::Lx) _ _
   refine aw (QbD underlying46 sizeOf9 rfl rfl h37 hp38) ?_
   exact Qs k
  ·intro Lx g52 s K hl hh k
   show At 60 ((42,_)::(0,_)::(1,_)::(4,_)::(5,_)::Lx) _ _
   obtain rfl:s=0:=by omega
   refine aw (Qe isAgg9 rfl (fun w1 hw=>QP (W:=fun w1=>w1=_) (fun w1 h=>by subst h;exact Below.refl _ _) (RowK.row (RowK.mono hz1 (QaX .z hw))) h37 hp38 rfl _ rfl)) ?_
   exact Qs k
  ·intro Lx g52 K k
   show At 60 ((40,_)::(43,_)::(0,_)::(1,_)::(4,_)::(5,_)::Lx) _ _
   refine QbM (E':=Qi b0_ (Cd.cs Qt t41.2) 44) func48 rfl (by kernel_rfl) rfl rfl (fun w hw=>QbY _ _ _ _ _ ht41 w (.s .z) hw hg_strconv_ErrRange hg_strconv_ErrSyntax) ?_
   exact Qs k
  ·intro Lx g52 s K hl hh k
   show At 60 ((0,_)::(1,_)::(4,_)::(5,_)::Lx) _ _
   refine am ?_
   exact Qs k
  ·intro Lx g52 s K hl hh k
   show At 60 ((0,_)::(1,_)::(4,_)::(5,_)::Lx) _ _
   refine am ?_
   exact Qs k
  ·intro Lx g52 s K hl hh k
   show At 60 ((46,_)::(0,_)::(1,_)::(4,_)::(5,_)::Lx) _ _
   refine aw (QbD underlying46 sizeOf9 rfl rfl h42 hp43) ?_
   exact Qs k
  ·intro Lx g52 s K hl hh k
   show At 60 ((47,_)::(0,_)::(1,_)::(4,_)::(5,_)::Lx) _ _
   rcases (by omega:s=0∨s=1) with rfl | rfl
   ·skip
    refine aw (Qe isAgg9 rfl (fun w1 hw=>QP (W:=fun w1=>w1=_) (fun w1 h=>by subst h;exact Below.refl _ _) (RowK.row (RowK.mono hz1 (QaX .z hw))) h42 hp43 rfl _ rfl)) ?_
    exact Qs k
   skip
   refine aw (Qe isAgg9 rfl (fun w1 hw=>QP (W:=fun w1=>w1=_) (fun w1 h=>by subst h;exact Below.refl _ _) (RowK.row (RowK.mono hz1 (QaX .z hw))) h42 hp43 rfl _ rfl)) ?_
   exact Qs k
  ·intro Lx g52 K k
   show At 60 ((45,_)::(48,_)::(0,_)::(1,_)::(4,_)::(5,_)::Lx) _ _
   refine QbM (E':=Qi b0_ (Cd.cs Qt t46.2) 44) func48 rfl (by kernel_rfl) rfl rfl (fun w hw=>QbY _ _ _ _ _ ht46 w (.s .z) hw hg_strconv_ErrRange hg_strconv_ErrSyntax) ?_
   exact Qs k
  ·intro Lx g52 s K hl hh k
   show At 60 ((0,_)::(1,_)::(4,_)::(5,_)::Lx) _ _
   refine am ?_
   exact Qs k
  ·intro Lx g52 s K hl hh k
   show At 60 ((0,_)::(1,_)::(4,_)::(5,_)::Lx) _ _
   refine am ?_
   exact Qs k
  ·intro Lx g52 s K hl hh k
   show At 60 ((51,_)::(0,_)::(1,_)::(4,_)::(5,_)::Lx) _ _
   refine aw (QbD underlying46 sizeOf9 rfl rfl h47 hp48) ?_
   exact Qs k
  ·intro Lx g52 s K hl hh k
   show At 60 ((52,_)::(0,_)::(1,_)::(4,_)::(5,_)::Lx) _ _
   rcases (by omega:s=0∨s=1∨s=2) with rfl | rfl | rfl
   ·skip
    refine aw (Qe isAgg9 rfl (fun w1 hw=>QP (W:=fun w1=>w1=_) (fun w1 h=>by subst h;exact Below.refl _ _) (RowK.row (RowK.mono hz1 (QaX .z hw))) h47 hp48 rfl _ rfl)) ?_
    exact Qs k
   ·skip
    refine aw (Qe isAgg9 rfl (fun w1 hw=>QP (W:=fun w1=>w1=_) (fun w1 h=>by subst h;exact Below.refl _ _) (RowK.row (RowK.mono hz1 (QaX .z hw))) h47 hp48 rfl _ rfl)) ?_
    exact Qs k
   skip
   refine aw (Qe isAgg9 rfl (fun w1 hw=>QP (W:=fun w1=>w1=_) (fun w1 h=>by subst h;exact Below.refl _ _) (RowK.row (RowK.mono hz1 (QaX .z hw))) h47 hp48 rfl _ rfl)) ?_
   exact Qs k
  ·intro Lx g52 K k
   show At 60 ((50,_)::(53,_)::(0,_)::(1,_)::(4,_)::(5,_)::Lx) _ _
   refine QbM (E':=Qi b0_ (Cd.cs Qt t51.2) 44) func48 rfl (by kernel_rfl) rfl rfl (fun w hw=>QbY _ _ _ _ _ ht51 w (.s .z) hw hg_strconv_ErrRange hg_strconv_ErrSyntax) ?_
   exact Qs k
  ·intro Lx g52 s K hl hh k
   show At 60 ((54,_)::(0,_)::(1,_)::(4,_)::(5,_)::Lx) _ _
   refine aw (QaW underlying41 underlying3 rfl) ?_
   exact Qs k
  ·intro Lx g52 s K hl hh k
   show At 60 ((0,_)::(1,_)::(4,_)::(5,_)::Lx) _ _
   refine fa 84 underlying60 rfl sizeOf41 ?_
   exact Qs k
  ·intro Lx g52 K k
   show At 60 ((44,_)::(56,_)::(0,_)::(1,_)::(4,_)::(5,_)::Lx) _ _
   refine Qn (c:=(Qv .u64)) (z:=t41.1) (.s (.s .z)) (Qb4 ((((g24 2).2.2.2.2.2.2 0)).1,(((g24 2).2.2.2.2.2.2 0)).2) ({ { { { QfE with f_Key:=t7.1 } with f_Psk:=t12.1 } with f_Allowed:=t17.1 } with f_End:=t34.1 })) sizeOf41 rfl rfl rfl ?_
   exact Qs k
  ·intro Lx g52 s K hl hh k
   show At 60 ((0,_)::(1,_)::(4,_)::(5,_)::Lx) _ _
   refine fa 83 underlying60 rfl sizeOf41 ?_
   exact Qs k
  ·intro Lx g52 K k
   show At 60 ((49,_)::(57,_)::(0,_)::(1,_)::(4,_)::(5,_)::Lx) _ _
   refine Qn (c:=(Qv .u64)) (z:=t46.1) (.s (.s .z)) (QbT ((((g24 2).2.2.2.2.2.2 0)).1,(((g24 2).2.2.2.2.2.2 0)).2) ({ { { { { QfE with f_Key:=t7.1 } with f_Psk:=t12.1 } with f_Allowed:=t17.1 } with f_End:=t34.1 } with f_Got:=t41.1 })) sizeOf41 rfl rfl rfl ?_
   exact Qs k
  ·intro Lx g52 s K hl hh k
   show At 60 ((0,_)::(1,_)::(4,_)::(5,_)::Lx) _ _
   refine fa 82 underlying60 rfl sizeOf3 ?_
   exact Qs k
  ·intro Lx g52 K k
   show At 60 ((55,_)::(58,_)::(0,_)::(1,_)::(4,_)::(5,_)::Lx) _ _
   refine Qn (c:=(Qv .i64)) (z:=wr .i64 t51.1) (.s (.s .z)) (Qbr ((((g24 2).2.2.2.2.2.2 0)).1,(((g24 2).2.2.2.2.2.2 0)).2) ({ { { { { { QfE with f_Key:=t7.1 } with f_Psk:=t12.1 } with f_Allowed:=t17.1 } with f_End:=t34.1 } with f_Got:=t41.1 } with f_Sent:=t46.1 })) sizeOf3 rfl rfl rfl ?_
   exact Qs k
  intro g52
  show At 60 [(40,_),(41,_),(42,_),(43,_),(44,_),(45,_),(46,_),(47,_),(48,_),(49,_),(50,_),(51,_),(52,_),(53,_),(54,_),(55,_),(56,_),(57,_),(58,_),(0,_),(1,_),(4,_),(5,_)] _ _
  refine tn (sr ?_)
  refine aw (Qg (c:=Qf) (z:=(((((g24 2).2.2.2.2.2.2 0)).1,(((g24 2).2.2.2.2.2.2 0)).2),{ { { { { { { QfE with f_Key:=t7.1 } with f_Psk:=t12.1 } with f_Allowed:=t17.1 } with f_End:=t34.1 } with f_Got:=t41.1 } with f_Sent:=t46.1 } with f_Keep:=wr .i64 t51.1 })) isAgg60 sizeOf60 rfl (Qp (.s (.s .z)) lw)) ?_
  refine Qn (c:=Qf) (z:=(((((g24 2).2.2.2.2.2.2 0)).1,(((g24 2).2.2.2.2.2.2 0)).2),{ { { { { { { QfE with f_Key:=t7.1 } with f_Psk:=t12.1 } with f_Allowed:=t17.1 } with f_End:=t34.1 } with f_Got:=t41.1 } with f_Sent:=t46.1 } with f_Keep:=wr .i64 t51.1 })) (.s (.s (.s .z))) lw sizeOf60 rfl rfl rfl ?_
  refine qn ?_
  refine Qam (H:=_) (.s (.s .z)) ?_
  refine wq [4] ?_
  refine tn (qt ?_)
  have hN53:Qu (KZ w0 ((g24 2).2.2.2.2.1)) ((g24 2).2.2.2.2.2.1) (((((g24 2).2.2.2.2.2.2 0)).1,(((g24 2).2.2.2.2.2.2 0)).2),{ { { { { { { QfE with f_Key:=t7.1 } with f_Psk:=t12.1 } with f_Allowed:=t17.1 } with f_End:=t34.1 } with f_Got:=t41.1 } with f_Sent:=t46.1 } with f_Keep:=wr .i64 t51.1 }):=hk22
  refine Qac (.s .z) ?_
  refine Qac (.s .z) ?_
  refine Qac (.s (.s .z)) ?_
  have K:=os hF
  subst K
  exact Qd9 rfl (QE (c:=Qf) (y:=(((((g24 2).2.2.2.2.2.2 0)).1,(((g24 2).2.2.2.2.2.2 0)).2),{ { { { { { { QfE with f_Key:=t7.1 } with f_Psk:=t12.1 } with f_Allowed:=t17.1 } with f_End:=t34.1 } with f_Got:=t41.1 } with f_Sent:=t46.1 } with f_Keep:=wr .i64 t51.1 })) rfl .z lw isAgg60 sizeOf60 (.inl rfl)) (fun w1 hw=>⟨(g24 2).2.2.2.2.1,(g24 2).2.2.2.2.2.1,((((g24 2).2.2.2.2.2.2 0)).1,(((g24 2).2.2.2.2.2.2 0)).2),hM_,rfl,hN53,hw.pop⟩)
 refine cf h29 ?_
 refine sn (qs (wq [5,4,1,0] ?_))
 obtain ⟨h54,hF⟩:=gd hF
 obtain ⟨b56,o57,hp55⟩:=Qaa (RowK.row hz1) h54
 obtain ⟨t58,ht58,hF⟩:=bM hF
 obtain ⟨h59,hF⟩:=gd hF
 obtain ⟨b61,o62,hp60⟩:=Qaa (RowK.row hz1) h59
 obtain ⟨t63,ht63,hF⟩:=bM hF
 obtain ⟨h64,hF⟩:=gd hF
 obtain ⟨b66,o67,hp65⟩:=Qaa (RowK.row hz1) h64
 obtain ⟨t68,ht68,hF⟩:=bM hF
 refine Qey [.q 40 (fun g69=>.pointer (some ⟨b0_,0,none⟩)) [] 0 0,.q 41 (fun g69=>.slice p1_ x1.length c1_) [] 0 0,.q 42 (fun g69=>.pointer (some ⟨b56,o57+Int.toNat 4*1,none⟩)) [1] 0 0,.q 43 (fun g69=>.string (QO x1 4)) [2] 0 0,.st 0 (some (44,fun g69=>.int .u64 t58.1)) [0,3],.q 45 (fun g69=>.pointer (some ⟨b0_,0,none⟩)) [] 0 1,.q 46 (fun g69=>.slice p1_ x1.length c1_) [] 0 1,.q 47 (fun g69=>.pointer (some ⟨b61,o62+Int.toNat 5*1,none⟩)) [6] 0 1,.q 48 (fun g69=>.string (QO x1 5)) [7] 0 1,.st 1 (some (49,fun g69=>.int .u64 t63.1)) [5,8],.q 50 (fun g69=>.pointer (some ⟨b0_,0,none⟩)) [] 0 2,.q 51 (fun g69=>.slice p1_ x1.length c1_) [] 0 2,.q 52 (fun g69=>.pointer (some ⟨b66,o67+Int.toNat 6*1,none⟩)) [11] 0 2,.q 53 (fun g69=>.string (QO x1 6)) [12] 0 2,.st 2 (some (54,fun g69=>.int .u64 t68.1)) [10,13],.q 55 (fun g69=>.int .i64 (wr .i64 t68.1)) [14] 3 5,.q 56 (fun g69=>.pointer (some ⟨(g24 20).1,0+84,none⟩)) [] 1 3,.st 3 none [4,16],.q 57 (fun g69=>.pointer (some ⟨(g24 20).1,0+83,none⟩)) [] 4 4,.st 4 none [9,18],.q 58 (fun g69=>.pointer (some ⟨(g24 20).1,0+82,none⟩)) [] 5 5,.st 5 none [15,20]] (fun g69 s=>match s with | 0=>(Wd w0 (QcM w0 ((g24 2).2.2.2.2.1) ((g24 2).2.2.2.2.2.1)::Qi b0_ (Cd.cs Qt t17.2) 44::Qi (g24 20).1 (Cd.cs Qf (((((g24 2).2.2.2.2.2.2 0)).1,(((g24 2).2.2.2.2.2.2 0)).2),{ { { QfE with f_Key:=t7.1 } with f_Psk:=t12.1 } with f_Allowed:=t17.1 })) 60::Qi b1 (Cd.cs Qf QeF) 60::G_)) | 1=>(Wd w0 (QcM w0 ((g24 2).2.2.2.2.1) ((g24 2).2.2.2.2.2.1)::Qi b0_ (Cd.cs Qt t58.2) 44::Qi (g24 20).1 (Cd.cs Qf (((((g24 2).2.2.2.2.2.2 0)).1,(((g24 2).2.2.2.2.2.2 0)).2),{ { { QfE with f_Key:=t7.1 } with f_Psk:=t12.1 } with f_Allowed:=t17.1 })) 60::Qi b1 (Cd.cs Qf QeF) 60::G_)) | 2=>(Wd w0 (QcM w0 ((g24 2).2.2.2.2.1) ((g24 2).2.2.2.2.2.1)::Qi b0_ (Cd.cs Qt t63.2) 44::Qi (g24 20).1 (Cd.cs Qf (((((g24 2).2.2.2.2.2.2 0)).1,(((g24 2).2.2.2.2.2.2 0)).2),{ { { QfE with f_Key:=t7.1 } with f_Psk:=t12.1 } with f_Allowed:=t17.1 })) 60::Qi b1 (Cd.cs Qf QeF) 60::G_)) | 3=>(Wd w0 (QcM w0 ((g24 2).2.2.2.2.1) ((g24 2).2.2.2.2.2.1)::Qi b0_ (Cd.cs Qt t68.2) 44::Qi (g24 20).1 (Cd.cs Qf (((((g24 2).2.2.2.2.2.2 0)).1,(((g24 2).2.2.2.2.2.2 0)).2),{ { { QfE with f_Key:=t7.1 } with f_Psk:=t12.1 } with f_Allowed:=t17.1 })) 60::Qi b1 (Cd.cs Qf QeF) 60::G_)) | 4=>(Wd w0 (QcM w0 ((g24 2).2.2.2.2.1) ((g24 2).2.2.2.2.2.1)::Qi b0_ (Cd.cs Qt t68.2) 44::Qi (g24 20).1 (Cd.cs Qf (((((g24 2).2.2.2.2.2.2 0)).1,(((g24 2).2.2.2.2.2.2 0)).2),{ { { { QfE with f_Key:=t7.1 } with f_Psk:=t12.1 } with f_Allowed:=t17.1 } with f_Got:=t58.1 })) 60::Qi b1 (Cd.cs Qf QeF) 60::G_)) | 5=>(Wd w0 (QcM w0 ((g24 2).2.2.2.2.1) ((g24 2).2.2.2.2.2.1)::Qi b0_ (Cd.cs Qt t68.2) 44::Qi (g24 20).1 (Cd.cs Qf (((((g24 2).2.2.2.2.2.2 0)).1,(((g24 2).2.2.2.2.2.2 0)).2),{ { { { { QfE with f_Key:=t7.1 } with f_Psk:=t12.1 } with f_Allowed:=t17.1 } with f_Got:=t58.1 } with f_Sent:=t63.1 })) 60::Qi b1 (Cd.cs Qf QeF) 60::G_)) | _=>(Wd w0 (QcM w0 ((g24 2).2.2.2.2.1) ((g24 2).2.2.2.2.2.1)::Qi b0_ (Cd.cs Qt t68.2) 44::Qi (g24 20).1 (Cd.cs Qf (((((g24 2).2.2.2.2.2.2 0)).1,(((g24 2).2.2.2.2.2.2 0)).2),{ { { { { { QfE with f_Key:=t7.1 } with f_Psk:=t12.1 } with f_Allowed:=t17.1 } with f_Got:=t58.1 } with f_Sent:=t63.1 } with f_Keep:=wr .i64 t68.1 })) 60::Qi b1 (Cd.cs Qf QeF) 60::G_))) 6 (by kernel_rfl) (by kernel_rfl) (by kernel_rfl) (by kernel_rfl) (by kernel_rfl) ⟨fun _ _ _=>rfl,fun _ _ _=>rfl,fun _ _ _=>rfl,fun _ _ _=>rfl,fun _ _ _=>rfl,fun _ _ _=>rfl,fun _ _ _=>rfl,fun _ _ _=>rfl,fun _ _ _=>rfl,fun _ _ _=>rfl,fun _ _ _=>rfl,fun _ _ _=>rfl,fun _ _ _=>rfl,fun _ _ _=>rfl,fun _ _ _=>rfl,fun _ _ _=>rfl,fun _ _ _=>rfl,fun _ _ _=>rfl,fun _ _ _=>rfl,fun _ _ _=>rfl,fun _ _ _=>rfl,fun _ _ _=>rfl,trivial⟩ (by kernel_rfl) (fun w_ h=>⟨fun _=>g3 0 none 0 none w_,h.drew⟩) ⟨?_,?_,?_,?_,?_,?_,?_,?_,?_,?_,?_,?_,?_,?_,?_,?_,?_,?_,?_,?_,?_,?_,trivial⟩ ?_
 ·intro Lx g69 s K hl hh k
  show At 60 ((0,_)::(1,_)::(4,_)::(5,_)::Lx) _ _
  refine am ?_
  exact Qs k
 ·intro Lx g69 s K hl hh k
  show At 60 ((0,_)::(1,_)::(4,_)::(5,_)::Lx) _ _
  refine am ?_
  exact Qs k
 ·intro Lx g69 s K hl hh k
  show At 60 ((41,_)::(0,_)::(1,_)::(4,_)::(5,_)::Lx) _ _
  refine aw (QbD underlying46 sizeOf9 rfl rfl h54 hp55) ?_
  exact Qs k
 ·intro Lx g69 s K hl hh k
  show At 60 ((42,_)::(0,_)::(1,_)::(4,_)::(5,_)::Lx) _ _
  obtain rfl:s=0:=by omega
  refine aw (Qe isAgg9 rfl (fun w1 hw=>QP (W:=fun w1=>w1=_) (fun w1 h=>by subst h;exact Below.refl _ _) (RowK.row (RowK.mono hz1 (QaX .z hw))) h54 hp55 rfl _ rfl)) ?_
  exact Qs k
 ·intro Lx g69 K k
  show At 60 ((40,_)::(43,_)::(0,_)::(1,_)::(4,_)::(5,_)::Lx) _ _
  refine QbM (E':=Qi b0_ (Cd.cs Qt t58.2) 44) func48 rfl (by kernel_rfl) rfl rfl (fun w hw=>QbY _ _ _ _ _ ht58 w (.s .z) hw hg_strconv_ErrRange hg_strconv_ErrSyntax) ?_
  exact Qs k
 ·intro Lx g69 s K hl hh k
  show At 60 ((0,_)::(1,_)::(4,_)::(5,_)::Lx) _ _
  refine am ?_
  exact Qs k
 ·intro Lx g69 s K hl hh k
  show At 60 ((0,_)::(1,_)::(4,_)::(5,_)::Lx) _ _
  refine am ?_
  exact Qs k
 ·intro Lx g69 s K hl hh k
  show At 60 ((46,_)::(0,_)::(1,_)::(4,_)::(5,_)::Lx) _ _
  refine aw (QbD underlying46 sizeOf9 rfl rfl h59 hp60) ?_
  exact Qs k
 ·intro Lx g69 s K hl hh k
  show At 60 ((47,_)::(0,_)::(1,_)::(4,_)::(5,_)::Lx) _ _
  rcases (by omega:s=0∨s=1) with rfl | rfl
  ·skip
   refine aw (Qe isAgg9 rfl (fun w1 hw=>QP (W:=fun w1=>w1=_) (fun w1 h=>by subst h;exact Below.refl _ _) (RowK.row (RowK.mono hz1 (QaX .z hw))) h59 hp60 rfl _ rfl)) ?_
   exact Qs k
  skip
  refine aw (Qe isAgg9 rfl (fun w1 hw=>QP (W:=fun w1=>w1=_) (fun w1 h=>by subst h;exact Below.refl _ _) (RowK.row (RowK.mono hz1 (QaX .z hw))) h59 hp60 rfl _ rfl)) ?_
  exact Qs k
 ·intro Lx g69 K k
  show At 60 ((45,_)::(48,_)::(0,_)::(1,_)::(4,_)::(5,_)::Lx) _ _
  refine QbM (E':=Qi b0_ (Cd.cs Qt t63.2) 44) func48 rfl (by kernel_rfl) rfl rfl (fun w hw=>QbY _ _ _ _ _ ht63 w (.s .z) hw hg_strconv_ErrRange hg_strconv_ErrSyntax) ?_
  exact Qs k
 ·intro Lx g69 s K hl hh k
  show At 60 ((0,_)::(1,_)::(4,_)::(5,_)::Lx) _ _
  refine am ?_
  exact Qs k
 ·intro Lx g69 s K hl hh k
  show At 60 ((0,_)::(1,_)::(4,_)::(5,_)::Lx) _ _
  refine am ?_
  exact Qs k
 ·intro Lx g69 s K hl hh k
  show At 60 ((51,_)::(0,_)::(1,_)::(4,_)::(5,_)::Lx) _ _
  refine aw (QbD underlying46 sizeOf9 rfl rfl h64 hp65) ?_
  exact Qs k
 ·intro Lx g69 s K hl hh k
  show At 60 ((52,_)::(0,_)::(1,_)::(4,_)::(5,_)::Lx) _ _
  rcases (by omega:s=0∨s=1∨s=2) with rfl | rfl | rfl
  ·skip
   refine aw (Qe isAgg9 rfl (fun w1 hw=>QP (W:=fun w1=>w1=_) (fun w1 h=>by subst h;exact Below.refl _ _) (RowK.row (RowK.mono hz1 (QaX .z hw))) h64 hp65 rfl _ rfl)) ?_
   exact Qs k
  ·skip
   refine aw (Qe isAgg9 rfl (fun w1 hw=>QP (W:=fun w1=>w1=_) (fun w1 h=>by subst h;exact Below.refl _ _) (RowK.row (RowK.mono hz1 (QaX .z hw))) h64 hp65 rfl _ rfl)) ?_
   exact Qs k
  skip
  refine aw (Qe isAgg9 rfl (fun w1 hw=>QP (W:=fun w1=>w1=_) (fun w1 h=>by subst h;exact Below.refl _ _) (RowK.row (RowK.mono hz1 (QaX .z hw))) h64 hp65 rfl _ rfl)) ?_
  exact Qs k
 ·intro Lx g69 K k
  show At 60 ((50,_)::(53,_)::(0,_)::(1,_)::(4,_)::(5,_)::Lx) _ _
  refine QbM (E':=Qi b0_ (Cd.cs Qt t68.2) 44) func48 rfl (by kernel_rfl) rfl rfl (fun w hw=>QbY _ _ _ _ _ ht68 w (.s .z) hw hg_strconv_ErrRange hg_strconv_ErrSyntax) ?_
  exact Qs k
 ·intro Lx g69 s K hl hh k
  show At 60 ((54,_)::(0,_)::(1,_)::(4,_)::(5,_)::Lx) _ _
  refine aw (QaW underlying41 underlying3 rfl) ?_
  exact Qs k
 ·intro Lx g69 s K hl hh k
  show At 60 ((0,_)::(1,_)::(4,_)::(5,_)::Lx) _ _
  refine fa 84 underlying60 rfl sizeOf41 ?_
  exact Qs k
 ·intro Lx g69 K k
  show At 60 ((44,_)::(56,_)::(0,_)::(1,_)::(4,_)::(5,_)::Lx) _ _
  refine Qn (c:=(Qv .u64)) (z:=t58.1) (.s (.s .z)) (Qb4 ((((g24 2).2.2.2.2.2.2 0)).1,(((g24 2).2.2.2.2.2.2 0)).2) ({ { { QfE with f_Key:=t7.1 } with f_Psk:=t12.1 } with f_Allowed:=t17.1 })) sizeOf41 rfl rfl rfl ?_
  exact Qs k
 ·intro Lx g69 s K hl hh k
  show At 60 ((0,_)::(1,_)::(4,_)::(5,_)::Lx) _ _
  refine fa 83 underlying60 rfl sizeOf41 ?_
  exact Qs k
 ·intro Lx g69 K k
  show At 60 ((49,_)::(57,_)::(0,_)::(1,_)::(4,_)::(5,_)::Lx) _ _
  refine Qn (c:=(Qv .u64)) (z:=t63.1) (.s (.s .z)) (QbT ((((g24 2).2.2.2.2.2.2 0)).1,(((g24 2).2.2.2.2.2.2 0)).2) ({ { { { QfE with f_Key:=t7.1 } with f_Psk:=t12.1 } with f_Allowed:=t17.1 } with f_Got:=t58.1 })) sizeOf41 rfl rfl rfl ?_
  exact Qs k
 ·intro Lx g69 s K hl hh k
  show At 60 ((0,_)::(1,_)::(4,_)::(5,_)::Lx) _ _
  refine fa 82 underlying60 rfl sizeOf3 ?_
  exact Qs k
 ·intro Lx g69 K k
  show At 60 ((55,_)::(58,_)::(0,_)::(1,_)::(4,_)::(5,_)::Lx) _ _
  refine Qn (c:=(Qv .i64)) (z:=wr .i64 t68.1) (.s (.s .z)) (Qbr ((((g24 2).2.2.2.2.2.2 0)).1,(((g24 2).2.2.2.2.2.2 0)).2) ({ { { { { QfE with f_Key:=t7.1 } with f_Psk:=t12.1 } with f_Allowed:=t17.1 } with f_Got:=t58.1 } with f_Sent:=t63.1 })) sizeOf3 rfl rfl rfl ?_
  exact Qs k
 intro g69
 show At 60 [(40,_),(41,_),(42,_),(43,_),(44,_),(45,_),(46,_),(47,_),(48,_),(49,_),(50,_),(51,_),(52,_),(53,_),(54,_),(55,_),(56,_),(57,_),(58,_),(0,_),(1,_),(4,_),(5,_)] _ _
 refine tn (sr ?_)
 refine aw (Qg (c:=Qf) (z:=(((((g24 2).2.2.2.2.2.2 0)).1,(((g24 2).2.2.2.2.2.2 0)).2),{ { { { { { QfE with f_Key:=t7.1 } with f_Psk:=t12.1 } with f_Allowed:=t17.1 } with f_Got:=t58.1 } with f_Sent:=t63.1 } with f_Keep:=wr .i64 t68.1 })) isAgg60 sizeOf60 rfl (Qp (.s (.s .z)) lw)) ?_
 refine Qn (c:=Qf) (z:=(((((g24 2).2.2.2.2.2.2 0)).1,(((g24 2).2.2.2.2.2.2 0)).2),{ { { { { { QfE with f_Key:=t7.1 } with f_Psk:=t12.1 } with f_Allowed:=t17.1 } with f_Got:=t58.1 } with f_Sent:=t63.1 } with f_Keep:=wr .i64 t68.1 })) (.s (.s (.s .z))) lw sizeOf60 rfl rfl rfl ?_
 refine qn ?_
 refine Qam (H:=_) (.s (.s .z)) ?_
 refine wq [4] ?_
 refine tn (qt ?_)
 have hN70:Qu (KZ w0 ((g24 2).2.2.2.2.1)) ((g24 2).2.2.2.2.2.1) (((((g24 2).2.2.2.2.2.2 0)).1,(((g24 2).2.2.2.2.2.2 0)).2),{ { { { { { QfE with f_Key:=t7.1 } with f_Psk:=t12.1 } with f_Allowed:=t17.1 } with f_Got:=t58.1 } with f_Sent:=t63.1 } with f_Keep:=wr .i64 t68.1 }):=hk22
 refine Qac (.s .z) ?_
 refine Qac (.s .z) ?_
 refine Qac (.s (.s .z)) ?_
 have K:=os hF
 subst K
 exact Qd9 rfl (QE (c:=Qf) (y:=(((((g24 2).2.2.2.2.2.2 0)).1,(((g24 2).2.2.2.2.2.2 0)).2),{ { { { { { QfE with f_Key:=t7.1 } with f_Psk:=t12.1 } with f_Allowed:=t17.1 } with f_Got:=t58.1 } with f_Sent:=t63.1 } with f_Keep:=wr .i64 t68.1 })) rfl .z lw isAgg60 sizeOf60 (.inl rfl)) (fun w1 hw=>⟨(g24 2).2.2.2.2.1,(g24 2).2.2.2.2.2.1,((((g24 2).2.2.2.2.2.2 0)).1,(((g24 2).2.2.2.2.2.2 0)).2),hM_,rfl,hN70,hw.pop⟩)
end Go.Proofs.YtnekckhjmnhinaaGreatDoor
namespace Go.Proofs.YtnekckhjmnhinaaGreatDoor
open E Go.RowKit _root_.Go.Proofs.Tryz
theorem QnD:(Tryz.prog.info? 60).isSome=true:=by kernel_rfl
noncomputable def Qpt:TypeInfo:=(Tryz.prog.info? 60).get QnD
theorem QoF:Tryz.prog.info? 60=some Qpt:=(Option.some_get _).symm
theorem QnC:(Tryz.prog.info? 74).isSome=true:=by kernel_rfl
noncomputable def Qps:TypeInfo:=(Tryz.prog.info? 74).get QnC
theorem QsO:Tryz.prog.info? 74=some Qps:=(Option.some_get _).symm
def QaC.l0(t38:List ByteArray)(i44:Int)(i45:Qq):Option (Qq) :=
 if (decide (i44<(t38.length:Int)))=true then (if (0:Int)≤i44∧i44<(t38.length:Int) then Qcv (QO t38 i44)>>=fun t55=>if (i45.f_Allowed.length+1)*32≤140737488355328 then QaC.l0 t38 (wr .i64 (i44+1)) ({ i45 with f_Allowed:=i45.f_Allowed++[t55.1] }) else none else none) else (some i45)
 partial_fixpoint
def QaC(x0:List ByteArray):Option (Qq) :=
 if (0:Int)≤0∧0<(x0.length:Int) then Qb8 (QO x0 0)>>=fun t7=>if (0:Int)≤1∧1<(x0.length:Int) then Qb8 (QO x0 1)>>=fun t12=>(if (0:Int)≤2∧2<(x0.length:Int) then if (!seq (QO x0 2) (⟨#[40,110,111,110,101,41]⟩:ByteArray))=true then (if (0:Int)≤2∧2<(x0.length:Int) then Qcu (QO x0 2)>>=fun t28=>some ({ { { ({ f_Key:=(Vector.replicate 32 (0:Int):(Vector Int 32)),f_Psk:=(Vector.replicate 32 (0:Int):(Vector Int 32)),f_End:=({ f_A:=({ f_V:=(0:Int),f_B:=(Vector.replicate 16 (0:Int):(Vector Int 16)) }:Qj),f_Port:=(0:Int) }:Qr),f_Keep:=(0:Int),f_Sent:=(0:Int),f_Got:=(0:Int),f_Allowed:=([]:List Qo) }:Qq) with f_Key:=t7.1 } with f_Psk:=t12.1 } with f_End:=t28.1 }) else none) else (some ({ { ({ f_Key:=(Vector.replicate 32 (0:Int):(Vector Int 32)),f_Psk:=(Vector.replicate 32 (0:Int):(Vector Int 32)),f_End:=({ f_A:=({ f_V:=(0:Int),f_B:=(Vector.replicate 16 (0:Int):(Vector Int 16)) }:Qj),f_Port:=(0:Int) }:Qr),f_Keep:=(0:Int),f_Sent:=(0:Int),f_Got:=(0:Int),f_Allowed:=([]:List Qo) }:Qq) with f_Key:=t7.1 } with f_Psk:=t12.1 })) else none)>>=fun q15=>if (0:Int)≤3∧3<(x0.length:Int) then if (!seq (QO x0 3) (⟨#[40,110,111,110,101,41]⟩:ByteArray))=true then (if (0:Int)≤3∧3<(x0.length:Int) then QG (QO x0 3) 44>>=fun t38=>QaC.l0 t38 0 q15>>=fun q43=>if (0:Int)≤4∧4<(x0.length:Int) then QA (QO x0 4) 18446744073709551615>>=fun t65=>if (0:Int)≤5∧5<(x0.length:Int) then QA (QO x0 5) 18446744073709551615>>=fun t70=>if (0:Int)≤6∧6<(x0.length:Int) then QA (QO x0 6) 65535>>=fun t75=>some ({ { { q43 with f_Got:=t65.1 } with f_Sent:=t70.1 } with f_Keep:=wr .i64 t75.1 }) else none else none else none else none) else (if (0:Int)≤4∧4<(x0.length:Int) then QA (QO x0 4) 18446744073709551615>>=fun t83=>if (0:Int)≤5∧5<(x0.length:Int) then QA (QO x0 5) 18446744073709551615>>=fun t88=>if (0:Int)≤6∧6<(x0.length:Int) then QA (QO x0 6) 65535>>=fun t93=>some ({ { { q15 with f_Got:=t83.1 } with f_Sent:=t88.1 } with f_Keep:=wr .i64 t93.1 }) else none else none else none) else none else none else none
theorem QeP{x0:List ByteArray}{r:Qq}(hF:QaC x0=some r):∀ {w0 w:World} {G_:List Ent} {Z_:List Nat} {s_:World} {p0_:Option Addr} {c0_:Nat} (hz0:RowK (KZ w0 Z_) QbA s_ p0_ c0_ x0) (hw_:Wd w0 (QcM w0 Z_ s_::G_) w),
    Calls Tryz.prog 22 #[.slice p0_ x0.length c0_] w (fun e w'=>∃ (Z':List Nat) (s':World) (z:QR),Qc7 (KZ w0 Z_) s_ (KZ w0 Z') s'∧e=.returned (.agg (Cd.cs Qf (z,r)).toArray)∧(Qu (KZ w0 Z') s' (z,r))∧Wd w0 (QcM w0 Z' s'::G_) w'):=by
 intro w0 w G_ Z_ s_ p0_ c0_ hz0 hw_
 unfold QaC at hF
 refine ce (l:=[.slice p0_ x0.length c0_]) func22 rfl rfl ?_
 refine QfX hw_ ?_
 clear hw_
 obtain ⟨Z0_,hZ0_⟩:∃ Z0_,Z0_=Z_:=⟨_,rfl⟩
 obtain ⟨s0_,hs0_⟩:∃ s0_,s0_=s_:=⟨_,rfl⟩
 have hM_:Qc7 (KZ w0 Z0_) s0_ (KZ w0 Z_) s_:=by rw [hZ0_,hs0_];exact Qc7.refl _ _
 rw [←hZ0_,←hs0_]
 rw [show QcM w0 Z0_ s0_=QcM w0 Z_ s_ from by rw [hZ0_,hs0_]]
 refine sr ?_
 refine al (cs:=Cd.cs Qf QeF) zeroValue60 ?_
 intro b1
 refine ns ?_
 refine al (cs:=Cd.cs Qf QeF) zeroValue60 ?_
 intro b2
 refine ns (am ?_)
 obtain ⟨h3,hF⟩:=gd hF
 obtain ⟨b5,o6,hp4⟩:=Qaa (RowK.row hz0) h3
 refine aw (QbD underlying46 sizeOf9 rfl rfl h3 hp4) ?_
 refine aw (Qe isAgg9 rfl (fun w1 hw=>QP (W:=fun w1=>w1=_) (fun w1 h=>by subst h;exact Below.refl _ _) (RowK.row (RowK.mono hz0 (QaX (.s (.s .z)) hw))) h3 hp4 rfl _ rfl)) ?_
 obtain ⟨t7,ht7,hF⟩:=bM hF
 refine cB func20 rfl (fun w hw=>Qdy _ _ ht7 w) ?_
 refine am ?_
 refine aw xe (aw xe (fa 0 underlying60 rfl sizeOf24 ?_))
 refine Qn (c:=(QQ (Qv .u8) 32 (by decide))) (z:=t7.1) .z (Qbo zv8 QfE) sizeOf24 rfl rfl rfl ?_
 refine ns (am ?_)
 obtain ⟨h8,hF⟩:=gd hF
 obtain ⟨b10,o11,hp9⟩:=Qaa (RowK.row hz0) h8
 refine aw (QbD underlying46 sizeOf9 rfl rfl h8 hp9) ?_
 refine aw (Qe isAgg9 rfl (fun w1 hw=>QP (W:=fun w1=>w1=_) (fun w1 h=>by subst h;exact Below.refl _ _) (RowK.row (RowK.mono hz0 (QaX (.s (.s .z)) hw))) h8 hp9 rfl _ rfl)) ?_
 obtain ⟨t12,ht12,hF⟩:=bM hF
 refine cB func20 rfl (fun w hw=>Qdy _ _ ht12 w) ?_
 refine am ?_
 refine aw xe (aw xe (fa 32 underlying60 rfl sizeOf24 ?_))
 refine Qn (c:=(QQ (Qv .u8) 32 (by decide))) (z:=t12.1) .z (QcG zv8 ({ QfE with f_Key:=t7.1 })) sizeOf24 rfl rfl rfl ?_
 refine nwq [3,2,0] ?_
 refine Qco Qc 74 ?_
 obtain ⟨q15,hq15,hF⟩:=bM hF
 refine Qjx (A:=fun Y=>∀ (p17:Option Addr) (c18:Nat),At 93 [(0,.slice p0_ x0.length c0_),(2,.pointer (some ⟨b1,0,none⟩)),(3,.pointer (some ⟨b2,0,none⟩))] (Wd w0 (Qi b2 (Cd.cs Qf ((p17,c18),q15)) 60::Qbm Qc 74 p17 c18 q15.f_Allowed::Qi b1 (Cd.cs Qf QeF) 60::QcM w0 Z_ s_::G_)) Y) ?_ ?_
 ·intro Y K
  replace hF:=hq15
  refine sr (am ?_)
  obtain ⟨h19,hF⟩:=gd hF
  obtain ⟨b21,o22,hp20⟩:=Qaa (RowK.row hz0) h19
  refine aw (QbD underlying46 sizeOf9 rfl rfl h19 hp20) ?_
  refine aw (Qe isAgg9 rfl (fun w1 hw=>QP (W:=fun w1=>w1=_) (fun w1 h=>by subst h;exact Below.refl _ _) (RowK.row (RowK.mono hz0 (QaX (.s (.s (.s .z))) hw))) h19 hp20 rfl _ rfl)) ?_
  refine aw (Qmu rfl rfl) ?_
  refine nwq [29,3,2,0] ?_
  obtain ⟨h23,hF⟩|⟨h23,hF⟩:=oi hF
  ·refine ct h23 ?_
   refine qr (am ?_)
   obtain ⟨h24,hF⟩:=gd hF
   obtain ⟨b26,o27,hp25⟩:=Qaa (RowK.row hz0) h24
   refine aw (QbD underlying46 sizeOf9 rfl rfl h24 hp25) ?_
   refine aw (Qe isAgg9 rfl (fun w1 hw=>QP (W:=fun w1=>w1=_) (fun w1 h=>by subst h;exact Below.refl _ _) (RowK.row (RowK.mono hz0 (QaX (.s (.s (.s .z))) hw))) h24 hp25 rfl _ rfl)) ?_
   obtain ⟨t28,ht28,hF⟩:=bM hF
   refine cB func55 rfl (fun w hw=>Qgu _ _ ht28 w) ?_
   refine am ?_
   refine aw xe (aw xe (fa 64 underlying60 rfl sizeOf57 ?_))
   refine Qn (c:=Qb) (z:=t28.1) (.s .z) (QbE ((nn 14),(0:Nat)) ({ { QfE with f_Key:=t7.1 } with f_Psk:=t12.1 })) sizeOf57 rfl rfl rfl ?_
   refine nwq [3,2,0] ?_
   obtain rfl:=os hF
   refine Qac (.s .z) ?_
   exact Qk (K (nn 14) 0) ⟨rfl,rfl,rfl,trivial⟩
  refine cf h23 ?_
  refine sn ?_
  obtain rfl:=os hF
  refine Qac (.s .z) ?_
  exact Qk (K (nn 14) 0) ⟨rfl,rfl,rfl,trivial⟩
 skip
 intro p17 c18
 refine qs (sr (am ?_))
 obtain ⟨h29,hF⟩:=gd hF
 obtain ⟨b31,o32,hp30⟩:=Qaa (RowK.row hz0) h29
 refine aw (QbD underlying46 sizeOf9 rfl rfl h29 hp30) ?_
 refine aw (Qe isAgg9 rfl (fun w1 hw=>QP (W:=fun w1=>w1=_) (fun w1 h=>by subst h;exact Below.refl _ _) (RowK.row (RowK.mono hz0 (QaX (.s (.s (.s .z))) hw))) h29 hp30 rfl _ rfl)) ?_
 refine aw (Qmu rfl rfl) ?_
 refine nwq [41,3,2,0] ?_
 obtain ⟨h33,hF⟩|⟨h33,hF⟩:=oi hF
 ·refine ct h33 ?_
  refine sr (am ?_)
  obtain ⟨h34,hF⟩:=gd hF
  obtain ⟨b36,o37,hp35⟩:=Qaa (RowK.row hz0) h34
  refine aw (QbD underlying46 sizeOf9 rfl rfl h34 hp35) ?_
  refine aw (Qe isAgg9 rfl (fun w1 hw=>QP (W:=fun w1=>w1=_) (fun w1 h=>by subst h;exact Below.refl _ _) (RowK.row (RowK.mono hz0 (QaX (.s (.s (.s .z))) hw))) h34 hp35 rfl _ rfl)) ?_
  obtain ⟨t38,ht38,hF⟩:=bM hF
  refine QbU (c:=QbA) (e:=9) (ys:=t38) (V:=fun p cap=>.slice p t38.length cap) func19 rfl (by kernel_rfl) rfl rfl (fun w hw=>Qak _ _ _ ht38 w) ?_
  intro p39 c40
  refine aa (ns (aa (nwq [5,4,3,2,0] ?_)))
  refine qb ?_
  obtain ⟨q43,hq43,hF⟩:=bM hF
  refine wq [5,4,3,2,0] ?_
  refine Qal (B:=0) (A:=fun Y=>∀ (p48:Option Addr) (c49:Nat),At 93 [(0,.slice p0_ x0.length c0_),(2,.pointer (some ⟨b1,0,none⟩)),(3,.pointer (some ⟨b2,0,none⟩))] (Wd w0 (Qi b2 (Cd.cs Qf ((p48,c49),q43)) 60::Qbm Qc 74 p48 c49 q43.f_Allowed::Qi b1 (Cd.cs Qf QeF) 60::QcM w0 Z_ s_::G_)) Y) ?_ ?_
  ·intro K
   refine QaC.l0.partial_correctness t38 (motive:=fun i44 i45 x=>KN (fun Y=>∀ (p48:Option Addr) (c49:Nat),At 93 [(0,.slice p0_ x0.length c0_),(2,.pointer (some ⟨b1,0,none⟩)),(3,.pointer (some ⟨b2,0,none⟩))] (Wd w0 (Qi b2 (Cd.cs Qf ((p48,c49),x)) 60::Qbm Qc 74 p48 c49 x.f_Allowed::Qi b1 (Cd.cs Qf QeF) 60::QcM w0 Z_ s_::G_)) Y) _ 0→QbB (fun Y=>∀ (p46:Option Addr) (c47:Nat),At 93 [(0,.slice p0_ x0.length c0_),(2,.pointer (some ⟨b1,0,none⟩)),(3,.pointer (some ⟨b2,0,none⟩)),(4,.slice p39 t38.length c40),(5,.int .i64 i44)] (Wd w0 (Qbm QbA 9 p39 c40 t38::Qi b2 (Cd.cs Qf ((p46,c47),i45)) 60::Qbm Qc 74 p46 c47 i45.f_Allowed::Qi b1 (Cd.cs Qf QeF) 60::QcM w0 Z_ s_::G_)) Y) _ _ _) ?_ _ _ _ hq43 K p17 c18
   ·clear K hF
    intro g ih i44 i45 x hF K p46 c47
    refine QW ?_
    refine qs (sr (am (am ?_)))
    refine aw (QZ underlying46 rfl) ?_
    refine aw xl (nwq [49,5,4,3,2,0] ?_)
    obtain ⟨h50,hF⟩|⟨h50,hF⟩:=oi hF
    ·refine ct h50 ?_
     refine sn (qs (qb (sr (am (am ?_)))))
     obtain ⟨h51,hF⟩:=gd hF
     refine Qae (φ:=∃ b o,p39=some ⟨b,o,none⟩) (fun _ hw=>Qaa (hw.own .z).row h51) ?_
     rintro ⟨b53,o54,hp52⟩
     refine aw (QbD underlying46 sizeOf9 rfl rfl h51 hp52) ?_
     refine aw (Qe isAgg9 rfl (fun _ hw=>QP (W:=fun w1=>w1=_) (fun w1 h=>by subst h;exact Below.refl _ _) (hw.own .z).row h51 hp52 rfl _ rfl)) ?_
     obtain ⟨t55,ht55,hF⟩:=bM hF
     refine cB func56 rfl (fun w hw=>Qgv _ _ ht55 w) ?_
     refine am ?_
     refine aw xe (aw xe ?_)
     refine al (cs:=Cd.cs Qc Qdl) zeroValue74 ?_
     intro b56
     refine Qn (c:=Qc) (z:=t55.1) .z lw sizeOf74 rfl rfl rfl ?_
     refine aa (nt (qr (fa 85 underlying60 rfl sizeOf58 ?_)))
     refine aw (Qe isAgg58 rfl (Qm (c:=cHd) (y:=⟨(p46,c47).1,List.length i45.f_Allowed,(p46,c47).2⟩) (.s (.s .z)) (QaP (p46,c47) i45) rfl)) ?_
     refine aw (Qg (c:=Qc) (z:=t55.1) isAgg74 sizeOf74 rfl (Qp .z lw)) ?_
     refine QhP (c:=Qc) ([Qdl]:List Qo) ([t55.1]:List Qo) underlying58 sizeOf74 zeroValue74 rfl rfl rfl (by kernel_rfl) (QaB (c:=Qc) (z:=t55.1) rfl (Qaf.all Qc ([Qdl]:List Qo) 0 (by first | decide | exact Nat.le_of_ble_eq_true rfl)) rfl rfl) rfl ?_
     intro b57
     obtain ⟨h58,hF⟩:=gd hF
     refine Qcl (z:=.agg (Cd.cs Qc Qdl).toArray) (c:=Qc) (ys:=([t55.1]:List Qo)) (.s (.s (.s (.s .z)))) underlying58 QsO (by kernel_rfl) (by kernel_rfl) rfl rfl rfl rfl (fun _ hw=>QbX (hw.ok (Upd.mem .z))) (by kernel_rfl) h58 (QbR h58) rfl ?_
     intro p59 c60
     refine fa 85 underlying60 rfl sizeOf58 ?_
     refine Qn (c:=cSv Qo) (z:=((p59,c60),i45.f_Allowed++[t55.1])) (.s (.s (.s .z))) (Qgh (p46,c47) i45) sizeOf58 rfl rfl rfl ?_
     refine qn (dz (dz (wq [5,4,3,2,0] ?_)))
     refine bm ?_
     refine qr (am (aw xa (aa (nwq [5,4,3,2,0] ?_))))
     exact Qk (ih _ _ _ hF K p59 c60) ⟨rfl,rfl,rfl,rfl,rfl,trivial⟩
    refine cf h50 ?_
    refine Q7 ?_
    refine te (te ?_)
    refine dz ?_
    obtain rfl:=os hF
    exact Qk (K p46 c47) ⟨rfl,rfl,rfl,trivial⟩
  skip
  intro p48 c49
  refine QD ?_
  refine tn (sr (am ?_))
  obtain ⟨h61,hF⟩:=gd hF
  obtain ⟨b63,o64,hp62⟩:=Qaa (RowK.row hz0) h61
  refine aw (QbD underlying46 sizeOf9 rfl rfl h61 hp62) ?_
  refine aw (Qe isAgg9 rfl (fun w1 hw=>QP (W:=fun w1=>w1=_) (fun w1 h=>by subst h;exact Below.refl _ _) (RowK.row (RowK.mono hz0 (QaX (.s (.s (.s .z))) hw))) h61 hp62 rfl _ rfl)) ?_
  obtain ⟨t65,ht65,hF⟩:=bM hF
  refine Qav func21 rfl (by kernel_rfl) rfl rfl (fun w=>Qah _ _ _ ht65 w) ?_
  refine am ?_
  refine aw xe (aw xe (fa 84 underlying60 rfl sizeOf41 ?_))
  refine Qn (c:=(Qv .u64)) (z:=t65.1) .z (Qb4 (p48,c49) q43) sizeOf41 rfl rfl rfl ?_
  refine ns (am ?_)
  obtain ⟨h66,hF⟩:=gd hF
  obtain ⟨b68,o69,hp67⟩:=Qaa (RowK.row hz0) h66
  refine aw (QbD underlying46 sizeOf9 rfl rfl h66 hp67) ?_
  refine aw (Qe isAgg9 rfl (fun w1 hw=>QP (W:=fun w1=>w1=_) (fun w1 h=>by subst h;exact Below.refl _ _) (RowK.row (RowK.mono hz0 (QaX (.s (.s (.s .z))) hw))) h66 hp67 rfl _ rfl)) ?_
  obtain ⟨t70,ht70,hF⟩:=bM hF
  refine Qav func21 rfl (by kernel_rfl) rfl rfl (fun w=>Qah _ _ _ ht70 w) ?_
  refine am ?_
  refine aw xe (aw xe (fa 83 underlying60 rfl sizeOf41 ?_))
  refine Qn (c:=(Qv .u64)) (z:=t70.1) .z (QbT (p48,c49) ({ q43 with f_Got:=t65.1 })) sizeOf41 rfl rfl rfl ?_
  refine ns (am ?_)
  obtain ⟨h71,hF⟩:=gd hF
  obtain ⟨b73,o74,hp72⟩:=Qaa (RowK.row hz0) h71
  refine aw (QbD underlying46 sizeOf9 rfl rfl h71 hp72) ?_
  refine aw (Qe isAgg9 rfl (fun w1 hw=>QP (W:=fun w1=>w1=_) (fun w1 h=>by subst h;exact Below.refl _ _) (RowK.row (RowK.mono hz0 (QaX (.s (.s (.s .z))) hw))) h71 hp72 rfl _ rfl)) ?_
  obtain ⟨t75,ht75,hF⟩:=bM hF
  refine Qav func21 rfl (by kernel_rfl) rfl rfl (fun w=>Qah _ _ _ ht75 w) ?_
  refine am ?_
  refine aw xe (aw xe (aa (aa (ns (am ?_)))))
  refine aw (QaW underlying41 underlying3 rfl) ?_
  refine fa 82 underlying60 rfl sizeOf3 ?_
  refine Qn (c:=(Qv .i64)) (z:=wr .i64 t75.1) .z (Qbr (p48,c49) ({ { q43 with f_Got:=t65.1 } with f_Sent:=t70.1 })) sizeOf3 rfl rfl rfl ?_
  refine ns ?_
  refine aw (Qg (c:=Qf) (z:=((p48,c49),{ { { q43 with f_Got:=t65.1 } with f_Sent:=t70.1 } with f_Keep:=wr .i64 t75.1 })) isAgg60 sizeOf60 rfl (Qp .z lw)) ?_
  refine Qn (c:=Qf) (z:=((p48,c49),{ { { q43 with f_Got:=t65.1 } with f_Sent:=t70.1 } with f_Keep:=wr .i64 t75.1 })) (.s (.s .z)) lw sizeOf60 rfl rfl rfl ?_
  refine qn (dz (wq [2] ?_))
  refine tn (qt ?_)
  refine Qd2 (.s .z) ?_
  intro Z_ s_ hm77 hk78
  replace hM_:=Qc7.mono hM_ hm77
  replace hz0:=RowK.mono hz0 hm77
  have hN76:Qu (KZ w0 Z_) s_ ((p48,c49),{ { { q43 with f_Got:=t65.1 } with f_Sent:=t70.1 } with f_Keep:=wr .i64 t75.1 }):=hk78
  have K:=os hF
  subst K
  exact Qd9 rfl (QE (c:=Qf) (y:=((p48,c49),{ { { q43 with f_Got:=t65.1 } with f_Sent:=t70.1 } with f_Keep:=wr .i64 t75.1 })) rfl .z lw isAgg60 sizeOf60 (.inl rfl)) (fun w1 hw=>⟨Z_,s_,(p48,c49),hM_,rfl,hN76,hw.pop⟩)
 refine cf h33 ?_
 refine sns (am ?_)
 obtain ⟨h79,hF⟩:=gd hF
 obtain ⟨b81,o82,hp80⟩:=Qaa (RowK.row hz0) h79
 refine aw (QbD underlying46 sizeOf9 rfl rfl h79 hp80) ?_
 refine aw (Qe isAgg9 rfl (fun w1 hw=>QP (W:=fun w1=>w1=_) (fun w1 h=>by subst h;exact Below.refl _ _) (RowK.row (RowK.mono hz0 (QaX (.s (.s (.s .z))) hw))) h79 hp80 rfl _ rfl)) ?_
 obtain ⟨t83,ht83,hF⟩:=bM hF
 refine Qav func21 rfl (by kernel_rfl) rfl rfl (fun w=>Qah _ _ _ ht83 w) ?_
 refine am ?_
 refine aw xe (aw xe (fa 84 underlying60 rfl sizeOf41 ?_))
 refine Qn (c:=(Qv .u64)) (z:=t83.1) .z (Qb4 (p17,c18) q15) sizeOf41 rfl rfl rfl ?_
 refine ns (am ?_)
 obtain ⟨h84,hF⟩:=gd hF
 obtain ⟨b86,o87,hp85⟩:=Qaa (RowK.row hz0) h84
 refine aw (QbD underlying46 sizeOf9 rfl rfl h84 hp85) ?_
 refine aw (Qe isAgg9 rfl (fun w1 hw=>QP (W:=fun w1=>w1=_) (fun w1 h=>by subst h;exact Below.refl _ _) (RowK.row (RowK.mono hz0 (QaX (.s (.s (.s .z))) hw))) h84 hp85 rfl _ rfl)) ?_
 obtain ⟨t88,ht88,hF⟩:=bM hF
 refine Qav func21 rfl (by kernel_rfl) rfl rfl (fun w=>Qah _ _ _ ht88 w) ?_
 refine am ?_
 refine aw xe (aw xe (fa 83 underlying60 rfl sizeOf41 ?_))
 refine Qn (c:=(Qv .u64)) (z:=t88.1) .z (QbT (p17,c18) ({ q15 with f_Got:=t83.1 })) sizeOf41 rfl rfl rfl ?_
 refine ns (am ?_)
 obtain ⟨h89,hF⟩:=gd hF
 obtain ⟨b91,o92,hp90⟩:=Qaa (RowK.row hz0) h89
 refine aw (QbD underlying46 sizeOf9 rfl rfl h89 hp90) ?_
 refine aw (Qe isAgg9 rfl (fun w1 hw=>QP (W:=fun w1=>w1=_) (fun w1 h=>by subst h;exact Below.refl _ _) (RowK.row (RowK.mono hz0 (QaX (.s (.s (.s .z))) hw))) h89 hp90 rfl _ rfl)) ?_
 obtain ⟨t93,ht93,hF⟩:=bM hF
 refine Qav func21 rfl (by kernel_rfl) rfl rfl (fun w=>Qah _ _ _ ht93 w) ?_
 refine am ?_
 refine aw xe (aw xe (aa (aa (ns (am ?_)))))
 refine aw (QaW underlying41 underlying3 rfl) ?_
 refine fa 82 underlying60 rfl sizeOf3 ?_
 refine Qn (c:=(Qv .i64)) (z:=wr .i64 t93.1) .z (Qbr (p17,c18) ({ { q15 with f_Got:=t83.1 } with f_Sent:=t88.1 })) sizeOf3 rfl rfl rfl ?_
 refine ns ?_
 refine aw (Qg (c:=Qf) (z:=((p17,c18),{ { { q15 with f_Got:=t83.1 } with f_Sent:=t88.1 } with f_Keep:=wr .i64 t93.1 })) isAgg60 sizeOf60 rfl (Qp .z lw)) ?_
 refine Qn (c:=Qf) (z:=((p17,c18),{ { { q15 with f_Got:=t83.1 } with f_Sent:=t88.1 } with f_Keep:=wr .i64 t93.1 })) (.s (.s .z)) lw sizeOf60 rfl rfl rfl ?_
 refine qn (dz (wq [2] ?_))
 refine tn (qt ?_)
 refine Qd2 (.s .z) ?_
 intro Z_ s_ hm95 hk96
 replace hM_:=Qc7.mono hM_ hm95
 replace hz0:=RowK.mono hz0 hm95
 have hN94:Qu (KZ w0 Z_) s_ ((p17,c18),{ { { q15 with f_Got:=t83.1 } with f_Sent:=t88.1 } with f_Keep:=wr .i64 t93.1 }):=hk96
 have K:=os hF
 subst K
 exact Qd9 rfl (QE (c:=Qf) (y:=((p17,c18),{ { { q15 with f_Got:=t83.1 } with f_Sent:=t88.1 } with f_Keep:=wr .i64 t93.1 })) rfl .z lw isAgg60 sizeOf60 (.inl rfl)) (fun w1 hw=>⟨Z_,s_,(p17,c18),hM_,rfl,hN94,hw.pop⟩)
def Qax.l0(t3:List ByteArray)(i13:Int)(i14:Qx):Option (Ctl (Qx×Bool) (Qx)) :=
 if (decide (i13<(t3.length:Int)))=true then (if (0:Int)≤i13∧i13<(t3.length:Int) then QG (QO t3 i13) 9>>=fun t30=>if (i13==0)=true then (if ((t30.length:Int)==3)=true then (if (0:Int)≤0∧0<(t30.length:Int) then Qb8 (QO t30 0)>>=fun t39=>if (0:Int)≤1∧1<(t30.length:Int) then QA (QO t30 1) 65535>>=fun t44=>if (0:Int)≤2∧2<(t30.length:Int) then QA (QO t30 2) 4294967295>>=fun t49=>Qax.l0 t3 (wr .i64 (i13+1)) ({ { { i14 with f_Private:=t39.1 } with f_Port:=wr .i64 t44.1 } with f_Mark:=wr .u32 t49.1 }) else none else none else none) else (if (decide (i13>0))=true then (if ((t30.length:Int)==7)=true then (QaC t30>>=fun t54=>if (i14.f_Peers.length+1)*144≤140737488355328 then Qax.l0 t3 (wr .i64 (i13+1)) ({ i14 with f_Peers:=i14.f_Peers++[t54] }) else none) else (some (.ret (({ f_Private:=(Vector.replicate 32 (0:Int):(Vector Int 32)),f_Port:=(0:Int),f_Mark:=(0:Int),f_Peers:=([]:List Qq) }:Qx),false)))) else (some (.ret (({ f_Private:=(Vector.replicate 32 (0:Int):(Vector Int 32)),f_Port:=(0:Int),f_Mark:=(0:Int),f_Peers:=([]:List Qq) }:Qx),false))))) else (if (decide (i13>0))=true then (if ((t30.length:Int)==7)=true then (QaC t30>>=fun t75=>if (i14.f_Peers.length+1)*144≤140737488355328 then Qax.l0 t3 (wr .i64 (i13+1)) ({ i14 with f_Peers:=i14.f_Peers++[t75] }) else none) else (some (.ret (({ f_Private:=(Vector.replicate 32 (0:Int):(Vector Int 32)),f_Port:=(0:Int),f_Mark:=(0:Int),f_Peers:=([]:List Qq) }:Qx),false)))) else (some (.ret (({ f_Private:=(Vector.replicate 32 (0:Int):(Vector Int 32)),f_Port:=(0:Int),f_Mark:=(0:Int),f_Peers:=([]:List Qq) }:Qx),false)))) else none) else (some (.nx i14))
 partial_fixpoint
def Qax(x0:ByteArray):Option (Qx×Bool) :=
 Qcw x0>>=fun t3=>Qax.l0 t3 0 ({ f_Private:=(Vector.replicate 32 (0:Int):(Vector Int 32)),f_Port:=(0:Int),f_Mark:=(0:Int),f_Peers:=([]:List Qq) }:Qx)>>=fun q12=>match q12 with | .ret r'=>some r' | .nx sq12=>(QB sq12>>=fun t92=>if (!t92)=true then (some (({ f_Private:=(Vector.replicate 32 (0:Int):(Vector Int 32)),f_Port:=(0:Int),f_Mark:=(0:Int),f_Peers:=([]:List Qq) }:Qx),false)) else (Qaw sq12>>=fun t95=>if (!seq t95 x0)=true then (some (({ f_Private:=(Vector.replicate 32 (0:Int):(Vector Int 32)),f_Port:=(0:Int),f_Mark:=(0:Int),f_Peers:=([]:List Qq) }:Qx),false)) else (some (sq12,true))))
set_option maxHeartbeats 3200000 in
theorem QgQ{x0:ByteArray}{r:Qx×Bool}(hF:Qax x0=some r):∀ {w0 w:World} {G_:List Ent} {Z_:List Nat} {s_:World} (hw_:Wd w0 (QcM w0 Z_ s_::G_) w),
    Calls Tryz.prog 7 #[.string x0] w (fun e w'=>∃ (Z':List Nat) (s':World) (z:Qbs),Qc7 (KZ w0 Z_) s_ (KZ w0 Z') s'∧e=.returned (.tuple #[.agg (Cd.cs Qh (z,r.1)).toArray,.bool r.2])∧(Qao (KZ w0 Z') s' (z,r.1))∧Wd w0 (QcM w0 Z' s'::G_) w'):=by
 intro w0 w G_ Z_ s_   hw_
 unfold Qax at hF
 refine ce (l:=[.string x0]) func7 rfl rfl ?_
 refine QfX hw_ ?_
 clear hw_
 obtain ⟨Z0_,hZ0_⟩:∃ Z0_,Z0_=Z_:=⟨_,rfl⟩
 obtain ⟨s0_,hs0_⟩:∃ s0_,s0_=s_:=⟨_,rfl⟩
 have hM_:Qc7 (KZ w0 Z0_) s0_ (KZ w0 Z_) s_:=by rw [hZ0_,hs0_];exact Qc7.refl _ _
 rw [←hZ0_,←hs0_]
 rw [show QcM w0 Z0_ s0_=QcM w0 Z_ s_ from by rw [hZ0_,hs0_]]
 refine sr ?_
 refine al (cs:=Cd.cs Qh Qc1) zeroValue28 ?_
 intro b1
 refine aa (ns ?_)
 refine al (cs:=Cd.cs Qh Qc1) zeroValue28 ?_
 intro b2
 refine ns (am ?_)
 obtain ⟨t3,ht3,hF⟩:=bM hF
 refine QbU (c:=QbA) (e:=9) (ys:=t3) (V:=fun p cap=>.slice p t3.length cap) func18 rfl (by kernel_rfl) rfl rfl (fun w hw=>Qgz _ _ ht3 w) ?_
 intro p4 c5
 refine aa (nt (qs (sr (aa (nwq [6,5,4,2,0] ?_)))))
 refine qb ?_
 refine Qco Qf 60 ?_
 obtain ⟨q12,hq12,hF⟩:=bM hF
 refine Qac (.s (.s .z)) ?_
 refine Qac (.s (.s .z)) ?_
 refine wq [6,5,4,2,0] ?_
 refine Qbn (B:=0) (r:=r) (q:=q12) (A:=fun sq12 Y=>∀ (Z_:List Nat) (s_:World) (hM_:Qc7 (KZ w0 Z0_) s0_ (KZ w0 Z_) s_) (p20:Option Addr) (c21:Nat) (zs22:List (QR×Qq)) (hz23:List.map Prod.snd zs22=sq12.f_Peers) (ha24:∀ z∈zs22,Qu (KZ w0 Z_) s_ z),At 86 [(0,.string x0),(2,.pointer (some ⟨b1,0,none⟩)),(4,.pointer (some ⟨b2,0,none⟩))] (Wd w0 (Qi b2 (Cd.cs Qh ((p20,c21),sq12)) 28::Qbm Qf 60 p20 c21 zs22::Qi b1 (Cd.cs Qh Qc1) 28::QcM w0 Z_ s_::G_)) Y) ?_ ?_
 ·intro K
  refine Qax.l0.partial_correctness t3 (motive:=fun i13 i14 x=>KR (fun sq12 Y=>∀ (Z_:List Nat) (s_:World) (hM_:Qc7 (KZ w0 Z0_) s0_ (KZ w0 Z_) s_) (p20:Option Addr) (c21:Nat) (zs22:List (QR×Qq)) (hz23:List.map Prod.snd zs22=sq12.f_Peers) (ha24:∀ z∈zs22,Qu (KZ w0 Z_) s_ z),At 86 [(0,.string x0),(2,.pointer (some ⟨b1,0,none⟩)),(4,.pointer (some ⟨b2,0,none⟩))] (Wd w0 (Qi b2 (Cd.cs Qh ((p20,c21),sq12)) 28::Qbm Qf 60 p20 c21 zs22::Qi b1 (Cd.cs Qh Qc1) 28::QcM w0 Z_ s_::G_)) Y) _ 0 r x→QbB (fun Y=>∀ (Z_:List Nat) (s_:World) (hM_:Qc7 (KZ w0 Z0_) s0_ (KZ w0 Z_) s_) (p15:Option Addr) (c16:Nat) (zs17:List (QR×Qq)) (hz18:List.map Prod.snd zs17=(i14.f_Peers)) (ha19:∀ z∈zs17,Qu (KZ w0 Z_) s_ z),At 86 [(0,.string x0),(2,.pointer (some ⟨b1,0,none⟩)),(4,.pointer (some ⟨b2,0,none⟩)),(5,.slice p4 t3.length c5),(6,.int .i64 i13)] (Wd w0 (Qbm QbA 9 p4 c5 t3::Qi b2 (Cd.cs Qh ((p15,c16),i14)) 28::Qbm Qf 60 p15 c16 zs17::Qi b1 (Cd.cs Qh Qc1) 28::QcM w0 Z_ s_::G_)) Y) _ _ _) ?_ _ _ _ hq12 K Z_ s_ hM_ (nn 6) 0 ([]:List (QR×Qq)) rfl all_nil
  ·clear K hF
   intro g ih i13 i14 x hF K Z_ s_ hM_ p15 c16 zs17 hz18 ha19
   refine QW ?_
   refine qs (sr (am (am ?_)))
   refine aw (QZ underlying46 rfl) ?_
   refine aw xl (nwq [17,6,5,4,2,0] ?_)
   obtain ⟨h25,hF⟩|⟨h25,hF⟩:=oi hF
   ·refine ct h25 ?_
    refine sn (qs (qb (sr (am (am ?_)))))
    obtain ⟨h26,hF⟩:=gd hF
    refine Qae (φ:=∃ b o,p4=some ⟨b,o,none⟩) (fun _ hw=>Qaa (hw.own .z).row h26) ?_
    rintro ⟨b28,o29,hp27⟩
    refine aw (QbD underlying46 sizeOf9 rfl rfl h26 hp27) ?_
    refine aw (Qe isAgg9 rfl (fun _ hw=>QP (W:=fun w1=>w1=_) (fun w1 h=>by subst h;exact Below.refl _ _) (hw.own .z).row h26 hp27 rfl _ rfl)) ?_
    obtain ⟨t30,ht30,hF⟩:=bM hF
    refine QbU (c:=QbA) (e:=9) (ys:=t30) (V:=fun p cap=>.slice p t30.length cap) func19 rfl (by kernel_rfl) rfl rfl (fun w hw=>Qak _ _ _ ht30 w) ?_
    intro p31 c32
    refine aa (nwx [7,6,5,4,2,0] ?_)
    refine am (aw xq (am ?_))
    obtain ⟨h33,hF⟩|⟨h33,hF⟩:=oi hF
    ·refine fx 27 h33 ?_
     refine gy (am (gy ?_))
     refine aw (QZ underlying46 rfl) ?_
     refine gy (aw xq (aw xp (nwq [31,7,6,5,4,2,0] ?_)))
     obtain ⟨h34,hF⟩|⟨h34,hF⟩:=oi hF
     ·refine ct h34 ?_
      refine sr (am ?_)
      obtain ⟨h35,hF⟩:=gd hF
      refine Qae (φ:=∃ b o,p31=some ⟨b,o,none⟩) (fun _ hw=>Qaa (hw.own .z).row h35) ?_
      rintro ⟨b37,o38,hp36⟩
      refine aw (QbD underlying46 sizeOf9 rfl rfl h35 hp36) ?_
      refine aw (Qe isAgg9 rfl (fun _ hw=>QP (W:=fun w1=>w1=_) (fun w1 h=>by subst h;exact Below.refl _ _) (hw.own .z).row h35 hp36 rfl _ rfl)) ?_
      obtain ⟨t39,ht39,hF⟩:=bM hF
      refine cB func20 rfl (fun w hw=>Qdy _ _ ht39 w) ?_
      refine am ?_
      refine aw xe (aw xe (fa 0 underlying28 rfl sizeOf24 ?_))
      refine Qn (c:=(QQ (Qv .u8) 32 (by decide))) (z:=t39.1) (.s (.s .z)) (Qcm (p15,c16) i14) sizeOf24 rfl rfl rfl ?_
      refine ns (am ?_)
      obtain ⟨h40,hF⟩:=gd hF
      refine Qae (φ:=∃ b o,p31=some ⟨b,o,none⟩) (fun _ hw=>Qaa (hw.own .z).row h40) ?_
      rintro ⟨b42,o43,hp41⟩
      refine aw (QbD underlying46 sizeOf9 rfl rfl h40 hp41) ?_
      refine aw (Qe isAgg9 rfl (fun _ hw=>QP (W:=fun w1=>w1=_) (fun w1 h=>by subst h;exact Below.refl _ _) (hw.own .z).row h40 hp41 rfl _ rfl)) ?_
      obtain ⟨t44,ht44,hF⟩:=bM hF
      refine Qav func21 rfl (by kernel_rfl) rfl rfl (fun w=>Qah _ _ _ ht44 w) ?_
      refine am ?_
      refine aw xe (aw xe (aa (aa (ns (am ?_)))))
      refine aw (QaW underlying41 underlying3 rfl) ?_
      refine fa 32 underlying28 rfl sizeOf3 ?_
      refine Qn (c:=(Qv .i64)) (z:=wr .i64 t44.1) (.s (.s .z)) (Qce (p15,c16) ({ i14 with f_Private:=t39.1 })) sizeOf3 rfl rfl rfl ?_
      refine ns (am ?_)
      obtain ⟨h45,hF⟩:=gd hF
      refine Qae (φ:=∃ b o,p31=some ⟨b,o,none⟩) (fun _ hw=>Qaa (hw.own .z).row h45) ?_
      rintro ⟨b47,o48,hp46⟩
      refine aw (QbD underlying46 sizeOf9 rfl rfl h45 hp46) ?_
      refine aw (Qe isAgg9 rfl (fun _ hw=>QP (W:=fun w1=>w1=_) (fun w1 h=>by subst h;exact Below.refl _ _) (hw.own .z).row h45 hp46 rfl _ rfl)) ?_
      obtain ⟨t49,ht49,hF⟩:=bM hF
      refine Qav func21 rfl (by kernel_rfl) rfl rfl (fun w=>Qah _ _ _ ht49 w) ?_
      refine am ?_
      refine aw xe (aw xe (aa (aa (qn (dz (tn (qr (am ?_))))))))
      refine aw (QaW underlying41 underlying25 rfl) ?_
      refine fa 33 underlying28 rfl sizeOf25 ?_
      refine Qn (c:=(Qv .u32)) (z:=wr .u32 t49.1) (.s .z) (QcR (p15,c16) ({ { i14 with f_Private:=t39.1 } with f_Port:=wr .i64 t44.1 })) sizeOf25 rfl rfl rfl ?_
      refine qn (wq [6,5,4,2,0] ?_)
      refine bm ?_
      refine qr (am (aw xa (aa (nwq [6,5,4,2,0] ?_))))
      exact Qk (ih _ _ _ hF K Z_ s_ hM_ p15 c16 zs17 hz18 ha19) ⟨rfl,rfl,rfl,rfl,rfl,trivial⟩
     refine cf h34 ?_
     refine sr (am ?_)
     refine aw (QbI rfl rfl) ?_
     refine am ?_
     obtain ⟨h50,hF⟩|⟨h50,hF⟩:=oi hF
     ·refine fx 62 h50 ?_
      refine gy (am (gy ?_))
      refine aw (QZ underlying46 rfl) ?_
      refine gy (aw xq (aw xp (nwq [66,7,6,5,4,2,0] ?_)))
      obtain ⟨h51,hF⟩|⟨h51,hF⟩:=oi hF
      ·refine ct h51 ?_
       refine wq [7,6,5,4,2,0] ?_
       obtain ⟨t54,ht54,hF⟩:=bM hF
       obtain ⟨h61,hF⟩:=gd hF
       refine Qey [.q 67 (fun g68=>.pointer (some ⟨b2,0+34,none⟩)) [] 0 2,.q 68 (fun g68=>.slice p15 i14.f_Peers.length c16) [0] 0 2,.q 69 (fun g68=>.slice p31 t30.length c32) [] 0 0,.al 0 70 (fun g68=>.agg (Cd.cs Qf ((((g68 0).2.2.2.2.2.2 0)),t54)).toArray) [2],.al 1 71 (fun g68=>.slice (some ⟨((g68 1).1),0,none⟩) ([t54]:List Qq).length 1) [3],.al 2 72 (fun g68=>.slice ((g68 2).2.1) (i14.f_Peers++[t54]).length ((g68 2).2.2.1)) [1,4],.q 73 (fun g68=>.pointer (some ⟨b2,0+34,none⟩)) [] 3 3,.st 3 none [5,6]] (fun g68 s=>match s with | 0=>(Wd w0 (Qbm QbA 9 p31 c32 t30::Qbm QbA 9 p4 c5 t3::Qi b2 (Cd.cs Qh ((p15,c16),i14)) 28::Qbm Qf 60 p15 c16 zs17::Qi b1 (Cd.cs Qh Qc1) 28::QcM w0 Z_ s_::G_)) | 1=>(Wd w0 (Qbh (Qu (KZ w0 ((g68 0).2.2.2.2.1)) ((g68 0).2.2.2.2.2.1) ((((g68 0).2.2.2.2.2.2 0)),t54))::Qbh (RowK (KZ w0 ((g68 0).2.2.2.2.1)) QbA ((g68 0).2.2.2.2.2.1) p31 c32 t30)::Qbh (∀ z∈zs17,Qu (KZ w0 ((g68 0).2.2.2.2.1)) ((g68 0).2.2.2.2.2.1) z)::Qbh (Qc7 (KZ w0 Z0_) s0_ (KZ w0 ((g68 0).2.2.2.2.1)) ((g68 0).2.2.2.2.2.1))::QcM w0 ((g68 0).2.2.2.2.1) ((g68 0).2.2.2.2.2.1)::Qbm QbA 9 p4 c5 t3::Qi b2 (Cd.cs Qh ((p15,c16),i14)) 28::Qbm Qf 60 p15 c16 zs17::Qi b1 (Cd.cs Qh Qc1) 28::G_)) | 2=>(Wd w0 (Qi ((g68 1).1) (Cd.all Qf ([((((g68 0).2.2.2.2.2.2 0)),t54)]:List (QR×Qq))) 60::Qbh (Qu (KZ w0 ((g68 0).2.2.2.2.1)) ((g68 0).2.2.2.2.2.1) ((((g68 0).2.2.2.2.2.2 0)),t54))::Qbh (RowK (KZ w0 ((g68 0).2.2.2.2.1)) QbA ((g68 0).2.2.2.2.2.1) p31 c32 t30)::Qbh (∀ z∈zs17,Qu (KZ w0 ((g68 0).2.2.2.2.1)) ((g68 0).2.2.2.2.2.1) z)::Qbh (Qc7 (KZ w0 Z0_) s0_ (KZ w0 ((g68 0).2.2.2.2.1)) ((g68 0).2.2.2.2.2.1))::QcM w0 ((g68 0).2.2.2.2.1) ((g68 0).2.2.2.2.2.1)::Qbm QbA 9 p4 c5 t3::Qi b2 (Cd.cs Qh ((p15,c16),i14)) 28::Qbm Qf 60 p15 c16 zs17::Qi b1 (Cd.cs Qh Qc1) 28::G_)) | 3=>(Wd w0 (Qbh (∀ z∈mkz ((g68 2).2.2.2.2.2.2) (i14.f_Peers++[t54]),Qu (KZ w0 ((g68 0).2.2.2.2.1)) ((g68 0).2.2.2.2.2.1) z)::Qi ((g68 1).1) (Cd.all Qf ([((((g68 0).2.2.2.2.2.2 0)),t54)]:List (QR×Qq))) 60::Qbh (Qu (KZ w0 ((g68 0).2.2.2.2.1)) ((g68 0).2.2.2.2.2.1) ((((g68 0).2.2.2.2.2.2 0)),t54))::Qbh (RowK (KZ w0 ((g68 0).2.2.2.2.1)) QbA ((g68 0).2.2.2.2.2.1) p31 c32 t30)::Qbh (∀ z∈zs17,Qu (KZ w0 ((g68 0).2.2.2.2.1)) ((g68 0).2.2.2.2.2.1) z)::Qbh (Qc7 (KZ w0 Z0_) s0_ (KZ w0 ((g68 0).2.2.2.2.1)) ((g68 0).2.2.2.2.2.1))::QcM w0 ((g68 0).2.2.2.2.1) ((g68 0).2.2.2.2.2.1)::Qbm QbA 9 p4 c5 t3::Qi b2 (Cd.cs Qh ((p15,c16),i14)) 28::Qbm Qf 60 ((g68 2).2.1) ((g68 2).2.2.1) (mkz ((g68 2).2.2.2.2.2.2) (i14.f_Peers++[t54]))::Qi b1 (Cd.cs Qh Qc1) 28::G_)) | _=>(Wd w0 (Qbh (∀ z∈mkz ((g68 2).2.2.2.2.2.2) (i14.f_Peers++[t54]),Qu (KZ w0 ((g68 0).2.2.2.2.1)) ((g68 0).2.2.2.2.2.1) z)::Qi ((g68 1).1) (Cd.all Qf ([((((g68 0).2.2.2.2.2.2 0)),t54)]:List (QR×Qq))) 60::Qbh (Qu (KZ w0 ((g68 0).2.2.2.2.1)) ((g68 0).2.2.2.2.2.1) ((((g68 0).2.2.2.2.2.2 0)),t54))::Qbh (RowK (KZ w0 ((g68 0).2.2.2.2.1)) QbA ((g68 0).2.2.2.2.2.1) p31 c32 t30)::Qbh (∀ z∈zs17,Qu (KZ w0 ((g68 0).2.2.2.2.1)) ((g68 0).2.2.2.2.2.1) z)::Qbh (Qc7 (KZ w0 Z0_) s0_ (KZ w0 ((g68 0).2.2.2.2.1)) ((g68 0).2.2.2.2.2.1))::QcM w0 ((g68 0).2.2.2.2.1) ((g68 0).2.2.2.2.2.1)::Qbm QbA 9 p4 c5 t3::Qi b2 (Cd.cs Qh ((((g68 2).2.1),((g68 2).2.2.1)),{ i14 with f_Peers:=i14.f_Peers++[t54] })) 28::Qbm Qf 60 ((g68 2).2.1) ((g68 2).2.2.1) (mkz ((g68 2).2.2.2.2.2.2) (i14.f_Peers++[t54]))::Qi b1 (Cd.cs Qh Qc1) 28::G_))) 4 (by kernel_rfl) (by kernel_rfl) (by kernel_rfl) (by kernel_rfl) (by kernel_rfl) ⟨fun _ _ _=>rfl,fun _ _ _=>rfl,fun _ _ _=>rfl,fun g68 g2 h=>by show (.agg (Cd.cs Qf ((((g68 0).2.2.2.2.2.2 0)),t54)).toArray:Value)=.agg (Cd.cs Qf ((((g2 0).2.2.2.2.2.2 0)),t54)).toArray;rw [h 0 (show 0<1 by decide)],fun g68 g2 h=>by show (.slice (some ⟨((g68 1).1),0,none⟩) ([t54]:List Qq).length 1:Value)=.slice (some ⟨((g2 1).1),0,none⟩) ([t54]:List Qq).length 1;rw [h 1 (show 1<2 by decide)],fun g68 g2 h=>by show (.slice ((g68 2).2.1) (i14.f_Peers++[t54]).length ((g68 2).2.2.1):Value)=.slice ((g2 2).2.1) (i14.f_Peers++[t54]).length ((g2 2).2.2.1);rw [h 2 (show 2<3 by decide)],fun _ _ _=>rfl,fun _ _ _=>rfl,trivial⟩ (by kernel_rfl) (fun w_ h=>⟨fun _=>g3 0 none 0 none w_,h.drew⟩) ⟨?_,?_,?_,?_,?_,?_,?_,?_,trivial⟩ ?_
       ·intro Lx g68 s K hl hh k
        show At 86 ((0,_)::(2,_)::(4,_)::(5,_)::(6,_)::(7,_)::Lx) _ _
        refine fa 34 underlying28 rfl sizeOf26 ?_
        exact Qs k
       ·intro Lx g68 s K hl hh k
        show At 86 ((67,_)::(0,_)::(2,_)::(4,_)::(5,_)::(6,_)::(7,_)::Lx) _ _
        rcases (by omega:s=0∨s=1∨s=2) with rfl | rfl | rfl
        ·skip
         refine aw (Qe isAgg26 rfl (Qm (c:=cHd) (y:=⟨(p15,c16).1,List.length i14.f_Peers,(p15,c16).2⟩) (.s (.s .z)) (QV (p15,c16) i14) rfl)) ?_
         exact Qs k
        ·skip
         refine aw (Qe isAgg26 rfl (Qm (c:=cHd) (y:=⟨(p15,c16).1,List.length i14.f_Peers,(p15,c16).2⟩) (.s (.s (.s (.s (.s (.s .z)))))) (QV (p15,c16) i14) rfl)) ?_
         exact Qs k
        skip
        refine aw (Qe isAgg26 rfl (Qm (c:=cHd) (y:=⟨(p15,c16).1,List.length i14.f_Peers,(p15,c16).2⟩) (.s (.s (.s (.s (.s (.s (.s .z))))))) (QV (p15,c16) i14) rfl)) ?_
        exact Qs k
       ·intro Lx g68 s K hl hh k
        show At 86 ((0,_)::(2,_)::(4,_)::(5,_)::(6,_)::(7,_)::Lx) _ _
        refine am ?_
        exact Qs k
       ·intro Lx g68 K k
        show At 86 ((69,_)::(0,_)::(2,_)::(4,_)::(5,_)::(6,_)::(7,_)::Lx) _ _
        refine Qd2 (.s (.s (.s (.s .z)))) ?_
        intro Z_ s_ hm52 hk53
        replace hM_:=Qc7.mono hM_ hm52
        replace ha19:=fun z hz=>Qu.mono (ha19 z hz) hm52
        refine Qac (.s (.s (.s .z))) ?_
        refine Qac (.s (.s (.s .z))) ?_
        refine Qac (.s (.s (.s .z))) ?_
        refine Qac (.s (.s (.s .z))) ?_
        refine Qac (.s (.s (.s (.s .z)))) ?_
        refine Qjy (γ:=QR) (V:=fun z=>.agg (Cd.cs Qf (z,t54)).toArray) (Φ:=fun K s z=>Qu K s (z,t54)) func22 rfl (by kernel_rfl) rfl rfl (fun w hw=>QeP ht54 hk53 hw) ?_
        intro Z55 s56 g58 hm57 hk59
        replace hM_:=Qc7.mono hM_ hm57
        replace ha19:=fun z hz=>Qu.mono (ha19 z hz) hm57
        replace hk53:=RowK.mono hk53 hm57
        refine QcH hM_ ?_
        refine QcH ha19 ?_
        refine QcH hk53 ?_
        refine QcH hk59 ?_
        exact Qs (k (0,none,0,none,Z55,s56,fun i_=>match i_ with | 0=>g58 | _=>(none,0)))
       ·intro Lx g68 K k
        show At 86 ((70,_)::(0,_)::(2,_)::(4,_)::(5,_)::(6,_)::(7,_)::Lx) _ _
        refine QhP (c:=Qf) ([QeF]:List (QR×Qq)) ([((((g68 0).2.2.2.2.2.2 0)),t54)]:List (QR×Qq)) underlying26 sizeOf60 zeroValue60 rfl rfl rfl (by kernel_rfl) (QaB (c:=Qf) (z:=((((g68 0).2.2.2.2.2.2 0)),t54)) rfl (Qaf.all Qf ([QeF]:List (QR×Qq)) 0 (by first | decide | exact Nat.le_of_ble_eq_true rfl)) rfl rfl) rfl ?_
        intro b60
        exact Qs (k (g3 b60 none 0 none w0))
       ·intro Lx g68 K k
        show At 86 ((68,_)::(71,_)::(0,_)::(2,_)::(4,_)::(5,_)::(6,_)::(7,_)::Lx) _ _
        refine Qae (φ:=Qu (KZ w0 ((g68 0).2.2.2.2.1)) ((g68 0).2.2.2.2.2.1) ((((g68 0).2.2.2.2.2.2 0)),t54)) (fun _ hw=>hw.ok (Upd.mem (.s .z))) ?_
        intro hk59
        refine Qae (φ:=RowK (KZ w0 ((g68 0).2.2.2.2.1)) QbA ((g68 0).2.2.2.2.2.1) p31 c32 t30) (fun _ hw=>hw.ok (Upd.mem (.s (.s .z)))) ?_
        intro hk53
        refine Qae (φ:=∀ z∈zs17,Qu (KZ w0 ((g68 0).2.2.2.2.1)) ((g68 0).2.2.2.2.2.1) z) (fun _ hw=>hw.ok (Upd.mem (.s (.s (.s .z))))) ?_
        intro ha19
        refine Qae (φ:=Qc7 (KZ w0 Z0_) s0_ (KZ w0 ((g68 0).2.2.2.2.1)) ((g68 0).2.2.2.2.2.1)) (fun _ hw=>hw.ok (Upd.mem (.s (.s (.s (.s .z)))))) ?_
        intro hM_
        refine Qhk (z:=.agg (Cd.cs Qf QeF).toArray) (c:=Qf) (ys:=([t54]:List Qq)) (us:=([((((g68 0).2.2.2.2.2.2 0)),t54)]:List (QR×Qq))) (Φ:=fun z=>Qu (KZ w0 ((g68 0).2.2.2.2.1)) ((g68 0).2.2.2.2.2.1) z) (.s (.s (.s (.s (.s (.s (.s (.s .z)))))))) hz18 rfl ha19 (all_cons hk59 all_nil) underlying26 QoF (by kernel_rfl) (by kernel_rfl) rfl rfl rfl rfl (fun _ hw=>QbX (hw.ok (Upd.mem .z))) (by kernel_rfl) h61 (QbR h61) rfl ?_
        intro p62 c63 zs66 hz64 ha65
        obtain ⟨fn67,rfl⟩:=Qot hz64
        refine QcH ha65 ?_
        exact Qs (k (0,p62,c63,none,[],w0,fn67))
       ·intro Lx g68 s K hl hh k
        show At 86 ((0,_)::(2,_)::(4,_)::(5,_)::(6,_)::(7,_)::Lx) _ _
        refine fa 34 underlying28 rfl sizeOf26 ?_
        exact Qs k
       ·intro Lx g68 K k
        show At 86 ((72,_)::(73,_)::(0,_)::(2,_)::(4,_)::(5,_)::(6,_)::(7,_)::Lx) _ _
        refine Qn (c:=cSv Qq) (z:=((((g68 2).2.1),((g68 2).2.2.1)),i14.f_Peers++[t54])) (.s (.s (.s (.s (.s (.s (.s (.s .z)))))))) (Qc4 (p15,c16) i14) sizeOf26 rfl rfl rfl ?_
        exact Qs k
       intro g68
       show At 86 [(67,_),(68,_),(69,_),(70,_),(71,_),(72,_),(73,_),(0,_),(2,_),(4,_),(5,_),(6,_),(7,_)] _ _
       refine Qae (φ:=∀ z∈mkz ((g68 2).2.2.2.2.2.2) (i14.f_Peers++[t54]),Qu (KZ w0 ((g68 0).2.2.2.2.1)) ((g68 0).2.2.2.2.2.1) z) (fun _ hw=>hw.ok (Upd.mem .z)) ?_
       intro ha65
       refine Qae (φ:=Qu (KZ w0 ((g68 0).2.2.2.2.1)) ((g68 0).2.2.2.2.2.1) ((((g68 0).2.2.2.2.2.2 0)),t54)) (fun _ hw=>hw.ok (Upd.mem (.s (.s .z)))) ?_
       intro hk59
       refine Qae (φ:=RowK (KZ w0 ((g68 0).2.2.2.2.1)) QbA ((g68 0).2.2.2.2.2.1) p31 c32 t30) (fun _ hw=>hw.ok (Upd.mem (.s (.s (.s .z))))) ?_
       intro hk53
       refine Qae (φ:=∀ z∈zs17,Qu (KZ w0 ((g68 0).2.2.2.2.1)) ((g68 0).2.2.2.2.2.1) z) (fun _ hw=>hw.ok (Upd.mem (.s (.s (.s (.s .z)))))) ?_
       intro ha19
       refine Qae (φ:=Qc7 (KZ w0 Z0_) s0_ (KZ w0 ((g68 0).2.2.2.2.1)) ((g68 0).2.2.2.2.2.1)) (fun _ hw=>hw.ok (Upd.mem (.s (.s (.s (.s (.s .z))))))) ?_
       intro hM_
       refine dz ?_
       refine Qam (H:=_) (.s .z) ?_
       refine Qam (H:=_) (.s .z) ?_
       refine Qam (H:=_) (.s .z) ?_
       refine Qam (H:=_) (.s .z) ?_
       refine dz (wq [6,5,4,2,0] ?_)
       refine bm ?_
       refine qr (am (aw xa (aa (nwq [6,5,4,2,0] ?_))))
       refine Qac (.s (.s (.s (.s .z)))) ?_
       refine Qac (.s (.s (.s (.s .z)))) ?_
       refine Qac (.s (.s (.s (.s .z)))) ?_
       refine Qac (.s (.s (.s (.s .z)))) ?_
       exact Qk (ih _ _ _ hF K ((g68 0).2.2.2.2.1) ((g68 0).2.2.2.2.2.1) hM_ (g68 2).2.1 (g68 2).2.2.1 (mkz ((g68 2).2.2.2.2.2.2) (i14.f_Peers++[t54])) (Qlv _ _) ha65) ⟨rfl,rfl,rfl,rfl,rfl,trivial⟩
      refine cf h51 ?_
      refine sr ?_
      refine aw (Qw (zs:=Cd.cs Qh Qc1) (cs:=Cd.cs Qh Qc1) underlying28 zeroValue28 rfl (QbJ) rfl rfl) ?_
      refine Qn (c:=Qh) (z:=Qc1) (.s (.s (.s (.s .z)))) lw sizeOf28 rfl rfl rfl ?_
      refine aa (qn (dz (dz (dz (dz (wq [3,2] ?_))))))
      refine tn (qt ?_)
      refine br (tr (tr (br (tr ?_))))
      have hN69:Qao (KZ w0 Z_) s_ Qc1:=Qfv.nil ..
      obtain rfl:=os hF
      subst K
      exact QU rfl (QE (c:=Qh) (y:=Qc1) rfl .z lw isAgg28 sizeOf28 (.inl rfl)) (QS rfl) (fun w1 hw=>⟨Z_,s_,zv8,hM_,rfl,hN69,hw.pop⟩)
     refine fx 62 h50 ?_
     refine gn ?_
     refine gn ?_
     refine gn ?_
     refine aw xp (nwq [66,7,6,5,4,2,0] ?_)
     refine cf rfl ?_
     refine sr ?_
     refine aw (Qw (zs:=Cd.cs Qh Qc1) (cs:=Cd.cs Qh Qc1) underlying28 zeroValue28 rfl (QbJ) rfl rfl) ?_
     refine Qn (c:=Qh) (z:=Qc1) (.s (.s (.s (.s .z)))) lw sizeOf28 rfl rfl rfl ?_
     refine aa (qn (dz (dz (dz (dz (wq [3,2] ?_))))))
     refine tn (qt ?_)
     refine br (tr (tr (br (tr ?_))))
     have hN70:Qao (KZ w0 Z_) s_ Qc1:=Qfv.nil ..
     obtain rfl:=os hF
     subst K
     exact QU rfl (QE (c:=Qh) (y:=Qc1) rfl .z lw isAgg28 sizeOf28 (.inl rfl)) (QS rfl) (fun w1 hw=>⟨Z_,s_,zv8,hM_,rfl,hN70,hw.pop⟩)
    refine fx 27 h33 ?_
    refine gn ?_
    refine gn ?_
    refine gn ?_
    refine aw xp (nwq [31,7,6,5,4,2,0] ?_)
    refine cf rfl ?_
    refine sr (am ?_)
    refine aw (QbI rfl rfl) ?_
    refine am ?_
    obtain ⟨h71,hF⟩|⟨h71,hF⟩:=oi hF
    ·refine fx 62 h71 ?_
     refine gy (am (gy ?_))
     refine aw (QZ underlying46 rfl) ?_
     refine gy (aw xq (aw xp (nwq [66,7,6,5,4,2,0] ?_)))
     obtain ⟨h72,hF⟩|⟨h72,hF⟩:=oi hF
     ·refine ct h72 ?_
      refine wq [7,6,5,4,2,0] ?_
      obtain ⟨t75,ht75,hF⟩:=bM hF
      obtain ⟨h82,hF⟩:=gd hF
      refine Qey [.q 67 (fun g89=>.pointer (some ⟨b2,0+34,none⟩)) [] 0 2,.q 68 (fun g89=>.slice p15 i14.f_Peers.length c16) [0] 0 2,.q 69 (fun g89=>.slice p31 t30.length c32) [] 0 0,.al 0 70 (fun g89=>.agg (Cd.cs Qf ((((g89 0).2.2.2.2.2.2 0)),t75)).toArray) [2],.al 1 71 (fun g89=>.slice (some ⟨((g89 1).1),0,none⟩) ([t75]:List Qq).length 1) [3],.al 2 72 (fun g89=>.slice ((g89 2).2.1) (i14.f_Peers++[t75]).length ((g89 2).2.2.1)) [1,4],.q 73 (fun g89=>.pointer (some ⟨b2,0+34,none⟩)) [] 3 3,.st 3 none [5,6]] (fun g89 s=>match s with | 0=>(Wd w0 (Qbm QbA 9 p31 c32 t30::Qbm QbA 9 p4 c5 t3::Qi b2 (Cd.cs Qh ((p15,c16),i14)) 28::Qbm Qf 60 p15 c16 zs17::Qi b1 (Cd.cs Qh Qc1) 28::QcM w0 Z_ s_::G_)) | 1=>(Wd w0 (Qbh (Qu (KZ w0 ((g89 0).2.2.2.2.1)) ((g89 0).2.2.2.2.2.1) ((((g89 0).2.2.2.2.2.2 0)),t75))::Qbh (RowK (KZ w0 ((g89 0).2.2.2.2.1)) QbA ((g89 0).2.2.2.2.2.1) p31 c32 t30)::Qbh (∀ z∈zs17,Qu (KZ w0 ((g89 0).2.2.2.2.1)) ((g89 0).2.2.2.2.2.1) z)::Qbh (Qc7 (KZ w0 Z0_) s0_ (KZ w0 ((g89 0).2.2.2.2.1)) ((g89 0).2.2.2.2.2.1))::QcM w0 ((g89 0).2.2.2.2.1) ((g89 0).2.2.2.2.2.1)::Qbm QbA 9 p4 c5 t3::Qi b2 (Cd.cs Qh ((p15,c16),i14)) 28::Qbm Qf 60 p15 c16 zs17::Qi b1 (Cd.cs Qh Qc1) 28::G_)) | 2=>(Wd w0 (Qi ((g89 1).1) (Cd.all Qf ([((((g89 0).2.2.2.2.2.2 0)),t75)]:List (QR×Qq))) 60::Qbh (Qu (KZ w0 ((g89 0).2.2.2.2.1)) ((g89 0).2.2.2.2.2.1) ((((g89 0).2.2.2.2.2.2 0)),t75))::Qbh (RowK (KZ w0 ((g89 0).2.2.2.2.1)) QbA ((g89 0).2.2.2.2.2.1) p31 c32 t30)::Qbh (∀ z∈zs17,Qu (KZ w0 ((g89 0).2.2.2.2.1)) ((g89 0).2.2.2.2.2.1) z)::Qbh (Qc7 (KZ w0 Z0_) s0_ (KZ w0 ((g89 0).2.2.2.2.1)) ((g89 0).2.2.2.2.2.1))::QcM w0 ((g89 0).2.2.2.2.1) ((g89 0).2.2.2.2.2.1)::Qbm QbA 9 p4 c5 t3::Qi b2 (Cd.cs Qh ((p15,c16),i14)) 28::Qbm Qf 60 p15 c16 zs17::Qi b1 (Cd.cs Qh Qc1) 28::G_)) | 3=>(Wd w0 (Qbh (∀ z∈mkz ((g89 2).2.2.2.2.2.2) (i14.f_Peers++[t75]),Qu (KZ w0 ((g89 0).2.2.2.2.1)) ((g89 0).2.2.2.2.2.1) z)::Qi ((g89 1).1) (Cd.all Qf ([((((g89 0).2.2.2.2.2.2 0)),t75)]:List (QR×Qq))) 60::Qbh (Qu (KZ w0 ((g89 0).2.2.2.2.1)) ((g89 0).2.2.2.2.2.1) ((((g89 0).2.2.2.2.2.2 0)),t75))::Qbh (RowK (KZ w0 ((g89 0).2.2.2.2.1)) QbA ((g89 0).2.2.2.2.2.1) p31 c32 t30)::Qbh (∀ z∈zs17,Qu (KZ w0 ((g89 0).2.2.2.2.1)) ((g89 0).2.2.2.2.2.1) z)::Qbh (Qc7 (KZ w0 Z0_) s0_ (KZ w0 ((g89 0).2.2.2.2.1)) ((g89 0).2.2.2.2.2.1))::QcM w0 ((g89 0).2.2.2.2.1) ((g89 0).2.2.2.2.2.1)::Qbm QbA 9 p4 c5 t3::Qi b2 (Cd.cs Qh ((p15,c16),i14)) 28::Qbm Qf 60 ((g89 2).2.1) ((g89 2).2.2.1) (mkz ((g89 2).2.2.2.2.2.2) (i14.f_Peers++[t75]))::Qi b1 (Cd.cs Qh Qc1) 28::G_)) | _=>(Wd w0 (Qbh (∀ z∈mkz ((g89 2).2.2.2.2.2.2) (i14.f_Peers++[t75]),Qu (KZ w0 ((g89 0).2.2.2.2.1)) ((g89 0).2.2.2.2.2.1) z)::Qi ((g89 1).1) (Cd.all Qf ([((((g89 0).2.2.2.2.2.2 0)),t75)]:List (QR×Qq))) 60::Qbh (Qu (KZ w0 ((g89 0).2.2.2.2.1)) ((g89 0).2.2.2.2.2.1) ((((g89 0).2.2.2.2.2.2 0)),t75))::Qbh (RowK (KZ w0 ((g89 0).2.2.2.2.1)) QbA ((g89 0).2.2.2.2.2.1) p31 c32 t30)::Qbh (∀ z∈zs17,Qu (KZ w0 ((g89 0).2.2.2.2.1)) ((g89 0).2.2.2.2.2.1) z)::Qbh (Qc7 (KZ w0 Z0_) s0_ (KZ w0 ((g89 0).2.2.2.2.1)) ((g89 0).2.2.2.2.2.1))::QcM w0 ((g89 0).2.2.2.2.1) ((g89 0).2.2.2.2.2.1)::Qbm QbA 9 p4 c5 t3::Qi b2 (Cd.cs Qh ((((g89 2).2.1),((g89 2).2.2.1)),{ i14 with f_Peers:=i14.f_Peers++[t75] })) 28::Qbm Qf 60 ((g89 2).2.1) ((g89 2).2.2.1) (mkz ((g89 2).2.2.2.2.2.2) (i14.f_Peers++[t75]))::Qi b1 (Cd.cs Qh Qc1) 28::G_))) 4 (by kernel_rfl) (by kernel_rfl) (by kernel_rfl) (by kernel_rfl) (by kernel_rfl) ⟨fun _ _ _=>rfl,fun _ _ _=>rfl,fun _ _ _=>rfl,fun g89 g2 h=>by show (.agg (Cd.cs Qf ((((g89 0).2.2.2.2.2.2 0)),t75)).toArray:Value)=.agg (Cd.cs Qf ((((g2 0).2.2.2.2.2.2 0)),t75)).toArray;rw [h 0 (show 0<1 by decide)],fun g89 g2 h=>by show (.slice (some ⟨((g89 1).1),0,none⟩) ([t75]:List Qq).length 1:Value)=.slice (some ⟨((g2 1).1),0,none⟩) ([t75]:List Qq).length 1;rw [h 1 (show 1<2 by decide)],fun g89 g2 h=>by show (.slice ((g89 2).2.1) (i14.f_Peers++[t75]).length ((g89 2).2.2.1):Value)=.slice ((g2 2).2.1) (i14.f_Peers++[t75]).length ((g2 2).2.2.1);rw [h 2 (show 2<3 by decide)],fun _ _ _=>rfl,fun _ _ _=>rfl,trivial⟩ (by kernel_rfl) (fun w_ h=>⟨fun _=>g3 0 none 0 none w_,h.drew⟩) ⟨?_,?_,?_,?_,?_,?_,?_,?_,trivial⟩ ?_
      ·intro Lx g89 s K hl hh k
       show At 86 ((0,_)::(2,_)::(4,_)::(5,_)::(6,_)::(7,_)::Lx) _ _
       refine fa 34 underlying28 rfl sizeOf26 ?_
       exact Qs k
      ·intro Lx g89 s K hl hh k
       show At 86 ((67,_)::(0,_)::(2,_)::(4,_)::(5,_)::(6,_)::(7,_)::Lx) _ _
       rcases (by omega:s=0∨s=1∨s=2) with rfl | rfl | rfl
       ·skip
        refine aw (Qe isAgg26 rfl (Qm (c:=cHd) (y:=⟨(p15,c16).1,List.length i14.f_Peers,(p15,c16).2⟩) (.s (.s .z)) (QV (p15,c16) i14) rfl)) ?_
        exact Qs k
       ·skip
        refine aw (Qe isAgg26 rfl (Qm (c:=cHd) (y:=⟨(p15,c16).1,List.length i14.f_Peers,(p15,c16).2⟩) (.s (.s (.s (.s (.s (.s .z)))))) (QV (p15,c16) i14) rfl)) ?_
        exact Qs k
       skip
       refine aw (Qe isAgg26 rfl (Qm (c:=cHd) (y:=⟨(p15,c16).1,List.length i14.f_Peers,(p15,c16).2⟩) (.s (.s (.s (.s (.s (.s (.s .z))))))) (QV (p15,c16) i14) rfl)) ?_
       exact Qs k
      ·intro Lx g89 s K hl hh k
       show At 86 ((0,_)::(2,_)::(4,_)::(5,_)::(6,_)::(7,_)::Lx) _ _
       refine am ?_
       exact Qs k
      ·intro Lx g89 K k
       show At 86 ((69,_)::(0,_)::(2,_)::(4,_)::(5,_)::(6,_)::(7,_)::Lx) _ _
       refine Qd2 (.s (.s (.s (.s .z)))) ?_
       intro Z_ s_ hm73 hk74
       replace hM_:=Qc7.mono hM_ hm73
       replace ha19:=fun z hz=>Qu.mono (ha19 z hz) hm73
       refine Qac (.s (.s (.s .z))) ?_
       refine Qac (.s (.s (.s .z))) ?_
       refine Qac (.s (.s (.s .z))) ?_
       refine Qac (.s (.s (.s .z))) ?_
       refine Qac (.s (.s (.s (.s .z)))) ?_
       refine Qjy (γ:=QR) (V:=fun z=>.agg (Cd.cs Qf (z,t75)).toArray) (Φ:=fun K s z=>Qu K s (z,t75)) func22 rfl (by kernel_rfl) rfl rfl (fun w hw=>QeP ht75 hk74 hw) ?_
       intro Z76 s77 g79 hm78 hk80
       replace hM_:=Qc7.mono hM_ hm78
       replace ha19:=fun z hz=>Qu.mono (ha19 z hz) hm78
       replace hk74:=RowK.mono hk74 hm78
       refine QcH hM_ ?_
       refine QcH ha19 ?_
       refine QcH hk74 ?_
       refine QcH hk80 ?_
       exact Qs (k (0,none,0,none,Z76,s77,fun i_=>match i_ with | 0=>g79 | _=>(none,0)))
      ·intro Lx g89 K k
       show At 86 ((70,_)::(0,_)::(2,_)::(4,_)::(5,_)::(6,_)::(7,_)::Lx) _ _
       refine QhP (c:=Qf) ([QeF]:List (QR×Qq)) ([((((g89 0).2.2.2.2.2.2 0)),t75)]:List (QR×Qq)) underlying26 sizeOf60 zeroValue60 rfl rfl rfl (by kernel_rfl) (QaB (c:=Qf) (z:=((((g89 0).2.2.2.2.2.2 0)),t75)) rfl (Qaf.all Qf ([QeF]:List (QR×Qq)) 0 (by first | decide | exact Nat.le_of_ble_eq_true rfl)) rfl rfl) rfl ?_
       intro b81
       exact Qs (k (g3 b81 none 0 none w0))
      ·intro Lx g89 K k
       show At 86 ((68,_)::(71,_)::(0,_)::(2,_)::(4,_)::(5,_)::(6,_)::(7,_)::Lx) _ _
       refine Qae (φ:=Qu (KZ w0 ((g89 0).2.2.2.2.1)) ((g89 0).2.2.2.2.2.1) ((((g89 0).2.2.2.2.2.2 0)),t75)) (fun _ hw=>hw.ok (Upd.mem (.s .z))) ?_
       intro hk80
       refine Qae (φ:=RowK (KZ w0 ((g89 0).2.2.2.2.1)) QbA ((g89 0).2.2.2.2.2.1) p31 c32 t30) (fun _ hw=>hw.ok (Upd.mem (.s (.s .z)))) ?_
       intro hk74
       refine Qae (φ:=∀ z∈zs17,Qu (KZ w0 ((g89 0).2.2.2.2.1)) ((g89 0).2.2.2.2.2.1) z) (fun _ hw=>hw.ok (Upd.mem (.s (.s (.s .z))))) ?_
       intro ha19
       refine Qae (φ:=Qc7 (KZ w0 Z0_) s0_ (KZ w0 ((g89 0).2.2.2.2.1)) ((g89 0).2.2.2.2.2.1)) (fun _ hw=>hw.ok (Upd.mem (.s (.s (.s (.s .z)))))) ?_
       intro hM_
       refine Qhk (z:=.agg (Cd.cs Qf QeF).toArray) (c:=Qf) (ys:=([t75]:List Qq)) (us:=([((((g89 0).2.2.2.2.2.2 0)),t75)]:List (QR×Qq))) (Φ:=fun z=>Qu (KZ w0 ((g89 0).2.2.2.2.1)) ((g89 0).2.2.2.2.2.1) z) (.s (.s (.s (.s (.s (.s (.s (.s .z)))))))) hz18 rfl ha19 (all_cons hk80 all_nil) underlying26 QoF (by kernel_rfl) (by kernel_rfl) rfl rfl rfl rfl (fun _ hw=>QbX (hw.ok (Upd.mem .z))) (by kernel_rfl) h82 (QbR h82) rfl ?_
       intro p83 c84 zs87 hz85 ha86
       obtain ⟨fn88,rfl⟩:=Qot hz85
       refine QcH ha86 ?_
       exact Qs (k (0,p83,c84,none,[],w0,fn88))
      ·intro Lx g89 s K hl hh k
       show At 86 ((0,_)::(2,_)::(4,_)::(5,_)::(6,_)::(7,_)::Lx) _ _
       refine fa 34 underlying28 rfl sizeOf26 ?_
       exact Qs k
      ·intro Lx g89 K k
       show At 86 ((72,_)::(73,_)::(0,_)::(2,_)::(4,_)::(5,_)::(6,_)::(7,_)::Lx) _ _
       refine Qn (c:=cSv Qq) (z:=((((g89 2).2.1),((g89 2).2.2.1)),i14.f_Peers++[t75])) (.s (.s (.s (.s (.s (.s (.s (.s .z)))))))) (Qc4 (p15,c16) i14) sizeOf26 rfl rfl rfl ?_
       exact Qs k
      intro g89
      show At 86 [(67,_),(68,_),(69,_),(70,_),(71,_),(72,_),(73,_),(0,_),(2,_),(4,_),(5,_),(6,_),(7,_)] _ _
      refine Qae (φ:=∀ z∈mkz ((g89 2).2.2.2.2.2.2) (i14.f_Peers++[t75]),Qu (KZ w0 ((g89 0).2.2.2.2.1)) ((g89 0).2.2.2.2.2.1) z) (fun _ hw=>hw.ok (Upd.mem .z)) ?_
      intro ha86
      refine Qae (φ:=Qu (KZ w0 ((g89 0).2.2.2.2.1)) ((g89 0).2.2.2.2.2.1) ((((g89 0).2.2.2.2.2.2 0)),t75)) (fun _ hw=>hw.ok (Upd.mem (.s (.s .z)))) ?_
      intro hk80
      refine Qae (φ:=RowK (KZ w0 ((g89 0).2.2.2.2.1)) QbA ((g89 0).2.2.2.2.2.1) p31 c32 t30) (fun _ hw=>hw.ok (Upd.mem (.s (.s (.s .z))))) ?_
      intro hk74
      refine Qae (φ:=∀ z∈zs17,Qu (KZ w0 ((g89 0).2.2.2.2.1)) ((g89 0).2.2.2.2.2.1) z) (fun _ hw=>hw.ok (Upd.mem (.s (.s (.s (.s .z)))))) ?_
      intro ha19
      refine Qae (φ:=Qc7 (KZ w0 Z0_) s0_ (KZ w0 ((g89 0).2.2.2.2.1)) ((g89 0).2.2.2.2.2.1)) (fun _ hw=>hw.ok (Upd.mem (.s (.s (.s (.s (.s .z))))))) ?_
      intro hM_
      refine dz ?_
      refine Qam (H:=_) (.s .z) ?_
      refine Qam (H:=_) (.s .z) ?_
      refine Qam (H:=_) (.s .z) ?_
      refine Qam (H:=_) (.s .z) ?_
      refine dz (wq [6,5,4,2,0] ?_)
      refine bm ?_
      refine qr (am (aw xa (aa (nwq [6,5,4,2,0] ?_))))
      refine Qac (.s (.s (.s (.s .z)))) ?_
      refine Qac (.s (.s (.s (.s .z)))) ?_
      refine Qac (.s (.s (.s (.s .z)))) ?_
      refine Qac (.s (.s (.s (.s .z)))) ?_
      exact Qk (ih _ _ _ hF K ((g89 0).2.2.2.2.1) ((g89 0).2.2.2.2.2.1) hM_ (g89 2).2.1 (g89 2).2.2.1 (mkz ((g89 2).2.2.2.2.2.2) (i14.f_Peers++[t75])) (Qlv _ _) ha86) ⟨rfl,rfl,rfl,rfl,rfl,trivial⟩
     refine cf h72 ?_
     refine sr ?_
     refine aw (Qw (zs:=Cd.cs Qh Qc1) (cs:=Cd.cs Qh Qc1) underlying28 zeroValue28 rfl (QbJ) rfl rfl) ?_
     refine Qn (c:=Qh) (z:=Qc1) (.s (.s (.s (.s .z)))) lw sizeOf28 rfl rfl rfl ?_
     refine aa (qn (dz (dz (dz (dz (wq [3,2] ?_))))))
     refine tn (qt ?_)
     refine br (tr (tr (br (tr ?_))))
     have hN90:Qao (KZ w0 Z_) s_ Qc1:=Qfv.nil ..
     obtain rfl:=os hF
     subst K
     exact QU rfl (QE (c:=Qh) (y:=Qc1) rfl .z lw isAgg28 sizeOf28 (.inl rfl)) (QS rfl) (fun w1 hw=>⟨Z_,s_,zv8,hM_,rfl,hN90,hw.pop⟩)
    refine fx 62 h71 ?_
    refine gn ?_
    refine gn ?_
    refine gn ?_
    refine aw xp (nwq [66,7,6,5,4,2,0] ?_)
    refine cf rfl ?_
    refine sr ?_
    refine aw (Qw (zs:=Cd.cs Qh Qc1) (cs:=Cd.cs Qh Qc1) underlying28 zeroValue28 rfl (QbJ) rfl rfl) ?_
    refine Qn (c:=Qh) (z:=Qc1) (.s (.s (.s (.s .z)))) lw sizeOf28 rfl rfl rfl ?_
    refine aa (qn (dz (dz (dz (dz (wq [3,2] ?_))))))
    refine tn (qt ?_)
    refine br (tr (tr (br (tr ?_))))
    have hN91:Qao (KZ w0 Z_) s_ Qc1:=Qfv.nil ..
    obtain rfl:=os hF
    subst K
    exact QU rfl (QE (c:=Qh) (y:=Qc1) rfl .z lw isAgg28 sizeOf28 (.inl rfl)) (QS rfl) (fun w1 hw=>⟨Z_,s_,zv8,hM_,rfl,hN91,hw.pop⟩)
   refine cf h25 ?_
   refine Q7 ?_
   refine te (te ?_)
   refine dz ?_
   obtain rfl:=os hF
   exact Qk (K Z_ s_ hM_ p15 c16 zs17 hz18 ha19) ⟨rfl,rfl,rfl,trivial⟩
 cases q12 with
 | ret r'=>exact os hF
 | nx sq12 =>
  intro Z_ s_ hM_ p20 c21 zs22 hz23 ha24
  refine QD ?_
  refine tn (qs (sr ?_))
  refine aw (Qg (c:=Qh) (z:=((p20,c21),sq12)) isAgg28 sizeOf28 rfl (Qp .z lw)) ?_
  obtain ⟨t92,ht92,hF⟩:=bM hF
  refine cB func12 rfl (fun w hw=>Qgt _ _ _ ht92 w ⟨zs22,hz23,(hw.own (.s .z)).row,fun z hz=>Qu.n (Qu.mono (ha24 z hz) (QaX (.s (.s (.s .z))) hw))⟩) ?_
  refine aw (Qcq rfl) ?_
  refine am ?_
  obtain ⟨h93,hF⟩|⟨h93,hF⟩:=oi hF
  ·refine fx 78 h93 ?_
   refine gn ?_
   refine gn ?_
   refine gn ?_
   refine gn ?_
   refine aw xp (nwq [83,4,2] ?_)
   refine ct rfl ?_
   refine sr ?_
   refine aw (Qw (zs:=Cd.cs Qh Qc1) (cs:=Cd.cs Qh Qc1) underlying28 zeroValue28 rfl (QbJ) rfl rfl) ?_
   refine Qn (c:=Qh) (z:=Qc1) (.s (.s .z)) lw sizeOf28 rfl rfl rfl ?_
   refine aa (qn (dz (dz (wq [3,2] ?_))))
   refine tn (rt ?_)
   have hN94:Qao (KZ w0 Z_) s_ Qc1:=Qfv.nil ..
   have K:=os hF
   subst K
   exact QU rfl (QE (c:=Qh) (y:=Qc1) rfl .z lw isAgg28 sizeOf28 (.inl rfl)) (QS rfl) (fun w1 hw=>⟨Z_,s_,zv8,hM_,rfl,hN94,hw.pop⟩)
  ·refine fx 78 h93 ?_
   refine gy ?_
   refine aw (Qg (c:=Qh) (z:=((p20,c21),sq12)) isAgg28 sizeOf28 rfl (Qp .z lw)) ?_
   refine gy ?_
   obtain ⟨t95,ht95,hF⟩:=bM hF
   refine cB func14 rfl (fun w hw=>Qgs _ _ _ ht95 w ⟨zs22,hz23,(hw.own (.s .z)).row,fun z hz=>Qu.n (Qu.mono (ha24 z hz) (QaX (.s (.s (.s .z))) hw))⟩) ?_
   refine gy (am (gy ?_))
   refine aw (Qmu rfl rfl) ?_
   refine aw xp (nwq [83,4,2] ?_)
   obtain ⟨h96,hF⟩|⟨h96,hF⟩:=oi hF
   ·refine ct h96 ?_
    refine sr ?_
    refine aw (Qw (zs:=Cd.cs Qh Qc1) (cs:=Cd.cs Qh Qc1) underlying28 zeroValue28 rfl (QbJ) rfl rfl) ?_
    refine Qn (c:=Qh) (z:=Qc1) (.s (.s .z)) lw sizeOf28 rfl rfl rfl ?_
    refine aa (qn (dz (dz (wq [3,2] ?_))))
    refine tn (rt ?_)
    have hN97:Qao (KZ w0 Z_) s_ Qc1:=Qfv.nil ..
    have K:=os hF
    subst K
    exact QU rfl (QE (c:=Qh) (y:=Qc1) rfl .z lw isAgg28 sizeOf28 (.inl rfl)) (QS rfl) (fun w1 hw=>⟨Z_,s_,zv8,hM_,rfl,hN97,hw.pop⟩)
   ·refine cf h96 ?_
    refine sns ?_
    refine aw (Qg (c:=Qh) (z:=((p20,c21),sq12)) isAgg28 sizeOf28 rfl (Qp .z lw)) ?_
    refine Qn (c:=Qh) (z:=((p20,c21),sq12)) (.s (.s .z)) lw sizeOf28 rfl rfl rfl ?_
    refine aa (qn (dz (wq [3,2] ?_)))
    refine tn (qt ?_)
    refine Qd2 (.s .z) ?_
    intro Z_ s_ hm99 hk100
    replace hM_:=Qc7.mono hM_ hm99
    replace ha24:=fun z hz=>Qu.mono (ha24 z hz) hm99
    have hK101:Qc6 (KZ w0 Z_) s_ p20 c21 sq12.f_Peers:=⟨zs22,hz23,hk100,ha24⟩
    have hN98:Qao (KZ w0 Z_) s_ ((p20,c21),sq12):=hK101
    have K:=os hF
    subst K
    exact QU rfl (QE (c:=Qh) (y:=((p20,c21),sq12)) rfl .z lw isAgg28 sizeOf28 (.inl rfl)) (QS rfl) (fun w1 hw=>⟨Z_,s_,(p20,c21),hM_,rfl,hN98,hw.pop⟩)
end Go.Proofs.YtnekckhjmnhinaaGreatDoor
namespace Go.Proofs.YtnekckhjmnhinaaGreatDoor.Sho
open E Go.RowKit
open Adr AdrT Agg
abbrev Qjz:List UInt8:=[40,110,111,110,101,41]
theorem QqU:no 32 Qjz:=by intro x hx;simp only [Qjz,List.mem_cons,List.not_mem_nil,or_false] at hx;rcases hx with rfl | rfl | rfl | rfl | rfl | rfl<;>decide
theorem QqV{l:List UInt8}(h:no 43 l):l≠Qjz:=fun e=>by
 have:=h 40 (by rw [e];simp [Qjz])
 exact absurd this (by decide)
theorem Qnp:(⟨#[40,110,111,110,101,41]⟩:ByteArray)=bs Qjz:=rfl
theorem QkH(a b:List UInt8):seq (bs a) (bs b)=decide (a=b):=by
 rw [Qqk]
 exact decide_eq_decide.2 ⟨fun h=>Qk1 h,fun h=>by rw [h]⟩
def kT(v:Vector Int 32):List UInt8:=Six.encP (unb v.toList)
def QuC(x:List UInt8):List Int×Int:=if x.length%4≠0 then ([],5) else Six.fin (Six.vals (Six.strip x))
def QmL(x:List UInt8):Vector Int 32×Int:=Key.par (QuC x)
theorem Qjs(x:List UInt8)(h:x.length≤9500):QfR (bs x)=some (QmL x)∧Qb8 (bs x)=some (QmL x):=by
 have h1:QaK (bs x)=some (QuC x):=Six.decode_eq x (by omega)
 have h2:Qy (bs x)=some (QuC x):=Six.refDecode_eq x (by omega)
 refine ⟨?_,?_⟩
 ·unfold QfR;rw [h1,Qa];exact Key.parse_of _ Key.keysOf_eq
 ·unfold Qb8;rw [h2,Qa];exact Key.parse_ref _
theorem QiJ(v:Vector Int 32)(hv:Key.IsB v):Qek v=some (bs (kT v))∧Qbq v=some (bs (kT v))∧(kT v).length=44∧no 32 (kT v)∧QmL (kT v)=(v,0):=by
 obtain ⟨l,hl,h32⟩:=hv.ob
 have e:kT v=Six.encP l:=by unfold kT;rw [hl,Key.unb_ob]
 have e2:QuC (Six.encP l)=(ob l,0):=by
  have h1:QaK (bs (Six.encP l))=some (QuC (Six.encP l)):=Six.decode_eq _ (by rw [Six.encP_length];omega)
  have h2:QaK (bs (Six.encP l))=some (ob l,0):=Six.decode_enc l (by omega)
  rw [h1] at h2
  exact Option.some.inj h2
 rw [e]
 refine ⟨?_,?_,by rw [Six.encP_length,h32],QuA _ l (Nat.le_refl _),?_⟩
 ·unfold Qek;rw [hl,Six.encode_eq l (by omega),Qa];rfl
 ·unfold Qbq;rw [Key.bytes_eq,Qa,hl,Six.refEncode_eq l (by omega),Qa];rfl
 ·unfold QmL Key.par
  rw [e2,if_neg (by simp),←hl,Key.ofR_vec]
theorem Qn0:Key.IsB (Vector.replicate 32 (0:Int):Vector Int 32):=by
 intro n hn
 rw [Vector.toList_replicate] at hn
 rw [(List.mem_replicate.1 hn).2];decide
theorem QvB(l:List UInt8):∀ n∈ob l,(Lit.int .u8 n).wf=true:=fun n hn=>by
 obtain ⟨b,_,rfl⟩:=List.mem_map.1 hn
 have:=b.toNat_lt
 simp [Lit.wf,IntKind.min,IntKind.max,IntKind.signed,IntKind.bits]
 omega
theorem Qnz(x:List UInt8):Key.IsB (QmL x).1:=by
 have hob:∃ l,(QuC x).1=ob l:=by
  unfold QuC
  split
  ·exact ⟨[],rfl⟩
  ·unfold Six.fin
   split
   ·exact ⟨[],rfl⟩
   ·split
    ·exact ⟨_,rfl⟩
    ·exact ⟨[],rfl⟩
 obtain ⟨l,hl⟩:=hob
 unfold QmL Key.par
 split
 ·exact Qn0
 ·unfold Key.ofR
  split
  ·exact Qn0
  ·split
   ·exact Qn0
   ·next h1 h2 =>
    intro n hn
    rw [Qda _ _ (by omega),hl] at hn
    exact QvB l n (List.mem_of_mem_take hn)
def dT(n:Int):List UInt8:=Lib.decDigits n.toNat
theorem QeY(n:Int)(h:0≤n∧n<18446744073709551616):Qbi n=some (bs (dT n))∧Qab n=some (bs (dT n))∧(dT n).length≤20∧no 44 (dT n)∧∀ most:Nat,n≤most→rdU (dT n) most=(n.toNat,0):=by
 obtain ⟨k,rfl⟩:∃ k:Nat,n=(k:Int):=⟨n.toNat,by omega⟩
 have e:dT (k:Int)=Lib.decDigits k:=by unfold dT;rw [Int.toNat_natCast]
 rw [e,Int.toNat_natCast,←Cid.fmtU_bs]
 exact ⟨QeK k (by omega),Qf0 k (by omega),QdM k (by omega),Qi2 k,fun most hm=>by rw [Qjo,if_pos (by omega)]⟩
theorem Qhd(x:List UInt8)(h:x.length≤100000)(most:Nat)(hm:most<18446744073709551616):QcP (bs x) (most:Int)=some (Ql0 (rdU x most))∧QA (bs x) (most:Int)=some (Ql0 (rdU x most)):=by
 have h1:=QhY (bs x) most (by rw [QT];omega) hm
 have h2:=Qjn (bs x) most (by rw [QT];omega) hm
 rw [QaJ] at h1 h2
 exact ⟨h1,h2⟩
theorem QtC{V:Int}{l:List UInt8}(hl:l.length=16)(hr:QbW V l=true):Qf6 (mkA V l):=by
 refine ⟨?_,?_⟩
 ·have:V=4∨V=6:=by
   unfold QbW at hr
   rw [Bool.or_eq_true,Bool.and_eq_true,beq_iff_eq,beq_iff_eq] at hr
   rcases hr with h | h
   ·exact .inr h
   ·exact .inl h.1
  show (Lit.int .i64 V).wf=true
  rcases this with rfl | rfl<;>decide
 ·show ∀ n∈(vb l).toList,_
  rw [QdX hl]
  exact QvB l
theorem Qte:∀ n∈(Vector.replicate 16 (0:Int):Vector Int 16).toList,(Lit.int .u8 n).wf=true:=by
 intro n hn
 rw [Vector.toList_replicate] at hn
 rw [(List.mem_replicate.1 hn).2];decide
theorem Qm7:QcU Qko:=⟨⟨by decide,Qte⟩,by decide⟩
theorem QpY:Qbx Cid.zP:=⟨⟨by decide,Qte⟩,by decide⟩
def eT(e:Qr):List UInt8:=if e=Qko then Qjz else ((QdK e).getD ⟨#[]⟩).data.toList
theorem QrA(e:Qr)(ok:QcU e)(h:e=Qko∨rE e=true):Qg6 e=some (bs (eT e))∧(e≠Qko→Qcg e=some (bs (eT e)))∧(eT e).length≤80∧no 32 (eT e)∧(eT e=Qjz↔e=Qko)∧(e≠Qko→Host.endP (eT e)=(e,0)):=by
 have hno:QdL e=some (decide (e=Qko)):=rfl
 unfold Qg6
 rw [hno,Qa]
 by_cases hz:e=Qko
 ·have he:eT e=Qjz:=by unfold eT;rw [if_pos hz]
  rw [he,decide_eq_true hz,if_pos rfl]
  exact ⟨rfl,fun h=>absurd hz h,by decide,QqU,by simp [hz],fun h=>absurd hz h⟩
 ·have hr:=h.resolve_left hz
  obtain ⟨V,l,n,rfl,hl,_⟩:=Host.exists_mkE e ok
  unfold rE at hr
  rw [Host.right_code12 hl] at hr
  have hr:Host.rightE V l n=true:=hr
  obtain ⟨h1,k,rfl,h2,h3⟩:=Host.rightE_iff hr
  have t1:=Host.text_code12 (n:=(k:Int)) (V:=V) hl
  have t2:=Host.text_ref12 (n:=(k:Int)) (V:=V) hl
  rw [hr,if_pos rfl,Int.toNat_natCast] at t1 t2
  have he:eT (Host.mkE (mkA V l) (k:Int))=Host.hostL V l k:=by
   unfold eT
   rw [if_neg hz,t1]
   exact QaJ _
  have h44:=Quo (V:=V) hl k
  rw [he,decide_eq_false hz,if_neg Bool.false_ne_true,t1,Qa]
  refine ⟨rfl,fun _=>t2,Nat.le_trans (Host.hostL_len hl k h3) (by omega),h44.mono (by omega),?_,fun _=>Host.endP_text hl h1 k h2 h3⟩
  exact ⟨fun e=>absurd e (QqV (h44.mono (by omega))),fun e=>absurd e hz⟩
theorem QoQ(x:List UInt8)(h:x.length<100000):Qdt (bs x)=some (Host.endP x)∧Qcu (bs x)=some (Host.endP x):=⟨Host.host_parse x h,Host.ref_parse12 x h⟩
theorem QsY{h p:List UInt8}(e:(Host.endQ h p).2≠0):(Host.endQ h p).1=Qko:=by
 unfold Host.endQ at e ⊢
 split
 ·next h1 =>
  rw [if_pos h1] at e
  split
  ·next h2 =>
   rw [if_pos h2] at e
   split
   ·rfl
   ·next h3=>rw [if_neg h3] at e;exact absurd rfl e
  ·rfl
 ·rfl
theorem QvP(x:List UInt8):QcU (Host.endP x).1:=by
 unfold Host.endP
 split
 ·next h p _ =>
  by_cases h0:(Host.endQ h p).2=0
  ·obtain ⟨V,l,k,e,hl,hr,h1,h2⟩:=Host.endQ_ok h0
   rw [e]
   refine ⟨QtC hl hr,?_⟩
   show (Lit.int .i64 ((k:Nat):Int)).wf=true
   simp [Lit.wf,IntKind.min,IntKind.max,IntKind.signed,IntKind.bits]
   omega
  ·rw [QsY h0];exact Qm7
 ·exact Qm7
def cT(p:Px):List UInt8:=((Qfr p).getD ⟨#[]⟩).data.toList
theorem QhO(p:Px)(ok:Qbx p)(h:rgt p=true):Qfr p=some (bs (cT p))∧Qch p=some (bs (cT p))∧(cT p).length≤70∧no 44 (cT p)∧Cid.cidP (cT p)=(p,0):=by
 obtain ⟨V,l,b,rfl,hl,_⟩:=Cid.exists_mkP p ok
 unfold rgt at h
 rw [Cid.cright_code hl] at h
 have h:Cid.rightP V l b=true:=h
 have t1:=Cid.ctext_code (V:=V) (b:=b) hl
 have t2:=Cid.ctext_ref (V:=V) (b:=b) hl
 rw [h,if_pos rfl] at t1 t2
 obtain ⟨⟨_,h0,h1⟩,_⟩:=Cid.rightP_iff.1 h
 obtain ⟨k,rfl⟩:∃ k:Nat,b=(k:Int):=⟨b.toNat,by omega⟩
 rw [Int.toNat_natCast] at t1 t2
 have hw:=Qe3 (V:=V) (l:=l)
 have hc:cT (Cid.mkP (mkA V l) (k:Int))=Cid.cidT V l k:=by
  unfold cT
  rw [t1]
  exact QaJ _
 rw [hc]
 exact ⟨t1,t2,Cid.cidT_len hl k (by omega),QvZ hl k,Cid.cidP_text hl k h⟩
theorem QoU(x:List UInt8)(h:x.length<100000):Qfe (bs x)=some (Cid.cidP x)∧Qcv (bs x)=some (Cid.cidP x):=⟨Cid.cid_parse x h,Cid.cid_parse_ref x h⟩
theorem Qtr{V b:Int}{k:List UInt8}(hk:k.length=16):Qbx (Cid.ofP V k b).1:=by
 unfold Cid.ofP
 split
 ·next hr =>
  split
  ·next hf =>
   obtain ⟨_,h0,h1⟩:=Cid.fits_iff.1 hf
   have hw:=Qe3 (V:=V) (l:=k)
   have hrp:=Cid.rightP_of hk hf
   obtain ⟨⟨hr2,_,_⟩,_⟩:=Cid.rightP_iff.1 hrp
   refine ⟨QtC (Cid.mlen hk _) hr2,?_⟩
   show (Lit.int .i64 b).wf=true
   simp [Lit.wf,IntKind.min,IntKind.max,IntKind.signed,IntKind.bits]
   omega
  ·exact QpY
 ·exact QpY
theorem QvY(x:List UInt8):Qbx (Cid.cidP x).1:=by
 unfold Cid.cidP
 split
 ·split
  ·next h0 =>
   obtain ⟨V,k,hA,hk,hr⟩:=QeD h0
   rw [hA,Cid.wd_mkA hk,Cid.ofA_mkA hk];exact Qtr hk
  ·exact QpY
 ·split
  ·next h0 =>
   obtain ⟨V,k,hA,hk,hr⟩:=QeD h0
   split
   ·rw [hA,Cid.ofA_mkA hk];exact Qtr hk
   ·exact QpY
  ·exact QpY
end Go.Proofs.YtnekckhjmnhinaaGreatDoor.Sho
namespace Go.Proofs.YtnekckhjmnhinaaGreatDoor
open E Go.RowKit _root_.Go.Proofs.Tryz
theorem QnE:(Tryz.prog.info? 60).isSome=true:=by kernel_rfl
noncomputable def Qpu:TypeInfo:=(Tryz.prog.info? 60).get QnE
theorem QoG:Tryz.prog.info? 60=some Qpu:=(Option.some_get _).symm
def Qaz.l0(x1:List ByteArray)(i10:Int)(i11:Qx)(i12:Q3):Option (Qx×Q3) :=
 if (decide (i10<(x1.length:Int)))=true then (if (0:Int)≤i10∧i10<(x1.length:Int) then strings_Split (QO x1 i10) (⟨#[9]⟩:ByteArray)>>=fun t28=>if (i10==0)=true then (if ((t28.length:Int)==3)=true then (if (0:Int)≤0∧0<(t28.length:Int) then QcS i12 (QO t28 0)>>=fun t37=>if (0:Int)≤1∧1<(t28.length:Int) then QbC t37.2 (QO t28 1) 65535>>=fun t42=>if (0:Int)≤2∧2<(t28.length:Int) then QbC t42.2 (QO t28 2) 4294967295>>=fun t47=>Qaz.l0 x1 (wr .i64 (i10+1)) ({ { { i11 with f_Private:=t37.1 } with f_Port:=wr .i64 t42.1 } with f_Mark:=wr .u32 t47.1 }) t47.2 else none else none else none) else (if (decide (i10>0))=true then (if ((t28.length:Int)==7)=true then (QcZ i12 t28>>=fun t53=>if (i11.f_Peers.length+1)*144≤140737488355328 then Qaz.l0 x1 (wr .i64 (i10+1)) ({ i11 with f_Peers:=i11.f_Peers++[t53.1] }) t53.2 else none) else (Qbe i12 5>>=fun t68=>Qaz.l0 x1 (wr .i64 (i10+1)) i11 t68)) else (Qbe i12 5>>=fun t69=>Qaz.l0 x1 (wr .i64 (i10+1)) i11 t69))) else (if (decide (i10>0))=true then (if ((t28.length:Int)==7)=true then (QcZ i12 t28>>=fun t74=>if (i11.f_Peers.length+1)*144≤140737488355328 then Qaz.l0 x1 (wr .i64 (i10+1)) ({ i11 with f_Peers:=i11.f_Peers++[t74.1] }) t74.2 else none) else (Qbe i12 5>>=fun t89=>Qaz.l0 x1 (wr .i64 (i10+1)) i11 t89)) else (Qbe i12 5>>=fun t90=>Qaz.l0 x1 (wr .i64 (i10+1)) i11 t90)) else none) else (some (i11,i12))
 partial_fixpoint
def Qaz(x0:Q3)(x1:List ByteArray):Option (Qx×Q3) :=
 Qaz.l0 x1 0 ({ f_Private:=(Vector.replicate 32 (0:Int):(Vector Int 32)),f_Port:=(0:Int),f_Mark:=(0:Int),f_Peers:=([]:List Qq) }:Qx) x0>>=fun q9=>some (q9.1,q9.2)
set_option maxHeartbeats 3200000 in
theorem QhD{x0:Q3}{x1:List ByteArray}{r:Qx×Q3}(hF:Qaz x0 x1=some r):∀ {w0 w:World} {G_:List Ent} {Z_:List Nat} {s_:World} {b0_:Nat} {p1_:Option Addr} {c1_:Nat} (hz1:RowK (KZ w0 Z_) QbA s_ p1_ c1_ x1) (hw_:Wd w0 (QcM w0 Z_ s_::Qi b0_ (Cd.cs Qt x0) 44::G_) w) (hg_bytealg_MaxLen:GV_bytealg_MaxLen w0) (hg_strconv_ErrRange:GV_strconv_ErrRange w0) (hg_strconv_ErrSyntax:GV_strconv_ErrSyntax w0),
    Calls Tryz.prog 16 #[.pointer (some ⟨b0_,0,none⟩),.slice p1_ x1.length c1_] w (fun e w'=>∃ (Z':List Nat) (s':World) (z:Qbs),Qc7 (KZ w0 Z_) s_ (KZ w0 Z') s'∧e=.returned (.agg (Cd.cs Qh (z,r.1)).toArray)∧(Qao (KZ w0 Z') s' (z,r.1))∧Wd w0 (QcM w0 Z' s'::Qi b0_ (Cd.cs Qt r.2) 44::G_) w'):=by
 intro w0 w G_ Z_ s_ b0_ p1_ c1_ hz1 hw_ hg_bytealg_MaxLen hg_strconv_ErrRange hg_strconv_ErrSyntax
 unfold Qaz at hF
 refine ce (l:=[.pointer (some ⟨b0_,0,none⟩),.slice p1_ x1.length c1_]) func16 rfl rfl ?_
 refine QfX hw_ ?_
 clear hw_
 obtain ⟨Z0_,hZ0_⟩:∃ Z0_,Z0_=Z_:=⟨_,rfl⟩
 obtain ⟨s0_,hs0_⟩:∃ s0_,s0_=s_:=⟨_,rfl⟩
 have hM_:Qc7 (KZ w0 Z0_) s0_ (KZ w0 Z_) s_:=by rw [hZ0_,hs0_];exact Qc7.refl _ _
 rw [←hZ0_,←hs0_]
 rw [show QcM w0 Z0_ s0_=QcM w0 Z_ s_ from by rw [hZ0_,hs0_]]
 refine sr ?_
 refine al (cs:=Cd.cs Qh Qc1) zeroValue28 ?_
 intro b1
 refine ns ?_
 refine al (cs:=Cd.cs Qh Qc1) zeroValue28 ?_
 intro b2
 refine nt (qs (sr (am ?_)))
 refine aw (QZ underlying46 rfl) ?_
 refine am (nwq [11,10,9,5,4,0] ?_)
 refine qb ?_
 refine Qco Qf 60 ?_
 obtain ⟨q9,hq9,hF⟩:=bM hF
 refine Qac (.s .z) ?_
 refine wq [11,10,9,5,4,0] ?_
 refine Qal (B:=0) (A:=fun Y=>∀ (Z_:List Nat) (s_:World) (hM_:Qc7 (KZ w0 Z0_) s0_ (KZ w0 Z_) s_) (hz1:RowK (KZ w0 Z_) QbA s_ p1_ c1_ x1) (p18:Option Addr) (c19:Nat) (zs20:List (QR×Qq)) (hz21:List.map Prod.snd zs20=q9.1.f_Peers) (ha22:∀ z∈zs20,Qu (KZ w0 Z_) s_ z),At 66 [(4,.pointer (some ⟨b1,0,none⟩)),(5,.pointer (some ⟨b2,0,none⟩))] (Wd w0 (Qi b2 (Cd.cs Qh ((p18,c19),q9.1)) 28::Qbm Qf 60 p18 c19 zs20::Qi b1 (Cd.cs Qh Qc1) 28::QcM w0 Z_ s_::Qi b0_ (Cd.cs Qt q9.2) 44::G_)) Y) ?_ ?_
 ·intro K
  refine Qaz.l0.partial_correctness x1 (motive:=fun i10 i11 i12 x=>KN (fun Y=>∀ (Z_:List Nat) (s_:World) (hM_:Qc7 (KZ w0 Z0_) s0_ (KZ w0 Z_) s_) (hz1:RowK (KZ w0 Z_) QbA s_ p1_ c1_ x1) (p18:Option Addr) (c19:Nat) (zs20:List (QR×Qq)) (hz21:List.map Prod.snd zs20=x.1.f_Peers) (ha22:∀ z∈zs20,Qu (KZ w0 Z_) s_ z),At 66 [(4,.pointer (some ⟨b1,0,none⟩)),(5,.pointer (some ⟨b2,0,none⟩))] (Wd w0 (Qi b2 (Cd.cs Qh ((p18,c19),x.1)) 28::Qbm Qf 60 p18 c19 zs20::Qi b1 (Cd.cs Qh Qc1) 28::QcM w0 Z_ s_::Qi b0_ (Cd.cs Qt x.2) 44::G_)) Y) _ 0→QbB (fun Y=>∀ (Z_:List Nat) (s_:World) (hM_:Qc7 (KZ w0 Z0_) s0_ (KZ w0 Z_) s_) (hz1:RowK (KZ w0 Z_) QbA s_ p1_ c1_ x1) (p13:Option Addr) (c14:Nat) (zs15:List (QR×Qq)) (hz16:List.map Prod.snd zs15=(i11.f_Peers)) (ha17:∀ z∈zs15,Qu (KZ w0 Z_) s_ z),At 66 [(0,.pointer (some ⟨b0_,0,none⟩)),(4,.pointer (some ⟨b1,0,none⟩)),(5,.pointer (some ⟨b2,0,none⟩)),(9,.slice p1_ x1.length c1_),(10,.int .i64 (x1.length:Int)),(11,.int .i64 i10)] (Wd w0 (Qi b2 (Cd.cs Qh ((p13,c14),i11)) 28::Qbm Qf 60 p13 c14 zs15::Qi b1 (Cd.cs Qh Qc1) 28::QcM w0 Z_ s_::Qi b0_ (Cd.cs Qt i12) 44::G_)) Y) _ _ _) ?_ _ _ _ _ hq9 K Z_ s_ hM_ hz1 (nn 3) 0 ([]:List (QR×Qq)) rfl all_nil
  ·clear K hF
   intro g ih i10 i11 i12 x hF K Z_ s_ hM_ hz1 p13 c14 zs15 hz16 ha17
   refine QW ?_
   refine sr (aw xl (nwq [12,11,10,9,5,4,0] ?_))
   refine qs ?_
   obtain ⟨h23,hF⟩|⟨h23,hF⟩:=oi hF
   ·refine ct h23 ?_
    refine sn (qs (qb (sr (am ?_))))
    obtain ⟨h24,hF⟩:=gd hF
    obtain ⟨b26,o27,hp25⟩:=Qaa (RowK.row hz1) h24
    refine aw (QbD underlying46 sizeOf9 rfl rfl h24 hp25) ?_
    refine aw (Qe isAgg9 rfl (fun w1 hw=>QP (W:=fun w1=>w1=_) (fun w1 h=>by subst h;exact Below.refl _ _) (RowK.row (RowK.mono hz1 (QaX (.s (.s (.s .z))) hw))) h24 hp25 rfl _ rfl)) ?_
    refine aa (aa (ns (am ?_)))
    obtain ⟨t28,ht28,hF⟩:=bM hF
    refine QbU (c:=QbA) (e:=9) (ys:=t28) (V:=fun p cap=>.slice p t28.length cap) func46 rfl (by kernel_rfl) rfl rfl (fun w hw=>Qgk _ _ _ ht28 w (hg_bytealg_MaxLen.on hw.below)) ?_
    intro p29 c30
    refine aa (nwq [11,10,9,8,6,5,4,0] ?_)
    refine qb (sr (am (aw xq (am ?_))))
    obtain ⟨h31,hF⟩|⟨h31,hF⟩:=oi hF
    ·refine fx 23 h31 ?_
     refine gy (am (gy ?_))
     refine aw (QZ underlying46 rfl) ?_
     refine gy (aw xq (aw xp (aa (nwq [20,11,10,9,8,6,5,4,0] ?_))))
     obtain ⟨h32,hF⟩|⟨h32,hF⟩:=oi hF
     ·refine ct h32 ?_
      refine wq [11,10,9,8,5,4,0] ?_
      obtain ⟨h33,hF⟩:=gd hF
      refine Qae (φ:=∃ b o,p29=some ⟨b,o,none⟩) (fun _ hw=>Qaa (hw.own .z).row h33) ?_
      rintro ⟨b35,o36,hp34⟩
      obtain ⟨t37,ht37,hF⟩:=bM hF
      obtain ⟨h38,hF⟩:=gd hF
      refine Qae (φ:=∃ b o,p29=some ⟨b,o,none⟩) (fun _ hw=>Qaa (hw.own .z).row h38) ?_
      rintro ⟨b40,o41,hp39⟩
      obtain ⟨t42,ht42,hF⟩:=bM hF
      obtain ⟨h43,hF⟩:=gd hF
      refine Qae (φ:=∃ b o,p29=some ⟨b,o,none⟩) (fun _ hw=>Qaa (hw.own .z).row h43) ?_
      rintro ⟨b45,o46,hp44⟩
      obtain ⟨t47,ht47,hF⟩:=bM hF
      refine Qey [.q 28 (fun g48=>.pointer (some ⟨b0_,0,none⟩)) [] 0 0,.q 29 (fun g48=>.slice p29 t28.length c30) [] 0 0,.q 30 (fun g48=>.pointer (some ⟨b35,o36+Int.toNat 0*1,none⟩)) [1] 0 0,.q 31 (fun g48=>.string (QO t28 0)) [2] 0 0,.st 0 (some (32,fun g48=>.agg (Cd.cs (QQ (Qv .u8) 32 (by decide)) t37.1).toArray)) [0,3],.q 33 (fun g48=>.pointer (some ⟨b0_,0,none⟩)) [] 0 1,.q 34 (fun g48=>.slice p29 t28.length c30) [] 0 1,.q 35 (fun g48=>.pointer (some ⟨b40,o41+Int.toNat 1*1,none⟩)) [6] 0 1,.q 36 (fun g48=>.string (QO t28 1)) [7] 0 1,.st 1 (some (37,fun g48=>.int .u64 t42.1)) [5,8],.q 38 (fun g48=>.int .i64 (wr .i64 t42.1)) [9] 2 4,.q 39 (fun g48=>.pointer (some ⟨b0_,0,none⟩)) [] 0 2,.q 40 (fun g48=>.slice p29 t28.length c30) [] 0 2,.q 41 (fun g48=>.pointer (some ⟨b45,o46+Int.toNat 2*1,none⟩)) [12] 0 2,.q 42 (fun g48=>.string (QO t28 2)) [13] 0 2,.st 2 (some (43,fun g48=>.int .u64 t47.1)) [11,14],.q 44 (fun g48=>.int .u32 (wr .u32 t47.1)) [15] 3 5,.q 45 (fun g48=>.pointer (some ⟨b2,0+0,none⟩)) [] 1 3,.st 3 none [4,17],.q 46 (fun g48=>.pointer (some ⟨b2,0+32,none⟩)) [] 4 4,.st 4 none [10,19],.q 47 (fun g48=>.pointer (some ⟨b2,0+33,none⟩)) [] 5 5,.st 5 none [16,21]] (fun g48 s=>match s with | 0=>(Wd w0 (Qbm QbA 9 p29 c30 t28::Qi b2 (Cd.cs Qh ((p13,c14),i11)) 28::Qbm Qf 60 p13 c14 zs15::Qi b1 (Cd.cs Qh Qc1) 28::QcM w0 Z_ s_::Qi b0_ (Cd.cs Qt i12) 44::G_)) | 1=>(Wd w0 (Qbm QbA 9 p29 c30 t28::Qi b2 (Cd.cs Qh ((p13,c14),i11)) 28::Qbm Qf 60 p13 c14 zs15::Qi b1 (Cd.cs Qh Qc1) 28::QcM w0 Z_ s_::Qi b0_ (Cd.cs Qt t37.2) 44::G_)) | 2=>(Wd w0 (Qbm QbA 9 p29 c30 t28::Qi b2 (Cd.cs Qh ((p13,c14),i11)) 28::Qbm Qf 60 p13 c14 zs15::Qi b1 (Cd.cs Qh Qc1) 28::QcM w0 Z_ s_::Qi b0_ (Cd.cs Qt t42.2) 44::G_)) | 3=>(Wd w0 (Qbm QbA 9 p29 c30 t28::Qi b2 (Cd.cs Qh ((p13,c14),i11)) 28::Qbm Qf 60 p13 c14 zs15::Qi b1 (Cd.cs Qh Qc1) 28::QcM w0 Z_ s_::Qi b0_ (Cd.cs Qt t47.2) 44::G_)) | 4=>(Wd w0 (Qbm QbA 9 p29 c30 t28::Qi b2 (Cd.cs Qh ((p13,c14),{ i11 with f_Private:=t37.1 })) 28::Qbm Qf 60 p13 c14 zs15::Qi b1 (Cd.cs Qh Qc1) 28::QcM w0 Z_ s_::Qi b0_ (Cd.cs Qt t47.2) 44::G_)) | 5=>(Wd w0 (Qbm QbA 9 p29 c30 t28::Qi b2 (Cd.cs Qh ((p13,c14),{ { i11 with f_Private:=t37.1 } with f_Port:=wr .i64 t42.1 })) 28::Qbm Qf 60 p13 c14 zs15::Qi b1 (Cd.cs Qh Qc1) 28::QcM w0 Z_ s_::Qi b0_ (Cd.cs Qt t47.2) 44::G_)) | _=>(Wd w0 (Qbm QbA 9 p29 c30 t28::Qi b2 (Cd.cs Qh ((p13,c14),{ { { i11 with f_Private:=t37.1 } with f_Port:=wr .i64 t42.1 } with f_Mark:=wr .u32 t47.1 })) 28::Qbm Qf 60 p13 c14 zs15::Qi b1 (Cd.cs Qh Qc1) 28::QcM w0 Z_ s_::Qi b0_ (Cd.cs Qt t47.2) 44::G_))) 6 (by kernel_rfl) (by kernel_rfl) (by kernel_rfl) (by kernel_rfl) (by kernel_rfl) ⟨fun _ _ _=>rfl,fun _ _ _=>rfl,fun _ _ _=>rfl,fun _ _ _=>rfl,fun _ _ _=>rfl,fun _ _ _=>rfl,fun _ _ _=>rfl,fun _ _ _=>rfl,fun _ _ _=>rfl,fun _ _ _=>rfl,fun _ _ _=>rfl,fun _ _ _=>rfl,fun _ _ _=>rfl,fun _ _ _=>rfl,fun _ _ _=>rfl,fun _ _ _=>rfl,fun _ _ _=>rfl,fun _ _ _=>rfl,fun _ _ _=>rfl,fun _ _ _=>rfl,fun _ _ _=>rfl,fun _ _ _=>rfl,fun _ _ _=>rfl,trivial⟩ (by kernel_rfl) (fun w_ h=>⟨fun _=>g3 0 none 0 none w_,h.drew⟩) ⟨?_,?_,?_,?_,?_,?_,?_,?_,?_,?_,?_,?_,?_,?_,?_,?_,?_,?_,?_,?_,?_,?_,?_,trivial⟩ ?_
      ·intro Lx g48 s K hl hh k
       show At 66 ((0,_)::(4,_)::(5,_)::(8,_)::(9,_)::(10,_)::(11,_)::Lx) _ _
       refine am ?_
       exact Qs k
      ·intro Lx g48 s K hl hh k
       show At 66 ((0,_)::(4,_)::(5,_)::(8,_)::(9,_)::(10,_)::(11,_)::Lx) _ _
       refine am ?_
       exact Qs k
      ·intro Lx g48 s K hl hh k
       show At 66 ((29,_)::(0,_)::(4,_)::(5,_)::(8,_)::(9,_)::(10,_)::(11,_)::Lx) _ _
       refine aw (QbD underlying46 sizeOf9 rfl rfl h33 hp34) ?_
       exact Qs k
      ·intro Lx g48 s K hl hh k
       show At 66 ((30,_)::(0,_)::(4,_)::(5,_)::(8,_)::(9,_)::(10,_)::(11,_)::Lx) _ _
       obtain rfl:s=0:=by omega
       refine aw (Qe isAgg9 rfl (fun _ hw=>QP (W:=fun w1=>w1=_) (fun w1 h=>by subst h;exact Below.refl _ _) (hw.own .z).row h33 hp34 rfl _ rfl)) ?_
       exact Qs k
      ·intro Lx g48 K k
       show At 66 ((28,_)::(31,_)::(0,_)::(4,_)::(5,_)::(8,_)::(9,_)::(10,_)::(11,_)::Lx) _ _
       refine QbM (E':=Qi b0_ (Cd.cs Qt t37.2) 44) func47 rfl (by kernel_rfl) rfl rfl (fun w hw=>Qeh _ _ _ _ ht37 w (.s (.s (.s (.s (.s .z))))) hw) ?_
       exact Qs k
      ·intro Lx g48 s K hl hh k
       show At 66 ((0,_)::(4,_)::(5,_)::(8,_)::(9,_)::(10,_)::(11,_)::Lx) _ _
       refine am ?_
       exact Qs k
      ·intro Lx g48 s K hl hh k
       show At 66 ((0,_)::(4,_)::(5,_)::(8,_)::(9,_)::(10,_)::(11,_)::Lx) _ _
       refine am ?_
       exact Qs k
      ·intro Lx g48 s K hl hh k
       show At 66 ((34,_)::(0,_)::(4,_)::(5,_)::(8,_)::(9,_)::(10,_)::(11,_)::Lx) _ _
       refine aw (QbD underlying46 sizeOf9 rfl rfl h38 hp39) ?_
       exact Qs k
      ·intro Lx g48 s K hl hh k
       show At 66 ((35,_)::(0,_)::(4,_)::(5,_)::(8,_)::(9,_)::(10,_)::(11,_)::Lx) _ _
       rcases (by omega:s=0∨s=1) with rfl | rfl
       ·skip
        refine aw (Qe isAgg9 rfl (fun _ hw=>QP (W:=fun w1=>w1=_) (fun w1 h=>by subst h;exact Below.refl _ _) (hw.own .z).row h38 hp39 rfl _ rfl)) ?_
        exact Qs k
       skip
       refine aw (Qe isAgg9 rfl (fun _ hw=>QP (W:=fun w1=>w1=_) (fun w1 h=>by subst h;exact Below.refl _ _) (hw.own .z).row h38 hp39 rfl _ rfl)) ?_
       exact Qs k
      ·intro Lx g48 K k
       show At 66 ((33,_)::(36,_)::(0,_)::(4,_)::(5,_)::(8,_)::(9,_)::(10,_)::(11,_)::Lx) _ _
       refine QbM (E':=Qi b0_ (Cd.cs Qt t42.2) 44) func48 rfl (by kernel_rfl) rfl rfl (fun w hw=>QbY _ _ _ _ _ ht42 w (.s (.s (.s (.s (.s .z))))) hw hg_strconv_ErrRange hg_strconv_ErrSyntax) ?_
       exact Qs k
      ·intro Lx g48 s K hl hh k
       show At 66 ((37,_)::(0,_)::(4,_)::(5,_)::(8,_)::(9,_)::(10,_)::(11,_)::Lx) _ _
       refine aw (QaW underlying41 underlying3 rfl) ?_
       exact Qs k
      ·intro Lx g48 s K hl hh k
       show At 66 ((0,_)::(4,_)::(5,_)::(8,_)::(9,_)::(10,_)::(11,_)::Lx) _ _
       refine am ?_
       exact Qs k
      ·intro Lx g48 s K hl hh k
       show At 66 ((0,_)::(4,_)::(5,_)::(8,_)::(9,_)::(10,_)::(11,_)::Lx) _ _
       refine am ?_
       exact Qs k
      ·intro Lx g48 s K hl hh k
       show At 66 ((40,_)::(0,_)::(4,_)::(5,_)::(8,_)::(9,_)::(10,_)::(11,_)::Lx) _ _
       refine aw (QbD underlying46 sizeOf9 rfl rfl h43 hp44) ?_
       exact Qs k
      ·intro Lx g48 s K hl hh k
       show At 66 ((41,_)::(0,_)::(4,_)::(5,_)::(8,_)::(9,_)::(10,_)::(11,_)::Lx) _ _
       rcases (by omega:s=0∨s=1∨s=2) with rfl | rfl | rfl
       ·skip
        refine aw (Qe isAgg9 rfl (fun _ hw=>QP (W:=fun w1=>w1=_) (fun w1 h=>by subst h;exact Below.refl _ _) (hw.own .z).row h43 hp44 rfl _ rfl)) ?_
        exact Qs k
       ·skip
        refine aw (Qe isAgg9 rfl (fun _ hw=>QP (W:=fun w1=>w1=_) (fun w1 h=>by subst h;exact Below.refl _ _) (hw.own .z).row h43 hp44 rfl _ rfl)) ?_
        exact Qs k
       skip
       refine aw (Qe isAgg9 rfl (fun _ hw=>QP (W:=fun w1=>w1=_) (fun w1 h=>by subst h;exact Below.refl _ _) (hw.own .z).row h43 hp44 rfl _ rfl)) ?_
       exact Qs k
      ·intro Lx g48 K k
       show At 66 ((39,_)::(42,_)::(0,_)::(4,_)::(5,_)::(8,_)::(9,_)::(10,_)::(11,_)::Lx) _ _
       refine QbM (E':=Qi b0_ (Cd.cs Qt t47.2) 44) func48 rfl (by kernel_rfl) rfl rfl (fun w hw=>QbY _ _ _ _ _ ht47 w (.s (.s (.s (.s (.s .z))))) hw hg_strconv_ErrRange hg_strconv_ErrSyntax) ?_
       exact Qs k
      ·intro Lx g48 s K hl hh k
       show At 66 ((43,_)::(0,_)::(4,_)::(5,_)::(8,_)::(9,_)::(10,_)::(11,_)::Lx) _ _
       refine aw (QaW underlying41 underlying25 rfl) ?_
       exact Qs k
      ·intro Lx g48 s K hl hh k
       show At 66 ((0,_)::(4,_)::(5,_)::(8,_)::(9,_)::(10,_)::(11,_)::Lx) _ _
       refine fa 0 underlying28 rfl sizeOf24 ?_
       exact Qs k
      ·intro Lx g48 K k
       show At 66 ((32,_)::(45,_)::(0,_)::(4,_)::(5,_)::(8,_)::(9,_)::(10,_)::(11,_)::Lx) _ _
       refine Qn (c:=(QQ (Qv .u8) 32 (by decide))) (z:=t37.1) (.s .z) (Qcm (p13,c14) i11) sizeOf24 rfl rfl rfl ?_
       exact Qs k
      ·intro Lx g48 s K hl hh k
       show At 66 ((0,_)::(4,_)::(5,_)::(8,_)::(9,_)::(10,_)::(11,_)::Lx) _ _
       refine fa 32 underlying28 rfl sizeOf3 ?_
       exact Qs k
      ·intro Lx g48 K k
       show At 66 ((38,_)::(46,_)::(0,_)::(4,_)::(5,_)::(8,_)::(9,_)::(10,_)::(11,_)::Lx) _ _
       refine Qn (c:=(Qv .i64)) (z:=wr .i64 t42.1) (.s .z) (Qce (p13,c14) ({ i11 with f_Private:=t37.1 })) sizeOf3 rfl rfl rfl ?_
       exact Qs k
      ·intro Lx g48 s K hl hh k
       show At 66 ((0,_)::(4,_)::(5,_)::(8,_)::(9,_)::(10,_)::(11,_)::Lx) _ _
       refine fa 33 underlying28 rfl sizeOf25 ?_
       exact Qs k
      ·intro Lx g48 K k
       show At 66 ((44,_)::(47,_)::(0,_)::(4,_)::(5,_)::(8,_)::(9,_)::(10,_)::(11,_)::Lx) _ _
       refine Qn (c:=(Qv .u32)) (z:=wr .u32 t47.1) (.s .z) (QcR (p13,c14) ({ { i11 with f_Private:=t37.1 } with f_Port:=wr .i64 t42.1 })) sizeOf25 rfl rfl rfl ?_
       exact Qs k
      intro g48
      show At 66 [(28,_),(29,_),(30,_),(31,_),(32,_),(33,_),(34,_),(35,_),(36,_),(37,_),(38,_),(39,_),(40,_),(41,_),(42,_),(43,_),(44,_),(45,_),(46,_),(47,_),(0,_),(4,_),(5,_),(8,_),(9,_),(10,_),(11,_)] _ _
      refine dz (wq [11,10,9,5,4,0] ?_)
      refine Qby (Qby (tn ?_))
      refine qr (aw xa (am (nwq [11,10,9,5,4,0] ?_)))
      exact Qk (ih _ _ _ _ hF K Z_ s_ hM_ hz1 p13 c14 zs15 hz16 ha17) ⟨rfl,rfl,rfl,rfl,rfl,rfl,trivial⟩
     refine cf h32 ?_
     refine sr (am ?_)
     refine aw (QbI rfl rfl) ?_
     refine am ?_
     obtain ⟨h49,hF⟩|⟨h49,hF⟩:=oi hF
     ·refine fx 51 h49 ?_
      refine gy (am (gy ?_))
      refine aw (QZ underlying46 rfl) ?_
      refine gy (aw xq (aw xp (aa (nwq [48,11,10,9,8,5,4,0] ?_))))
      obtain ⟨h50,hF⟩|⟨h50,hF⟩:=oi hF
      ·refine ct h50 ?_
       refine wq [11,10,9,8,5,4,0] ?_
       obtain ⟨t53,ht53,hF⟩:=bM hF
       obtain ⟨h60,hF⟩:=gd hF
       refine Qey [.q 56 (fun g67=>.pointer (some ⟨b2,0+34,none⟩)) [] 0 2,.q 57 (fun g67=>.slice p13 i11.f_Peers.length c14) [0] 0 2,.q 58 (fun g67=>.pointer (some ⟨b0_,0,none⟩)) [] 0 0,.q 59 (fun g67=>.slice p29 t28.length c30) [] 0 0,.al 0 60 (fun g67=>.agg (Cd.cs Qf ((((g67 0).2.2.2.2.2.2 0)),t53.1)).toArray) [2,3],.al 1 61 (fun g67=>.slice (some ⟨((g67 1).1),0,none⟩) ([t53.1]:List Qq).length 1) [4],.al 2 62 (fun g67=>.slice ((g67 2).2.1) (i11.f_Peers++[t53.1]).length ((g67 2).2.2.1)) [1,5],.q 63 (fun g67=>.pointer (some ⟨b2,0+34,none⟩)) [] 3 3,.st 3 none [6,7]] (fun g67 s=>match s with | 0=>(Wd w0 (Qbm QbA 9 p29 c30 t28::Qi b2 (Cd.cs Qh ((p13,c14),i11)) 28::Qbm Qf 60 p13 c14 zs15::Qi b1 (Cd.cs Qh Qc1) 28::QcM w0 Z_ s_::Qi b0_ (Cd.cs Qt i12) 44::G_)) | 1=>(Wd w0 (Qbh (Qu (KZ w0 ((g67 0).2.2.2.2.1)) ((g67 0).2.2.2.2.2.1) ((((g67 0).2.2.2.2.2.2 0)),t53.1))::Qbh (RowK (KZ w0 ((g67 0).2.2.2.2.1)) QbA ((g67 0).2.2.2.2.2.1) p29 c30 t28)::Qbh (∀ z∈zs15,Qu (KZ w0 ((g67 0).2.2.2.2.1)) ((g67 0).2.2.2.2.2.1) z)::Qbh (RowK (KZ w0 ((g67 0).2.2.2.2.1)) QbA ((g67 0).2.2.2.2.2.1) p1_ c1_ x1)::Qbh (Qc7 (KZ w0 Z0_) s0_ (KZ w0 ((g67 0).2.2.2.2.1)) ((g67 0).2.2.2.2.2.1))::QcM w0 ((g67 0).2.2.2.2.1) ((g67 0).2.2.2.2.2.1)::Qi b0_ (Cd.cs Qt t53.2) 44::Qi b2 (Cd.cs Qh ((p13,c14),i11)) 28::Qbm Qf 60 p13 c14 zs15::Qi b1 (Cd.cs Qh Qc1) 28::G_)) | 2=>(Wd w0 (Qi ((g67 1).1) (Cd.all Qf ([((((g67 0).2.2.2.2.2.2 0)),t53.1)]:List (QR×Qq))) 60::Qbh (Qu (KZ w0 ((g67 0).2.2.2.2.1)) ((g67 0).2.2.2.2.2.1) ((((g67 0).2.2.2.2.2.2 0)),t53.1))::Qbh (RowK (KZ w0 ((g67 0).2.2.2.2.1)) QbA ((g67 0).2.2.2.2.2.1) p29 c30 t28)::Qbh (∀ z∈zs15,Qu (KZ w0 ((g67 0).2.2.2.2.1)) ((g67 0).2.2.2.2.2.1) z)::Qbh (RowK (KZ w0 ((g67 0).2.2.2.2.1)) QbA ((g67 0).2.2.2.2.2.1) p1_ c1_ x1)::Qbh (Qc7 (KZ w0 Z0_) s0_ (KZ w0 ((g67 0).2.2.2.2.1)) ((g67 0).2.2.2.2.2.1))::QcM w0 ((g67 0).2.2.2.2.1) ((g67 0).2.2.2.2.2.1)::Qi b0_ (Cd.cs Qt t53.2) 44::Qi b2 (Cd.cs Qh ((p13,c14),i11)) 28::Qbm Qf 60 p13 c14 zs15::Qi b1 (Cd.cs Qh Qc1) 28::G_)) | 3=>(Wd w0 (Qbh (∀ z∈mkz ((g67 2).2.2.2.2.2.2) (i11.f_Peers++[t53.1]),Qu (KZ w0 ((g67 0).2.2.2.2.1)) ((g67 0).2.2.2.2.2.1) z)::Qi ((g67 1).1) (Cd.all Qf ([((((g67 0).2.2.2.2.2.2 0)),t53.1)]:List (QR×Qq))) 60::Qbh (Qu (KZ w0 ((g67 0).2.2.2.2.1)) ((g67 0).2.2.2.2.2.1) ((((g67 0).2.2.2.2.2.2 0)),t53.1))::Qbh (RowK (KZ w0 ((g67 0).2.2.2.2.1)) QbA ((g67 0).2.2.2.2.2.1) p29 c30 t28)::Qbh (∀ z∈zs15,Qu (KZ w0 ((g67 0).2.2.2.2.1)) ((g67 0).2.2.2.2.2.1) z)::Qbh (RowK (KZ w0 ((g67 0).2.2.2.2.1)) QbA ((g67 0).2.2.2.2.2.1) p1_ c1_ x1)::Qbh (Qc7 (KZ w0 Z0_) s0_ (KZ w0 ((g67 0).2.2.2.2.1)) ((g67 0).2.2.2.2.2.1))::QcM w0 ((g67 0).2.2.2.2.1) ((g67 0).2.2.2.2.2.1)::Qi b0_ (Cd.cs Qt t53.2) 44::Qi b2 (Cd.cs Qh ((p13,c14),i11)) 28::Qbm Qf 60 ((g67 2).2.1) ((g67 2).2.2.1) (mkz ((g67 2).2.2.2.2.2.2) (i11.f_Peers++[t53.1]))::Qi b1 (Cd.cs Qh Qc1) 28::G_)) | _=>(Wd w0 (Qbh (∀ z∈mkz ((g67 2).2.2.2.2.2.2) (i11.f_Peers++[t53.1]),Qu (KZ w0 ((g67 0).2.2.2.2.1)) ((g67 0).2.2.2.2.2.1) z)::Qi ((g67 1).1) (Cd.all Qf ([((((g67 0).2.2.2.2.2.2 0)),t53.1)]:List (QR×Qq))) 60::Qbh (Qu (KZ w0 ((g67 0).2.2.2.2.1)) ((g67 0).2.2.2.2.2.1) ((((g67 0).2.2.2.2.2.2 0)),t53.1))::Qbh (RowK (KZ w0 ((g67 0).2.2.2.2.1)) QbA ((g67 0).2.2.2.2.2.1) p29 c30 t28)::Qbh (∀ z∈zs15,Qu (KZ w0 ((g67 0).2.2.2.2.1)) ((g67 0).2.2.2.2.2.1) z)::Qbh (RowK (KZ w0 ((g67 0).2.2.2.2.1)) QbA ((g67 0).2.2.2.2.2.1) p1_ c1_ x1)::Qbh (Qc7 (KZ w0 Z0_) s0_ (KZ w0 ((g67 0).2.2.2.2.1)) ((g67 0).2.2.2.2.2.1))::QcM w0 ((g67 0).2.2.2.2.1) ((g67 0).2.2.2.2.2.1)::Qi b0_ (Cd.cs Qt t53.2) 44::Qi b2 (Cd.cs Qh ((((g67 2).2.1),((g67 2).2.2.1)),{ i11 with f_Peers:=i11.f_Peers++[t53.1] })) 28::Qbm Qf 60 ((g67 2).2.1) ((g67 2).2.2.1) (mkz ((g67 2).2.2.2.2.2.2) (i11.f_Peers++[t53.1]))::Qi b1 (Cd.cs Qh Qc1) 28::G_))) 4 (by kernel_rfl) (by kernel_rfl) (by kernel_rfl) (by kernel_rfl) (by kernel_rfl) ⟨fun _ _ _=>rfl,fun _ _ _=>rfl,fun _ _ _=>rfl,fun _ _ _=>rfl,fun g67 g2 h=>by show (.agg (Cd.cs Qf ((((g67 0).2.2.2.2.2.2 0)),t53.1)).toArray:Value)=.agg (Cd.cs Qf ((((g2 0).2.2.2.2.2.2 0)),t53.1)).toArray;rw [h 0 (show 0<1 by decide)],fun g67 g2 h=>by show (.slice (some ⟨((g67 1).1),0,none⟩) ([t53.1]:List Qq).length 1:Value)=.slice (some ⟨((g2 1).1),0,none⟩) ([t53.1]:List Qq).length 1;rw [h 1 (show 1<2 by decide)],fun g67 g2 h=>by show (.slice ((g67 2).2.1) (i11.f_Peers++[t53.1]).length ((g67 2).2.2.1):Value)=.slice ((g2 2).2.1) (i11.f_Peers++[t53.1]).length ((g2 2).2.2.1);rw [h 2 (show 2<3 by decide)],fun _ _ _=>rfl,fun _ _ _=>rfl,trivial⟩ (by kernel_rfl) (fun w_ h=>⟨fun _=>g3 0 none 0 none w_,h.drew⟩) ⟨?_,?_,?_,?_,?_,?_,?_,?_,?_,trivial⟩ ?_
       ·intro Lx g67 s K hl hh k
        show At 66 ((0,_)::(4,_)::(5,_)::(8,_)::(9,_)::(10,_)::(11,_)::Lx) _ _
        refine fa 34 underlying28 rfl sizeOf26 ?_
        exact Qs k
       ·intro Lx g67 s K hl hh k
        show At 66 ((56,_)::(0,_)::(4,_)::(5,_)::(8,_)::(9,_)::(10,_)::(11,_)::Lx) _ _
        rcases (by omega:s=0∨s=1∨s=2) with rfl | rfl | rfl
        ·skip
         refine aw (Qe isAgg26 rfl (Qm (c:=cHd) (y:=⟨(p13,c14).1,List.length i11.f_Peers,(p13,c14).2⟩) (.s .z) (QV (p13,c14) i11) rfl)) ?_
         exact Qs k
        ·skip
         refine aw (Qe isAgg26 rfl (Qm (c:=cHd) (y:=⟨(p13,c14).1,List.length i11.f_Peers,(p13,c14).2⟩) (.s (.s (.s (.s (.s (.s (.s .z))))))) (QV (p13,c14) i11) rfl)) ?_
         exact Qs k
        skip
        refine aw (Qe isAgg26 rfl (Qm (c:=cHd) (y:=⟨(p13,c14).1,List.length i11.f_Peers,(p13,c14).2⟩) (.s (.s (.s (.s (.s (.s (.s (.s .z)))))))) (QV (p13,c14) i11) rfl)) ?_
        exact Qs k
       ·intro Lx g67 s K hl hh k
        show At 66 ((0,_)::(4,_)::(5,_)::(8,_)::(9,_)::(10,_)::(11,_)::Lx) _ _
        refine am ?_
        exact Qs k
       ·intro Lx g67 s K hl hh k
        show At 66 ((0,_)::(4,_)::(5,_)::(8,_)::(9,_)::(10,_)::(11,_)::Lx) _ _
        refine am ?_
        exact Qs k
       ·intro Lx g67 K k
        show At 66 ((58,_)::(59,_)::(0,_)::(4,_)::(5,_)::(8,_)::(9,_)::(10,_)::(11,_)::Lx) _ _
        refine Qd2 (.s (.s (.s .z))) ?_
        intro Z_ s_ hm51 hk52
        replace hM_:=Qc7.mono hM_ hm51
        replace hz1:=RowK.mono hz1 hm51
        replace ha17:=fun z hz=>Qu.mono (ha17 z hz) hm51
        refine Qac (.s (.s .z)) ?_
        refine Qac (.s (.s .z)) ?_
        refine Qac (.s (.s .z)) ?_
        refine Qac (.s (.s (.s (.s .z)))) ?_
        refine Qac (.s (.s (.s (.s .z)))) ?_
        refine Qim (H':=(Qi b0_ (Cd.cs Qt t53.2) 44::Qi b2 (Cd.cs Qh ((p13,c14),i11)) 28::Qbm Qf 60 p13 c14 zs15::Qi b1 (Cd.cs Qh Qc1) 28::G_)) (γ:=QR) (V:=fun z=>.agg (Cd.cs Qf (z,t53.1)).toArray) (Φ:=fun K s z=>Qu K s (z,t53.1)) func49 rfl (by kernel_rfl) rfl rfl (fun w hw=>Qfi ht53 hk52 hw hg_bytealg_MaxLen hg_strconv_ErrRange hg_strconv_ErrSyntax) ?_
        intro Z54 s55 g57 hm56 hk58
        replace hM_:=Qc7.mono hM_ hm56
        replace hz1:=RowK.mono hz1 hm56
        replace ha17:=fun z hz=>Qu.mono (ha17 z hz) hm56
        replace hk52:=RowK.mono hk52 hm56
        refine QcH hM_ ?_
        refine QcH hz1 ?_
        refine QcH ha17 ?_
        refine QcH hk52 ?_
        refine QcH hk58 ?_
        exact Qs (k (0,none,0,none,Z54,s55,fun i_=>match i_ with | 0=>g57 | _=>(none,0)))
       ·intro Lx g67 K k
        show At 66 ((60,_)::(0,_)::(4,_)::(5,_)::(8,_)::(9,_)::(10,_)::(11,_)::Lx) _ _
        refine QhP (c:=Qf) ([QeF]:List (QR×Qq)) ([((((g67 0).2.2.2.2.2.2 0)),t53.1)]:List (QR×Qq)) underlying26 sizeOf60 zeroValue60 rfl rfl rfl (by kernel_rfl) (QaB (c:=Qf) (z:=((((g67 0).2.2.2.2.2.2 0)),t53.1)) rfl (Qaf.all Qf ([QeF]:List (QR×Qq)) 0 (by first | decide | exact Nat.le_of_ble_eq_true rfl)) rfl rfl) rfl ?_
        intro b59
        exact Qs (k (g3 b59 none 0 none w0))
       ·intro Lx g67 K k
        show At 66 ((57,_)::(61,_)::(0,_)::(4,_)::(5,_)::(8,_)::(9,_)::(10,_)::(11,_)::Lx) _ _
        refine Qae (φ:=Qu (KZ w0 ((g67 0).2.2.2.2.1)) ((g67 0).2.2.2.2.2.1) ((((g67 0).2.2.2.2.2.2 0)),t53.1)) (fun _ hw=>hw.ok (Upd.mem (.s .z))) ?_
        intro hk58
        refine Qae (φ:=RowK (KZ w0 ((g67 0).2.2.2.2.1)) QbA ((g67 0).2.2.2.2.2.1) p29 c30 t28) (fun _ hw=>hw.ok (Upd.mem (.s (.s .z)))) ?_
        intro hk52
        refine Qae (φ:=∀ z∈zs15,Qu (KZ w0 ((g67 0).2.2.2.2.1)) ((g67 0).2.2.2.2.2.1) z) (fun _ hw=>hw.ok (Upd.mem (.s (.s (.s .z))))) ?_
        intro ha17
        refine Qae (φ:=RowK (KZ w0 ((g67 0).2.2.2.2.1)) QbA ((g67 0).2.2.2.2.2.1) p1_ c1_ x1) (fun _ hw=>hw.ok (Upd.mem (.s (.s (.s (.s .z)))))) ?_
        intro hz1
        refine Qae (φ:=Qc7 (KZ w0 Z0_) s0_ (KZ w0 ((g67 0).2.2.2.2.1)) ((g67 0).2.2.2.2.2.1)) (fun _ hw=>hw.ok (Upd.mem (.s (.s (.s (.s (.s .z))))))) ?_
        intro hM_
        refine Qhk (z:=.agg (Cd.cs Qf QeF).toArray) (c:=Qf) (ys:=([t53.1]:List Qq)) (us:=([((((g67 0).2.2.2.2.2.2 0)),t53.1)]:List (QR×Qq))) (Φ:=fun z=>Qu (KZ w0 ((g67 0).2.2.2.2.1)) ((g67 0).2.2.2.2.2.1) z) (.s (.s (.s (.s (.s (.s (.s (.s (.s .z))))))))) hz16 rfl ha17 (all_cons hk58 all_nil) underlying26 QoG (by kernel_rfl) (by kernel_rfl) rfl rfl rfl rfl (fun _ hw=>QbX (hw.ok (Upd.mem .z))) (by kernel_rfl) h60 (QbR h60) rfl ?_
        intro p61 c62 zs65 hz63 ha64
        obtain ⟨fn66,rfl⟩:=Qot hz63
        refine QcH ha64 ?_
        exact Qs (k (0,p61,c62,none,[],w0,fn66))
       ·intro Lx g67 s K hl hh k
        show At 66 ((0,_)::(4,_)::(5,_)::(8,_)::(9,_)::(10,_)::(11,_)::Lx) _ _
        refine fa 34 underlying28 rfl sizeOf26 ?_
        exact Qs k
       ·intro Lx g67 K k
        show At 66 ((62,_)::(63,_)::(0,_)::(4,_)::(5,_)::(8,_)::(9,_)::(10,_)::(11,_)::Lx) _ _
        refine Qn (c:=cSv Qq) (z:=((((g67 2).2.1),((g67 2).2.2.1)),i11.f_Peers++[t53.1])) (.s (.s (.s (.s (.s (.s (.s (.s (.s .z))))))))) (Qc4 (p13,c14) i11) sizeOf26 rfl rfl rfl ?_
        exact Qs k
       intro g67
       show At 66 [(56,_),(57,_),(58,_),(59,_),(60,_),(61,_),(62,_),(63,_),(0,_),(4,_),(5,_),(8,_),(9,_),(10,_),(11,_)] _ _
       refine Qae (φ:=∀ z∈mkz ((g67 2).2.2.2.2.2.2) (i11.f_Peers++[t53.1]),Qu (KZ w0 ((g67 0).2.2.2.2.1)) ((g67 0).2.2.2.2.2.1) z) (fun _ hw=>hw.ok (Upd.mem .z)) ?_
       intro ha64
       refine Qae (φ:=Qu (KZ w0 ((g67 0).2.2.2.2.1)) ((g67 0).2.2.2.2.2.1) ((((g67 0).2.2.2.2.2.2 0)),t53.1)) (fun _ hw=>hw.ok (Upd.mem (.s (.s .z)))) ?_
       intro hk58
       refine Qae (φ:=RowK (KZ w0 ((g67 0).2.2.2.2.1)) QbA ((g67 0).2.2.2.2.2.1) p29 c30 t28) (fun _ hw=>hw.ok (Upd.mem (.s (.s (.s .z))))) ?_
       intro hk52
       refine Qae (φ:=∀ z∈zs15,Qu (KZ w0 ((g67 0).2.2.2.2.1)) ((g67 0).2.2.2.2.2.1) z) (fun _ hw=>hw.ok (Upd.mem (.s (.s (.s (.s .z)))))) ?_
       intro ha17
       refine Qae (φ:=RowK (KZ w0 ((g67 0).2.2.2.2.1)) QbA ((g67 0).2.2.2.2.2.1) p1_ c1_ x1) (fun _ hw=>hw.ok (Upd.mem (.s (.s (.s (.s (.s .z))))))) ?_
       intro hz1
       refine Qae (φ:=Qc7 (KZ w0 Z0_) s0_ (KZ w0 ((g67 0).2.2.2.2.1)) ((g67 0).2.2.2.2.2.1)) (fun _ hw=>hw.ok (Upd.mem (.s (.s (.s (.s (.s (.s .z)))))))) ?_
       intro hM_
       refine dz ?_
       refine Qam (H:=_) (.s .z) ?_
       refine Qam (H:=_) (.s .z) ?_
       refine Qam (H:=_) (.s .z) ?_
       refine Qam (H:=_) (.s .z) ?_
       refine Qam (H:=_) (.s .z) ?_
       refine dz (wq [11,10,9,5,4,0] ?_)
       refine Qby (Qby (tn ?_))
       refine qr (aw xa (am (nwq [11,10,9,5,4,0] ?_)))
       refine Qac (.s .z) ?_
       refine Qac (.s .z) ?_
       refine Qac (.s (.s (.s (.s .z)))) ?_
       refine Qac (.s (.s (.s (.s .z)))) ?_
       refine Qac (.s (.s (.s (.s .z)))) ?_
       exact Qk (ih _ _ _ _ hF K ((g67 0).2.2.2.2.1) ((g67 0).2.2.2.2.2.1) hM_ hz1 (g67 2).2.1 (g67 2).2.2.1 (mkz ((g67 2).2.2.2.2.2.2) (i11.f_Peers++[t53.1])) (Qlv _ _) ha64) ⟨rfl,rfl,rfl,rfl,rfl,rfl,trivial⟩
      refine cf h50 ?_
      refine qr (am ?_)
      obtain ⟨t68,ht68,hF⟩:=bM hF
      refine QbM (E':=Qi b0_ (Cd.cs Qt t68) 44) func50 rfl (by kernel_rfl) rfl rfl (fun w hw=>QbN _ _ _ _ ht68 w (.s (.s (.s (.s (.s .z))))) hw) ?_
      refine qn (dz (wq [11,10,9,5,4,0] ?_))
      refine Qby (Qby (tn ?_))
      refine qr (aw xa (am (nwq [11,10,9,5,4,0] ?_)))
      exact Qk (ih _ _ _ _ hF K Z_ s_ hM_ hz1 p13 c14 zs15 hz16 ha17) ⟨rfl,rfl,rfl,rfl,rfl,rfl,trivial⟩
     refine fx 51 h49 ?_
     refine gn ?_
     refine gn ?_
     refine gn ?_
     refine aw xp (aa (nwq [48,11,10,9,8,5,4,0] ?_))
     refine cf rfl ?_
     refine qr (am ?_)
     obtain ⟨t69,ht69,hF⟩:=bM hF
     refine QbM (E':=Qi b0_ (Cd.cs Qt t69) 44) func50 rfl (by kernel_rfl) rfl rfl (fun w hw=>QbN _ _ _ _ ht69 w (.s (.s (.s (.s (.s .z))))) hw) ?_
     refine qn (dz (wq [11,10,9,5,4,0] ?_))
     refine Qby (Qby (tn ?_))
     refine qr (aw xa (am (nwq [11,10,9,5,4,0] ?_)))
     exact Qk (ih _ _ _ _ hF K Z_ s_ hM_ hz1 p13 c14 zs15 hz16 ha17) ⟨rfl,rfl,rfl,rfl,rfl,rfl,trivial⟩
    refine fx 23 h31 ?_
    refine gn ?_
    refine gn ?_
    refine gn ?_
    refine aw xp (aa (nwq [20,11,10,9,8,6,5,4,0] ?_))
    refine cf rfl ?_
    refine sr (am ?_)
    refine aw (QbI rfl rfl) ?_
    refine am ?_
    obtain ⟨h70,hF⟩|⟨h70,hF⟩:=oi hF
    ·refine fx 51 h70 ?_
     refine gy (am (gy ?_))
     refine aw (QZ underlying46 rfl) ?_
     refine gy (aw xq (aw xp (aa (nwq [48,11,10,9,8,5,4,0] ?_))))
     obtain ⟨h71,hF⟩|⟨h71,hF⟩:=oi hF
     ·refine ct h71 ?_
      refine wq [11,10,9,8,5,4,0] ?_
      obtain ⟨t74,ht74,hF⟩:=bM hF
      obtain ⟨h81,hF⟩:=gd hF
      refine Qey [.q 56 (fun g88=>.pointer (some ⟨b2,0+34,none⟩)) [] 0 2,.q 57 (fun g88=>.slice p13 i11.f_Peers.length c14) [0] 0 2,.q 58 (fun g88=>.pointer (some ⟨b0_,0,none⟩)) [] 0 0,.q 59 (fun g88=>.slice p29 t28.length c30) [] 0 0,.al 0 60 (fun g88=>.agg (Cd.cs Qf ((((g88 0).2.2.2.2.2.2 0)),t74.1)).toArray) [2,3],.al 1 61 (fun g88=>.slice (some ⟨((g88 1).1),0,none⟩) ([t74.1]:List Qq).length 1) [4],.al 2 62 (fun g88=>.slice ((g88 2).2.1) (i11.f_Peers++[t74.1]).length ((g88 2).2.2.1)) [1,5],.q 63 (fun g88=>.pointer (some ⟨b2,0+34,none⟩)) [] 3 3,.st 3 none [6,7]] (fun g88 s=>match s with | 0=>(Wd w0 (Qbm QbA 9 p29 c30 t28::Qi b2 (Cd.cs Qh ((p13,c14),i11)) 28::Qbm Qf 60 p13 c14 zs15::Qi b1 (Cd.cs Qh Qc1) 28::QcM w0 Z_ s_::Qi b0_ (Cd.cs Qt i12) 44::G_)) | 1=>(Wd w0 (Qbh (Qu (KZ w0 ((g88 0).2.2.2.2.1)) ((g88 0).2.2.2.2.2.1) ((((g88 0).2.2.2.2.2.2 0)),t74.1))::Qbh (RowK (KZ w0 ((g88 0).2.2.2.2.1)) QbA ((g88 0).2.2.2.2.2.1) p29 c30 t28)::Qbh (∀ z∈zs15,Qu (KZ w0 ((g88 0).2.2.2.2.1)) ((g88 0).2.2.2.2.2.1) z)::Qbh (RowK (KZ w0 ((g88 0).2.2.2.2.1)) QbA ((g88 0).2.2.2.2.2.1) p1_ c1_ x1)::Qbh (Qc7 (KZ w0 Z0_) s0_ (KZ w0 ((g88 0).2.2.2.2.1)) ((g88 0).2.2.2.2.2.1))::QcM w0 ((g88 0).2.2.2.2.1) ((g88 0).2.2.2.2.2.1)::Qi b0_ (Cd.cs Qt t74.2) 44::Qi b2 (Cd.cs Qh ((p13,c14),i11)) 28::Qbm Qf 60 p13 c14 zs15::Qi b1 (Cd.cs Qh Qc1) 28::G_)) | 2=>(Wd w0 (Qi ((g88 1).1) (Cd.all Qf ([((((g88 0).2.2.2.2.2.2 0)),t74.1)]:List (QR×Qq))) 60::Qbh (Qu (KZ w0 ((g88 0).2.2.2.2.1)) ((g88 0).2.2.2.2.2.1) ((((g88 0).2.2.2.2.2.2 0)),t74.1))::Qbh (RowK (KZ w0 ((g88 0).2.2.2.2.1)) QbA ((g88 0).2.2.2.2.2.1) p29 c30 t28)::Qbh (∀ z∈zs15,Qu (KZ w0 ((g88 0).2.2.2.2.1)) ((g88 0).2.2.2.2.2.1) z)::Qbh (RowK (KZ w0 ((g88 0).2.2.2.2.1)) QbA ((g88 0).2.2.2.2.2.1) p1_ c1_ x1)::Qbh (Qc7 (KZ w0 Z0_) s0_ (KZ w0 ((g88 0).2.2.2.2.1)) ((g88 0).2.2.2.2.2.1))::QcM w0 ((g88 0).2.2.2.2.1) ((g88 0).2.2.2.2.2.1)::Qi b0_ (Cd.cs Qt t74.2) 44::Qi b2 (Cd.cs Qh ((p13,c14),i11)) 28::Qbm Qf 60 p13 c14 zs15::Qi b1 (Cd.cs Qh Qc1) 28::G_)) | 3=>(Wd w0 (Qbh (∀ z∈mkz ((g88 2).2.2.2.2.2.2) (i11.f_Peers++[t74.1]),Qu (KZ w0 ((g88 0).2.2.2.2.1)) ((g88 0).2.2.2.2.2.1) z)::Qi ((g88 1).1) (Cd.all Qf ([((((g88 0).2.2.2.2.2.2 0)),t74.1)]:List (QR×Qq))) 60::Qbh (Qu (KZ w0 ((g88 0).2.2.2.2.1)) ((g88 0).2.2.2.2.2.1) ((((g88 0).2.2.2.2.2.2 0)),t74.1))::Qbh (RowK (KZ w0 ((g88 0).2.2.2.2.1)) QbA ((g88 0).2.2.2.2.2.1) p29 c30 t28)::Qbh (∀ z∈zs15,Qu (KZ w0 ((g88 0).2.2.2.2.1)) ((g88 0).2.2.2.2.2.1) z)::Qbh (RowK (KZ w0 ((g88 0).2.2.2.2.1)) QbA ((g88 0).2.2.2.2.2.1) p1_ c1_ x1)::Qbh (Qc7 (KZ w0 Z0_) s0_ (KZ w0 ((g88 0).2.2.2.2.1)) ((g88 0).2.2.2.2.2.1))::QcM w0 ((g88 0).2.2.2.2.1) ((g88 0).2.2.2.2.2.1)::Qi b0_ (Cd.cs Qt t74.2) 44::Qi b2 (Cd.cs Qh ((p13,c14),i11)) 28::Qbm Qf 60 ((g88 2).2.1) ((g88 2).2.2.1) (mkz ((g88 2).2.2.2.2.2.2) (i11.f_Peers++[t74.1]))::Qi b1 (Cd.cs Qh Qc1) 28::G_)) | _=>(Wd w0 (Qbh (∀ z∈mkz ((g88 2).2.2.2.2.2.2) (i11.f_Peers++[t74.1]),Qu (KZ w0 ((g88 0).2.2.2.2.1)) ((g88 0).2.2.2.2.2.1) z)::Qi ((g88 1).1) (Cd.all Qf ([((((g88 0).2.2.2.2.2.2 0)),t74.1)]:List (QR×Qq))) 60::Qbh (Qu (KZ w0 ((g88 0).2.2.2.2.1)) ((g88 0).2.2.2.2.2.1) ((((g88 0).2.2.2.2.2.2 0)),t74.1))::Qbh (RowK (KZ w0 ((g88 0).2.2.2.2.1)) QbA ((g88 0).2.2.2.2.2.1) p29 c30 t28)::Qbh (∀ z∈zs15,Qu (KZ w0 ((g88 0).2.2.2.2.1)) ((g88 0).2.2.2.2.2.1) z)::Qbh (RowK (KZ w0 ((g88 0).2.2.2.2.1)) QbA ((g88 0).2.2.2.2.2.1) p1_ c1_ x1)::Qbh (Qc7 (KZ w0 Z0_) s0_ (KZ w0 ((g88 0).2.2.2.2.1)) ((g88 0).2.2.2.2.2.1))::QcM w0 ((g88 0).2.2.2.2.1) ((g88 0).2.2.2.2.2.1)::Qi b0_ (Cd.cs Qt t74.2) 44::Qi b2 (Cd.cs Qh ((((g88 2).2.1),((g88 2).2.2.1)),{ i11 with f_Peers:=i11.f_Peers++[t74.1] })) 28::Qbm Qf 60 ((g88 2).2.1) ((g88 2).2.2.1) (mkz ((g88 2).2.2.2.2.2.2) (i11.f_Peers++[t74.1]))::Qi b1 (Cd.cs Qh Qc1) 28::G_))) 4 (by kernel_rfl) (by kernel_rfl) (by kernel_rfl) (by kernel_rfl) (by kernel_rfl) ⟨fun _ _ _=>rfl,fun _ _ _=>rfl,fun _ _ _=>rfl,fun _ _ _=>rfl,fun g88 g2 h=>by show (.agg (Cd.cs Qf ((((g88 0).2.2.2.2.2.2 0)),t74.1)).toArray:Value)=.agg (Cd.cs Qf ((((g2 0).2.2.2.2.2.2 0)),t74.1)).toArray;rw [h 0 (show 0<1 by decide)],fun g88 g2 h=>by show (.slice (some ⟨((g88 1).1),0,none⟩) ([t74.1]:List Qq).length 1:Value)=.slice (some ⟨((g2 1).1),0,none⟩) ([t74.1]:List Qq).length 1;rw [h 1 (show 1<2 by decide)],fun g88 g2 h=>by show (.slice ((g88 2).2.1) (i11.f_Peers++[t74.1]).length ((g88 2).2.2.1):Value)=.slice ((g2 2).2.1) (i11.f_Peers++[t74.1]).length ((g2 2).2.2.1);rw [h 2 (show 2<3 by decide)],fun _ _ _=>rfl,fun _ _ _=>rfl,trivial⟩ (by kernel_rfl) (fun w_ h=>⟨fun _=>g3 0 none 0 none w_,h.drew⟩) ⟨?_,?_,?_,?_,?_,?_,?_,?_,?_,trivial⟩ ?_
      ·intro Lx g88 s K hl hh k
       show At 66 ((0,_)::(4,_)::(5,_)::(8,_)::(9,_)::(10,_)::(11,_)::Lx) _ _
       refine fa 34 underlying28 rfl sizeOf26 ?_
       exact Qs k
      ·intro Lx g88 s K hl hh k
       show At 66 ((56,_)::(0,_)::(4,_)::(5,_)::(8,_)::(9,_)::(10,_)::(11,_)::Lx) _ _
       rcases (by omega:s=0∨s=1∨s=2) with rfl | rfl | rfl
       ·skip
        refine aw (Qe isAgg26 rfl (Qm (c:=cHd) (y:=⟨(p13,c14).1,List.length i11.f_Peers,(p13,c14).2⟩) (.s .z) (QV (p13,c14) i11) rfl)) ?_
        exact Qs k
       ·skip
        refine aw (Qe isAgg26 rfl (Qm (c:=cHd) (y:=⟨(p13,c14).1,List.length i11.f_Peers,(p13,c14).2⟩) (.s (.s (.s (.s (.s (.s (.s .z))))))) (QV (p13,c14) i11) rfl)) ?_
        exact Qs k
       skip
       refine aw (Qe isAgg26 rfl (Qm (c:=cHd) (y:=⟨(p13,c14).1,List.length i11.f_Peers,(p13,c14).2⟩) (.s (.s (.s (.s (.s (.s (.s (.s .z)))))))) (QV (p13,c14) i11) rfl)) ?_
       exact Qs k
      ·intro Lx g88 s K hl hh k
       show At 66 ((0,_)::(4,_)::(5,_)::(8,_)::(9,_)::(10,_)::(11,_)::Lx) _ _
       refine am ?_
       exact Qs k
      ·intro Lx g88 s K hl hh k
       show At 66 ((0,_)::(4,_)::(5,_)::(8,_)::(9,_)::(10,_)::(11,_)::Lx) _ _
       refine am ?_
       exact Qs k
      ·intro Lx g88 K k
       show At 66 ((58,_)::(59,_)::(0,_)::(4,_)::(5,_)::(8,_)::(9,_)::(10,_)::(11,_)::Lx) _ _
       refine Qd2 (.s (.s (.s .z))) ?_
       intro Z_ s_ hm72 hk73
       replace hM_:=Qc7.mono hM_ hm72
       replace hz1:=RowK.mono hz1 hm72
       replace ha17:=fun z hz=>Qu.mono (ha17 z hz) hm72
       refine Qac (.s (.s .z)) ?_
       refine Qac (.s (.s .z)) ?_
       refine Qac (.s (.s .z)) ?_
       refine Qac (.s (.s (.s (.s .z)))) ?_
       refine Qac (.s (.s (.s (.s .z)))) ?_
       refine Qim (H':=(Qi b0_ (Cd.cs Qt t74.2) 44::Qi b2 (Cd.cs Qh ((p13,c14),i11)) 28::Qbm Qf 60 p13 c14 zs15::Qi b1 (Cd.cs Qh Qc1) 28::G_)) (γ:=QR) (V:=fun z=>.agg (Cd.cs Qf (z,t74.1)).toArray) (Φ:=fun K s z=>Qu K s (z,t74.1)) func49 rfl (by kernel_rfl) rfl rfl (fun w hw=>Qfi ht74 hk73 hw hg_bytealg_MaxLen hg_strconv_ErrRange hg_strconv_ErrSyntax) ?_
       intro Z75 s76 g78 hm77 hk79
       replace hM_:=Qc7.mono hM_ hm77
       replace hz1:=RowK.mono hz1 hm77
       replace ha17:=fun z hz=>Qu.mono (ha17 z hz) hm77
       replace hk73:=RowK.mono hk73 hm77
       refine QcH hM_ ?_
       refine QcH hz1 ?_
       refine QcH ha17 ?_
       refine QcH hk73 ?_
       refine QcH hk79 ?_
       exact Qs (k (0,none,0,none,Z75,s76,fun i_=>match i_ with | 0=>g78 | _=>(none,0)))
      ·intro Lx g88 K k
       show At 66 ((60,_)::(0,_)::(4,_)::(5,_)::(8,_)::(9,_)::(10,_)::(11,_)::Lx) _ _
       refine QhP (c:=Qf) ([QeF]:List (QR×Qq)) ([((((g88 0).2.2.2.2.2.2 0)),t74.1)]:List (QR×Qq)) underlying26 sizeOf60 zeroValue60 rfl rfl rfl (by kernel_rfl) (QaB (c:=Qf) (z:=((((g88 0).2.2.2.2.2.2 0)),t74.1)) rfl (Qaf.all Qf ([QeF]:List (QR×Qq)) 0 (by first | decide | exact Nat.le_of_ble_eq_true rfl)) rfl rfl) rfl ?_
       intro b80
       exact Qs (k (g3 b80 none 0 none w0))
      ·intro Lx g88 K k
       show At 66 ((57,_)::(61,_)::(0,_)::(4,_)::(5,_)::(8,_)::(9,_)::(10,_)::(11,_)::Lx) _ _
       refine Qae (φ:=Qu (KZ w0 ((g88 0).2.2.2.2.1)) ((g88 0).2.2.2.2.2.1) ((((g88 0).2.2.2.2.2.2 0)),t74.1)) (fun _ hw=>hw.ok (Upd.mem (.s .z))) ?_
       intro hk79
       refine Qae (φ:=RowK (KZ w0 ((g88 0).2.2.2.2.1)) QbA ((g88 0).2.2.2.2.2.1) p29 c30 t28) (fun _ hw=>hw.ok (Upd.mem (.s (.s .z)))) ?_
       intro hk73
       refine Qae (φ:=∀ z∈zs15,Qu (KZ w0 ((g88 0).2.2.2.2.1)) ((g88 0).2.2.2.2.2.1) z) (fun _ hw=>hw.ok (Upd.mem (.s (.s (.s .z))))) ?_
       intro ha17
       refine Qae (φ:=RowK (KZ w0 ((g88 0).2.2.2.2.1)) QbA ((g88 0).2.2.2.2.2.1) p1_ c1_ x1) (fun _ hw=>hw.ok (Upd.mem (.s (.s (.s (.s .z)))))) ?_
       intro hz1
       refine Qae (φ:=Qc7 (KZ w0 Z0_) s0_ (KZ w0 ((g88 0).2.2.2.2.1)) ((g88 0).2.2.2.2.2.1)) (fun _ hw=>hw.ok (Upd.mem (.s (.s (.s (.s (.s .z))))))) ?_
       intro hM_
       refine Qhk (z:=.agg (Cd.cs Qf QeF).toArray) (c:=Qf) (ys:=([t74.1]:List Qq)) (us:=([((((g88 0).2.2.2.2.2.2 0)),t74.1)]:List (QR×Qq))) (Φ:=fun z=>Qu (KZ w0 ((g88 0).2.2.2.2.1)) ((g88 0).2.2.2.2.2.1) z) (.s (.s (.s (.s (.s (.s (.s (.s (.s .z))))))))) hz16 rfl ha17 (all_cons hk79 all_nil) underlying26 QoG (by kernel_rfl) (by kernel_rfl) rfl rfl rfl rfl (fun _ hw=>QbX (hw.ok (Upd.mem .z))) (by kernel_rfl) h81 (QbR h81) rfl ?_
       intro p82 c83 zs86 hz84 ha85
       obtain ⟨fn87,rfl⟩:=Qot hz84
       refine QcH ha85 ?_
       exact Qs (k (0,p82,c83,none,[],w0,fn87))
      ·intro Lx g88 s K hl hh k
       show At 66 ((0,_)::(4,_)::(5,_)::(8,_)::(9,_)::(10,_)::(11,_)::Lx) _ _
       refine fa 34 underlying28 rfl sizeOf26 ?_
       exact Qs k
      ·intro Lx g88 K k
       show At 66 ((62,_)::(63,_)::(0,_)::(4,_)::(5,_)::(8,_)::(9,_)::(10,_)::(11,_)::Lx) _ _
       refine Qn (c:=cSv Qq) (z:=((((g88 2).2.1),((g88 2).2.2.1)),i11.f_Peers++[t74.1])) (.s (.s (.s (.s (.s (.s (.s (.s (.s .z))))))))) (Qc4 (p13,c14) i11) sizeOf26 rfl rfl rfl ?_
       exact Qs k
      intro g88
      show At 66 [(56,_),(57,_),(58,_),(59,_),(60,_),(61,_),(62,_),(63,_),(0,_),(4,_),(5,_),(8,_),(9,_),(10,_),(11,_)] _ _
      refine Qae (φ:=∀ z∈mkz ((g88 2).2.2.2.2.2.2) (i11.f_Peers++[t74.1]),Qu (KZ w0 ((g88 0).2.2.2.2.1)) ((g88 0).2.2.2.2.2.1) z) (fun _ hw=>hw.ok (Upd.mem .z)) ?_
      intro ha85
      refine Qae (φ:=Qu (KZ w0 ((g88 0).2.2.2.2.1)) ((g88 0).2.2.2.2.2.1) ((((g88 0).2.2.2.2.2.2 0)),t74.1)) (fun _ hw=>hw.ok (Upd.mem (.s (.s .z)))) ?_
      intro hk79
      refine Qae (φ:=RowK (KZ w0 ((g88 0).2.2.2.2.1)) QbA ((g88 0).2.2.2.2.2.1) p29 c30 t28) (fun _ hw=>hw.ok (Upd.mem (.s (.s (.s .z))))) ?_
      intro hk73
      refine Qae (φ:=∀ z∈zs15,Qu (KZ w0 ((g88 0).2.2.2.2.1)) ((g88 0).2.2.2.2.2.1) z) (fun _ hw=>hw.ok (Upd.mem (.s (.s (.s (.s .z)))))) ?_
      intro ha17
      refine Qae (φ:=RowK (KZ w0 ((g88 0).2.2.2.2.1)) QbA ((g88 0).2.2.2.2.2.1) p1_ c1_ x1) (fun _ hw=>hw.ok (Upd.mem (.s (.s (.s (.s (.s .z))))))) ?_
      intro hz1
      refine Qae (φ:=Qc7 (KZ w0 Z0_) s0_ (KZ w0 ((g88 0).2.2.2.2.1)) ((g88 0).2.2.2.2.2.1)) (fun _ hw=>hw.ok (Upd.mem (.s (.s (.s (.s (.s (.s .z)))))))) ?_
      intro hM_
      refine dz ?_
      refine Qam (H:=_) (.s .z) ?_
      refine Qam (H:=_) (.s .z) ?_
      refine Qam (H:=_) (.s .z) ?_
      refine Qam (H:=_) (.s .z) ?_
      refine Qam (H:=_) (.s .z) ?_
      refine dz (wq [11,10,9,5,4,0] ?_)
      refine Qby (Qby (tn ?_))
      refine qr (aw xa (am (nwq [11,10,9,5,4,0] ?_)))
      refine Qac (.s .z) ?_
      refine Qac (.s .z) ?_
      refine Qac (.s (.s (.s (.s .z)))) ?_
      refine Qac (.s (.s (.s (.s .z)))) ?_
      refine Qac (.s (.s (.s (.s .z)))) ?_
      exact Qk (ih _ _ _ _ hF K ((g88 0).2.2.2.2.1) ((g88 0).2.2.2.2.2.1) hM_ hz1 (g88 2).2.1 (g88 2).2.2.1 (mkz ((g88 2).2.2.2.2.2.2) (i11.f_Peers++[t74.1])) (Qlv _ _) ha85) ⟨rfl,rfl,rfl,rfl,rfl,rfl,trivial⟩
     refine cf h71 ?_
     refine qr (am ?_)
     obtain ⟨t89,ht89,hF⟩:=bM hF
     refine QbM (E':=Qi b0_ (Cd.cs Qt t89) 44) func50 rfl (by kernel_rfl) rfl rfl (fun w hw=>QbN _ _ _ _ ht89 w (.s (.s (.s (.s (.s .z))))) hw) ?_
     refine qn (dz (wq [11,10,9,5,4,0] ?_))
     refine Qby (Qby (tn ?_))
     refine qr (aw xa (am (nwq [11,10,9,5,4,0] ?_)))
     exact Qk (ih _ _ _ _ hF K Z_ s_ hM_ hz1 p13 c14 zs15 hz16 ha17) ⟨rfl,rfl,rfl,rfl,rfl,rfl,trivial⟩
    refine fx 51 h70 ?_
    refine gn ?_
    refine gn ?_
    refine gn ?_
    refine aw xp (aa (nwq [48,11,10,9,8,5,4,0] ?_))
    refine cf rfl ?_
    refine qr (am ?_)
    obtain ⟨t90,ht90,hF⟩:=bM hF
    refine QbM (E':=Qi b0_ (Cd.cs Qt t90) 44) func50 rfl (by kernel_rfl) rfl rfl (fun w hw=>QbN _ _ _ _ ht90 w (.s (.s (.s (.s (.s .z))))) hw) ?_
    refine qn (dz (wq [11,10,9,5,4,0] ?_))
    refine Qby (Qby (tn ?_))
    refine qr (aw xa (am (nwq [11,10,9,5,4,0] ?_)))
    exact Qk (ih _ _ _ _ hF K Z_ s_ hM_ hz1 p13 c14 zs15 hz16 ha17) ⟨rfl,rfl,rfl,rfl,rfl,rfl,trivial⟩
   refine cf h23 ?_
   refine Q7 ?_
   refine te (te ?_)
   obtain rfl:=os hF
   exact Qk (K Z_ s_ hM_ hz1 p13 c14 zs15 hz16 ha17) ⟨rfl,rfl,trivial⟩
 skip
 intro Z_ s_ hM_ hz1 p18 c19 zs20 hz21 ha22
 refine QD ?_
 refine tn (sr ?_)
 refine aw (Qg (c:=Qh) (z:=((p18,c19),q9.1)) isAgg28 sizeOf28 rfl (Qp .z lw)) ?_
 refine Qn (c:=Qh) (z:=((p18,c19),q9.1)) (.s (.s .z)) lw sizeOf28 rfl rfl rfl ?_
 refine qn (dz (wq [4] ?_))
 refine tn (qt ?_)
 refine Qd2 (.s .z) ?_
 intro Z_ s_ hm92 hk93
 replace hM_:=Qc7.mono hM_ hm92
 replace hz1:=RowK.mono hz1 hm92
 replace ha22:=fun z hz=>Qu.mono (ha22 z hz) hm92
 have hK94:Qc6 (KZ w0 Z_) s_ p18 c19 q9.1.f_Peers:=⟨zs20,hz21,hk93,ha22⟩
 have hN91:Qao (KZ w0 Z_) s_ ((p18,c19),q9.1):=hK94
 have K:=os hF
 subst K
 exact Qd9 rfl (QE (c:=Qh) (y:=((p18,c19),q9.1)) rfl .z lw isAgg28 sizeOf28 (.inl rfl)) (fun w1 hw=>⟨Z_,s_,(p18,c19),hM_,rfl,hN91,hw.pop⟩)
def QgH(x0:ByteArray):Option (Qx×Int) :=
 QeA x0>>=fun t3=>Qaz ({ f_e:=(0:Int) }:Q3) t3>>=fun t8=>Qcb t8.1>>=fun t13=>if (t8.2.f_e != 0)=true then (some (({ f_Private:=(Vector.replicate 32 (0:Int):(Vector Int 32)),f_Port:=(0:Int),f_Mark:=(0:Int),f_Peers:=([]:List Qq) }:Qx),5)) else (if (t13.2 != 0)=true then (some (({ f_Private:=(Vector.replicate 32 (0:Int):(Vector Int 32)),f_Port:=(0:Int),f_Mark:=(0:Int),f_Peers:=([]:List Qq) }:Qx),5)) else (if (!seq t13.1 x0)=true then (some (({ f_Private:=(Vector.replicate 32 (0:Int):(Vector Int 32)),f_Port:=(0:Int),f_Mark:=(0:Int),f_Peers:=([]:List Qq) }:Qx),5)) else (some (t8.1,0))))
theorem Qma{x0:ByteArray}{r:Qx×Int}(hF:QgH x0=some r):∀ {w0 w:World} {G_:List Ent} {Z_:List Nat} {s_:World} (hw_:Wd w0 (QcM w0 Z_ s_::G_) w) (hg_bytealg_MaxLen:GV_bytealg_MaxLen w0) (hg_strconv_ErrRange:GV_strconv_ErrRange w0) (hg_strconv_ErrSyntax:GV_strconv_ErrSyntax w0) (hg_strconv_uint64pow10:GV_strconv_uint64pow10 w0),
    Calls Tryz.prog 6 #[.string x0] w (fun e w'=>∃ (Z':List Nat) (s':World) (z:Qbs),Qc7 (KZ w0 Z_) s_ (KZ w0 Z') s'∧e=.returned (.tuple #[.agg (Cd.cs Qh (z,r.1)).toArray,.int .i64 r.2])∧(Qao (KZ w0 Z') s' (z,r.1))∧Wd w0 (QcM w0 Z' s'::G_) w'):=by
 intro w0 w G_ Z_ s_   hw_ hg_bytealg_MaxLen hg_strconv_ErrRange hg_strconv_ErrSyntax hg_strconv_uint64pow10
 unfold QgH at hF
 refine ce (l:=[.string x0]) func6 rfl rfl ?_
 refine QfX hw_ ?_
 clear hw_
 obtain ⟨Z0_,hZ0_⟩:∃ Z0_,Z0_=Z_:=⟨_,rfl⟩
 obtain ⟨s0_,hs0_⟩:∃ s0_,s0_=s_:=⟨_,rfl⟩
 have hM_:Qc7 (KZ w0 Z0_) s0_ (KZ w0 Z_) s_:=by rw [hZ0_,hs0_];exact Qc7.refl _ _
 rw [←hZ0_,←hs0_]
 rw [show QcM w0 Z0_ s0_=QcM w0 Z_ s_ from by rw [hZ0_,hs0_]]
 refine sr ?_
 refine al (cs:=Cd.cs Qh Qc1) zeroValue28 ?_
 intro b1
 refine aa (ns ?_)
 refine aw (Qw (zs:=Cd.cs Qt zv7) (cs:=Cd.cs Qt zv7) underlying44 zeroValue44 rfl (QgJ) rfl rfl) ?_
 refine Qbv (cs:=Cd.cs Qt zv7) rfl rfl rfl ?_
 intro b2
 refine aa (nwx [4,2,0] ?_)
 refine am (am ?_)
 obtain ⟨t3,ht3,hF⟩:=bM hF
 refine QbU (c:=QbA) (e:=9) (ys:=t3) (V:=fun p cap=>.slice p t3.length cap) func17 rfl (by kernel_rfl) rfl rfl (fun w hw=>Qkw _ _ ht3 w (hg_bytealg_MaxLen.on hw.below)) ?_
 intro p4 c5
 refine Qd2 (.s (.s .z)) ?_
 intro Z_ s_ hm6 hk7
 replace hM_:=Qc7.mono hM_ hm6
 obtain ⟨t8,ht8,hF⟩:=bM hF
 refine Qac (.s .z) ?_
 refine Qac (.s .z) ?_
 refine Qac (.s (.s .z)) ?_
 refine Qim (H':=(Qi b2 (Cd.cs Qt t8.2) 44::Qi b1 (Cd.cs Qh Qc1) 28::G_)) (γ:=Qbs) (V:=fun z=>.agg (Cd.cs Qh (z,t8.1)).toArray) (Φ:=fun K s z=>Qao K s (z,t8.1)) func16 rfl (by kernel_rfl) rfl rfl (fun w hw=>QhD ht8 hk7 hw hg_bytealg_MaxLen hg_strconv_ErrRange hg_strconv_ErrSyntax) ?_
 intro Z_ s_ g10 hm9 hk11
 replace hM_:=Qc7.mono hM_ hm9
 replace hk7:=RowK.mono hk7 hm9
 refine al (cs:=Cd.cs Qh Qc1) zeroValue28 ?_
 intro b12
 refine Qn (c:=Qh) (z:=(g10,t8.1)) .z lw sizeOf28 rfl rfl rfl ?_
 refine nt (qs (sr ?_))
 refine aw (Qg (c:=Qh) (z:=(g10,t8.1)) isAgg28 sizeOf28 rfl (Qp .z lw)) ?_
 obtain ⟨t13,ht13,hF⟩:=bM hF
 refine cB func9 rfl (fun w hw=>QhW _ _ _ ht13 w (Qao.n (Qao.mono hk11 (QaX (.s .z) hw))) (hg_strconv_uint64pow10.on hw.below)) ?_
 refine am ?_
 refine aw xe (aw xe (aa (aa (nwx [7,6,5,4,2,0] ?_))))
 refine am ?_
 refine aw (Qa3 rfl) ?_
 refine fa 0 underlying44 rfl sizeOf29 ?_
 refine aw (Qe isAgg29 rfl (Qm (c:=(Qv .i64)) (y:=t8.2.f_e) (.s (.s .z)) (Qaf.comp lw (fun z=>{ t8.2 with f_e:=z }) (QeC t8.2)) rfl)) ?_
 refine aw xn (am ?_)
 obtain ⟨h14,hF⟩|⟨h14,hF⟩:=oi hF
 ·refine fx 24 h14 ?_
  refine gn ?_
  refine gn ?_
  refine aw xp (am ?_)
  refine gn ?_
  refine gn ?_
  refine gn ?_
  refine aw xp (qn ?_)
  refine Qam (H:=_) (.s (.s .z)) ?_
  refine wq [32,5,2] ?_
  refine tn ?_
  refine ct rfl ?_
  refine sr ?_
  refine aw (Qw (zs:=Cd.cs Qh Qc1) (cs:=Cd.cs Qh Qc1) underlying28 zeroValue28 rfl (QbJ) rfl rfl) ?_
  refine Qn (c:=Qh) (z:=Qc1) (.s (.s .z)) lw sizeOf28 rfl rfl rfl ?_
  refine aa (qn (dz (wq [3,2] ?_)))
  refine tn (rt ?_)
  have hN15:Qao (KZ w0 Z_) s_ Qc1:=Qfv.nil ..
  refine Qac (.s .z) ?_
  have K:=os hF
  subst K
  exact QU rfl (QE (c:=Qh) (y:=Qc1) rfl .z lw isAgg28 sizeOf28 (.inl rfl)) (QS rfl) (fun w1 hw=>⟨Z_,s_,zv8,hM_,rfl,hN15,hw.pop⟩)
 refine fx 24 h14 ?_
 refine gy (am (gy (aw xn (aw xp (am ?_)))))
 obtain ⟨h16,hF⟩|⟨h16,hF⟩:=oi hF
 ·refine fx 28 h16 ?_
  refine gn ?_
  refine gn ?_
  refine gn ?_
  refine aw xp (qn ?_)
  refine Qam (H:=_) (.s (.s .z)) ?_
  refine wq [32,5,2] ?_
  refine tn ?_
  refine ct rfl ?_
  refine sr ?_
  refine aw (Qw (zs:=Cd.cs Qh Qc1) (cs:=Cd.cs Qh Qc1) underlying28 zeroValue28 rfl (QbJ) rfl rfl) ?_
  refine Qn (c:=Qh) (z:=Qc1) (.s (.s .z)) lw sizeOf28 rfl rfl rfl ?_
  refine aa (qn (dz (wq [3,2] ?_)))
  refine tn (rt ?_)
  have hN17:Qao (KZ w0 Z_) s_ Qc1:=Qfv.nil ..
  refine Qac (.s .z) ?_
  have K:=os hF
  subst K
  exact QU rfl (QE (c:=Qh) (y:=Qc1) rfl .z lw isAgg28 sizeOf28 (.inl rfl)) (QS rfl) (fun w1 hw=>⟨Z_,s_,zv8,hM_,rfl,hN17,hw.pop⟩)
 refine fx 28 h16 ?_
 refine gy (am (gy (am (gy ?_))))
 refine aw (Qmu rfl rfl) ?_
 refine aw xp (qn ?_)
 refine Qam (H:=_) (.s (.s .z)) ?_
 refine wq [32,5,2] ?_
 refine tn ?_
 obtain ⟨h18,hF⟩|⟨h18,hF⟩:=oi hF
 ·refine ct h18 ?_
  refine sr ?_
  refine aw (Qw (zs:=Cd.cs Qh Qc1) (cs:=Cd.cs Qh Qc1) underlying28 zeroValue28 rfl (QbJ) rfl rfl) ?_
  refine Qn (c:=Qh) (z:=Qc1) (.s (.s .z)) lw sizeOf28 rfl rfl rfl ?_
  refine aa (qn (dz (wq [3,2] ?_)))
  refine tn (rt ?_)
  have hN19:Qao (KZ w0 Z_) s_ Qc1:=Qfv.nil ..
  refine Qac (.s .z) ?_
  have K:=os hF
  subst K
  exact QU rfl (QE (c:=Qh) (y:=Qc1) rfl .z lw isAgg28 sizeOf28 (.inl rfl)) (QS rfl) (fun w1 hw=>⟨Z_,s_,zv8,hM_,rfl,hN19,hw.pop⟩)
 refine cf h18 ?_
 refine sns ?_
 refine aw (Qg (c:=Qh) (z:=(g10,t8.1)) isAgg28 sizeOf28 rfl (Qp .z lw)) ?_
 refine Qn (c:=Qh) (z:=(g10,t8.1)) (.s (.s .z)) lw sizeOf28 rfl rfl rfl ?_
 refine aa (qn (dz (wq [3,2] ?_)))
 refine tn (qt ?_)
 refine Qac (.s .z) ?_
 have K:=os hF
 subst K
 exact QU rfl (QE (c:=Qh) (y:=(g10,t8.1)) rfl .z lw isAgg28 sizeOf28 (.inl rfl)) (QS rfl) (fun w1 hw=>⟨Z_,s_,g10,hM_,rfl,hk11,hw.pop⟩)
end Go.Proofs.YtnekckhjmnhinaaGreatDoor
namespace Go.Proofs.YtnekckhjmnhinaaGreatDoor.Sho
open E Go.RowKit
open Adr AdrT Agg
theorem Qjq(c:UInt8):∀ (n:Nat) (l:List UInt8),l.length≤n→∀ w∈QM c l,w.length≤l.length:=by
 intro n
 induction n with
 | zero =>
  intro l h w hw
  obtain rfl:l=[]:=List.eq_nil_of_length_eq_zero (by omega)
  rw [Qcc c [] (by simp)] at hw
  rw [List.mem_singleton.1 hw];exact Nat.le_refl _
 | succ n ih =>
  intro l hl w hw
  rcases QdA c l with h | ⟨p,r,rfl,h⟩
  ·rw [Qcc c l h] at hw
   rw [List.mem_singleton.1 hw];exact Nat.le_refl _
  ·rw [Qbp c r p h] at hw
   simp only [List.length_append,List.length_cons] at hl ⊢
   rcases List.mem_cons.1 hw with rfl | hw
   ·omega
   ·have:=ih r (by omega) w hw;omega
def QhF(r e:Int):Int:=if r=0 then e else r
theorem Qlu{r:Int}(h:r≠0)(e:Int):QhF r e=r:=if_neg h
theorem QfO(r e:Int):Qbe { f_e:=r } e=some { f_e:=QhF r e }:=by
 unfold Qbe QhF
 by_cases h:r=0
 ·subst h;rfl
 ·rw [if_neg (by simpa using h),if_neg h]
theorem QjL(r:Int)(x:List UInt8)(h:x.length≤9500):QcS { f_e:=r } (bs x)=some ((QmL x).1,{ f_e:=QhF r (QmL x).2 }):=by
 unfold QcS
 rw [(Qjs x h).1,Qa,QfO,Qa]
theorem QeL(r:Int)(x:List UInt8)(h:x.length≤9500)(most:Nat)(hm:most<18446744073709551616):QbC { f_e:=r } (bs x) (most:Int)=some (((rdU x most).1:Int),{ f_e:=QhF r ((rdU x most).2:Int) }):=by
 unfold QbC
 rw [(Qhd x (by omega) most hm).1,Qa]
 show (Qbe { f_e:=r } ((rdU x most).2:Int)>>=_)=_
 rw [QfO,Qa];rfl
def prV(x:List UInt8):List Px:=if x=Qjz then [] else (QM 44 x).map fun y=>(Cid.cidP y).1
def prE(r:Int)(x:List UInt8):Int:=if x=Qjz then r else (QM 44 x).foldl (fun r y=>QhF r (Cid.cidP y).2) r
theorem Qvt{r:Int}(h:r≠0)(x:List UInt8):prE r x=r:=by
 unfold prE
 split
 ·rfl
 ·generalize QM 44 x=L
  induction L with
  | nil=>rfl
  | cons a L ih=>rw [List.foldl_cons,Qlu h];exact ih
theorem Qt5(x:List UInt8):(prV x).length≤x.length+1:=by
 unfold prV
 split
 ·simp
 ·rw [List.length_map];exact Qej 44 x
theorem Qvs(x:List UInt8):∀ p∈prV x,Qbx p:=by
 intro p hp
 unfold prV at hp
 split at hp
 ·cases hp
 ·obtain ⟨y,_,rfl⟩:=List.mem_map.1 hp
  exact QvY y
theorem QqG(P:List (List UInt8))(hP:∀ y∈P,y.length<100000)(hn:P.length≤20000):∀ (k i:Nat) (acc:List Px) (r:Int),i+k=P.length→acc.length≤i →
  QaL.l0 (P.map bs) acc (i:Int) { f_e:=r }=some (acc++(P.drop i).map (fun y=>(Cid.cidP y).1),{ f_e:=(P.drop i).foldl (fun r y=>QhF r (Cid.cidP y).2) r })
 | 0,i,acc,r,h,ha=>by
  rw [QaL.l0.eq_def,decide_eq_false (by rw [List.length_map];omega),if_neg Bool.false_ne_true,List.drop_eq_nil_of_le (by omega)]
  show _=some (acc++[],_)
  rw [List.append_nil];rfl
 | k+1,i,acc,r,h,ha=>by
  have hi:i<P.length:=by omega
  have hi2:i<(P.map bs).length:=by rw [List.length_map];exact hi
  have hg:QO (P.map bs) (i:Int)=bs P[i]:=by rw [QcL hi2,List.getElem_map]
  rw [QaL.l0.eq_def,decide_eq_true (by omega),if_pos rfl,if_pos (by omega),hg,(QoU _ (hP _ (List.getElem_mem hi))).1,Qa,QfO,Qa,if_pos (by omega),wr1 (by omega),QqG P hP hn k (i+1) _ _ (by omega) (by rw [List.length_append,List.length_singleton];omega),List.drop_eq_getElem_cons hi,List.map_cons,List.foldl_cons,List.append_assoc];rfl
theorem Qt4(r:Int)(x:List UInt8)(h:x.length≤9500):QaL { f_e:=r } (bs x)=some (prV x,{ f_e:=prE r x }):=by
 unfold QaL prV prE
 rw [Qnp,QkH]
 by_cases hx:x=Qjz
 ·rw [decide_eq_true hx,if_pos rfl,if_pos hx,if_pos hx]
 ·have hp:=QkR 44 x (by omega)
  rw [show ((44:UInt8).toNat:Int)=44 from rfl] at hp
  have hsz:=Qjq 44 _ x (Nat.le_refl _)
  have hl:=Qej 44 x
  have:=QqG (QM 44 x) (fun y hy=>by have:=hsz y hy;omega) (by omega) (QM 44 x).length 0 [] r (by omega) (by simp)
  rw [show ((0:Nat):Int)=0 from rfl,List.drop_zero,List.nil_append] at this
  rw [decide_eq_false hx,if_neg Bool.false_ne_true,if_neg hx,if_neg hx,hp,Qa,this,Qa]
theorem Qob(P:List (List UInt8))(hP:∀ y∈P,y.length<100000)(hn:P.length≤20000):∀ (k i:Nat) (p:Qq),i+k=P.length→p.f_Allowed.length≤i →
  QaC.l0 (P.map bs) (i:Int) p=some { p with f_Allowed:=p.f_Allowed++(P.drop i).map (fun y=>(Cid.cidP y).1) }
 | 0,i,p,h,ha=>by
  rw [QaC.l0.eq_def,decide_eq_false (by rw [List.length_map];omega),if_neg Bool.false_ne_true,List.drop_eq_nil_of_le (by omega)]
  show _=some { p with f_Allowed:=p.f_Allowed++[] }
  rw [List.append_nil]
 | k+1,i,p,h,ha=>by
  have hi:i<P.length:=by omega
  have hi2:i<(P.map bs).length:=by rw [List.length_map];exact hi
  have hg:QO (P.map bs) (i:Int)=bs P[i]:=by rw [QcL hi2,List.getElem_map]
  rw [QaC.l0.eq_def,decide_eq_true (by omega),if_pos rfl,if_pos (by omega),hg,(QoU _ (hP _ (List.getElem_mem hi))).2,Qa,if_pos (by omega),wr1 (by omega),Qob P hP hn k (i+1) _ (by omega) (by show (p.f_Allowed++[_]).length≤_;rw [List.length_append,List.length_singleton];omega),List.drop_eq_getElem_cons hi,List.map_cons]
  show some { p with f_Allowed:=(p.f_Allowed++[_])++_ }=_
  rw [List.append_assoc];rfl
structure F7 (W:List ByteArray) (a b c d e f g:List UInt8):Prop where
 len:W.length=7
 h0:QO W 0=bs a
 h1:QO W 1=bs b
 h2:QO W 2=bs c
 h3:QO W 3=bs d
 h4:QO W 4=bs e
 h5:QO W 5=bs f
 h6:QO W 6=bs g
abbrev M64:Nat:=18446744073709551615
def peV(a b c d e f g:List UInt8):Qq:={ f_Key:=(QmL a).1,f_Psk:=(QmL b).1,f_End:=if c=Qjz then Qko else (Host.endP c).1,f_Keep:=((rdU g 65535).1:Int),f_Sent:=((rdU f M64).1:Int),f_Got:=((rdU e M64).1:Int),f_Allowed:=prV d }
def Qux(r:Int)(c:List UInt8):Int:=if c=Qjz then r else QhF r (Host.endP c).2
def peE(r:Int)(a b c d e f g:List UInt8):Int:=QhF (QhF (QhF (Qux (prE (QhF (QhF r (QmL a).2) (QmL b).2) d) c) ((rdU e M64).2:Int)) ((rdU f M64).2:Int)) ((rdU g 65535).2:Int)
theorem Quw{r:Int}(h:r≠0)(c:List UInt8):Qux r c=r:=by
 unfold Qux
 split
 ·rfl
 ·exact Qlu h _
theorem Qvw{r:Int}(h:r≠0)(a b c d e f g:List UInt8):peE r a b c d e f g=r:=by
 unfold peE
 simp only [Qlu h,Qvt h,Quw h]
theorem QjA(g:List UInt8):wr .i64 ((rdU g 65535).1:Int)=((rdU g 65535).1:Int):=by
 have:=Qgl g 65535
 rw [QX (by omega) (by omega)]
theorem QqK{W:List ByteArray}{a b c d e f g:List UInt8}(hW:F7 W a b c d e f g)(r:Int)(ha:a.length≤9500)(hb:b.length≤9500)(hc:c.length≤9500)(hd:d.length≤9500)(he:e.length≤9500)(hf:f.length≤9500)(hg:g.length≤9500) :
  QcZ { f_e:=r } W=some (peV a b c d e f g,{ f_e:=peE r a b c d e f g }):=by
 have hl:=hW.len
 unfold QcZ
 rw [if_pos (by omega),hW.h0,QjL r a ha,Qa,if_pos (by omega),hW.h1]
 dsimp only
 rw [QjL _ b hb,Qa,if_pos (by omega),hW.h3]
 dsimp only
 rw [Qt4 _ d hd,Qa,if_pos (by omega),hW.h2,Qnp,QkH]
 have e64:(18446744073709551615:Int)=((M64:Nat):Int):=rfl
 have e16:(65535:Int)=((65535:Nat):Int):=rfl
 unfold peV peE Qux
 by_cases hn:c=Qjz
 ·rw [decide_eq_true hn,if_neg (by decide),if_pos hn,if_pos hn,if_pos (by omega),hW.h4,e64,QeL _ e he M64 (by decide),Qa,if_pos (by omega),hW.h5]
  dsimp only
  rw [QeL _ f hf M64 (by decide),Qa,if_pos (by omega),hW.h6,e16]
  dsimp only
  rw [QeL _ g hg 65535 (by decide),Qa]
  dsimp only
  rw [QjA]
 ·rw [decide_eq_false hn,if_pos (by decide),if_neg hn,if_neg hn,if_pos (by omega),(QoQ c (by omega)).1,Qa]
  dsimp only
  rw [QfO,Qa,if_pos (by omega),hW.h4,e64,QeL _ e he M64 (by decide),Qa,if_pos (by omega),hW.h5]
  dsimp only
  rw [QeL _ f hf M64 (by decide),Qa,if_pos (by omega),hW.h6,e16]
  dsimp only
  rw [QeL _ g hg 65535 (by decide),Qa]
  dsimp only
  rw [QjA]
theorem Qo6{W:List ByteArray}{a b c d e f g:List UInt8}(hW:F7 W a b c d e f g)(ha:a.length≤9500)(hb:b.length≤9500)(hc:c.length≤9500)(hd:d.length≤9500)(he:e.length≤9500)(hf:f.length≤9500)(hg:g.length≤9500) :
  QaC W=some (peV a b c d e f g):=by
 have hl:=hW.len
 have e64:(18446744073709551615:Int)=((M64:Nat):Int):=rfl
 have e16:(65535:Int)=((65535:Nat):Int):=rfl
 have n1:=(Qhd e (by omega) M64 (by decide)).2
 have n2:=(Qhd f (by omega) M64 (by decide)).2
 have n3:=(Qhd g (by omega) 65535 (by decide)).2
 have hp:=Qei 44 d (by omega)
 rw [show ((44:UInt8).toNat:Int)=44 from rfl] at hp
 have hsz:=Qjq 44 _ d (Nat.le_refl _)
 have hpl:=Qej 44 d
 unfold QaC
 rw [if_pos (by omega),hW.h0,(Qjs a ha).2,Qa,if_pos (by omega),hW.h1,(Qjs b hb).2,Qa,if_pos (by omega),hW.h2,Qnp,QkH]
 have key:∀ q:Qq,q.f_Allowed=[]→q.f_Key=(QmL a).1→q.f_Psk=(QmL b).1→q.f_End=(if c=Qjz then Qko else (Host.endP c).1) →
   (if (0:Int)≤3∧3<(W.length:Int) then if (!seq (QO W 3) (bs Qjz))=true then (if (0:Int)≤3∧3<(W.length:Int) then QG (QO W 3) 44>>=fun t38=>QaC.l0 t38 0 q>>=fun q43=>if (0:Int)≤4∧4<(W.length:Int) then QA (QO W 4) 18446744073709551615>>=fun t65=>if (0:Int)≤5∧5<(W.length:Int) then QA (QO W 5) 18446744073709551615>>=fun t70=>if (0:Int)≤6∧6<(W.length:Int) then QA (QO W 6) 65535>>=fun t75=>some ({ { { q43 with f_Got:=t65.1 } with f_Sent:=t70.1 } with f_Keep:=wr .i64 t75.1 }) else none else none else none else none) else (if (0:Int)≤4∧4<(W.length:Int) then QA (QO W 4) 18446744073709551615>>=fun t83=>if (0:Int)≤5∧5<(W.length:Int) then QA (QO W 5) 18446744073709551615>>=fun t88=>if (0:Int)≤6∧6<(W.length:Int) then QA (QO W 6) 65535>>=fun t93=>some ({ { { q with f_Got:=t83.1 } with f_Sent:=t88.1 } with f_Keep:=wr .i64 t93.1 }) else none else none else none) else none)=some (peV a b c d e f g):=by
  intro q q1 q2 q3 q4
  rw [if_pos (by omega),hW.h3,QkH,hW.h4,hW.h5,hW.h6,e64,e16,n1,n2,n3]
  simp only [Qa]
  have hfin:∀ q':Qq,q'={ q with f_Allowed:=prV d }→some ({ { { q' with f_Got:=(Ql0 (rdU e M64)).1 } with f_Sent:=(Ql0 (rdU f M64)).1 } with f_Keep:=wr .i64 (Ql0 (rdU g 65535)).1 })=some (peV a b c d e f g):=by
   intro q' hq
   subst hq
   show some ({ { { { q with f_Allowed:=prV d } with f_Got:=((rdU e M64).1:Int) } with f_Sent:=((rdU f M64).1:Int) } with f_Keep:=wr .i64 ((rdU g 65535).1:Int) })=_
   rw [QjA]
   unfold peV
   rw [←q2,←q3,←q4]
  by_cases hn:d=Qjz
  ·rw [decide_eq_true hn,if_neg (by decide),if_pos (by omega),if_pos (by omega),if_pos (by omega)]
   refine hfin q ?_
   unfold prV
   rw [if_pos hn,←q1]
  ·have hlp:=Qob (QM 44 d) (fun y hy=>by have:=hsz y hy;omega) (by omega) (QM 44 d).length 0 q (by omega) (by rw [q1];exact Nat.le_refl _)
   rw [show ((0:Nat):Int)=0 from rfl,List.drop_zero,q1,List.nil_append] at hlp
   rw [decide_eq_false hn,if_pos (by decide),if_pos (by omega),hp,Qa,hlp,Qa,if_pos (by omega),if_pos (by omega),if_pos (by omega)]
   refine hfin { q with f_Allowed:=(QM 44 d).map fun y=>(Cid.cidP y).1 } ?_
   unfold prV
   rw [if_neg hn]
 by_cases hn:c=Qjz
 ·rw [decide_eq_true hn,if_neg (by decide),Qa]
  exact key _ rfl rfl rfl (by rw [if_pos hn])
 ·rw [decide_eq_false hn,if_pos (by decide),if_pos (by omega),(QoQ c (by omega)).2,Qa,Qa]
  exact key _ rfl rfl rfl (by rw [if_neg hn])
theorem Qth{n:Nat}(h:n≤M64):(Lit.int .u64 (n:Int)).wf=true:=by
 have h:n≤18446744073709551615:=h
 simp [Lit.wf,IntKind.min,IntKind.max,IntKind.signed,IntKind.bits]
 omega
theorem Qvv(a b c d e f g:List UInt8):Qfm (peV a b c d e f g):=by
 refine ⟨Qnz a,Qnz b,?_,?_,Qth (Qgl f M64),Qth (Qgl e M64),Qvs d⟩
 ·show QcU (if c=Qjz then Qko else (Host.endP c).1)
  split
  ·exact Qm7
  ·exact QvP c
 ·have:=Qgl g 65535
  show (Lit.int .i64 ((rdU g 65535).1:Int)).wf=true
  simp [Lit.wf,IntKind.min,IntKind.max,IntKind.signed,IntKind.bits]
  omega
end Go.Proofs.YtnekckhjmnhinaaGreatDoor.Sho
namespace Go.Proofs.YtnekckhjmnhinaaGreatDoor.Sho
open E Go.RowKit
open Adr AdrT Agg
abbrev zC:Qx:={ f_Private:=(Vector.replicate 32 (0:Int):(Vector Int 32)),f_Port:=(0:Int),f_Mark:=(0:Int),f_Peers:=([]:List Qq) }
def nth(x:List UInt8)(k:Nat):List UInt8:=(QM 9 x).getD k []
theorem Qf7(x:List UInt8)(k:Nat):(nth x k).length≤x.length:=by
 unfold nth
 rw [List.getD_eq_getElem?_getD]
 cases h:(QM 9 x)[k]? with
 | none=>simp
 | some w=>exact Qjq 9 _ x (Nat.le_refl _) w (List.mem_of_getElem? h)
theorem Qez{x:List UInt8}{k:Nat}(h:k<(QM 9 x).length):QO ((QM 9 x).map bs) (k:Int)=bs (nth x k):=by
 rw [QcL (by rw [List.length_map];exact h),List.getElem_map]
 unfold nth
 rw [List.getD_eq_getElem?_getD,List.getElem?_eq_getElem h];rfl
theorem QvO{x:List UInt8}(h:(QM 9 x).length=7):F7 ((QM 9 x).map bs) (nth x 0) (nth x 1) (nth x 2) (nth x 3) (nth x 4) (nth x 5) (nth x 6) :=
 ⟨by rw [List.length_map,h],Qez (k:=0) (by omega),Qez (k:=1) (by omega),Qez (k:=2) (by omega),Qez (k:=3) (by omega),Qez (k:=4) (by omega),Qez (k:=5) (by omega),Qez (k:=6) (by omega)⟩
def pe(x:List UInt8):Qq:=peV (nth x 0) (nth x 1) (nth x 2) (nth x 3) (nth x 4) (nth x 5) (nth x 6)
def stC(i:Nat)(c:Qx)(x:List UInt8):Option Qx :=
 if i=0 then (if (QM 9 x).length=3 then some { c with f_Private:=(QmL (nth x 0)).1,f_Port:=((rdU (nth x 1) 65535).1:Int),f_Mark:=((rdU (nth x 2) 4294967295).1:Int) } else none)
 else (if (QM 9 x).length=7 then some { c with f_Peers:=c.f_Peers++[pe x] } else none)
def stR(i:Nat)(r:Int)(x:List UInt8):Int :=
 if i=0 then (if (QM 9 x).length=3 then QhF (QhF (QhF r (QmL (nth x 0)).2) ((rdU (nth x 1) 65535).2:Int)) ((rdU (nth x 2) 4294967295).2:Int) else QhF r 5)
 else (if (QM 9 x).length=7 then peE r (nth x 0) (nth x 1) (nth x 2) (nth x 3) (nth x 4) (nth x 5) (nth x 6) else QhF r 5)
def goS:Nat→Qx→Int→List (List UInt8)→Qx×Int
 | _,c,r,[]=>(c,r)
 | i,c,r,x::ls=>goS (i+1) ((stC i c x).getD c) (stR i r x) ls
def goC:Nat→Qx→List (List UInt8)→Option Qx
 | _,c,[]=>some c
 | i,c,x::ls=>(stC i c x).bind fun c'=>goC (i+1) c' ls
theorem Qp0(g:List UInt8):wr .u32 ((rdU g 4294967295).1:Int)=((rdU g 4294967295).1:Int):=by
 have:=Qgl g 4294967295
 rw [QpZ (by omega) (by omega)]
theorem Qqd{i:Nat}{c:Qx}{x:List UInt8}(h:c.f_Peers.length≤i):((stC i c x).getD c).f_Peers.length≤i+1:=by
 unfold stC
 split
 ·split
  ·show c.f_Peers.length≤_;omega
  ·show c.f_Peers.length≤_;omega
 ·split
  ·show (c.f_Peers++[pe x]).length≤_
   rw [List.length_append,List.length_singleton];omega
  ·show c.f_Peers.length≤_;omega
theorem QmT(ls:List (List UInt8))(hl:∀ x∈ls,x.length≤9500)(hn:ls.length≤10000):∀ (k i:Nat) (c:Qx) (r:Int),i+k=ls.length→c.f_Peers.length≤i →
  Qaz.l0 (ls.map bs) (i:Int) c { f_e:=r }=some ((goS i c r (ls.drop i)).1,{ f_e:=(goS i c r (ls.drop i)).2 })
 | 0,i,c,r,h,hc=>by
  rw [Qaz.l0.eq_def,decide_eq_false (by rw [List.length_map];omega),if_neg Bool.false_ne_true,List.drop_eq_nil_of_le (by omega)];rfl
 | k+1,i,c,r,h,hc=>by
  have hi:i<ls.length:=by omega
  have hi2:i<(ls.map bs).length:=by rw [List.length_map];exact hi
  have hg:QO (ls.map bs) (i:Int)=bs ls[i]:=by rw [QcL hi2,List.getElem_map]
  have hx:=hl _ (List.getElem_mem hi)
  have ih:=fun c' r'=>QmT ls hl hn k (i+1) c' r' (by omega)
  have hlen:(((QM 9 ls[i]).map bs).length:Int)=((QM 9 ls[i]).length:Int):=by rw [List.length_map]
  rw [Qaz.l0.eq_def,decide_eq_true (by omega),if_pos rfl,if_pos (by omega),hg,Qiu 9 _ _ rfl (by omega),Qa,wr1 (by omega),List.drop_eq_getElem_cons hi]
  show _=some ((goS (i+1) ((stC i c ls[i]).getD c) (stR i r ls[i]) (ls.drop (i+1))).1,({ f_e:=(goS (i+1) ((stC i c ls[i]).getD c) (stR i r ls[i]) (ls.drop (i+1))).2 }:Q3))
  have hsl:=Qqd (x:=ls[i]) hc
  rw [←ih _ _ hsl]
  generalize hxe:ls[i]=x at *
  unfold stC stR
  by_cases h0:i=0
  ·have b0:((i:Int)==0)=true:=by rw [h0];rfl
   rw [b0,if_pos rfl,if_pos h0,if_pos h0,hlen]
   by_cases h3:(QM 9 x).length=3
   ·have b3:(((QM 9 x).length:Int)==3)=true:=by rw [h3];rfl
    have l1:=Qf7 x 0
    have l2:=Qf7 x 1
    have l3:=Qf7 x 2
    rw [b3,if_pos rfl,if_pos h3,if_pos h3,if_pos (by omega),show QO ((QM 9 x).map bs) 0=bs (nth x 0) from Qez (k:=0) (by omega),QjL _ _ (by omega),Qa,if_pos (by omega),show QO ((QM 9 x).map bs) 1=bs (nth x 1) from Qez (k:=1) (by omega)]
    dsimp only
    rw [show (65535:Int)=((65535:Nat):Int) from rfl,QeL _ _ (by omega) 65535 (by decide),Qa,if_pos (by omega),show QO ((QM 9 x).map bs) 2=bs (nth x 2) from Qez (k:=2) (by omega)]
    dsimp only
    rw [show (4294967295:Int)=((4294967295:Nat):Int) from rfl,QeL _ _ (by omega) 4294967295 (by decide),Qa]
    dsimp only
    rw [QjA,Qp0];rfl
   ·have b3:(((QM 9 x).length:Int)==3)=false:=by rw [beq_eq_false_iff_ne];omega
    rw [b3,if_neg Bool.false_ne_true,if_neg h3,if_neg h3,decide_eq_false (by omega),if_neg Bool.false_ne_true,QfO,Qa];rfl
  ·have b0:((i:Int)==0)=false:=by rw [beq_eq_false_iff_ne];omega
   rw [b0,if_neg Bool.false_ne_true,if_neg h0,if_neg h0,decide_eq_true (show (i:Int)>0 by omega),if_pos rfl,hlen]
   by_cases h7:(QM 9 x).length=7
   ·have b7:(((QM 9 x).length:Int)==7)=true:=by rw [h7];rfl
    have l1:=fun k=>Qf7 x k
    rw [b7,if_pos rfl,if_pos h7,if_pos h7,QqK (QvO h7) r (Nat.le_trans (l1 0) hx) (Nat.le_trans (l1 1) hx) (Nat.le_trans (l1 2) hx) (Nat.le_trans (l1 3) hx) (Nat.le_trans (l1 4) hx) (Nat.le_trans (l1 5) hx) (Nat.le_trans (l1 6) hx),Qa,if_pos (by omega)];rfl
   ·have b7:(((QM 9 x).length:Int)==7)=false:=by rw [beq_eq_false_iff_ne];omega
    rw [b7,if_neg Bool.false_ne_true,if_neg h7,if_neg h7,QfO,Qa];rfl
def Qwt:Option Qx→Ctl (Qx×Bool) Qx
 | none=>.ret (zC,false)
 | some c=>.nx c
theorem QkK(ls:List (List UInt8))(hl:∀ x∈ls,x.length≤9500)(hn:ls.length≤10000):∀ (k i:Nat) (c:Qx),i+k=ls.length→c.f_Peers.length≤i →
  Qax.l0 (ls.map bs) (i:Int) c=some (Qwt (goC i c (ls.drop i)))
 | 0,i,c,h,hc=>by
  rw [Qax.l0.eq_def,decide_eq_false (by rw [List.length_map];omega),if_neg Bool.false_ne_true,List.drop_eq_nil_of_le (by omega)];rfl
 | k+1,i,c,h,hc=>by
  have hi:i<ls.length:=by omega
  have hi2:i<(ls.map bs).length:=by rw [List.length_map];exact hi
  have hg:QO (ls.map bs) (i:Int)=bs ls[i]:=by rw [QcL hi2,List.getElem_map]
  have hx:=hl _ (List.getElem_mem hi)
  have ih:=fun c'=>QkK ls hl hn k (i+1) c' (by omega)
  have hlen:(((QM 9 ls[i]).map bs).length:Int)=((QM 9 ls[i]).length:Int):=by rw [List.length_map]
  have hp:=Qei 9 ls[i] (by omega)
  rw [show ((9:UInt8).toNat:Int)=9 from rfl] at hp
  rw [Qax.l0.eq_def,decide_eq_true (by omega),if_pos rfl,if_pos (by omega),hg,hp,Qa,wr1 (by omega),List.drop_eq_getElem_cons hi]
  show _=some (Qwt ((stC i c ls[i]).bind fun c'=>goC (i+1) c' (ls.drop (i+1))))
  have hsl:=Qqd (x:=ls[i]) hc
  generalize hxe:ls[i]=x at *
  unfold stC at hsl ⊢
  by_cases h0:i=0
  ·have b0:((i:Int)==0)=true:=by rw [h0];rfl
   rw [if_pos h0] at hsl ⊢
   rw [b0,if_pos rfl,hlen]
   by_cases h3:(QM 9 x).length=3
   ·have b3:(((QM 9 x).length:Int)==3)=true:=by rw [h3];rfl
    have l1:=Qf7 x 0
    have l2:=Qf7 x 1
    have l3:=Qf7 x 2
    rw [if_pos h3] at hsl ⊢
    rw [b3,if_pos rfl,if_pos (by omega),show QO ((QM 9 x).map bs) 0=bs (nth x 0) from Qez (k:=0) (by omega),(Qjs _ (by omega)).2,Qa,if_pos (by omega),show QO ((QM 9 x).map bs) 1=bs (nth x 1) from Qez (k:=1) (by omega),show (65535:Int)=((65535:Nat):Int) from rfl,(Qhd _ (by omega) 65535 (by decide)).2,Qa,if_pos (by omega),show QO ((QM 9 x).map bs) 2=bs (nth x 2) from Qez (k:=2) (by omega),show (4294967295:Int)=((4294967295:Nat):Int) from rfl,(Qhd _ (by omega) 4294967295 (by decide)).2,Qa]
    show Qax.l0 (ls.map bs) ((i+1:Nat):Int) ({ { { c with f_Private:=(QmL (nth x 0)).1 } with f_Port:=wr .i64 ((rdU (nth x 1) 65535).1:Int) } with f_Mark:=wr .u32 ((rdU (nth x 2) 4294967295).1:Int) })=_
    rw [QjA,Qp0]
    exact ih _ hsl
   ·have b3:(((QM 9 x).length:Int)==3)=false:=by rw [beq_eq_false_iff_ne];omega
    rw [b3,if_neg Bool.false_ne_true,if_neg h3,decide_eq_false (by omega),if_neg Bool.false_ne_true];rfl
  ·have b0:((i:Int)==0)=false:=by rw [beq_eq_false_iff_ne];omega
   rw [if_neg h0] at hsl ⊢
   rw [b0,if_neg Bool.false_ne_true,decide_eq_true (show (i:Int)>0 by omega),if_pos rfl,hlen]
   by_cases h7:(QM 9 x).length=7
   ·have b7:(((QM 9 x).length:Int)==7)=true:=by rw [h7];rfl
    have l1:=fun k=>Qf7 x k
    rw [if_pos h7] at hsl ⊢
    rw [b7,if_pos rfl,Qo6 (QvO h7) (Nat.le_trans (l1 0) hx) (Nat.le_trans (l1 1) hx) (Nat.le_trans (l1 2) hx) (Nat.le_trans (l1 3) hx) (Nat.le_trans (l1 4) hx) (Nat.le_trans (l1 5) hx) (Nat.le_trans (l1 6) hx),Qa,if_pos (by omega)]
    exact ih _ hsl
   ·have b7:(((QM 9 x).length:Int)==7)=false:=by rw [beq_eq_false_iff_ne];omega
    rw [b7,if_neg Bool.false_ne_true,if_neg h7];rfl
theorem Qu7{i:Nat}{r:Int}(h:r≠0)(x:List UInt8):stR i r x=r:=by
 unfold stR
 simp only [Qlu h,Qvw h,ite_self]
theorem Qtx:∀ (ls:List (List UInt8)) (i:Nat) (c:Qx) (r:Int),r≠0→(goS i c r ls).2=r
 | [],_,_,_,_=>rfl
 | x::ls,i,c,r,h=>by
  show (goS (i+1) _ (stR i r x) ls).2=r
  rw [Qu7 h]
  exact Qtx ls _ _ r h
theorem QlK:∀ (ls:List (List UInt8)) (i:Nat) (c:Qx) (r:Int) (c':Qx),goC i c ls=some c'→(goS i c r ls).1=c'
 | [],_,c,_,c',h=>Option.some.inj h
 | x::ls,i,c,r,c',h=>by
  have h:(stC i c x).bind (fun c'=>goC (i+1) c' ls)=some c':=h
  show (goS (i+1) ((stC i c x).getD c) (stR i r x) ls).1=c'
  cases hs:stC i c x with
  | none=>rw [hs] at h;cases h
  | some d=>rw [hs] at h;exact QlK ls _ d _ c' h
theorem QoK:∀ (ls:List (List UInt8)) (i:Nat) (c:Qx) (r:Int),goC i c ls=none→(goS i c r ls).2≠0
 | [],_,c,_,h=>by cases h
 | x::ls,i,c,r,h=>by
  have h:(stC i c x).bind (fun c'=>goC (i+1) c' ls)=none:=h
  show (goS (i+1) ((stC i c x).getD c) (stR i r x) ls).2≠0
  cases hs:stC i c x with
  | some d=>rw [hs] at h;exact QoK ls _ d _ h
  | none =>
   have hnz:stR i r x≠0:=by
    have key:QhF r 5≠0:=by unfold QhF;split<;>omega
    unfold stC at hs
    unfold stR
    by_cases h0:i=0
    ·rw [if_pos h0] at hs ⊢
     by_cases h3:(QM 9 x).length=3
     ·rw [if_pos h3] at hs;cases hs
     ·rw [if_neg h3];exact key
    ·rw [if_neg h0] at hs ⊢
     by_cases h7:(QM 9 x).length=7
     ·rw [if_pos h7] at hs;cases hs
     ·rw [if_neg h7];exact key
   rw [Qtx ls _ _ _ hnz]
   exact hnz
structure OkC (c:Qx):Prop where
 key:Key.IsB c.f_Private
 mark:0≤c.f_Mark∧c.f_Mark<4294967296
 ok:∀ p∈c.f_Peers,Qfm p
 each:∀ p∈c.f_Peers,p.f_Allowed.length≤10000
theorem QuU:OkC zC:=⟨Qn0,by decide,fun p hp=>(by cases hp),fun p hp=>(by cases hp)⟩
theorem Qu8{i:Nat}{c:Qx}{x:List UInt8}(h:OkC c)(hx:x.length≤9500):OkC ((stC i c x).getD c):=by
 unfold stC
 split
 ·split
  ·have:=Qgl (nth x 2) 4294967295
   exact ⟨Qnz _,by show (0:Int)≤((rdU (nth x 2) 4294967295).1:Int)∧((rdU (nth x 2) 4294967295).1:Int)<4294967296;omega,h.ok,h.each⟩
  ·exact h
 ·split
  ·refine ⟨h.key,h.mark,fun p hp=>?_,fun p hp=>?_⟩
   ·rcases List.mem_append.1 hp with hp | hp
    ·exact h.ok p hp
    ·rw [List.mem_singleton.1 hp];exact Qvv ..
   ·rcases List.mem_append.1 hp with hp | hp
    ·exact h.each p hp
    ·rw [List.mem_singleton.1 hp]
     have h1:=Qt5 (nth x 3)
     have h2:=Qf7 x 3
     show (prV (nth x 3)).length≤_
     omega
  ·exact h
theorem Qrs:∀ (ls:List (List UInt8)) (i:Nat) (c:Qx) (r:Int),(∀ x∈ls,x.length≤9500)→OkC c→OkC (goS i c r ls).1
 | [],_,_,_,_,h=>h
 | x::ls,i,c,r,hl,h=>Qrs ls _ _ _ (fun y hy=>hl y (List.mem_cons_of_mem _ hy)) (Qu8 h (hl x (List.mem_cons_self ..)))
end Go.Proofs.YtnekckhjmnhinaaGreatDoor.Sho
namespace Go.Proofs.YtnekckhjmnhinaaGreatDoor.Sho
open E Go.RowKit
open Adr AdrT Agg
theorem bs_app(l k:List UInt8):bs l++bs k=bs (l++k):=by apply Qde;rw [Qa0,QaJ,QaJ,QaJ]
theorem Qrd(sp a:List UInt8)(r:List (List UInt8)):Lib.joinTail sp (a::r)=sp++(a++Lib.joinTail sp r):=by simp [Lib.joinTail]
theorem Qtw(sp:List UInt8)(m:Nat):∀ (r:List (List UInt8)),(∀ w∈r,w.length≤m)→(Lib.joinTail sp r).length≤r.length*(m+sp.length)
 | [],_=>by simp [Lib.joinTail]
 | a::r,h=>by
  have h1:=h a (by simp)
  have h2:=Qtw sp m r fun w hw=>h w (List.mem_cons_of_mem _ hw)
  rw [Qrd,List.length_append,List.length_append,List.length_cons,Nat.add_mul,Nat.one_mul]
  omega
theorem Qs5(W:List (List UInt8))(sp:List UInt8):Qdp (W.map bs) (bs sp)=bs (Lib.join W sp):=by
 apply Qde
 unfold Qdp
 rw [QaJ,QaJ]
 show (Lib.join ((W.map bs).map (·.data.toList)) sp).toArray.toList=_
 rw [List.map_map]
 have:((fun x:ByteArray=>x.data.toList)∘bs)=id:=by funext l;exact QaJ l
 rw [this,List.map_id]
structure OkL (l:List Px):Prop where
 ok:∀ p∈l,Qbx p
 rgt:∀ p∈l,rgt p=true
 len:l.length≤64
def aS(sp:List UInt8)(l:List Px):List UInt8:=if l=[] then Qjz else Lib.join (l.map cT) sp
theorem QtE{l:List Px}(h:OkL l)(sp:List UInt8)(hs:sp.length≤10):(aS sp l).length≤6000:=by
 unfold aS
 split
 ·decide
 ·have hlen:=h.len
  match l,h with
  | [],_=>simp [Lib.join_nil]
  | p::r,h =>
   have h1:=(QhO p (h.ok p (by simp)) (h.rgt p (by simp))).2.2.1
   have h2:=Qtw sp 70 (r.map cT) fun w hw=>by
    obtain ⟨q,hq,rfl⟩:=List.mem_map.1 hw
    exact (QhO q (h.ok q (by simp [hq])) (h.rgt q (by simp [hq]))).2.2.1
   rw [List.length_map] at h2
   have h3:r.length*(70+sp.length)≤r.length*80:=Nat.mul_le_mul_left _ (by omega)
   simp only [List.length_cons] at hlen
   rw [List.map_cons,Lib.join_cons,List.length_append]
   omega
theorem QrX{l:List Px}(h:OkL l):∀ (k i:Nat) (acc:List ByteArray),i+k=l.length→acc.length≤i→Qca.l0 l acc (i:Int)=some (acc++((l.drop i).map cT).map bs)
 | 0,i,acc,hk,ha=>by
  rw [Qca.l0.eq_def,decide_eq_false (by omega),if_neg Bool.false_ne_true,List.drop_eq_nil_of_le (by omega)]
  show _=some (acc++[])
  rw [List.append_nil]
 | k+1,i,acc,hk,ha=>by
  have hlen:=h.len
  have hi:i<l.length:=by omega
  have hm:=List.getElem_mem hi
  rw [Qca.l0.eq_def,decide_eq_true (by omega),if_pos rfl,if_pos (by omega),QcL hi,(QhO _ (h.ok _ hm) (h.rgt _ hm)).1,Qa,if_pos (by omega),wr1 (by omega),QrX h k (i+1) _ (by omega) (by rw [List.length_append,List.length_singleton];omega),List.drop_eq_getElem_cons hi,List.map_cons,List.map_cons,List.append_assoc];rfl
theorem Qog{l:List Px}(h:OkL l)(sp:List UInt8)(hs:sp.length≤10):∀ (k i:Nat) (acc:ByteArray),i+k=l.length→acc.size≤100*i→Qap.l0 l (bs sp) acc (i:Int)=some (acc++bs (Lib.joinTail sp ((l.drop i).map cT)))
 | 0,i,acc,hk,ha=>by
  rw [Qap.l0.eq_def,decide_eq_false (by omega),if_neg Bool.false_ne_true,List.drop_eq_nil_of_le (by omega)]
  show some acc=some (acc++bs [])
  congr 1
  apply Qde
  rw [Qa0,QaJ,List.append_nil]
 | k+1,i,acc,hk,ha=>by
  have hlen:=h.len
  have hi:i<l.length:=by omega
  have hm:=List.getElem_mem hi
  obtain ⟨_,c2,c3,_⟩:=QhO _ (h.ok _ hm) (h.rgt _ hm)
  have z1:=QT sp
  have z2:=QT (cT l[i])
  rw [Qap.l0.eq_def,decide_eq_true (by omega),if_pos rfl,if_pos (by omega),if_pos (by omega),QcL hi,c2,Qa,if_pos (by rw [ByteArray.size_append];omega),wr1 (by omega),Qog h sp hs k (i+1) _ (by omega) (by rw [ByteArray.size_append,ByteArray.size_append];omega),List.drop_eq_getElem_cons hi,List.map_cons,Qrd]
  congr 1
  apply Qde
  simp only [Qa0,QaJ,List.append_assoc]
theorem QuO{l:List Px}(h:OkL l)(sp:List UInt8)(hs:sp.length≤10):Qca l (bs sp)=some (bs (aS sp l))∧Qap l (bs sp)=some (bs (aS sp l)):=by
 have hlen:=h.len
 have hsz:=QtE h sp hs
 unfold Qca Qap
 by_cases hl:l=[]
 ·subst hl
  exact ⟨rfl,rfl⟩
 ·have hp:0<l.length:=List.length_pos_iff.2 hl
  have b0:((l.length:Int)==0)=false:=by rw [beq_eq_false_iff_ne];omega
  have he:aS sp l=Lib.join (l.map cT) sp:=by unfold aS;rw [if_neg hl]
  have h1:=QrX h l.length 0 [] (by omega) (by simp)
  rw [show ((0:Nat):Int)=0 from rfl,List.drop_zero,List.nil_append] at h1
  rw [b0,if_neg Bool.false_ne_true,if_neg Bool.false_ne_true,h1,Qa,Qs5,←he]
  refine ⟨by rw [if_pos (by rw [List.length_map,List.length_map];omega),if_pos (by rw [QT];omega)],?_⟩
  obtain ⟨_,c2,c3,_⟩:=QhO _ (h.ok _ (List.getElem_mem hp)) (h.rgt _ (List.getElem_mem hp))
  have h2:=Qog h sp hs (l.length-1) 1 (bs (cT l[0])) (by omega) (by rw [QT];omega)
  rw [show ((1:Nat):Int)=1 from rfl] at h2
  rw [if_pos (by omega),show QO l 0=l[0] from QcL (i:=0) hp,c2,Qa,h2,Qa,he,bs_app]
  congr 2
  match l,hp with
  | p::r,_=>rw [List.map_cons,Lib.join_cons];rfl
theorem QwP{l:List Px}(h:OkL l):no 32 (aS [44] l)∧(aS [44] l=Qjz↔l=[])∧prV (aS [44] l)=l∧∀ r,prE r (aS [44] l)=r:=by
 by_cases hl:l=[]
 ·subst hl
  refine ⟨QqU,⟨fun _=>rfl,fun _=>rfl⟩,?_,fun r=>?_⟩
  ·unfold prV;rw [if_pos (show aS [44] []=Qjz from rfl)]
  ·unfold prE;rw [if_pos (show aS [44] []=Qjz from rfl)]
 ·have he:aS [44] l=jc 44 (l.map cT):=by unfold aS;rw [if_neg hl,QnA]
  have hw:∀ w∈l.map cT,no 44 w:=fun w hw=>by
   obtain ⟨q,hq,rfl⟩:=List.mem_map.1 hw
   exact (QhO q (h.ok q hq) (h.rgt q hq)).2.2.2.1
  have h43:no 43 (aS [44] l):=by
   rw [he]
   exact QvG (by decide) _ fun w h=>(hw w h).mono (by omega)
  have hne:=QqV h43
  have hp:QM 44 (aS [44] l)=l.map cT:=by
   rw [he]
   exact Qh4 44 _ (by simpa using hl) fun w h=>(hw w h).ne 44 (by decide)
  have hc:∀ q∈l,Cid.cidP (cT q)=(q,0):=fun q hq=>(QhO q (h.ok q hq) (h.rgt q hq)).2.2.2.2
  refine ⟨h43.mono (by omega),⟨fun e=>absurd e hne,fun e=>absurd e hl⟩,?_,fun r=>?_⟩
  ·unfold prV
   rw [if_neg hne,hp,List.map_map]
   have:∀ L:List Px,(∀ q∈L,Cid.cidP (cT q)=(q,0))→L.map ((fun y=>(Cid.cidP y).1)∘cT)=L:=by
    intro L hL
    induction L with
    | nil=>rfl
    | cons a L ih =>
     rw [List.map_cons,ih fun q hq=>hL q (List.mem_cons_of_mem _ hq)]
     show (Cid.cidP (cT a)).1::L=_
     rw [hL a (List.mem_cons_self ..)]
   exact this l hc
  ·unfold prE
   rw [if_neg hne,hp]
   have:∀ L:List Px,(∀ q∈L,Cid.cidP (cT q)=(q,0))→∀ r,(L.map cT).foldl (fun r y=>QhF r (Cid.cidP y).2) r=r:=by
    intro L hL
    induction L with
    | nil=>exact fun r=>rfl
    | cons a L ih =>
     intro r
     rw [List.map_cons,List.foldl_cons,hL a (List.mem_cons_self ..),ih fun q hq=>hL q (List.mem_cons_of_mem _ hq)]
     unfold QhF
     split
     ·next h=>exact h.symm
     ·rfl
   exact this l hc r
theorem QkU(W:List (List UInt8))(hW:∀ w∈W,w.length≤10000)(hn:W.length≤1000):∀ (k i:Nat) (acc:ByteArray),i+k=W.length→acc.size≤20000*i→Qc0.l0 (W.map bs) (i:Int) acc=some (acc++bs (lnT (W.drop i)))
 | 0,i,acc,hk,ha=>by
  rw [Qc0.l0.eq_def,decide_eq_false (by rw [List.length_map];omega),if_neg Bool.false_ne_true,List.drop_eq_nil_of_le (by omega)]
  show some acc=some (acc++bs [])
  congr 1
  apply Qde
  rw [Qa0,QaJ,List.append_nil]
 | k+1,i,acc,hk,ha=>by
  have hi:i<W.length:=by omega
  have hi2:i<(W.map bs).length:=by rw [List.length_map];exact hi
  have hg:QO (W.map bs) (i:Int)=bs W[i]:=by rw [QcL hi2,List.getElem_map]
  have hw:=hW _ (List.getElem_mem hi)
  have z:=QT W[i]
  have h10:(⟨#[10]⟩:ByteArray).size=1:=rfl
  rw [Qc0.l0.eq_def,decide_eq_true (by omega),if_pos rfl,if_pos (by omega),hg,if_pos (by omega),if_pos (by rw [ByteArray.size_append];omega),wr1 (by omega),QkU W hW hn k (i+1) _ (by omega) (by rw [ByteArray.size_append,ByteArray.size_append];omega),List.drop_eq_getElem_cons hi,Qh7]
  congr 1
  apply Qde
  simp only [Qa0,QaJ,List.append_assoc]
  rfl
theorem Qpq(W:List (List UInt8))(hW:∀ w∈W,w.length≤10000)(hn:W.length≤1000):Qc0 (W.map bs)=some (bs (lnT W)):=by
 have h:=QkU W hW hn W.length 0 ByteArray.empty (by omega) (by decide)
 rw [show ((0:Nat):Int)=0 from rfl,List.drop_zero] at h
 unfold Qc0
 rw [h,Qa]
 exact congrArg some (Qde ((Qa0 _ _).trans rfl))
end Go.Proofs.YtnekckhjmnhinaaGreatDoor.Sho
