/- Texts of this claim, those in one that belong together; printed by a program of this project. -/
import Derived.Test.YtahlbjmafceoeaaGreatDoorProg
import Derived.Lib.Bytealg
import Derived.Test.YtahlbjmafceoeaaGreatDoorKLintTells1
set_option linter.unusedVariables false
set_option linter.unusedSimpArgs false
set_option maxRecDepth 20000
namespace Go.Proofs.YtahlbjmafceoeaaGreatDoor
open E Go.RowKit _root_.Go.Proofs.Tryz
theorem infoG85_is:(Tryz.prog.info? 5).isSome=true:=by kernel_rfl
noncomputable def infoG85_v:TypeInfo:=(Tryz.prog.info? 5).get infoG85_is
theorem infoG85:Tryz.prog.info? 5=some infoG85_v:=(Option.some_get _).symm
def Qd9(x0:(Vector Int 32)):Option (Bool) :=
 some (decide (x0=(Vector.replicate 32 (0:Int):(Vector Int 32))))
theorem keys_Zero_ok(x0:(Vector Int 32))(r:Bool)(hF:Qd9 x0=some r)(w:World) :
    Calls Tryz.prog 20 #[.agg (Cd.cs (cVec (cInt .u8) 32 (by decide)) x0).toArray] w (fun e w'=>e=.returned (.bool r)∧Below w.heap.size w w'):=by
 unfold Qd9 at hF
 refine ce (l:=[.agg (Cd.cs (cVec (cInt .u8) 32 (by decide)) x0).toArray]) func20 rfl rfl ?_
 refine QN ?_
 refine sr ?_
 refine Qag (cs:=Cd.cs (cVec (cInt .u8) 32 (by decide)) x0) rfl rfl rfl ?_
 intro b1
 refine aa (ns ?_)
 refine aw (Qe (c:=(cVec (cInt .u8) 32 (by decide))) (z:=x0) isAgg23 sizeOf23 rfl (Qp .z lw)) ?_
 refine aw (Qcw (zs:=Cd.cs (cVec (cInt .u8) 32 (by decide)) zv3) (cs:=Cd.cs (cVec (cInt .u8) 32 (by decide)) zv3) underlying23 zeroValue23 rfl sizeOf5 rfl rfl) ?_
 refine aw (Qbz (c:=(cVec (cInt .u8) 32 (by decide))) (a:=x0) (b:=zv3) (QeT underlying23 infoT5 sizeOf5 isAgg5 (.inr rfl) (QdM underlying5)) rfl Tryz.eqGuardType23 rfl rfl (.inl rfl) rfl) ?_
 refine aa (qn (dz (wq [2] ?_)))
 refine tn (qt ?_)
 have K:=os hF
 subst K
 exact r1 wb
def QaQ.l0(x0:(Vector Int 32))(i3:Int):Option (Ctl (Bool) (Unit)) :=
 if (decide (i3<32))=true then (if (0:Int)≤i3∧i3<32 then if (vget x0 i3 != 0)=true then (some (.ret false)) else (QaQ.l0 x0 (wr .i64 (i3+1))) else none) else (some (.nx ()))
 partial_fixpoint
def QaQ(x0:(Vector Int 32)):Option (Bool) :=
 QaQ.l0 x0 0>>=fun q2=>match q2 with | .ret r'=>some r' | .nx sq2=>(some true)
theorem QdD(x0:(Vector Int 32))(r:Bool)(hF:QaQ x0=some r)(w:World) :
    Calls Tryz.prog 28 #[.agg (Cd.cs (cVec (cInt .u8) 32 (by decide)) x0).toArray] w (fun e w'=>e=.returned (.bool r)∧Below w.heap.size w w'):=by
 unfold QaQ at hF
 refine ce (l:=[.agg (Cd.cs (cVec (cInt .u8) 32 (by decide)) x0).toArray]) func28 rfl rfl ?_
 refine QN ?_
 refine sr ?_
 refine Qag (cs:=Cd.cs (cVec (cInt .u8) 32 (by decide)) x0) rfl rfl rfl ?_
 intro b1
 refine aa (nt (qs (sr (aa (nwq [3,1] ?_)))))
 refine qb ?_
 obtain ⟨q2,hq2,hF⟩:=bM hF
 refine wq [3,1] ?_
 refine QbG (B:=0) (r:=r) (q:=q2) (A:=fun (_:Unit) Y=>At 12 [] (Wd w []) Y) ?_ ?_
 ·intro K
  refine QaQ.l0.partial_correctness x0 (motive:=fun i3 x=>KR (fun (_:Unit) Y=>At 12 [] (Wd w []) Y) _ 0 r x→Round (fun Y=>At 12 [(1,.pointer (some ⟨b1,0,none⟩)),(3,.int .i64 i3)] (Wd w [Qs b1 (Cd.cs (cVec (cInt .u8) 32 (by decide)) x0) 23]) Y) _ _ _) ?_ _ _ hq2 K
  ·clear K hF
   intro g ih i3 x hF K
   refine QS ?_
   refine qs (sr (am (aw xl (nwq [5,3,1] ?_))))
   obtain ⟨h4,hF⟩|⟨h4,hF⟩:=oi hF
   ·refine ct h4 ?_
    refine sn (qs ?_)
    refine qb ?_
    refine sr (am ?_)
    obtain ⟨h5,hF⟩:=gd hF
    refine aw (Qay underlying23 sizeOf5 rfl rfl h5) ?_
    refine aw (Ql isAgg5 rfl (Qr (c:=(cInt .u8)) (y:=vget x0 i3) .z (Lens.comp lw (fun z=>vset x0 i3 z) (Lens.vec (cInt .u8) (by decide) x0 i3 h5)) rfl)) ?_
    refine aw xn (nwq [11,3,1] ?_)
    obtain ⟨h6,hF⟩|⟨h6,hF⟩:=oi hF
    ·refine ct h6 ?_
     refine sr (aa (qn (dz (wq [2] ?_))))
     refine tn (qt ?_)
     refine br (tr (tr (br (tr ?_))))
     obtain rfl:=os hF
     subst K
     exact r1 wb
    refine cf h6 ?_
    refine Qaz ?_
    refine bm ?_
    refine qr (am (aw xa (aa (nwq [3,1] ?_))))
    exact Qm (ih _ _ hF K) ⟨rfl,rfl,trivial⟩
   refine cf h4 ?_
   refine Q1 ?_
   refine te (te ?_)
   refine dz ?_
   obtain rfl:=os hF
   exact Qm K trivial
 cases q2 with
 | ret r'=>exact os hF
 | nx sq2 =>
  skip
  refine Qw ?_
  refine tn (sr (aa (nwq [2] ?_)))
  refine qt ?_
  have K:=os hF
  subst K
  exact r1 wb
def QaL.l0(x0:(Vector Int 32))(i5:List Int)(i6:Int):Option (List Int) :=
 if (decide (i6<32))=true then (if (0:Int)≤i6∧i6<32 then if (i5.length+1)*1≤140737488355328 then QaL.l0 x0 (i5++[vget x0 i6]) (wr .i64 (i6+1)) else none else none) else (some i5)
 partial_fixpoint
def QaL(x0:(Vector Int 32)):Option (List Int) :=
 QaL.l0 x0 ([]:List Int) 0>>=fun q4=>some q4
theorem Qfj(x0:(Vector Int 32))(r:List Int)(hF:QaL x0=some r)(w:World) :
    Calls Tryz.prog 32 #[.agg (Cd.cs (cVec (cInt .u8) 32 (by decide)) x0).toArray] w (fun e w'=>∃ p cap,e=.returned (.slice p r.length cap)∧Own (cInt .u8) 5 w.heap.size w' p cap r∧Below w.heap.size w w'):=by
 unfold QaL at hF
 refine ce (l:=[.agg (Cd.cs (cVec (cInt .u8) 32 (by decide)) x0).toArray]) func32 rfl rfl ?_
 refine QN ?_
 refine sr ?_
 refine Qag (cs:=Cd.cs (cVec (cInt .u8) 32 (by decide)) x0) rfl rfl rfl ?_
 intro b1
 refine aa (ns (aa (nt (qs (sr (aa (nwq [4,3,1] ?_)))))))
 refine qb ?_
 refine Qbd (cInt .u8) 5 ?_
 obtain ⟨q4,hq4,hF⟩:=bM hF
 refine wq [4,3,1] ?_
 refine Q5 (B:=0) (A:=fun Y=>∀ (p9:Option Addr) (c10:Nat),At 16 [(3,.slice p9 q4.length c10)] (Wd w [rowE (cInt .u8) 5 p9 c10 q4]) Y) ?_ ?_
 ·intro K
  refine QaL.l0.partial_correctness x0 (motive:=fun i5 i6 x=>KN (fun Y=>∀ (p9:Option Addr) (c10:Nat),At 16 [(3,.slice p9 x.length c10)] (Wd w [rowE (cInt .u8) 5 p9 c10 x]) Y) _ 0→Round (fun Y=>∀ (p7:Option Addr) (c8:Nat),At 16 [(1,.pointer (some ⟨b1,0,none⟩)),(3,.slice p7 i5.length c8),(4,.int .i64 i6)] (Wd w [rowE (cInt .u8) 5 p7 c8 i5,Qs b1 (Cd.cs (cVec (cInt .u8) 32 (by decide)) x0) 23]) Y) _ _ _) ?_ _ _ _ hq4 K none 0
  ·clear K hF
   intro g ih i5 i6 x hF K p7 c8
   refine QS ?_
   refine qs (sr (am (aw xl (nwq [6,4,3,1] ?_))))
   obtain ⟨h11,hF⟩|⟨h11,hF⟩:=oi hF
   ·refine ct h11 ?_
    refine sn (qs ?_)
    refine qb ?_
    refine qr (am (am ?_))
    obtain ⟨h12,hF⟩:=gd hF
    refine aw (Qay underlying23 sizeOf5 rfl rfl h12) ?_
    refine aw (Ql isAgg5 rfl (Qr (c:=(cInt .u8)) (y:=vget x0 i6) (.s .z) (Lens.comp lw (fun z=>vset x0 i6 z) (Lens.vec (cInt .u8) (by decide) x0 i6 h12)) rfl)) ?_
    refine Qgn (cs:=(cInt .u8).all ([vget x0 i6]:List Int)) underlying74 sizeOf5 zeroValue5 rfl rfl rfl (by kernel_rfl) rfl ?_
    intro b13
    obtain ⟨h14,hF⟩:=gd hF
    refine Qax (z:=.int .u8 0) (c:=(cInt .u8)) (ys:=([vget x0 i6]:List Int)) (.s .z) underlying74 infoG85 (by kernel_rfl) (by kernel_rfl) rfl rfl rfl rfl (fun _ hw=>Qaw (hw.ok (Upd.mem .z))) (by kernel_rfl) h14 (Qaj h14) rfl ?_
    intro p15 c16
    refine aa (qn (dz (wq [4,3,1] ?_)))
    refine bm ?_
    refine qr (am (aw xa (aa (nwq [4,3,1] ?_))))
    exact Qm (ih _ _ _ hF K p15 c16) ⟨rfl,rfl,rfl,trivial⟩
   refine cf h11 ?_
   refine Q1 ?_
   refine te (te ?_)
   refine Qal (H:=_) (.s .z) ?_
   obtain rfl:=os hF
   exact Qm (K p7 c8) ⟨rfl,trivial⟩
 skip
 intro p9 c10
 refine Qw ?_
 refine tn (sr (am (aa (nwq [2] ?_))))
 refine qt ?_
 have K:=os hF
 subst K
 exact r1 (fun w1 hw=>⟨p9,c10,rfl,hw.own .z,hw.below⟩)
def Qa6.l0(x1:Int)(i6:Int)(i7:Int):Option (Int) :=
 if (decide (i7>Int.tmod x1 8))=true then (Qa6.l0 x1 (wr .i64 (Int.tdiv i6 2)) (wr .i64 (i7-1))) else (some i6)
 partial_fixpoint
def Qa6(x0:List Int)(x1:Int):Option (Int) :=
 if (0:Int)≤wr .i64 (Int.tdiv x1 8)∧wr .i64 (Int.tdiv x1 8)<(x0.length:Int) then Qa6.l0 x1 (wr .i64 (lget x0 (wr .i64 (Int.tdiv x1 8)))) 7>>=fun q5=>some (Int.tmod q5 2) else none
theorem Qge(x0:List Int)(p0_:Option Addr)(c0_:Nat)(x1:Int)(r:Int)(hF:Qa6 x0 x1=some r)(w:World)(hr0:Row (cInt .u8) w p0_ c0_ x0) :
    Calls Tryz.prog 54 #[.slice p0_ x0.length c0_,.int .i64 x1] w (fun e w'=>e=.returned (.int .i64 r)∧w'=w):=by
 unfold Qa6 at hF
 refine ce (l:=[.slice p0_ x0.length c0_,.int .i64 x1]) func54 rfl rfl ?_
 refine sr (aa (ns (am (am ?_))))
 refine aw (Qew rfl rfl (by decide)) ?_
 obtain ⟨h1,hF⟩:=gd hF
 obtain ⟨b3,o4,hp2⟩:=QR hr0 h1
 refine aw (r_idx underlying74 sizeOf5 rfl rfl h1 hp2) ?_
 refine aw (Ql isAgg5 rfl (Qet (fun w1 (h:w1=w)=>by subst h;exact Below.refl _ _) hr0 h1 hp2 rfl)) ?_
 refine aw (QcY underlying5 underlying3 rfl) ?_
 refine aa (nt (qs (sr (aa (nwq [6,5,1] ?_)))))
 refine qb ?_
 obtain ⟨q5,hq5,hF⟩:=bM hF
 refine wq [6,5,1] ?_
 refine Q5 (B:=0) (A:=fun Y=>At 23 [(5,.int .i64 q5)] (fun w'=>w'=w) Y) ?_ ?_
 ·intro K
  refine Qa6.l0.partial_correctness x1 (motive:=fun i6 i7 x=>KN (fun Y=>At 23 [(5,.int .i64 x)] (fun w'=>w'=w) Y) _ 0→Round (fun Y=>At 23 [(1,.int .i64 x1),(5,.int .i64 i6),(6,.int .i64 i7)] (fun w'=>w'=w) Y) _ _ _) ?_ _ _ _ hq5 K
  ·clear K hF
   intro g ih i6 i7 x hF K
   refine QS ?_
   refine qs (sr (am (am ?_)))
   refine aw (r_irem rfl rfl (by decide)) ?_
   refine aw (QcK rfl rfl) ?_
   refine nwq [16,6,5,1] ?_
   obtain ⟨h8,hF⟩|⟨h8,hF⟩:=oi hF
   ·refine ct h8 ?_
    refine sn (qs ?_)
    refine qb ?_
    refine qr (am ?_)
    refine aw (Qew rfl rfl (by decide)) ?_
    refine aa (qn (wq [6,5,1] ?_))
    refine bm ?_
    refine qr (am ?_)
    refine aw (Qci rfl rfl) ?_
    refine aa (nwq [6,5,1] ?_)
    exact Qm (ih _ _ _ hF K) ⟨rfl,rfl,rfl,trivial⟩
   refine cf h8 ?_
   refine Q1 ?_
   refine te (te ?_)
   obtain rfl:=os hF
   exact Qm K ⟨rfl,trivial⟩
 skip
 skip
 refine Qw ?_
 refine tn (sr (am ?_))
 refine aw (r_irem rfl rfl (by decide)) ?_
 refine aa (nwq [4] ?_)
 refine qt ?_
 have K:=os hF
 subst K
 exact r1 (fun w1 hw=>⟨rfl,hw⟩)
def Qcz:Option (ByteArray) :=
 some (⟨#[65,66,67,68,69,70,71,72,73,74,75,76,77,78,79,80,81,82,83,84,85,86,87,88,89,90,97,98,99,100,101,102,103,104,105,106,107,108,109,110,111,112,113,114,115,116,117,118,119,120,121,122,48,49,50,51,52,53,54,55,56,57,43,47]⟩)
theorem Qfk(r:ByteArray)(hF:Qcz =some r)(w:World) :
    Calls Tryz.prog 55 #[] w (fun e w'=>e=.returned (.string r)∧w'=w):=by
 unfold Qcz at hF
 refine ce (l:=[]) func55 rfl rfl ?_
 refine at_weak [] trivial ?_
 refine sr (aa ?_)
 refine nws [] trivial ?_
 refine aa (nwq [0] ?_)
 refine qt ?_
 have K:=os hF
 subst K
 exact r1 (fun w1 hw=>⟨rfl,hw⟩)
def QH.l1(x0:List Int)(i3:Int)(i6:Int)(i7:Int):Option (Int) :=
 if (decide (i7<wr .i64 (i3+6)))=true then (if (decide (i7<wr .i64 (8*(x0.length:Int))))=true then (Qa6 x0 i7>>=fun t10=>QH.l1 x0 i3 (wr .i64 ((wr .i64 (2*i6))+t10)) (wr .i64 (i7+1))) else (QH.l1 x0 i3 (wr .i64 (2*i6)) (wr .i64 (i7+1)))) else (some i6)
 partial_fixpoint
def QH.l0(x0:List Int)(i2:ByteArray)(i3:Int):Option (ByteArray) :=
 if (decide (i3<wr .i64 (8*(x0.length:Int))))=true then (QH.l1 x0 i3 0 i3>>=fun q5=>Qcz>>=fun t11=>if (0:Int)≤q5∧q5≤wr .i64 (q5+1)∧wr .i64 (q5+1)≤(t11.size:Int) then if i2.size+(t11.extract (Int.toNat q5) (Int.toNat (wr .i64 (q5+1)))).size≤140737488355328 then QH.l0 x0 (i2++(t11.extract (Int.toNat q5) (Int.toNat (wr .i64 (q5+1))))) (wr .i64 (i3+6)) else none else none) else (some i2)
 partial_fixpoint
def QH.l2(i15:ByteArray):Option (ByteArray) :=
 if (Int.tmod (i15.size:Int) 4 != 0)=true then (if i15.size+(⟨#[61]⟩:ByteArray).size≤140737488355328 then QH.l2 (i15++(⟨#[61]⟩:ByteArray)) else none) else (some i15)
 partial_fixpoint
def QH(x0:List Int):Option (ByteArray) :=
 QH.l0 x0 (⟨#[]⟩) 0>>=fun q1=>QH.l2 q1>>=fun q14=>some q14
theorem QeZ(x0:List Int)(p0_:Option Addr)(c0_:Nat)(r:ByteArray)(hF:QH x0=some r)(w:World)(hr0:Row (cInt .u8) w p0_ c0_ x0) :
    Calls Tryz.prog 31 #[.slice p0_ x0.length c0_] w (fun e w'=>e=.returned (.string r)∧w'=w):=by
 unfold QH at hF
 refine ce (l:=[.slice p0_ x0.length c0_]) func31 rfl rfl ?_
 refine sr (aa (ns (aa (nt (qs (sr (aa (nwq [4,3,0] ?_))))))))
 refine qb ?_
 obtain ⟨q1,hq1,hF⟩:=bM hF
 refine wq [4,3,0] ?_
 refine Q5 (B:=0) (A:=fun Y=>At 47 [(3,.string q1)] (fun w'=>w'=w) Y) ?_ ?_
 ·intro K
  refine QH.l0.partial_correctness x0 (motive:=fun i2 i3 x=>KN (fun Y=>At 47 [(3,.string x)] (fun w'=>w'=w) Y) _ 0→Round (fun Y=>At 47 [(0,.slice p0_ x0.length c0_),(3,.string i2),(4,.int .i64 i3)] (fun w'=>w'=w) Y) _ _ _) ?_ _ _ _ hq1 K
  ·clear K hF
   intro g ih i2 i3 x hF K
   refine QS ?_
   refine qs (sr (am (am ?_)))
   refine aw (Q6 underlying74 rfl) ?_
   refine aw (Qfp rfl rfl) ?_
   refine aw xl (nwq [11,4,3,0] ?_)
   obtain ⟨h4,hF⟩|⟨h4,hF⟩:=oi hF
   ·refine ct h4 ?_
    refine sn (qs ?_)
    refine qb ?_
    refine sr (aa (nt (qs (sr (am (aa (nwq [6,5,4,3,0] ?_)))))))
    refine qb ?_
    obtain ⟨q5,hq5,hF⟩:=bM hF
    refine wq [6,5,4,3,0] ?_
    refine Q5 (B:=2) (A:=fun Y=>At 47 [(0,.slice p0_ x0.length c0_),(3,.string i2),(4,.int .i64 i3),(5,.int .i64 q5)] (fun w'=>w'=w) Y) ?_ ?_
    ·intro K
     refine QH.l1.partial_correctness x0 i3 (motive:=fun i6 i7 x=>KN (fun Y=>At 47 [(0,.slice p0_ x0.length c0_),(3,.string i2),(4,.int .i64 i3),(5,.int .i64 x)] (fun w'=>w'=w) Y) _ 2→Round (fun Y=>At 47 [(0,.slice p0_ x0.length c0_),(3,.string i2),(4,.int .i64 i3),(5,.int .i64 i6),(6,.int .i64 i7)] (fun w'=>w'=w) Y) _ _ _) ?_ _ _ _ hq5 K
     ·clear K hF
      intro g ih i6 i7 x hF K
      refine QS ?_
      refine qs (sr (am (am (aw xa (aw xl (nwq [18,6,5,4,3,0] ?_))))))
      obtain ⟨h8,hF⟩|⟨h8,hF⟩:=oi hF
      ·refine ct h8 ?_
       refine sn (qs ?_)
       refine qb ?_
       refine sr (am ?_)
       refine aw (Qfp rfl rfl) ?_
       refine aa (ns (am (am ?_)))
       refine aw (Q6 underlying74 rfl) ?_
       refine aw (Qfp rfl rfl) ?_
       refine aw xl (nwq [27,6,5,4,3,0] ?_)
       obtain ⟨h9,hF⟩|⟨h9,hF⟩:=oi hF
       ·refine ct h9 ?_
        refine qr (am (am (am ?_)))
        obtain ⟨t10,ht10,hF⟩:=bM hF
        refine at_call0w func54 rfl (by kernel_rfl) rfl rfl (fun w hw=>Qge _ _ _ _ _ ht10 w (hr0.below (by subst hw;exact Below.refl _ _))) ?_
        refine aw xa (aa (qn (wq [6,5,4,3,0] ?_)))
        refine bm ?_
        refine qr (am (aw xa (aa (nwq [6,5,4,3,0] ?_))))
        exact Qm (ih _ _ _ hF K) ⟨rfl,rfl,rfl,rfl,rfl,trivial⟩
       refine cf h9 ?_
       refine Qaz ?_
       refine bm ?_
       refine qr (am (aw xa (aa (nwq [6,5,4,3,0] ?_))))
       exact Qm (ih _ _ _ hF K) ⟨rfl,rfl,rfl,rfl,rfl,trivial⟩
      refine cf h8 ?_
      refine Q1 ?_
      refine te (te ?_)
      obtain rfl:=os hF
      exact Qm K ⟨rfl,rfl,rfl,rfl,trivial⟩
    skip
    skip
    refine Qw ?_
    refine tn (qr (am ?_))
    obtain ⟨t11,ht11,hF⟩:=bM hF
    refine Qdj func55 rfl (by kernel_rfl) rfl rfl (fun w=>Qfk  _ ht11 w) ?_
    refine am (am (aw xa ?_))
    obtain ⟨h12,hF⟩:=gd hF
    refine aw (r_slice_str underlying9 rfl ⟨_,rfl⟩ ⟨_,rfl⟩ h12) ?_
    obtain ⟨h13,hF⟩:=gd hF
    refine aw (Qbm rfl rfl h13) ?_
    refine aa (qn (wq [4,3,0] ?_))
    refine bm ?_
    refine qr (am (aw xa (aa (nwq [4,3,0] ?_))))
    exact Qm (ih _ _ _ hF K) ⟨rfl,rfl,rfl,trivial⟩
   refine cf h4 ?_
   refine Q1 ?_
   refine te (te ?_)
   obtain rfl:=os hF
   exact Qm K ⟨rfl,trivial⟩
 skip
 skip
 refine Qw ?_
 refine tn (qs ?_)
 refine qb ?_
 obtain ⟨q14,hq14,hF⟩:=bM hF
 refine wq [3] ?_
 refine Q5 (B:=4) (A:=fun Y=>At 47 [(3,.string q14)] (fun w'=>w'=w) Y) ?_ ?_
 ·intro K
  refine QH.l2.partial_correctness  (motive:=fun i15 x=>KN (fun Y=>At 47 [(3,.string x)] (fun w'=>w'=w) Y) _ 4→Round (fun Y=>At 47 [(3,.string i15)] (fun w'=>w'=w) Y) _ _ _) ?_ _ _ hq14 K
  ·clear K hF
   intro g ih i15 x hF K
   refine QS ?_
   refine qs (sr (am ?_))
   refine aw (r_len_str underlying9 rfl) ?_
   refine aw (r_irem rfl rfl (by decide)) ?_
   refine aw xn (nwq [43,3] ?_)
   obtain ⟨h16,hF⟩|⟨h16,hF⟩:=oi hF
   ·refine ct h16 ?_
    refine sn ?_
    refine qb ?_
    refine qr (am ?_)
    obtain ⟨h17,hF⟩:=gd hF
    refine aw (Qbm rfl rfl h17) ?_
    refine aa (qn (wq [3] ?_))
    refine bm ?_
    exact Qm (ih _ _ hF K) ⟨rfl,trivial⟩
   refine cf h16 ?_
   refine Q1 ?_
   refine te (te ?_)
   obtain rfl:=os hF
   exact Qm K ⟨rfl,trivial⟩
 skip
 skip
 refine Qw ?_
 refine tn (sr (am (aa (nwq [2] ?_))))
 refine qt ?_
 have K:=os hF
 subst K
 exact r1 (fun w1 hw=>⟨rfl,hw⟩)
def Q3.l1(i7:List Int)(i9:ByteArray)(i17:Int)(i18:Int):Option (Int×ByteArray) :=
 if (decide (i18<3))=true then (if (decide (i18<(if 3<(i7.length:Int) then 3 else (i7.length:Int))))=true then (if (0:Int)≤i18∧i18<(i7.length:Int) then Q3.l1 i7 i9 (ior .u32 (ishl .u32 i17 8) (wr .u32 (lget i7 i18))) (wr .i64 (i18+1)) else none) else (Q3.l1 i7 i9 (ishl .u32 i17 8) (wr .i64 (i18+1)))) else (some (i17,i9))
 partial_fixpoint
def Q3.l2(i7:List Int)(q16:Int×ByteArray)(i28:Int)(i29:ByteArray):Option (ByteArray) :=
 if (decide (i28<wr .i64 ((if 3<(i7.length:Int) then 3 else (i7.length:Int))+1)))=true then (if (0:Int)≤wr .u64 (wr .i64 (18-(wr .i64 (6*i28)))) then if (0:Int)≤iand .u32 (ishr .u32 q16.1 (wr .u64 (wr .i64 (18-(wr .i64 (6*i28)))))) 63∧iand .u32 (ishr .u32 q16.1 (wr .u64 (wr .i64 (18-(wr .i64 (6*i28)))))) 63<((⟨#[65,66,67,68,69,70,71,72,73,74,75,76,77,78,79,80,81,82,83,84,85,86,87,88,89,90,97,98,99,100,101,102,103,104,105,106,107,108,109,110,111,112,113,114,115,116,117,118,119,120,121,122,48,49,50,51,52,53,54,55,56,57,43,47]⟩:ByteArray).size:Int) then if (0:Int)≤bt (⟨#[65,66,67,68,69,70,71,72,73,74,75,76,77,78,79,80,81,82,83,84,85,86,87,88,89,90,97,98,99,100,101,102,103,104,105,106,107,108,109,110,111,112,113,114,115,116,117,118,119,120,121,122,48,49,50,51,52,53,54,55,56,57,43,47]⟩:ByteArray) (iand .u32 (ishr .u32 q16.1 (wr .u64 (wr .i64 (18-(wr .i64 (6*i28)))))) 63)∧bt (⟨#[65,66,67,68,69,70,71,72,73,74,75,76,77,78,79,80,81,82,83,84,85,86,87,88,89,90,97,98,99,100,101,102,103,104,105,106,107,108,109,110,111,112,113,114,115,116,117,118,119,120,121,122,48,49,50,51,52,53,54,55,56,57,43,47]⟩:ByteArray) (iand .u32 (ishr .u32 q16.1 (wr .u64 (wr .i64 (18-(wr .i64 (6*i28)))))) 63)<256 then if i29.size+1≤140737488355328 then Q3.l2 i7 q16 (wr .i64 (i28+1)) (i29.push (UInt8.ofNat (Int.toNat (bt (⟨#[65,66,67,68,69,70,71,72,73,74,75,76,77,78,79,80,81,82,83,84,85,86,87,88,89,90,97,98,99,100,101,102,103,104,105,106,107,108,109,110,111,112,113,114,115,116,117,118,119,120,121,122,48,49,50,51,52,53,54,55,56,57,43,47]⟩:ByteArray) (iand .u32 (ishr .u32 q16.1 (wr .u64 (wr .i64 (18-(wr .i64 (6*i28)))))) 63))))) else none else none else none else none) else (some i29)
 partial_fixpoint
def Q3.l0(i7:List Int)(i9:ByteArray):Option (ByteArray) :=
 if (decide ((i7.length:Int)>0))=true then (Q3.l1 i7 i9 0 0>>=fun q16=>Q3.l2 i7 q16 0 q16.2>>=fun q27=>if (0:Int)≤wr .i64 (3-(if 3<(i7.length:Int) then 3 else (i7.length:Int)))∧wr .i64 (3-(if 3<(i7.length:Int) then 3 else (i7.length:Int)))≤9223372036854775807∧((⟨#[61]⟩:ByteArray).size:Int)*(wr .i64 (3-(if 3<(i7.length:Int) then 3 else (i7.length:Int))))≤140737488355328 then if q27.size+(brep (⟨#[61]⟩:ByteArray) (wr .i64 (3-(if 3<(i7.length:Int) then 3 else (i7.length:Int))))).size≤140737488355328 then if (0:Int)≤(if 3<(i7.length:Int) then 3 else (i7.length:Int))∧(if 3<(i7.length:Int) then 3 else (i7.length:Int))≤(i7.length:Int)∧(i7.length:Int)≤(i7.length:Int) then Q3.l0 (lsub i7 (if 3<(i7.length:Int) then 3 else (i7.length:Int)) (i7.length:Int)) (q27++(brep (⟨#[61]⟩:ByteArray) (wr .i64 (3-(if 3<(i7.length:Int) then 3 else (i7.length:Int)))))) else none else none else none) else (some i9)
 partial_fixpoint
def Q3(x0:List Int):Option (ByteArray) :=
 Q3.l0 x0 ByteArray.empty>>=fun q6=>some q6
theorem Qgq(x0:List Int)(p0_:Option Addr)(c0_:Nat)(r:ByteArray)(hF:Q3 x0=some r)(w:World)(hr0:Row (cInt .u8) w p0_ c0_ x0) :
    Calls Tryz.prog 60 #[.slice p0_ x0.length c0_] w (fun e w'=>e=.returned (.string r)∧Below w.heap.size w w'):=by
 unfold Q3 at hF
 refine ce (l:=[.slice p0_ x0.length c0_]) func60 rfl rfl ?_
 refine QN ?_
 refine sr (aa (ns ?_))
 refine at_alloc_bld (e:=5) zeroValue97 rfl ?_
 intro b1
 refine nwq [3,0] ?_
 refine qs ?_
 refine qb ?_
 obtain ⟨q6,hq6,hF⟩:=bM hF
 refine wq [3,0] ?_
 refine Q5 (B:=0) (A:=fun Y=>∀ (g14:Option Nat),At 53 [(3,.pointer (some ⟨b1,0,none⟩))] (Wd w [bldE 97 5 b1 g14 q6]) Y) ?_ ?_
 ·intro K
  refine Q3.l0.partial_correctness  (motive:=fun i7 i9 x=>KN (fun Y=>∀ (g14:Option Nat),At 53 [(3,.pointer (some ⟨b1,0,none⟩))] (Wd w [bldE 97 5 b1 g14 x]) Y) _ 0→Round (fun Y=>∀ (p10:Option Addr) (c11:Nat) (hr12:Row (cInt .u8) w p10 c11 i7) (g13:Option Nat),At 53 [(0,.slice p10 i7.length c11),(3,.pointer (some ⟨b1,0,none⟩))] (Wd w [bldE 97 5 b1 g13 i9]) Y) _ _ _) ?_ _ _ _ hq6 K p0_ c0_ hr0 none
  ·clear K hF
   intro g ih i7 i9 x hF K p10 c11 hr12 g13
   refine QS ?_
   refine qs (sr (am ?_))
   refine aw (Q6 underlying74 rfl) ?_
   refine aw (QcK rfl rfl) ?_
   refine nwq [10,3,0] ?_
   obtain ⟨h15,hF⟩|⟨h15,hF⟩:=oi hF
   ·refine ct h15 ?_
    refine sn ?_
    refine qb ?_
    refine sr (am ?_)
    refine aw (Q6 underlying74 rfl) ?_
    refine aw (r_min rfl rfl) ?_
    refine aa (ns (aa (nt (qs (sr (am (nwq [14,5,4,3,0] ?_)))))))
    refine qb ?_
    obtain ⟨q16,hq16,hF⟩:=bM hF
    refine wq [14,5,4,3,0] ?_
    refine Q5 (B:=2) (A:=fun Y=>∀ (g19:Option Nat),At 53 [(0,.slice p10 i7.length c11),(3,.pointer (some ⟨b1,0,none⟩)),(4,.int .i64 (if 3<(i7.length:Int) then 3 else (i7.length:Int))),(5,.int .u32 q16.1)] (Wd w [bldE 97 5 b1 g19 q16.2]) Y) ?_ ?_
    ·intro K
     refine Q3.l1.partial_correctness i7 i9 (motive:=fun i17 i18 x=>KN (fun Y=>∀ (g19:Option Nat),At 53 [(0,.slice p10 i7.length c11),(3,.pointer (some ⟨b1,0,none⟩)),(4,.int .i64 (if 3<(i7.length:Int) then 3 else (i7.length:Int))),(5,.int .u32 x.1)] (Wd w [bldE 97 5 b1 g19 x.2]) Y) _ 2→Round (fun Y=>At 53 [(0,.slice p10 i7.length c11),(3,.pointer (some ⟨b1,0,none⟩)),(4,.int .i64 (if 3<(i7.length:Int) then 3 else (i7.length:Int))),(5,.int .u32 i17),(14,.int .i64 i18)] (Wd w [bldE 97 5 b1 g13 i9]) Y) _ _ _) ?_ _ _ _ hq16 K
     ·clear K hF
      intro g ih i17 i18 x hF K
      refine QS ?_
      refine sr (aw xl (nwq [15,14,5,4,3,0] ?_))
      refine qs ?_
      obtain ⟨h20,hF⟩|⟨h20,hF⟩:=oi hF
      ·refine ct h20 ?_
       refine sn (qs ?_)
       refine qb ?_
       refine sr (am (aa (ns (am ?_))))
       refine aw (r_ishl rfl rfl (by decide)) ?_
       refine aa (ns (am (am (aw xl (nwq [21,14,6,5,4,3,0] ?_)))))
       obtain ⟨h21,hF⟩|⟨h21,hF⟩:=oi hF
       ·refine ct h21 ?_
        refine qr (am (am (am ?_)))
        obtain ⟨h22,hF⟩:=gd hF
        obtain ⟨b24,o25,hp23⟩:=QR hr12 h22
        refine aw (r_idx underlying74 sizeOf5 rfl rfl h22 hp23) ?_
        refine aw (Ql isAgg5 rfl (Qet (fun _ h=>h.below) hr12 h22 hp23 rfl)) ?_
        refine aw (QcY underlying5 underlying24 rfl) ?_
        refine aw (r_ior rfl rfl) ?_
        refine aa (qn (wq [14,5,4,3,0] ?_))
        refine bm ?_
        refine qr (aw xa (am (nwq [14,5,4,3,0] ?_)))
        exact Qm (ih _ _ _ hF K) ⟨rfl,rfl,rfl,rfl,rfl,trivial⟩
       refine cf h21 ?_
       refine Qaz ?_
       refine bm ?_
       refine qr (aw xa (am (nwq [14,5,4,3,0] ?_)))
       exact Qm (ih _ _ _ hF K) ⟨rfl,rfl,rfl,rfl,rfl,trivial⟩
      refine cf h20 ?_
      refine Q1 ?_
      refine te (te ?_)
      obtain rfl:=os hF
      exact Qm (K g13) ⟨rfl,rfl,rfl,rfl,trivial⟩
    skip
    intro g19
    refine Qw ?_
    refine tn (qs (sr (am (aw xa (am (nwq [32,31,5,4,3,0] ?_))))))
    refine qb ?_
    obtain ⟨q27,hq27,hF⟩:=bM hF
    refine wq [32,31,5,4,3,0] ?_
    refine Q5 (B:=4) (A:=fun Y=>∀ (g31:Option Nat),At 53 [(0,.slice p10 i7.length c11),(3,.pointer (some ⟨b1,0,none⟩)),(4,.int .i64 (if 3<(i7.length:Int) then 3 else (i7.length:Int)))] (Wd w [bldE 97 5 b1 g31 q27]) Y) ?_ ?_
    ·intro K
     refine Q3.l2.partial_correctness i7 q16 (motive:=fun i28 i29 x=>KN (fun Y=>∀ (g31:Option Nat),At 53 [(0,.slice p10 i7.length c11),(3,.pointer (some ⟨b1,0,none⟩)),(4,.int .i64 (if 3<(i7.length:Int) then 3 else (i7.length:Int)))] (Wd w [bldE 97 5 b1 g31 x]) Y) _ 4→Round (fun Y=>∀ (g30:Option Nat),At 53 [(0,.slice p10 i7.length c11),(3,.pointer (some ⟨b1,0,none⟩)),(4,.int .i64 (if 3<(i7.length:Int) then 3 else (i7.length:Int))),(5,.int .u32 q16.1),(31,.int .i64 (wr .i64 ((if 3<(i7.length:Int) then 3 else (i7.length:Int))+1))),(32,.int .i64 i28)] (Wd w [bldE 97 5 b1 g30 i29]) Y) _ _ _) ?_ _ _ _ hq27 K g19
     ·clear K hF
      intro g ih i28 i29 x hF K g30
      refine QS ?_
      refine sr (aw xl (nwq [33,32,31,5,4,3,0] ?_))
      refine qs ?_
      obtain ⟨h32,hF⟩|⟨h32,hF⟩:=oi hF
      ·refine ct h32 ?_
       refine sn (qs ?_)
       refine qb ?_
       refine sr (am (aa (nwq [32,31,7,5,4,3,0] ?_)))
       refine qr (am (am ?_))
       refine aw (Qfp rfl rfl) ?_
       refine aw (Qci rfl rfl) ?_
       refine aw (QcY underlying3 underlying119 rfl) ?_
       obtain ⟨h33,hF⟩:=gd hF
       refine aw (r_ishr rfl rfl h33) ?_
       refine aw (r_iand rfl rfl) ?_
       obtain ⟨h34,hF⟩:=gd hF
       refine aw (r_index_str underlying9 rfl rfl h34) ?_
       obtain ⟨h36,hF⟩:=gd hF
       obtain ⟨h37,hF⟩:=gd hF
       refine at_bld_byte (c:=bt (⟨#[65,66,67,68,69,70,71,72,73,74,75,76,77,78,79,80,81,82,83,84,85,86,87,88,89,90,97,98,99,100,101,102,103,104,105,106,107,108,109,110,111,112,113,114,115,116,117,118,119,120,121,122,48,49,50,51,52,53,54,55,56,57,43,47]⟩:ByteArray) (iand .u32 (ishr .u32 q16.1 (wr .u64 (wr .i64 (18-(wr .i64 (6*i28)))))) 63)) .z trivial func84 rfl (by kernel_rfl) rfl rfl h36 h37 Tryz.Builder_WriteByte_k ?_
       intro g35
       refine qn (wq [32,31,5,4,3,0] ?_)
       refine bm ?_
       refine qr (aw xa (am (nwq [32,31,5,4,3,0] ?_)))
       exact Qm (ih _ _ _ hF K g35) ⟨rfl,rfl,rfl,rfl,rfl,rfl,trivial⟩
      refine cf h32 ?_
      refine Q1 ?_
      refine te (te ?_)
      obtain rfl:=os hF
      exact Qm (K g30) ⟨rfl,rfl,rfl,trivial⟩
    skip
    intro g31
    refine Qw ?_
    refine tn (sr (am ?_))
    refine aw (Qci rfl rfl) ?_
    obtain ⟨h38,hF⟩:=gd hF
    refine cB func85 rfl (fun w1 hw=>rep_lift Tryz.strings_Repeat _ _ w1 h38) ?_
    obtain ⟨h40,hF⟩:=gd hF
    refine at_bld_str (s:=(brep (⟨#[61]⟩:ByteArray) (wr .i64 (3-(if 3<(i7.length:Int) then 3 else (i7.length:Int)))))) .z trivial func58 rfl (by kernel_rfl) rfl rfl h40 Tryz.Builder_WriteString_k ?_
    intro g39
    refine nt (qr (am (am ?_)))
    obtain ⟨h41,hF⟩:=gd hF
    refine aw (Qev (c:=(cInt .u8)) underlying74 sizeOf5 rfl (Row.len hr12) ⟨_,rfl⟩ rfl h41) ?_
    refine aa (qn (wq [3,0] ?_))
    refine bm ?_
    exact Qm (ih _ _ _ hF K (rsp p10 c11 (if 3<(i7.length:Int) then 3 else (i7.length:Int)) (Cd.sz (cInt .u8))) (c11-Int.toNat (if 3<(i7.length:Int) then 3 else (i7.length:Int))) (Row.sub hr12 h41) g39) ⟨rfl,rfl,trivial⟩
   refine cf h15 ?_
   refine Q1 ?_
   refine te (te ?_)
   obtain rfl:=os hF
   exact Qm (K g13) ⟨rfl,trivial⟩
 skip
 intro g14
 refine Qw ?_
 refine tn (sr ?_)
 refine at_bld_string .z trivial func59 rfl (by kernel_rfl) rfl rfl Tryz.Builder_String_any_k ?_
 intro g42
 refine aa (qn (dz (wq [2] ?_)))
 refine tn (qt ?_)
 have K:=os hF
 subst K
 exact r1 wb
def Qfu(x0:(Vector Int 32)):Option (ByteArray) :=
 Q3 (Vector.toList x0)>>=fun t2=>some t2
theorem keys_Text_ok(x0:(Vector Int 32))(r:ByteArray)(hF:Qfu x0=some r)(w:World) :
    Calls Tryz.prog 35 #[.agg (Cd.cs (cVec (cInt .u8) 32 (by decide)) x0).toArray] w (fun e w'=>e=.returned (.string r)∧Below w.heap.size w w'):=by
 unfold Qfu at hF
 refine ce (l:=[.agg (Cd.cs (cVec (cInt .u8) 32 (by decide)) x0).toArray]) func35 rfl rfl ?_
 refine QN ?_
 refine sr ?_
 refine Qag (cs:=Cd.cs (cVec (cInt .u8) 32 (by decide)) x0) rfl rfl rfl ?_
 intro b1
 refine aa (ns ?_)
 refine aw (QeN x0 underlying23 sizeOf5 rfl) ?_
 obtain ⟨t2,ht2,hF⟩:=bM hF
 refine cB func60 rfl (fun w hw=>Qgq _ _ _ _ ht2 w (vec_row (hw.ok (Upd.mem .z)))) ?_
 refine aa (qn (dz (wq [2] ?_)))
 refine tn (qt ?_)
 have K:=os hF
 subst K
 exact r1 wb
end Go.Proofs.YtahlbjmafceoeaaGreatDoor
namespace Go.Proofs.YtahlbjmafceoeaaGreatDoor
open E
def dig(c:UInt8):Bool:=decide (48≤c.toNat)&&decide (c.toNat≤57)
theorem Qcr{n:Nat}(h:n<10):Lib.decDigits n=[UInt8.ofNat (48+n)]:=Lib.decDigits_one h
theorem QdX{n:Nat}(h:¬ n<10):Lib.decDigits n=Lib.decDigits (n/10)++[UInt8.ofNat (48+n%10)]:=by
 rw [Lib.decDigits,dif_neg h]
end Go.Proofs.YtahlbjmafceoeaaGreatDoor
namespace Go.Proofs.YtahlbjmafceoeaaGreatDoor
open E
theorem Qd5(s:ByteArray):s.data.toList.length=s.size:=by
 show s.data.toList.length=s.data.size
 simp
theorem mk_inj{a b:ByteArray}(h:a.data.toList=b.data.toList):a=b:=by
 cases a with | mk a=>cases b with | mk b =>
 simp at h;subst h;rfl
theorem Qdg(n:Nat):(fmtU (n:Int)).data.toList=Lib.decDigits n:=by simp [fmtU]
theorem QdW(n:Nat)(h:n<18446744073709551616):(Lib.decDigits n).length≤20:=by
 have key:∀ (k n:Nat),n<10 ^ (k+1)→(Lib.decDigits n).length≤k+1:=by
  intro k
  induction k with
  | zero=>intro n h;rw [Qcr (by omega)];simp
  | succ k ih =>
   intro n h
   by_cases h1:n<10
   ·rw [Qcr h1];simp
   ·rw [QdX h1,List.length_append]
    have:=ih (n/10) (by rw [Nat.pow_succ] at h;omega)
    simp;omega
 exact key 19 n (by omega)
theorem fmtU_size(n:Nat)(h:n<18446744073709551616):(fmtU (n:Int)).size≤20:=by
 rw [←Qd5,Qdg];exact QdW n h
theorem Qe7(a b:ByteArray):(a++b).data.toList=a.data.toList++b.data.toList:=by simp [ByteArray.data_append]
theorem text_ref(n:Nat)(h:n<18446744073709551616):Qbj (n:Int)=some (fmtU n):=by
 induction n using Nat.strongRecOn with
 | _ n ih =>
  have hd:wr .u8 (wr .u64 (48+Int.tmod (n:Int) 10))=((48+n%10:Nat):Int):=by
   have e1:Int.tmod (n:Int) 10=((n%10:Nat):Int):=by rw [Int.tmod_eq_emod_of_nonneg (by omega)];omega
   rw [e1,Qeg (by omega) (by omega),wr_u8 (by omega) (by omega)];omega
  have hl:((⟨(unb ([wr .u8 (wr .u64 (48+(Int.tmod (n:Int) 10)))])).toArray⟩:ByteArray)).data.toList=[UInt8.ofNat (48+n%10)]:=by
   rw [hd];rfl
  rw [Qbj.eq_def]
  by_cases h1:n<10
  ·rw [if_pos (decide_eq_true (by omega))]
   congr 1
   apply mk_inj
   rw [hl,Qdg,Qcr h1]
   rw [Nat.mod_eq_of_lt h1]
  ·rw [if_neg (by rw [decide_eq_true_eq];omega)]
   have e2:wr .u64 (Int.tdiv (n:Int) 10)=((n/10:Nat):Int):=by
    have:Int.tdiv (n:Int) 10=((n/10:Nat):Int):=by rw [Int.tdiv_eq_ediv_of_nonneg (by omega)];omega
    rw [this,Qeg (by omega) (by omega)]
   rw [e2,ih (n/10) (by omega) (by omega),Qf]
   have hsz:=fmtU_size (n/10) (by omega)
   rw [if_pos]
   ·congr 1
    apply mk_inj
    rw [Qe7,hl,Qdg,Qdg,QdX h1]
   ·have:((⟨(unb ([wr .u8 (wr .u64 (48+(Int.tmod (n:Int) 10)))])).toArray⟩:ByteArray)).size=1:=by rw [←Qd5,hl];rfl
    rw [this];omega
theorem text_code(n:Nat)(h:n<18446744073709551616):QcN (n:Int)=some (fmtU n):=by
 unfold QcN
 rw [if_pos (by omega)]
end Go.Proofs.YtahlbjmafceoeaaGreatDoor
namespace Go.Proofs.YtahlbjmafceoeaaGreatDoor
open E Go.RowKit
def bs(l:List UInt8):ByteArray:=⟨l.toArray⟩
theorem Qea(l:List UInt8):(bs l).data.toList=l:=by simp [bs]
theorem Qb3(l:List UInt8):(bs l).size=l.length:=by
 show (bs l).data.size=_
 simp [bs]
theorem eq_bs(s:ByteArray):s=bs s.data.toList:=by apply mk_inj;rw [Qea]
end Go.Proofs.YtahlbjmafceoeaaGreatDoor
namespace Go.Proofs.YtahlbjmafceoeaaGreatDoor
open E Go.RowKit
theorem set_step{α:Type}(A l:List α)(i:Nat)(x:α)(hA:A.length=l.length)(hx:A[i]? = some x):(A.take i++l.drop i).set i x=A.take (i+1)++l.drop (i+1):=by
 have hi:i<A.length:=(List.getElem?_eq_some_iff.1 hx).1
 apply List.ext_getElem?
 intro j
 have h1:(A.take i).length=i:=by simp;omega
 have h2:(A.take (i+1)).length=i+1:=by simp;omega
 rw [List.getElem?_set]
 by_cases hj:i=j
 ·subst hj
  have hl:i<(A.take i++l.drop i).length:=by simp;omega
  rw [if_pos rfl,if_pos hl,List.getElem?_append_left (by omega),List.getElem?_take,if_pos (by omega),hx]
 ·rw [if_neg hj]
  by_cases hlt:j<i
  ·rw [List.getElem?_append_left (by omega),List.getElem?_append_left (by omega),List.getElem?_take,List.getElem?_take,if_pos hlt,if_pos (by omega)]
  ·rw [List.getElem?_append_right (by omega),List.getElem?_append_right (by omega),List.getElem?_drop,List.getElem?_drop,h1,h2]
   congr 1;omega
theorem q_size(n:Nat)(h:n<256):(fmtU (n:Int)).size≤3:=by
 have key:∀ n:Nat,n<256→(Lib.decDigits n).length≤3:=by
  intro n hn
  by_cases h1:n<10
  ·rw [Qcr h1];simp
  ·rw [QdX h1,List.length_append]
   by_cases h2:n/10<10
   ·rw [Qcr h2];simp
   ·rw [QdX h2,Qcr (by omega),List.length_append];simp
 have:=key n h
 rw [←Qd5,Qdg]
 omega
def qT(m:List UInt8):List ByteArray:=m.map fun b=>fmtU (b.toNat:Int)
def v4(m:List UInt8):Vector Int 4:=lvec 4 (ob m)
theorem v4_toList{m:List UInt8}(hm:m.length=4):(v4 m).toList=ob m:=by
 unfold v4
 rw [QcL 4 _ (by rw [Qbh];omega),List.take_of_length_le (by rw [Qbh];omega)]
theorem v4_of{v:Vector Int 4}{m:List UInt8}(h:v.toList=ob m):v=v4 m:=by
 have hl:m.length=4:=by have:=congrArg List.length h;rw [Qbh] at this;simpa using this.symm
 apply Vector.toList_inj.1
 rw [v4_toList hl,h]
theorem vget_v4{m:List UInt8}(hm:m.length=4)(i:Nat)(c:UInt8)(hc:m[i]? = some c):vget (v4 m) (i:Int)=(c.toNat:Int):=by
 unfold vget
 rw [v4_toList hm,Int.toNat_natCast,List.getD_eq_getElem?_getD]
 unfold ob
 rw [List.getElem?_map,hc];rfl
def vs4(xs:List ByteArray):Vector ByteArray 4:=lvec 4 xs
theorem QfR{xs:List ByteArray}(h:xs.length=4):(vs4 xs).toList=xs:=by
 unfold vs4
 rw [QcL 4 _ (by omega),List.take_of_length_le (by omega)]
theorem vset_vs4{xs:List ByteArray}(h:xs.length=4)(i:Nat)(t:ByteArray):vset (vs4 xs) (i:Int) t=vs4 (xs.set i t):=by
 apply Vector.toList_inj.1
 rw [Qdq,QfR h,QfR (by simpa using h),Int.toNat_natCast]
theorem quad_loop{m:List UInt8}(hm:m.length=4):∀ (k i:Nat),i+k=4 →
  Qcq.l0 (v4 m) (i:Int) (vs4 ((qT m).take i++(List.replicate 4 (⟨#[]⟩:ByteArray)).drop i))=some (vs4 (qT m)):=by
 have hql:(qT m).length=4:=by simp [qT,hm]
 intro k
 induction k with
 | zero =>
  intro i hi
  have hz:decide ((i:Int)<4)=false:=decide_eq_false (by omega)
  rw [Qcq.l0.eq_def,hz,if_neg Bool.false_ne_true,List.drop_eq_nil_of_le (by simp;omega),List.append_nil,List.take_of_length_le (by omega)]
 | succ k ih =>
  intro i hi
  have hz:decide ((i:Int)<4)=true:=decide_eq_true (by omega)
  have hc:m[i]? = some m[i]:=List.getElem?_eq_getElem (by omega)
  generalize m[i]=c at hc
  have hcl:=c.toNat_lt
  have hg:(0:Int)≤(i:Int)∧(i:Int)<4:=by omega
  have hA:((qT m).take i++(List.replicate 4 (⟨#[]⟩:ByteArray)).drop i).length=4:=by simp;omega
  have hstep:=set_step (qT m) (List.replicate 4 (⟨#[]⟩:ByteArray)) i (fmtU (c.toNat:Int)) (by simp;omega) (by unfold qT;rw [List.getElem?_map,hc];rfl)
  rw [Qcq.l0.eq_def,hz,if_pos rfl,if_pos hg,vget_v4 hm i c hc,Qeg (by omega) (by omega),text_code _ (by omega),Qf,if_pos hg,vset_vs4 hA,hstep,Qam (by omega) (by omega),show ((i:Int)+1)=((i+1:Nat):Int) by omega]
  exact ih (i+1) (by omega)
def qText(m:List UInt8):List UInt8:=match m with
 | [a,b,c,d]=>Lib.decDigits a.toNat++46::(Lib.decDigits b.toNat++46::(Lib.decDigits c.toNat++46::Lib.decDigits d.toNat))
 | _=>[]
theorem digits3(n:Nat)(h:n<256):(Lib.decDigits n).length≤3:=by
 have:=q_size n h
 rw [←Qd5,Qdg] at this
 exact this
theorem qText_len{m:List UInt8}(hm:m.length=4):(qText m).length≤15:=by
 match m,hm with
 | [a,b,c,d],_ =>
  have h1:=digits3 a.toNat a.toNat_lt
  have h2:=digits3 b.toNat b.toNat_lt
  have h3:=digits3 c.toNat c.toNat_lt
  have h4:=digits3 d.toNat d.toNat_lt
  simp only [qText,List.length_append,List.length_cons]
  omega
theorem bjoin_qT{m:List UInt8}(hm:m.length=4):bjoin (qT m) ⟨#[46]⟩=bs (qText m):=by
 match m,hm with
 | [a,b,c,d],_ =>
  apply mk_inj
  rw [Qea]
  show (bjoin [fmtU (a.toNat:Int),fmtU (b.toNat:Int),fmtU (c.toNat:Int),fmtU (d.toNat:Int)] ⟨#[46]⟩).data.toList=_
  unfold bjoin Lib.join
  simp only [List.map_cons,List.map_nil,Qdg]
  simp [List.intercalate,List.intersperse,qText]
theorem quad_text{m:List UInt8}(hm:m.length=4):Qcq (v4 m)=some (bs (qText m)):=by
 have hql:(qT m).length=4:=by simp [qT,hm]
 unfold Qcq
 have h:=quad_loop hm 4 0 rfl
 rw [List.take_zero,List.nil_append,List.drop_zero,show ((0:Nat):Int)=0 from rfl] at h
 have hz:(Vector.replicate 4 (⟨#[]⟩:ByteArray):Vector ByteArray 4)=vs4 (List.replicate 4 (⟨#[]⟩:ByteArray)):=by
  apply Vector.toList_inj.1;rw [QfR (by simp)];rfl
 have hsz:=qText_len hm
 rw [hz,h,Qf,QfR hql,if_pos (by omega),bjoin_qT hm,if_pos (by rw [Qb3];omega)]
theorem refQuad_loop{m:List UInt8}(hm:m.length=4):QaI (v4 m)=some (bs (qText m)):=by
 match m,hm with
 | [a,b,c,d],hm =>
  have ha:=a.toNat_lt
  have hb:=b.toNat_lt
  have hc:=c.toNat_lt
  have hd:=d.toNat_lt
  have g0:vget (v4 [a,b,c,d]) 0=(a.toNat:Int):=vget_v4 hm 0 a rfl
  have g1:vget (v4 [a,b,c,d]) 1=(b.toNat:Int):=vget_v4 hm 1 b rfl
  have g2:vget (v4 [a,b,c,d]) 2=(c.toNat:Int):=vget_v4 hm 2 c rfl
  have g3:vget (v4 [a,b,c,d]) 3=(d.toNat:Int):=vget_v4 hm 3 d rfl
  have s0:=q_size a.toNat ha
  have s1:=q_size b.toNat hb
  have s2:=q_size c.toNat hc
  have s3:=q_size d.toNat hd
  have hdot:(⟨#[46]⟩:ByteArray).size=1:=rfl
  have w1:wr .i64 ((1:Int)+1)=2:=by rw [Qam (by omega) (by omega)];rfl
  have w2:wr .i64 ((2:Int)+1)=3:=by rw [Qam (by omega) (by omega)];rfl
  have w3:wr .i64 ((3:Int)+1)=4:=by rw [Qam (by omega) (by omega)];rfl
  have d1:decide ((1:Int)<4)=true:=rfl
  have d2:decide ((2:Int)<4)=true:=rfl
  have d3:decide ((3:Int)<4)=true:=rfl
  have d4:decide ((4:Int)<4)=false:=rfl
  have i1:(0:Int)≤1∧(1:Int)<4:=by omega
  have i2:(0:Int)≤2∧(2:Int)<4:=by omega
  have i3:(0:Int)≤3∧(3:Int)<4:=by omega
  unfold QaI
  rw [g0,Qeg (by omega) (by omega),text_ref _ (by omega),Qf]
  rw [QaI.l0.eq_def,d1,if_pos rfl,if_pos (by omega),if_pos i1,g1,Qeg (by omega) (by omega),text_ref _ (by omega),Qf,if_pos (by rw [ByteArray.size_append];omega),w1]
  rw [QaI.l0.eq_def,d2,if_pos rfl,if_pos (by simp only [ByteArray.size_append];omega),if_pos i2,g2,Qeg (by omega) (by omega),text_ref _ (by omega),Qf,if_pos (by simp only [ByteArray.size_append];omega),w2]
  rw [QaI.l0.eq_def,d3,if_pos rfl,if_pos (by simp only [ByteArray.size_append];omega),if_pos i3,g3,Qeg (by omega) (by omega),text_ref _ (by omega),Qf,if_pos (by simp only [ByteArray.size_append];omega),w3]
  rw [QaI.l0.eq_def,d4,if_neg Bool.false_ne_true,Qf]
  refine congrArg some ?_
  apply mk_inj
  rw [Qea]
  simp only [Qe7,Qdg,qText]
  simp
end Go.Proofs.YtahlbjmafceoeaaGreatDoor
namespace Go.Proofs.YtahlbjmafceoeaaGreatDoor.Hex
def dgs:ByteArray:=ByteArray.mk #[48,49,50,51,52,53,54,55,56,57,97,98,99,100,101,102]
def dgl:List UInt8:=[48,49,50,51,52,53,54,55,56,57,97,98,99,100,101,102]
def dg(n:Nat):UInt8:=dgl.getD n 0
def dig(n:Nat):ByteArray:=ByteArray.mk #[dg n]
theorem dig_eq:∀ n:Fin 16,dgs.extract n.1 (n.1+1)=dig n.1:=by decide +kernel
theorem dig_extract(n:Nat)(h:n<16):dgs.extract n (n+1)=dig n:=dig_eq ⟨n,h⟩
def grp(n:Nat):ByteArray:=if n<16 then dig n else grp (n/16)++dig (n%16)
def gl(n:Nat)(o:ByteArray):ByteArray:=if n<16 then dig n++o else gl (n/16) (dig (n%16)++o)
theorem gl_eq(n:Nat):∀ o,gl n o=grp n++o:=by
 induction n using Nat.strongRecOn with
 | _ n ih =>
  intro o
  unfold gl grp
  split
  ·rfl
  ·rw [ih _ (by omega),ByteArray.append_assoc]
theorem grp_size(n:Nat):1≤(grp n).size∧∀ k,n<16 ^ (k+1)→(grp n).size≤k+1:=by
 induction n using Nat.strongRecOn with
 | _ n ih =>
  unfold grp
  split
  ·exact ⟨by simp [dig,ByteArray.size],fun k _=>by simp [dig,ByteArray.size]⟩
  ·next h =>
   have ih':=ih _ (show n/16<n by omega)
   rw [ByteArray.size_append]
   have hd:(dig (n%16)).size=1:=rfl
   refine ⟨by omega,fun k hk=>?_⟩
   cases k with
   | zero=>simp at hk;omega
   | succ k =>
    have:=ih'.2 k (by rw [Nat.pow_succ] at hk;omega)
    omega
end Go.Proofs.YtahlbjmafceoeaaGreatDoor.Hex
namespace Go.Proofs.YtahlbjmafceoeaaGreatDoor.Hex
open E Go.RowKit
theorem tab_size:(⟨#[48,49,50,51,52,53,54,55,56,57,97,98,99,100,101,102]⟩:ByteArray).size=16:=rfl
theorem tab_bt(n:Nat)(h:n<16):bt (⟨#[48,49,50,51,52,53,54,55,56,57,97,98,99,100,101,102]⟩:ByteArray) n=(dg n).toNat:=by
 have:∀ n:Fin 16,bt (⟨#[48,49,50,51,52,53,54,55,56,57,97,98,99,100,101,102]⟩:ByteArray) (n.1:Int)=(dg n.1).toNat:=by decide +kernel
 exact this ⟨n,h⟩
end Go.Proofs.YtahlbjmafceoeaaGreatDoor.Hex
namespace Go.Proofs.YtahlbjmafceoeaaGreatDoor.Hex
open E Go.RowKit
theorem enc_digit:∀ n:Fin 16,Utf8.encode (bt (⟨#[48,49,50,51,52,53,54,55,56,57,97,98,99,100,101,102]⟩:ByteArray) (n.1:Int))=dig n.1:=by decide +kernel
theorem group_l0(n:Nat):∀ o:ByteArray,n<65536→o.size+n≤100000→Qce.l0 n o=some (gl n o):=by
 induction n using Nat.strongRecOn with
 | _ n ih =>
  intro o hn ho
  rw [Qce.l0.eq_def]
  have e1:iand .u16 (n:Int) 15=((n%16:Nat):Int):=by
   rw [show (15:Int)=((15:Nat):Int) from rfl,iand_nat .u16 rfl n 15 hn (by decide),Nat.and_two_pow_sub_one_eq_mod n 4]
  have e2:ishr .u16 (n:Int) 4=((n/16:Nat):Int):=Qej .u16 n 4 (by decide)
  have e3:=enc_digit ⟨n%16,by omega⟩
  simp only at e3
  have hd:(dig (n%16)).size=1:=rfl
  simp only [e1,e2,e3,hd,tab_size]
  rw [if_pos (by omega),if_pos (by omega)]
  unfold gl
  by_cases h:n<16
  ·rw [if_pos (by simp;omega),if_pos h,Nat.mod_eq_of_lt h]
  ·rw [if_neg (by simp;omega),if_neg h]
   exact ih _ (by omega) _ (by omega) (by rw [ByteArray.size_append,hd];omega)
theorem group_eq(n:Nat)(h:n<65536):Qce n=some (grp n):=by
 unfold Qce
 have:=group_l0 n ⟨#[]⟩ h (by show 0+n≤_;omega)
 rw [this,Qf,gl_eq,show (⟨#[]⟩:ByteArray)=ByteArray.empty from rfl,ByteArray.append_empty]
end Go.Proofs.YtahlbjmafceoeaaGreatDoor.Hex
namespace Go.Proofs.YtahlbjmafceoeaaGreatDoor.Hex
open E Go.RowKit
theorem digit_eq(n:Nat)(h:n<16):QbU n=some (dig n):=by
 unfold QbU
 rw [Qam (by omega) (by omega),if_pos (by rw [tab_size];omega)]
 rw [show ((n:Int)+1).toNat=n+1 by omega,Int.toNat_natCast]
 exact congrArg some (dig_extract n h)
end Go.Proofs.YtahlbjmafceoeaaGreatDoor.Hex
namespace Go.Proofs.YtahlbjmafceoeaaGreatDoor.Hex
open E Go.RowKit
theorem refGroup_eq(n:Nat):n<65536→QbA n=some (grp n):=by
 induction n using Nat.strongRecOn with
 | _ n ih =>
  intro h
  rw [QbA.eq_def]
  unfold grp
  by_cases hn:n<16
  ·rw [if_pos (by simp;omega),if_pos hn,digit_eq n hn];rfl
  ·have e1:wr .i64 (Int.tdiv (n:Int) 16)=((n/16:Nat):Int):=by
    rw [Int.tdiv_eq_ediv_of_nonneg (by omega),Qam (by omega) (by omega)];omega
   have e2:Int.tmod (n:Int) 16=((n%16:Nat):Int):=by rw [Int.tmod_eq_emod_of_nonneg (by omega)];omega
   have hd:(dig (n%16)).size=1:=rfl
   have hs:=(grp_size (n/16)).2 3 (by omega)
   rw [if_neg (by simp;omega),if_neg hn,e1,ih _ (by omega) (by omega),e2]
   simp only [Qf,digit_eq (n%16) (by omega),hd]
   rw [if_pos (by omega)]
end Go.Proofs.YtahlbjmafceoeaaGreatDoor.Hex
namespace Go.Proofs.YtahlbjmafceoeaaGreatDoor.Hex
open E Go.RowKit
def str(l:List UInt8):ByteArray:=⟨l.toArray⟩
theorem str_size(l:List UInt8):(str l).size=l.length:=by simp [str,ByteArray.size]
theorem Qc8(l k:List UInt8):str (l++k)=str l++str k:=by
 apply ByteArray.ext;simp [str,ByteArray.data_append]
end Go.Proofs.YtahlbjmafceoeaaGreatDoor.Hex
namespace Go.Proofs.YtahlbjmafceoeaaGreatDoor.Col
open E Go.RowKit
def gr:List UInt8→List Nat
 | a::b::r=>(256*a.toNat+b.toNat)::gr r
 | [_]=>[]
 | []=>[]
theorem gr_lt:∀ (l:List UInt8),∀ n∈gr l,n<65536
 | [],n,h=>by cases h
 | [_],n,h=>by cases h
 | a::b::r,n,h=>by
  rcases List.mem_cons.1 h with rfl | h
  ·have ha:=a.toNat_lt
   have hb:=b.toNat_lt
   omega
  ·exact gr_lt r n h
theorem gr_len:∀ (l:List UInt8),(gr l).length=l.length/2
 | []=>rfl
 | [_]=>by simp [gr]
 | a::b::r=>by simp only [gr,List.length_cons,gr_len r];omega
def runz:List Bool→Nat
 | true::r=>runz r+1
 | _=>0
def lgC:List Bool→Nat→Nat→Nat→Nat→Nat×Nat
 | [],_,p,z,_=>(p,z)
 | b::r,i,p,z,now=>if b=false then lgC r (i+1) p z 0 else if now+1>z then lgC r (i+1) (i+1-(now+1)) (now+1) (now+1) else lgC r (i+1) p z (now+1)
def lgR:List Bool→Nat→Nat→Nat→Nat×Nat
 | [],_,p,z=>(p,z)
 | b::r,i,p,z=>if runz (b::r)>z then lgR r (i+1) i (runz (b::r)) else lgR r (i+1) p z
theorem lg_same8:∀ a b c d e f g h:Bool,lgC [a,b,c,d,e,f,g,h] 0 0 0 0=lgR [a,b,c,d,e,f,g,h] 0 0 0:=by decide +kernel
theorem lg_fits8:∀ a b c d e f g h:Bool,(lgR [a,b,c,d,e,f,g,h] 0 0 0).1+(lgR [a,b,c,d,e,f,g,h] 0 0 0).2≤8:=by decide +kernel
theorem eight{α:Type}{z:List α}(h:z.length=8):∃ a b c d e f g k,z=[a,b,c,d,e,f,g,k]:=by
 match z,h with
 | [a,b,c,d,e,f,g,k],_=>exact ⟨a,b,c,d,e,f,g,k,rfl⟩
def lg(z:List Bool):Nat×Nat:=lgR z 0 0 0
theorem lg_code{z:List Bool}(h:z.length=8):lgC z 0 0 0 0=lg z:=by
 obtain ⟨a,b,c,d,e,f,g,k,rfl⟩:=eight h;exact lg_same8 ..
theorem lg_fits{z:List Bool}(h:z.length=8):(lg z).1+(lg z).2≤8:=by
 obtain ⟨a,b,c,d,e,f,g,k,rfl⟩:=eight h;exact lg_fits8 ..
def g1(n:Nat):List UInt8:=(Hex.grp n).data.toList
def rowL:List Nat→List UInt8
 | []=>[]
 | [n]=>g1 n
 | n::m::r=>g1 n++58::rowL (m::r)
def zp(G:List Nat):List Bool:=G.map fun n=>n==0
def textL(G:List Nat):List UInt8:=if (lg (zp G)).2<2 then rowL G else rowL (G.take (lg (zp G)).1)++58::58::rowL (G.drop ((lg (zp G)).1+(lg (zp G)).2))
theorem Qgf(G:List Nat):(zp G).length=G.length:=by simp [zp]
theorem g1_len(n:Nat)(h:n<65536):1≤(g1 n).length∧(g1 n).length≤4:=by
 have:=Hex.grp_size n
 unfold g1
 rw [Qd5]
 exact ⟨this.1,this.2 3 (by simpa using h)⟩
theorem Qdx:∀ (G:List Nat),(∀ n∈G,n<65536)→(rowL G).length≤5*G.length
 | [],_=>Nat.zero_le _
 | [n],h=>by
  have:=(g1_len n (h n (List.mem_cons_self ..))).2
  simp only [rowL,List.length_cons,List.length_nil];omega
 | n::m::r,h=>by
  have h1:=(g1_len n (h n (List.mem_cons_self ..))).2
  have h2:=Qdx (m::r) fun k hk=>h k (List.mem_cons_of_mem _ hk)
  simp only [rowL,List.length_append,List.length_cons] at h2 ⊢;omega
theorem textL_len(G:List Nat)(h:∀ n∈G,n<65536)(h8:G.length=8):(textL G).length≤42:=by
 unfold textL
 split
 ·have:=Qdx G h;omega
 ·have h1:=Qdx (G.take (lg (zp G)).1) fun n hn=>h n (List.mem_of_mem_take hn)
  have h2:=Qdx (G.drop ((lg (zp G)).1+(lg (zp G)).2)) fun n hn=>h n (List.mem_of_mem_drop hn)
  have hf:=lg_fits (z:=zp G) (by rw [Qgf,h8])
  simp only [List.length_append,List.length_cons,List.length_take,List.length_drop] at h1 h2 ⊢;omega
def q2(v:Vector Int 4):List Nat:=[256*(vget v 0).toNat+(vget v 1).toNat,256*(vget v 2).toNat+(vget v 3).toNat]
end Go.Proofs.YtahlbjmafceoeaaGreatDoor.Col
namespace Go.Proofs.YtahlbjmafceoeaaGreatDoor.Col
open E Go.RowKit
def ns(G:List Nat):List Int:=G.map fun n:Nat=>(n:Int)
theorem ns_len(G:List Nat):(ns G).length=G.length:=by simp [ns]
def gv(G:List Nat):Vector Int 8:=lvec 8 (ns (G++List.replicate (8-G.length) 0))
theorem Qfx{G:List Nat}(h:G.length≤8):(gv G).toList=ns (G++List.replicate (8-G.length) 0):=by
 have hl:(ns (G++List.replicate (8-G.length) 0)).length=8:=by rw [ns_len];simp;omega
 unfold gv
 rw [QcL 8 _ (by omega),List.take_of_length_le (by omega)]
theorem gv_set{G:List Nat}(h:G.length<8)(n:Nat):vset (gv G) (G.length:Int) (n:Int)=gv (G++[n]):=by
 apply Vector.toList_inj.1
 rw [Qdq,Qfx (by omega),Qfx (by simp;omega),Int.toNat_natCast]
 unfold ns
 rw [←List.map_set,List.set_append_right _ _ (Nat.le_refl _),Nat.sub_self,show 8-G.length=(8-(G.length+1))+1 by omega,List.replicate_succ]
 simp
theorem gv_zero:(Vector.replicate 8 (0:Int):Vector Int 8)=gv []:=by
 apply Vector.toList_inj.1;rw [Qfx (by simp)];rfl
theorem ns_get(G:List Nat)(i:Nat)(n:Nat)(h:G[i]? = some n):(ns G).getD i default=(n:Int):=by
 unfold ns;rw [List.getD_eq_getElem?_getD,List.getElem?_map,h];rfl
theorem gv_get{G:List Nat}(h8:G.length=8)(i:Nat)(n:Nat)(h:G[i]? = some n):vget (gv G) (i:Int)=(n:Int):=by
 unfold vget
 rw [Qfx (by omega),h8,Int.toNat_natCast,show 8-8=0 from rfl,List.replicate_zero,List.append_nil]
 exact ns_get G i n h
theorem ns_take(G:List Nat)(k:Nat):(ns G).take k=ns (G.take k):=by unfold ns;rw [List.map_take]
theorem ns_drop(G:List Nat)(k:Nat):(ns G).drop k=ns (G.drop k):=by unfold ns;rw [List.map_drop]
def v16(m:List UInt8):Vector Int 16:=lvec 16 (ob m)
theorem v16_toList{m:List UInt8}(h:m.length=16):(v16 m).toList=ob m:=by
 unfold v16
 rw [QcL 16 _ (by rw [Qbh];omega),List.take_of_length_le (by rw [Qbh];omega)]
theorem v16_get{m:List UInt8}(h:m.length=16)(i:Nat)(c:UInt8)(hc:m[i]? = some c):vget (v16 m) (i:Int)=(c.toNat:Int):=by
 unfold vget
 rw [v16_toList h,Int.toNat_natCast,List.getD_eq_getElem?_getD]
 unfold ob
 rw [List.getElem?_map,hc];rfl
end Go.Proofs.YtahlbjmafceoeaaGreatDoor.Col
namespace Go.Proofs.YtahlbjmafceoeaaGreatDoor.Col
open E Go.RowKit
theorem gr_get : ∀ (l : List UInt8) (i : Nat) (a b : UInt8), l[2 * i]? = some a → l[2 * i + 1]? = some b → (gr l)[i]? = some (256 * a.toNat + b.toNat)
  | x :: y :: r, 0, a, b, ha, hb => by simp at ha hb; subst ha hb; rfl
  | x :: y :: r, i + 1, a, b, ha, hb => by
    have e1 : 2 * (i + 1) = 2 * i + 1 + 1 := by omega
    have e2 : 2 * (i + 1) + 1 = 2 * i + 1 + 1 + 1 := by omega
    rw [e1] at ha
    rw [e2] at hb
    simp only [List.getElem?_cons_succ] at ha hb
    exact gr_get r i a b ha hb
  | [x], i, a, b, ha, hb => by
    cases i with
    | zero => simp at hb
    | succ i => have : 2 * (i + 1) = (2 * i + 1) + 1 := by omega
                rw [this] at ha; simp at ha
  | [], i, a, b, ha, hb => by simp at ha
theorem ofBig2(a b:UInt8):QbO (ob [a,b])=some (((256*a.toNat+b.toNat:Nat):Int),0):=by
 have ha:=a.toNat_lt
 have hb:=b.toNat_lt
 have e1:ior .u64 (ishl .u64 0 8) (wr .u64 (a.toNat:Int))=(a.toNat:Int):=by
  rw [Qeg (by omega) (by omega),show (8:Int)=((8:Nat):Int) from rfl,show (0:Int)=((0:Nat):Int) from rfl,ishl_nat .u64 rfl 0 8 (by decide),ior_nat .u64 rfl _ _ (by decide) (by show _<18446744073709551616;omega)]
  simp
 have e2:ior .u64 (ishl .u64 (a.toNat:Int) 8) (wr .u64 (b.toNat:Int))=((256*a.toNat+b.toNat:Nat):Int):=by
  rw [Qeg (by omega) (by omega),show (8:Int)=((8:Nat):Int) from rfl,ishl_nat .u64 rfl a.toNat 8 (by decide)]
  have e:(a.toNat*2 ^ 8)%2 ^ IntKind.u64.bits=a.toNat*256:=by show (a.toNat*256)%18446744073709551616=_;omega
  rw [e,ior_nat .u64 rfl _ _ (by show _<18446744073709551616;omega) (by show _<18446744073709551616;omega)]
  have h2:=Nat.two_pow_add_eq_or_of_lt (i:=8) (b:=b.toNat) (by simpa using hb) a.toNat
  have e3:2 ^ 8*a.toNat=a.toNat*256:=by omega
  rw [e3] at h2
  rw [←h2,Nat.mul_comm a.toNat 256]
 have l0:lget (ob [a,b]) 0=(a.toNat:Int):=rfl
 have l1:lget (ob [a,b]) 1=(b.toNat:Int):=rfl
 have hl:((ob [a,b]).length:Int)=2:=rfl
 unfold QbO Qem
 rw [hl,if_pos (by decide),Qf]
 show (if (!true)=true then _ else _)=_
 rw [if_neg (by decide),QbO.l0.eq_def,hl,if_pos (by decide),if_pos (by decide),l0,e1,show wr .i64 (0+1)=1 from rfl,QbO.l0.eq_def,hl,if_pos (by decide),if_pos (by decide),l1,e2,show wr .i64 (1+1)=2 from rfl,QbO.l0.eq_def,hl,if_neg (by decide),Qf]
theorem groups_loop{m:List UInt8}(hm:m.length=16):∀ (k i:Nat),i+k=8→QbE.l0 (v16 m) (i:Int) (gv ((gr m).take i))=some (gv (gr m)):=by
 have hg:(gr m).length=8:=by rw [gr_len,hm]
 intro k
 induction k with
 | zero =>
  intro i hi
  obtain rfl:i=8:=by omega
  rw [QbE.l0.eq_def,if_neg (by decide),List.take_of_length_le (by omega)]
 | succ k ih =>
  intro i hi
  have w1:wr .i64 (2*(i:Int))=((2*i:Nat):Int):=by rw [Qam (by omega) (by omega)];omega
  have w2:wr .i64 (((2*i:Nat):Int)+2)=((2*i+2:Nat):Int):=by rw [Qam (by omega) (by omega)];omega
  have w3:wr .i64 ((i:Int)+1)=((i+1:Nat):Int):=by rw [Qam (by omega) (by omega)];omega
  obtain ⟨a,ha⟩:∃ a,m[2*i]? = some a:=⟨_,List.getElem?_eq_getElem (by omega)⟩
  obtain ⟨b,hb⟩:∃ b,m[2*i+1]? = some b:=⟨_,List.getElem?_eq_getElem (by omega)⟩
  have hn:=gr_get m i a b ha hb
  have la:=a.toNat_lt
  have lb:=b.toNat_lt
  have hs:lsub (Vector.toList (v16 m)) ((2*i:Nat):Int) ((2*i+2:Nat):Int)=ob [a,b]:=by
   unfold lsub
   rw [v16_toList hm,Int.toNat_natCast,Int.toNat_natCast]
   unfold ob
   rw [←List.map_take,←List.map_drop]
   congr 1
   rw [List.take_add_one,List.take_add_one,ha,hb]
   have hl:(m.take (2*i)).length=2*i:=by rw [List.length_take];omega
   simp only [Option.toList]
   rw [List.append_assoc,List.drop_left' hl];rfl
  have hi8:((gr m).take i).length=i:=by rw [List.length_take];omega
  rw [QbE.l0.eq_def,if_pos (decide_eq_true (by omega)),w1,w2,if_pos (by omega),hs,ofBig2,Qf,if_pos (by omega),w3]
  show QbE.l0 (v16 m) _ (vset (gv ((gr m).take i)) (i:Int) (wr .u16 ((256*a.toNat+b.toNat:Nat):Int)))=_
  rw [wr_u16 (by omega) (by omega)]
  have h2:=gv_set (G:=(gr m).take i) (by omega) (256*a.toNat+b.toNat)
  rw [hi8] at h2
  have h3:=ih (i+1) (by omega)
  rw [List.take_add_one,hn] at h3
  rw [h2];exact h3
theorem groups_ok{m:List UInt8}(hm:m.length=16):QbE (v16 m)=some (gv (gr m)):=by
 unfold QbE
 have:=groups_loop hm 8 0 rfl
 rw [List.take_zero,←gv_zero,show ((0:Nat):Int)=0 from rfl] at this
 rw [this,Qf]
theorem zp_get{G:List Nat}{i n:Nat}(h:G[i]? = some n):(zp G)[i]? = some (n==0):=by unfold zp;rw [List.getElem?_map,h];rfl
def ii(q:Nat×Nat):Int×Int:=((q.1:Int),(q.2:Int))
theorem int_zero(n:Nat):((n:Int) != 0)=!(n==0):=by
 by_cases h:n=0
 ·subst h;rfl
 ·have h2:(n==0)=false:=by simp [h]
  rw [h2]
  have:((n:Int) != 0)=true:=by rw [bne_iff_ne];omega
  rw [this];rfl
theorem longest_loop{G:List Nat}(h8:G.length=8):∀ (k i p z now:Nat),i+k=8→p≤8→z≤8→now≤i→Qbk.l0 (gv G) (p:Int) (z:Int) (now:Int) (i:Int)=some (ii (lgC ((zp G).drop i) i p z now)):=by
 intro k
 induction k with
 | zero =>
  intro i p z now hi hp hz hn
  obtain rfl:i=8:=by omega
  rw [Qbk.l0.eq_def,if_neg (by decide),List.drop_eq_nil_of_le (by rw [Qgf];omega)];rfl
 | succ k ih =>
  intro i p z now hi hp hz hn
  obtain ⟨n,hn'⟩:∃ n,G[i]? = some n:=⟨_,List.getElem?_eq_getElem (by omega)⟩
  obtain ⟨c,hc,hd⟩:=Qf2 (zp G) i (by rw [Qgf];omega)
  rw [zp_get hn'] at hc
  cases hc
  have w1:wr .i64 ((i:Int)+1)=((i+1:Nat):Int):=by rw [Qam (by omega) (by omega)];omega
  have w2:wr .i64 ((now:Int)+1)=((now+1:Nat):Int):=by rw [Qam (by omega) (by omega)];omega
  have w3:wr .i64 (((i+1:Nat):Int)-((now+1:Nat):Int))=((i+1-(now+1):Nat):Int):=by rw [Qam (by omega) (by omega)];omega
  rw [Qbk.l0.eq_def,if_pos (decide_eq_true (by omega)),if_pos (by omega),gv_get h8 i n hn',int_zero,w1,w2,w3,hd,lgC]
  cases hb:(n==0) with
  | false =>
   rw [if_pos (show (!false)=true from rfl),if_pos (show false=false from rfl)]
   exact ih (i+1) p z 0 (by omega) hp hz (by omega)
  | true =>
   rw [if_neg (show ¬ (!true)=true by decide),if_neg (show ¬ true=false by decide)]
   by_cases hg:now+1>z
   ·rw [if_pos (decide_eq_true (by omega)),if_pos hg]
    exact ih (i+1) _ _ _ (by omega) (by omega) (by omega) (by omega)
   ·rw [if_neg (by rw [decide_eq_true_eq];omega),if_neg hg]
    exact ih (i+1) _ _ _ (by omega) hp hz (by omega)
theorem longest_ok{G:List Nat}(h8:G.length=8):Qbk (gv G)=some (ii (lg (zp G))):=by
 unfold Qbk
 have:=longest_loop h8 8 0 0 0 0 rfl (by omega) (by omega) (by omega)
 rw [List.drop_zero,lg_code (by rw [Qgf,h8])] at this
 rw [show (0:Int)=((0:Nat):Int) from rfl,this,Qf]
theorem row_loop(A:List Nat)(hA:∀ n∈A,n<65536)(hl:A.length≤8):∀ (k i:Nat),A.length-i=k→i≤A.length→Qb5.l0 (ns A) ((A.take i).map Hex.grp) (i:Int)=some (A.map Hex.grp):=by
 intro k
 induction k with
 | zero =>
  intro i hk hi
  rw [Qb5.l0.eq_def,ns_len,if_neg (by rw [decide_eq_true_eq];omega),List.take_of_length_le (by omega)]
 | succ k ih =>
  intro i hk hi
  obtain ⟨n,hn⟩:∃ n,A[i]? = some n:=⟨_,List.getElem?_eq_getElem (by omega)⟩
  have w:wr .i64 ((i:Int)+1)=((i+1:Nat):Int):=by rw [Qam (by omega) (by omega)];omega
  have hv:lget (ns A) (i:Int)=(n:Int):=by unfold lget;rw [Int.toNat_natCast];exact ns_get A i n hn
  have h2:=ih (i+1) (by omega) (by omega)
  rw [List.take_add_one,hn,List.map_append] at h2
  rw [Qb5.l0.eq_def,ns_len,if_pos (decide_eq_true (by omega)),if_pos (by omega),hv,Hex.group_eq n (hA n (List.mem_of_getElem? hn)),Qf,if_pos (by rw [List.length_map,List.length_take];omega),w]
  exact h2
theorem row_join:∀ (A:List Nat),[58].intercalate (A.map g1)=rowL A
 | []=>rfl
 | [n]=>by simp [List.intercalate,rowL]
 | n::m::r=>by
  have:=row_join (m::r)
  simp only [List.intercalate,List.map_cons,List.intersperse,List.flatten_cons,rowL] at this ⊢
  rw [this];rfl
theorem bjoin_row(A:List Nat):bjoin (A.map Hex.grp) (⟨#[58]⟩:ByteArray)=bs (rowL A):=by
 apply mk_inj
 rw [Qea,←row_join]
 unfold bjoin Lib.join
 simp only [List.map_map]
 rfl
theorem row_ok(A:List Nat)(hA:∀ n∈A,n<65536)(hl:A.length≤8):Qb5 (ns A)=some (bs (rowL A)):=by
 unfold Qb5
 have h:=row_loop A hA hl A.length 0 (by omega) (by omega)
 rw [List.take_zero,List.map_nil,show ((0:Nat):Int)=0 from rfl] at h
 have hs:=Qdx A hA
 rw [h,Qf,if_pos (by rw [List.length_map];omega),bjoin_row,if_pos (by rw [Qb3];omega)]
theorem bs_app(l k:List UInt8):bs l++bs k=bs (l++k):=by apply mk_inj;rw [Qe7,Qea,Qea,Qea]
theorem text_ok{m:List UInt8}(hm:m.length=16):Qd3 (v16 m)=some (bs (textL (gr m))):=by
 have hg:(gr m).length=8:=by rw [gr_len,hm]
 have hlt:=gr_lt m
 have hf:=lg_fits (z:=zp (gr m)) (by rw [Qgf,hg])
 have hgl:(gv (gr m)).toList=ns (gr m):=by rw [Qfx (by omega),hg];simp
 unfold Qd3
 rw [groups_ok hm,Qf,longest_ok hg,Qf,hgl]
 unfold textL
 generalize lg (zp (gr m))=q at hf
 obtain ⟨p,z⟩:=q
 simp only at hf
 show (if decide ((z:Int)<2)=true then _ else (if (0:Int)≤0∧(0:Int)≤(p:Int)∧(p:Int)≤8 then Qb5 (lsub (ns (gr m)) 0 (p:Int))>>=fun t8=>if t8.size+(⟨#[58,58]⟩:ByteArray).size≤140737488355328 then if (0:Int)≤wr .i64 ((p:Int)+(z:Int))∧wr .i64 ((p:Int)+(z:Int))≤8∧(8:Int)≤8 then Qb5 (lsub (ns (gr m)) (wr .i64 ((p:Int)+(z:Int))) 8)>>=fun t11=>if (t8++(⟨#[58,58]⟩:ByteArray)).size+t11.size≤140737488355328 then some ((t8++(⟨#[58,58]⟩:ByteArray))++t11) else none else none else none else none))=some (bs (if z<2 then rowL (gr m) else rowL ((gr m).take p)++58::58::rowL ((gr m).drop (p+z))))
 by_cases h2:z<2
 ·rw [if_pos (decide_eq_true (by omega)),if_pos h2,row_ok _ hlt (by omega)];rfl
 ·have w:wr .i64 ((p:Int)+(z:Int))=((p+z:Nat):Int):=by rw [Qam (by omega) (by omega)];omega
  have s1:lsub (ns (gr m)) 0 (p:Int)=ns ((gr m).take p):=by unfold lsub;rw [Int.toNat_natCast,ns_take];rfl
  have s2:lsub (ns (gr m)) ((p+z:Nat):Int) 8=ns ((gr m).drop (p+z)):=by
   unfold lsub;rw [Int.toNat_natCast,show Int.toNat 8=8 from rfl,List.take_of_length_le (by rw [ns_len];omega),ns_drop]
  have hA:∀ n∈(gr m).take p,n<65536:=fun n hn=>hlt n (List.mem_of_mem_take hn)
  have hB:∀ n∈(gr m).drop (p+z),n<65536:=fun n hn=>hlt n (List.mem_of_mem_drop hn)
  have lA:=Qdx _ hA
  have lB:=Qdx _ hB
  rw [List.length_take] at lA
  rw [List.length_drop] at lB
  have h58:(⟨#[58,58]⟩:ByteArray)=bs [58,58]:=rfl
  rw [if_neg (by rw [decide_eq_true_eq];omega),if_pos (by omega),s1,row_ok _ hA (by rw [List.length_take];omega),Qf,h58,if_pos (by rw [Qb3,Qb3];simp only [List.length_cons,List.length_nil];omega),w,if_pos (by omega),s2,row_ok _ hB (by rw [List.length_drop];omega),Qf,bs_app,if_pos (by rw [Qb3,Qb3];simp only [List.length_append,List.length_cons,List.length_nil];omega),bs_app,if_neg h2]
  rw [List.append_assoc];rfl
end Go.Proofs.YtahlbjmafceoeaaGreatDoor.Col
namespace Go.Proofs.YtahlbjmafceoeaaGreatDoor.Col
open E Go.RowKit
theorem refGroups_loop{m:List UInt8}(hm:m.length=16):∀ (k i:Nat),i+k=8→QaN.l0 (v16 m) (i:Int) (gv ((gr m).take i))=some (gv (gr m)):=by
 have hg:(gr m).length=8:=by rw [gr_len,hm]
 intro k
 induction k with
 | zero =>
  intro i hi
  obtain rfl:i=8:=by omega
  rw [QaN.l0.eq_def,if_neg (by decide),List.take_of_length_le (by omega)]
 | succ k ih =>
  intro i hi
  have w1:wr .i64 (2*(i:Int))=((2*i:Nat):Int):=by rw [Qam (by omega) (by omega)];omega
  have w2:wr .i64 (((2*i:Nat):Int)+1)=((2*i+1:Nat):Int):=by rw [Qam (by omega) (by omega)];omega
  have w3:wr .i64 ((i:Int)+1)=((i+1:Nat):Int):=by rw [Qam (by omega) (by omega)];omega
  obtain ⟨a,ha⟩:∃ a,m[2*i]? = some a:=⟨_,List.getElem?_eq_getElem (by omega)⟩
  obtain ⟨b,hb⟩:∃ b,m[2*i+1]? = some b:=⟨_,List.getElem?_eq_getElem (by omega)⟩
  have hn:=gr_get m i a b ha hb
  have la:=a.toNat_lt
  have lb:=b.toNat_lt
  have va:=v16_get hm (2*i) a ha
  have vb:=v16_get hm (2*i+1) b hb
  have hi8:((gr m).take i).length=i:=by rw [List.length_take];omega
  have e:wr .i64 (wr .i64 (256*wr .i64 (a.toNat:Int))+wr .i64 (b.toNat:Int))=((256*a.toNat+b.toNat:Nat):Int):=by
   rw [Qam (x:=(a.toNat:Int)) (by omega) (by omega),Qam (x:=(b.toNat:Int)) (by omega) (by omega),Qam (x:=256*(a.toNat:Int)) (by omega) (by omega),Qam (by omega) (by omega)];omega
  have h2:=gv_set (G:=(gr m).take i) (by omega) (256*a.toNat+b.toNat)
  rw [hi8] at h2
  have h3:=ih (i+1) (by omega)
  rw [List.take_add_one,hn] at h3
  rw [QaN.l0.eq_def,if_pos (decide_eq_true (by omega)),w1,w2,if_pos (by omega),if_pos (by omega),if_pos (by omega),w3,va,vb,e,h2]
  exact h3
theorem refGroups_ok{m:List UInt8}(hm:m.length=16):QaN (v16 m)=some (gv (gr m)):=by
 unfold QaN
 have:=refGroups_loop hm 8 0 rfl
 rw [List.take_zero,←gv_zero,show ((0:Nat):Int)=0 from rfl] at this
 rw [this,Qf]
theorem run_loop{G:List Nat}(h8:G.length=8)(f:Nat)(hf:f≤8):∀ (k i:Nat),f+i+k=8→QaZ.l0 (gv G) (f:Int) (i:Int)=some ((i+runz ((zp G).drop (f+i)):Nat):Int):=by
 intro k
 induction k with
 | zero =>
  intro i hi
  have w:wr .i64 ((f:Int)+(i:Int))=((f+i:Nat):Int):=by rw [Qam (by omega) (by omega)];omega
  rw [QaZ.l0.eq_def,w,if_neg (by rw [decide_eq_true_eq];omega),List.drop_eq_nil_of_le (by rw [Qgf];omega)];rfl
 | succ k ih =>
  intro i hi
  have w:wr .i64 ((f:Int)+(i:Int))=((f+i:Nat):Int):=by rw [Qam (by omega) (by omega)];omega
  have w1:wr .i64 ((i:Int)+1)=((i+1:Nat):Int):=by rw [Qam (by omega) (by omega)];omega
  obtain ⟨n,hn'⟩:∃ n,G[f+i]? = some n:=⟨_,List.getElem?_eq_getElem (by omega)⟩
  obtain ⟨c,hc,hd⟩:=Qf2 (zp G) (f+i) (by rw [Qgf];omega)
  rw [zp_get hn'] at hc
  cases hc
  have ez:((n:Int)==0)=(n==0):=by
   by_cases h:n=0
   ·subst h;rfl
   ·have h2:(n==0)=false:=by simp [h]
    rw [h2,beq_eq_false_iff_ne];omega
  rw [QaZ.l0.eq_def,w,if_pos (decide_eq_true (by omega)),if_pos (by omega),gv_get h8 (f+i) n hn',ez,w1,hd]
  cases hb:(n==0) with
  | false=>rw [if_neg Bool.false_ne_true];rfl
  | true =>
   rw [if_pos rfl,ih (i+1) (by omega)]
   simp only [runz]
   rw [show f+(i+1)=f+i+1 by omega]
   congr 2;omega
theorem run_ok{G:List Nat}(h8:G.length=8)(f:Nat)(hf:f≤8):QaZ (gv G) (f:Int)=some ((runz ((zp G).drop f):Nat):Int):=by
 unfold QaZ
 have:=run_loop h8 f hf (8-f) 0 (by omega)
 rw [show ((0:Nat):Int)=0 from rfl,Nat.zero_add,Nat.add_zero] at this
 rw [this,Qf]
theorem refText_loop{G:List Nat}(h8:G.length=8):∀ (k i p z:Nat),i+k=8→QaH.l0 (gv G) (p:Int) (z:Int) (i:Int)=some (ii (lgR ((zp G).drop i) i p z)):=by
 intro k
 induction k with
 | zero =>
  intro i p z hi
  obtain rfl:i=8:=by omega
  rw [QaH.l0.eq_def,if_neg (by decide),List.drop_eq_nil_of_le (by rw [Qgf];omega)];rfl
 | succ k ih =>
  intro i p z hi
  have w1:wr .i64 ((i:Int)+1)=((i+1:Nat):Int):=by rw [Qam (by omega) (by omega)];omega
  obtain ⟨c,hc,hd⟩:=Qf2 (zp G) i (by rw [Qgf];omega)
  rw [QaH.l0.eq_def,if_pos (decide_eq_true (by omega)),run_ok h8 i (by omega),Qf,Qf,w1,hd,lgR]
  by_cases hg:runz (c::(zp G).drop (i+1))>z
  ·rw [if_pos (decide_eq_true (by omega)),if_pos hg]
   exact ih (i+1) _ _ (by omega)
  ·rw [if_neg (by rw [decide_eq_true_eq];omega),if_neg hg]
   exact ih (i+1) _ _ (by omega)
theorem rowL_snoc:∀ (A:List Nat) (n:Nat),rowL (A++[n])=if A=[] then g1 n else rowL A++58::g1 n
 | [],n=>rfl
 | [a],n=>by rw [if_neg (by simp)];rfl
 | a::b::r,n=>by
  have:=rowL_snoc (b::r) n
  rw [if_neg (by simp)] at this ⊢
  show g1 a++58::rowL ((b::r)++[n])=_
  rw [this,rowL]
  simp
theorem bs_grp(n:Nat):Hex.grp n=bs (g1 n):=eq_bs _
theorem refRow_loop{G:List Nat}(h8:G.length=8)(hlt:∀ n∈G,n<65536)(f t:Nat)(ht:t≤8):∀ (k i:Nat),i+k=t→f≤i→Qan.l0 (gv G) (f:Int) (t:Int) (bs (rowL ((G.take i).drop f))) (i:Int)=some (bs (rowL ((G.take t).drop f))):=by
 intro k
 induction k with
 | zero =>
  intro i hi hf
  obtain rfl:i=t:=by omega
  rw [Qan.l0.eq_def,if_neg (by rw [decide_eq_true_eq];omega)]
 | succ k ih =>
  intro i hi hf
  obtain ⟨n,hn⟩:∃ n,G[i]? = some n:=⟨_,List.getElem?_eq_getElem (by omega)⟩
  have hn6:=hlt n (List.mem_of_getElem? hn)
  have hgl:=g1_len n hn6
  have w1:wr .i64 ((i:Int)+1)=((i+1:Nat):Int):=by rw [Qam (by omega) (by omega)];omega
  have h3:=ih (i+1) (by omega) (by omega)
  rw [List.take_add_one,hn,List.drop_append_of_le_length (by rw [List.length_take];omega)] at h3
  have h3':=h3
  rw [show (some n).toList=[n] from rfl,rowL_snoc] at h3
  have hsz:=Qdx ((G.take i).drop f) fun x hx=>hlt x (List.mem_of_mem_take (List.mem_of_mem_drop hx))
  have hll:((G.take i).drop f).length=i-f:=by rw [List.length_drop,List.length_take];omega
  rw [hll] at hsz
  have h58:(⟨#[58]⟩:ByteArray)=bs [58]:=rfl
  rw [Qan.l0.eq_def,if_pos (decide_eq_true (by omega)),gv_get h8 i n hn,Hex.refGroup_eq n hn6,bs_grp,w1,h58]
  by_cases hfi:f<i
  ·have hne:¬ (G.take i).drop f=[]:=fun e=>by have:=congrArg List.length e;rw [hll] at this;simp at this;omega
   rw [if_neg hne] at h3
   rw [if_pos (decide_eq_true (by omega)),if_pos (by rw [Qb3,Qb3];simp only [List.length_cons,List.length_nil];omega),if_pos (by omega),Qf,bs_app,if_pos (by rw [Qb3,Qb3,List.length_append];simp only [List.length_cons,List.length_nil];omega),bs_app,List.append_assoc]
   exact h3
  ·have he:(G.take i).drop f=[]:=List.eq_nil_of_length_eq_zero (by rw [hll];omega)
   rw [if_pos he] at h3
   rw [if_neg (by rw [decide_eq_true_eq];omega),if_pos (by omega),Qf,if_pos (by rw [Qb3,Qb3];omega),bs_app,he]
   exact h3
theorem refRow_ok{G:List Nat}(h8:G.length=8)(hlt:∀ n∈G,n<65536)(f t:Nat)(hf:f≤t)(ht:t≤8):Qan (gv G) (f:Int) (t:Int)=some (bs (rowL ((G.take t).drop f))):=by
 unfold Qan
 have h:=refRow_loop h8 hlt f t ht (t-f) f (by omega) (Nat.le_refl _)
 have he:(G.take f).drop f=[]:=List.drop_eq_nil_of_le (by rw [List.length_take];omega)
 rw [he] at h
 show (Qan.l0 (gv G) (f:Int) (t:Int) (bs (rowL [])) (f:Int)>>=fun q2=>_)=_
 rw [h,Qf]
theorem refText_ok{m:List UInt8}(hm:m.length=16):QaH (v16 m)=some (bs (textL (gr m))):=by
 have hg:(gr m).length=8:=by rw [gr_len,hm]
 have hlt:=gr_lt m
 have hf:=lg_fits (z:=zp (gr m)) (by rw [Qgf,hg])
 have hl:=refText_loop hg 8 0 0 0 rfl
 rw [List.drop_zero,show ((0:Nat):Int)=0 from rfl] at hl
 unfold QaH
 rw [refGroups_ok hm,Qf,hl,Qf]
 unfold textL
 show (if decide (((lg (zp (gr m))).2:Int)<2)=true then _ else Qan (gv (gr m)) 0 ((lg (zp (gr m))).1:Int)>>=fun t14=>if t14.size+(⟨#[58,58]⟩:ByteArray).size≤140737488355328 then Qan (gv (gr m)) (wr .i64 (((lg (zp (gr m))).1:Int)+((lg (zp (gr m))).2:Int))) 8>>=fun t16=>if (t14++(⟨#[58,58]⟩:ByteArray)).size+t16.size≤140737488355328 then some ((t14++(⟨#[58,58]⟩:ByteArray))++t16) else none else none)=_
 generalize lg (zp (gr m))=q at hf
 obtain ⟨p,z⟩:=q
 simp only at hf ⊢
 by_cases h2:z<2
 ·have hr:=refRow_ok hg hlt 0 8 (by omega) (by omega)
  rw [show ((0:Nat):Int)=0 from rfl,show ((8:Nat):Int)=8 from rfl,List.take_of_length_le (by omega),List.drop_zero] at hr
  rw [if_pos (decide_eq_true (by omega)),if_pos h2,hr];rfl
 ·have w:wr .i64 ((p:Int)+(z:Int))=((p+z:Nat):Int):=by rw [Qam (by omega) (by omega)];omega
  have hA:=Qdx ((gr m).take p) fun n hn=>hlt n (List.mem_of_mem_take hn)
  have hB:=Qdx ((gr m).drop (p+z)) fun n hn=>hlt n (List.mem_of_mem_drop hn)
  rw [List.length_take] at hA
  rw [List.length_drop] at hB
  have r1:=refRow_ok hg hlt 0 p (by omega) (by omega)
  rw [show ((0:Nat):Int)=0 from rfl,List.drop_zero] at r1
  have r2:=refRow_ok hg hlt (p+z) 8 (by omega) (by omega)
  rw [show ((8:Nat):Int)=8 from rfl,List.take_of_length_le (by omega)] at r2
  have h58:(⟨#[58,58]⟩:ByteArray)=bs [58,58]:=rfl
  rw [if_neg (by rw [decide_eq_true_eq];omega),r1,Qf,h58,if_pos (by rw [Qb3,Qb3];simp only [List.length_cons,List.length_nil];omega),w,r2,Qf,bs_app,if_pos (by rw [Qb3,Qb3];simp only [List.length_append,List.length_cons,List.length_nil];omega),bs_app,if_neg h2]
  rw [List.append_assoc];rfl
end Go.Proofs.YtahlbjmafceoeaaGreatDoor.Col
namespace Go.Proofs.YtahlbjmafceoeaaGreatDoor.AdrT
open E Go.RowKit
open Adr
def adrT(V:Int)(l:List UInt8):List UInt8:=if QbP V l=true then (if V=4 then qText (l.take 4) else Col.textL (Col.gr l)) else []
theorem addr_text{V:Int}{l:List UInt8}(hl:l.length=16):QeI (mkA V l)=some (bs (adrT V l)):=by
 unfold QeI adrT
 rw [right_code hl,Qf]
 cases hr:QbP V l with
 | false=>rfl
 | true =>
  have h4l:(l.take 4).length=4:=by rw [List.length_take];omega
  rw [if_neg (by decide),if_pos rfl]
  by_cases h4:V=4
  ·have e:((mkA V l).f_V==4)=true:=by show (V==4)=true;rw [h4];rfl
   rw [e,if_pos rfl,if_pos h4]
   show (if 4≤(lsub (vb l).toList 0 4).length then (Qcq (lvec 4 (lsub (vb l).toList 0 4))>>=fun t9=>some t9) else none)=_
   have hv:lvec 4 (lsub (vb l).toList 0 4)=v4 (l.take 4):=v4_of (take4 hl)
   rw [if_pos (take4_len hl),hv,quad_text h4l];rfl
  ·have e:((mkA V l).f_V==4)=false:=by rw [beq_eq_false_iff_ne];exact h4
   rw [e,if_neg Bool.false_ne_true,if_neg h4]
   show (Qd3 (Col.v16 l)>>=fun t10=>some t10)=_
   rw [Col.text_ok hl];rfl
theorem four_vget{l:List UInt8}(hl:l.length=16):vset (vset (vset (vset (Vector.replicate 4 (0:Int):(Vector Int 4)) 0 (vget (vb l) 0)) 1 (vget (vb l) 1)) 2 (vget (vb l) 2)) 3 (vget (vb l) 3)=v4 (l.take 4):=by
 have g0:=QdK hl 0 (by omega)
 have g1:=QdK hl 1 (by omega)
 have g2:=QdK hl 2 (by omega)
 have g3:=QdK hl 3 (by omega)
 rw [show ((0:Nat):Int)=0 from rfl] at g0
 rw [show ((1:Nat):Int)=1 from rfl] at g1
 rw [show ((2:Nat):Int)=2 from rfl] at g2
 rw [show ((3:Nat):Int)=3 from rfl] at g3
 apply v4_of
 rw [g0,g1,g2,g3]
 obtain ⟨a,b,c,d,r,rfl⟩:∃ a b c d r,l=a::b::c::d::r:=by
  obtain ⟨a,l1,rfl⟩:=List.exists_cons_of_length_pos (show 0<l.length by omega)
  rw [List.length_cons] at hl
  obtain ⟨b,l2,rfl⟩:=List.exists_cons_of_length_pos (show 0<l1.length by omega)
  rw [List.length_cons] at hl
  obtain ⟨c,l3,rfl⟩:=List.exists_cons_of_length_pos (show 0<l2.length by omega)
  rw [List.length_cons] at hl
  obtain ⟨d,l4,rfl⟩:=List.exists_cons_of_length_pos (show 0<l3.length by omega)
  exact ⟨a,b,c,d,l4,rfl⟩
 have e0:bg (a::b::c::d::r) 0=a.toNat:=rfl
 have e1:bg (a::b::c::d::r) 1=b.toNat:=rfl
 have e2:bg (a::b::c::d::r) 2=c.toNat:=rfl
 have e3:bg (a::b::c::d::r) 3=d.toNat:=rfl
 have et:(a::b::c::d::r).take 4=[a,b,c,d]:=rfl
 rw [e0,e1,e2,e3,et]
 simp only [Qdq]
 rfl
theorem ref_text10{V:Int}{l:List UInt8}(hl:l.length=16):Qb1 (mkA V l)=some (bs (adrT V l)):=by
 unfold Qb1 adrT
 rw [Qdy hl,Qf]
 cases hr:QbP V l with
 | false=>rfl
 | true =>
  have h4l:(l.take 4).length=4:=by rw [List.length_take];omega
  rw [if_neg (by decide),if_pos rfl]
  rcases Qgs hr with h6 | ⟨h4,_⟩
  ·subst h6
   rw [if_pos (show ((mkA 6 l).f_V==6)=true from rfl),if_neg (by decide)]
   show (QaH (Col.v16 l)>>=fun t5=>some t5)=_
   rw [Col.refText_ok hl];rfl
  ·subst h4
   have e46:((mkA 4 l).f_V==6)=false:=beq_eq_false_iff_ne.2 (by show (4:Int)≠6;decide)
   rw [e46,if_neg Bool.false_ne_true,if_pos rfl]
   show (QaI (vset (vset (vset (vset (Vector.replicate 4 (0:Int):(Vector Int 4)) 0 (vget (vb l) 0)) 1 (vget (vb l) 1)) 2 (vget (vb l) 2)) 3 (vget (vb l) 3))>>=fun t6=>some t6)=_
   rw [four_vget hl,refQuad_loop h4l];rfl
theorem adrT_len{V:Int}{l:List UInt8}(hl:l.length=16):(adrT V l).length≤42:=by
 unfold adrT
 split
 ·split
  ·have:=qText_len (m:=l.take 4) (by rw [List.length_take];omega);omega
  ·exact Col.textL_len _ (Col.gr_lt l) (by rw [Col.gr_len,hl])
 ·simp
end Go.Proofs.YtahlbjmafceoeaaGreatDoor.AdrT
namespace Go.Proofs.YtahlbjmafceoeaaGreatDoor.Cid
open E Go.RowKit
open Adr AdrT
theorem bs_app(l k:List UInt8):bs l++bs k=bs (l++k):=by apply mk_inj;rw [Qe7,Qea,Qea,Qea]
theorem fmtU_bs(k:Nat):fmtU (k:Int)=bs (Lib.decDigits k):=by apply mk_inj;rw [Qdg,Qea]
def cidT(V:Int)(l:List UInt8)(b:Nat):List UInt8:=adrT V l++47::Lib.decDigits b
theorem cidT_len{V:Int}{l:List UInt8}(hl:l.length=16)(b:Nat)(hb:b≤128):(cidT V l b).length≤70:=by
 have h1:=adrT_len (V:=V) hl
 have h2:=QdW b (by omega)
 unfold cidT
 simp only [List.length_append,List.length_cons];omega
theorem ctext_code{V b:Int}{l:List UInt8}(hl:l.length=16):QdE (mkP (mkA V l) b)=some (bs (if QdO V l b=true then cidT V l b.toNat else [])):=by
 unfold QdE
 rw [Qdv hl,Qf]
 cases hr:QdO V l b with
 | false=>rw [if_pos (show (!false)=true from rfl)];rfl
 | true =>
  obtain ⟨⟨hrl,h0,h1⟩,_⟩:=Qc9.1 hr
  have hw:=QdR (V:=V) (l:=l)
  obtain ⟨k,rfl⟩:=Int.eq_ofNat_of_zero_le h0
  have ht:=adrT_len (V:=V) hl
  have hd:=QdW k (by omega)
  have b47:(⟨#[47]⟩:ByteArray)=bs [47]:=rfl
  rw [if_neg (show ¬ (!true)=true by decide),if_pos rfl,Int.toNat_natCast]
  show (QeI (mkA V l)>>=fun t4=>if t4.size+(⟨#[47]⟩:ByteArray).size≤140737488355328 then QcN (wr .u64 (k:Int))>>=fun t6=>if (t4++(⟨#[47]⟩:ByteArray)).size+t6.size≤140737488355328 then some ((t4++(⟨#[47]⟩:ByteArray))++t6) else none else none)=_
  rw [addr_text hl,Qf,b47,if_pos (by rw [Qb3,Qb3];simp only [List.length_cons,List.length_nil];omega),Qeg (by omega) (by omega),text_code k (by omega),Qf,fmtU_bs,bs_app,if_pos (by rw [Qb3,Qb3,List.length_append];simp only [List.length_cons,List.length_nil];omega),bs_app]
  unfold cidT
  rw [List.append_assoc];rfl
theorem ctext_ref{V b:Int}{l:List UInt8}(hl:l.length=16):Qbv (mkP (mkA V l) b)=some (bs (if QdO V l b=true then cidT V l b.toNat else [])):=by
 unfold Qbv
 rw [Qd2 hl,Qf]
 cases hr:QdO V l b with
 | false=>rw [if_pos (show (!false)=true from rfl)];rfl
 | true =>
  obtain ⟨⟨hrl,h0,h1⟩,_⟩:=Qc9.1 hr
  have hw:=QdR (V:=V) (l:=l)
  obtain ⟨k,rfl⟩:=Int.eq_ofNat_of_zero_le h0
  have ht:=adrT_len (V:=V) hl
  have hd:=QdW k (by omega)
  have b47:(⟨#[47]⟩:ByteArray)=bs [47]:=rfl
  rw [if_neg (show ¬ (!true)=true by decide),if_pos rfl,Int.toNat_natCast]
  show (Qb1 (mkA V l)>>=fun t4=>if t4.size+(⟨#[47]⟩:ByteArray).size≤140737488355328 then Qbj (wr .u64 (k:Int))>>=fun t6=>if (t4++(⟨#[47]⟩:ByteArray)).size+t6.size≤140737488355328 then some ((t4++(⟨#[47]⟩:ByteArray))++t6) else none else none)=_
  rw [ref_text10 hl,Qf,b47,if_pos (by rw [Qb3,Qb3];simp only [List.length_cons,List.length_nil];omega),Qeg (by omega) (by omega),text_ref k (by omega),Qf,fmtU_bs,bs_app,if_pos (by rw [Qb3,Qb3,List.length_append];simp only [List.length_cons,List.length_nil];omega),bs_app]
  unfold cidT
  rw [List.append_assoc];rfl
end Go.Proofs.YtahlbjmafceoeaaGreatDoor.Cid
namespace Go.Proofs.YtahlbjmafceoeaaGreatDoor.Host
open E Go.RowKit
open Adr AdrT
def six(l:List UInt8):Bool:=l.head? == some 91
def mkE(A:Qh)(n:Int):Qav:={ f_A:=A,f_Port:=n }
end Go.Proofs.YtahlbjmafceoeaaGreatDoor.Host
namespace Go.Proofs.YtahlbjmafceoeaaGreatDoor.Six
open E Go.RowKit
open Hex (str str_size Qc8)
def sgn:List UInt8:=[65,66,67,68,69,70,71,72,73,74,75,76,77,78,79,80,81,82,83,84,85,86,87,88,89,90,97,98,99,100,101,102,103,104,105,106,107,108,109,110,111,112,113,114,115,116,117,118,119,120,121,122,48,49,50,51,52,53,54,55,56,57,43,47]
def sg(n:Nat):UInt8:=sgn.getD n 0
abbrev tab:ByteArray:=(⟨#[65,66,67,68,69,70,71,72,73,74,75,76,77,78,79,80,81,82,83,84,85,86,87,88,89,90,97,98,99,100,101,102,103,104,105,106,107,108,109,110,111,112,113,114,115,116,117,118,119,120,121,122,48,49,50,51,52,53,54,55,56,57,43,47]⟩:ByteArray)
theorem tab_size:tab.size=64:=rfl
theorem tab_bt(n:Nat)(h:n<64):bt tab n=(sg n).toNat:=by
 have:∀ n:Fin 64,bt tab (n.1:Int)=(sg n.1).toNat:=by decide +kernel
 exact this ⟨n,h⟩
theorem tab_ext(n:Nat)(h:n<64):tab.extract n (n+1)=str [sg n]:=by
 have:∀ n:Fin 64,tab.extract n.1 (n.1+1)=str [sg n.1]:=by decide +kernel
 exact this ⟨n,h⟩
def gX(l:List UInt8):Nat:=(l.getD 0 0).toNat*65536+(l.getD 1 0).toNat*256+(l.getD 2 0).toNat
def sx(X i:Nat):UInt8:=sg (X/2 ^ (18-6*i)%64)
theorem gX_lt(l:List UInt8):gX l<2 ^ 24:=by
 have h0:=(l.getD 0 0).toNat_lt
 have h1:=(l.getD 1 0).toNat_lt
 have h2:=(l.getD 2 0).toNat_lt
 unfold gX;omega
def sgs(X:Nat):Nat→Nat→List UInt8
 | _,0=>[]
 | i,k+1=>sx X i::sgs X (i+1) k
def grpS(l:List UInt8):List UInt8:=sgs (gX l) 0 (min l.length 3+1)
def enc(l:List UInt8):List UInt8:=if h:l=[] then [] else grpS l++enc (l.drop 3)
termination_by l.length
decreasing_by
 have:0<l.length:=List.length_pos_iff.2 h
 simp;omega
def encP(l:List UInt8):List UInt8:=if h:l=[] then [] else (grpS l++List.replicate (3-min l.length 3) 61)++encP (l.drop 3)
termination_by l.length
decreasing_by
 have:0<l.length:=List.length_pos_iff.2 h
 simp;omega
theorem sgs_length(X:Nat):∀ i k,(sgs X i k).length=k
 | _,0=>rfl
 | i,k+1=>by simp [sgs,sgs_length X (i+1) k]
theorem or_add(x b k:Nat)(hb:b<2 ^ k):x*2 ^ k ||| b=x*2 ^ k+b:=by
 rw [show x*2 ^ k=x <<< k by rw [Nat.shiftLeft_eq],←Nat.shiftLeft_add_eq_or_of_lt hb]
theorem lget_ob'(l:List UInt8)(i:Nat)(h:i<l.length):lget (ob l) i=(l.getD i 0).toNat:=by
 have:l[i]? = some l[i]:=List.getElem?_eq_getElem h
 rw [lget_ob l i _ this,List.getD_eq_getElem?_getD,this];rfl
theorem min_eq(l:List UInt8):(if 3<((ob l).length:Int) then (3:Int) else ((ob l).length:Int))=((min l.length 3:Nat):Int):=by
 rw [Qbh]
 split<;>omega
theorem l1_step(l:List UInt8)(o:ByteArray)(x i:Nat)(hi:i<3)(hx:x<2 ^ (8*i)) :
  Q3.l1 (ob l) o x i=Q3.l1 (ob l) o ((x*256+(l.getD i 0).toNat:Nat):Int) ((i+1:Nat):Int):=by
 have hx':x<2 ^ 16:=Nat.lt_of_lt_of_le hx (Nat.pow_le_pow_right (by decide) (by omega))
 have e1:wr .i64 ((i:Int)+1)=((i+1:Nat):Int):=by rw [Qam (by omega) (by omega)];omega
 have e2:ishl .u32 (x:Int) 8=((x*256:Nat):Int):=by
  rw [show (8:Int)=((8:Nat):Int) from rfl,ishl_nat .u32 rfl x 8 (by decide),Nat.mod_eq_of_lt (by show x*2 ^ 8<2 ^ 32;omega)]
 have c1:decide ((i:Int)<3)=true:=by simp;omega
 rw [Q3.l1.eq_def,min_eq,e1,e2]
 by_cases h:i<l.length
 ·have c2:decide ((i:Int)<((min l.length 3:Nat):Int))=true:=by simp;omega
  have c3:(0:Int)≤(i:Int)∧(i:Int)<((ob l).length:Int):=by rw [Qbh];omega
  have hb:=(l.getD i 0).toNat_lt
  have e3:wr .u32 (lget (ob l) i)=(((l.getD i 0).toNat:Nat):Int):=by rw [lget_ob' l i h,wr_u32 (by omega) (by omega)]
  have e4:ior .u32 ((x*256:Nat):Int) (((l.getD i 0).toNat:Nat):Int)=((x*256+(l.getD i 0).toNat:Nat):Int):=by
   rw [ior_nat .u32 rfl _ _ (by show x*256<2 ^ 32;omega) (by show (l.getD i 0).toNat<2 ^ 32;omega)]
   rw [or_add x _ 8 hb]
  simp only [c1,c2,c3,e3,e4,↓reduceIte,and_self]
 ·have c2:decide ((i:Int)<((min l.length 3:Nat):Int))=false:=by simp;omega
  have h0:l.getD i 0=0:=by rw [List.getD_eq_getElem?_getD,List.getElem?_eq_none (by omega)];rfl
  simp only [c1,c2,h0,↓reduceIte,Bool.false_eq_true,UInt8.toNat_zero,Nat.add_zero]
theorem l1_eq(l:List UInt8)(o:ByteArray):Q3.l1 (ob l) o 0 0=some ((gX l:Int),o):=by
 have h0:=(l.getD 0 0).toNat_lt
 have h1:=(l.getD 1 0).toNat_lt
 have s0:=l1_step l o 0 0 (by omega) (by decide)
 have s1:=l1_step l o (0*256+(l.getD 0 0).toNat) 1 (by omega) (by omega)
 have s2:=l1_step l o ((0*256+(l.getD 0 0).toNat)*256+(l.getD 1 0).toNat) 2 (by omega) (by omega)
 have s3:Q3.l1 (ob l) o ((((0*256+(l.getD 0 0).toNat)*256+(l.getD 1 0).toNat)*256+(l.getD 2 0).toNat:Nat):Int) ((2+1:Nat):Int)=some ((gX l:Int),o):=by
  rw [Q3.l1.eq_def,if_neg (by decide)]
  have:((0*256+(l.getD 0 0).toNat)*256+(l.getD 1 0).toNat)*256+(l.getD 2 0).toNat=gX l:=by unfold gX;omega
  rw [this]
 exact s0.trans (s1.trans (s2.trans s3))
theorem sh18(i:Nat)(h:i≤3):wr .u64 (wr .i64 (18-(wr .i64 (6*(i:Int)))))=((18-6*i:Nat):Int):=by
 have:∀ i:Fin 4,wr .u64 (wr .i64 (18-(wr .i64 (6*(i.1:Int)))))=((18-6*i.1:Nat):Int):=by decide +kernel
 exact this ⟨i,by omega⟩
theorem and63(X i:Nat)(hX:X<2 ^ 24):iand .u32 (ishr .u32 (X:Int) ((18-6*i:Nat):Int)) 63=((X/2 ^ (18-6*i)%64:Nat):Int):=by
 rw [Qej .u32 X (18-6*i) (by show 18-6*i≤32;omega),show (63:Int)=((63:Nat):Int) from rfl]
 have:X/2 ^ (18-6*i)≤X:=Nat.div_le_self _ _
 rw [iand_nat .u32 rfl _ 63 (by show X/2 ^ (18-6*i)<2 ^ 32;omega) (by decide),Nat.and_two_pow_sub_one_eq_mod _ 6]
theorem l2_eq(l:List UInt8)(q:ByteArray)(k:Nat):∀ (i:Nat) (o:ByteArray),i+k=min l.length 3+1→o.size+k≤1000000 →
  Q3.l2 (ob l) ((gX l:Int),q) i o=some (o++str (sgs (gX l) i k)):=by
 induction k with
 | zero =>
  intro i o hi ho
  have c0:wr .i64 (((min l.length 3:Nat):Int)+1)=((min l.length 3+1:Nat):Int):=by rw [Qam (by omega) (by omega)];omega
  have c1:decide ((i:Int)<((min l.length 3+1:Nat):Int))=false:=by simp;omega
  rw [Q3.l2.eq_def,min_eq,c0]
  simp only [c1,Bool.false_eq_true,↓reduceIte,sgs]
  congr 1;apply ByteArray.ext;simp [str]
 | succ k ih =>
  intro i o hi ho
  have c0:wr .i64 (((min l.length 3:Nat):Int)+1)=((min l.length 3+1:Nat):Int):=by rw [Qam (by omega) (by omega)];omega
  have c1:decide ((i:Int)<((min l.length 3+1:Nat):Int))=true:=by simp;omega
  have e0:wr .i64 ((i:Int)+1)=((i+1:Nat):Int):=by rw [Qam (by omega) (by omega)];omega
  have hm:gX l/2 ^ (18-6*i)%64<64:=Nat.mod_lt _ (by decide)
  have hl:=(sg (gX l/2 ^ (18-6*i)%64)).toNat_lt
  rw [Q3.l2.eq_def,min_eq,c0]
  simp only [c1,e0,↓reduceIte,sh18 i (by omega),and63 _ _ (gX_lt l),tab_bt _ hm,tab_size]
  rw [if_pos (by omega),if_pos (by omega),if_pos (by omega),if_pos (by omega),Int.toNat_natCast,UInt8.ofNat_toNat,ih (i+1) _ (by omega) (by rw [ByteArray.size_push];omega)]
  congr 1
  apply ByteArray.ext
  simp [sgs,str,sx,ByteArray.data_append]
theorem pad_eq(n:Nat)(h:n≤3):brep (⟨#[61]⟩:ByteArray) (wr .i64 (3-(n:Int)))=str (List.replicate (3-n) 61):=by
 have:∀ n:Fin 4,brep (⟨#[61]⟩:ByteArray) (wr .i64 (3-(n.1:Int)))=str (List.replicate (3-n.1) 61):=by decide +kernel
 exact this ⟨n,by omega⟩
theorem lsub_ob(l:List UInt8)(n:Nat):lsub (ob l) (n:Int) (((ob l).length:Nat):Int)=ob (l.drop n):=by
 unfold lsub
 rw [Int.toNat_natCast,Int.toNat_natCast,List.take_length]
 simp [ob]
theorem l0_eq(l:List UInt8):∀ o:ByteArray,o.size+4*l.length≤100000→Q3.l0 (ob l) o=some (o++str (encP l)):=by
 generalize hn:l.length=n
 induction n using Nat.strongRecOn generalizing l with
 | _ n ih =>
  intro o ho
  rw [Q3.l0.eq_def,encP]
  by_cases h:l=[]
  ·subst h
   have c1:decide (((ob []).length:Int)>0)=false:=rfl
   simp only [c1,↓reduceIte,Bool.false_eq_true,dif_pos]
   congr 1;apply ByteArray.ext;simp [str]
  ·have hl:0<l.length:=List.length_pos_iff.2 h
   have c1:decide (((ob l).length:Int)>0)=true:=by rw [Qbh];simp;omega
   have e3:wr .i64 (3-((min l.length 3:Nat):Int))=((3-min l.length 3:Nat):Int):=by rw [Qam (by omega) (by omega)];omega
   have hp:=pad_eq (min l.length 3) (by omega)
   rw [e3] at hp
   have hz:((⟨#[61]⟩:ByteArray).size:Int)=1:=rfl
   have hlen:((ob l).length:Int)=(l.length:Int):=by rw [Qbh]
   simp only [min_eq,l1_eq,Qf,↓reduceIte,dif_neg h]
   rw [if_pos c1]
   rw [show (0:Int)=((0:Nat):Int) from rfl,l2_eq l o (min l.length 3+1) 0 o (by omega) (by omega)]
   simp only [Qf,e3,hp,hz]
   have hsz:(str (sgs (gX l) 0 (min l.length 3+1))).size=min l.length 3+1:=by rw [str_size,sgs_length]
   have hsp:(str (List.replicate (3-min l.length 3) 61)).size=3-min l.length 3:=by rw [str_size,List.length_replicate]
   rw [if_pos (by omega),if_pos (by rw [ByteArray.size_append,hsz,hsp];omega),if_pos (by rw [Qbh];omega)]
   rw [lsub_ob]
   have hd:l.drop (min l.length 3)=l.drop 3:=by
    by_cases h3:l.length≤3
    ·rw [Nat.min_eq_left h3,List.drop_eq_nil_of_le (Nat.le_refl _),List.drop_eq_nil_of_le h3]
    ·rw [Nat.min_eq_right (by omega)]
   rw [hd,ih (l.drop 3).length (by simp;omega) _ rfl _ (by rw [ByteArray.size_append,ByteArray.size_append,hsz,hsp];simp;omega)]
   congr 1
   rw [Qc8,Qc8]
   simp only [ByteArray.append_assoc,grpS]
theorem encode_eq(l:List UInt8)(h:l.length≤20000):Q3 (ob l)=some (str (encP l)):=by
 unfold Q3
 rw [l0_eq l ByteArray.empty (by show 0+_≤_;omega),Qf,ByteArray.empty_append]
theorem encP_enc(l:List UInt8):encP l=enc l++List.replicate ((3-l.length%3)%3) 61:=by
 generalize hn:l.length=n
 induction n using Nat.strongRecOn generalizing l with
 | _ n ih =>
  rw [encP,enc]
  by_cases h:l=[]
  ·subst h;simp at hn;subst hn;simp
  ·have hl:0<l.length:=List.length_pos_iff.2 h
   simp only [dif_neg h]
   rw [ih (l.drop 3).length (by simp;omega) _ rfl]
   by_cases h3:l.length≤3
   ·rw [List.drop_eq_nil_of_le h3,enc]
    simp only [dif_pos,List.length_nil,List.append_nil,List.append_assoc,Nat.min_eq_left h3,Nat.zero_mod,Nat.sub_zero,Nat.mod_self,List.replicate_zero]
    congr 2
    omega
   ·rw [Nat.min_eq_right (by omega)]
    simp only [Nat.sub_self,List.replicate_zero,List.append_nil,List.append_assoc,List.length_drop]
    congr 3
    omega
theorem enc_length(l:List UInt8):(enc l).length=(4*l.length+2)/3:=by
 generalize hn:l.length=n
 induction n using Nat.strongRecOn generalizing l with
 | _ n ih =>
  rw [enc]
  by_cases h:l=[]
  ·subst h;simp at hn;subst hn;simp
  ·have hl:0<l.length:=List.length_pos_iff.2 h
   simp only [dif_neg h,List.length_append,grpS,sgs_length]
   rw [ih (l.drop 3).length (by simp;omega) _ rfl,List.length_drop]
   omega
theorem encP_length(l:List UInt8):(encP l).length=(l.length+2)/3*4:=by
 rw [encP_enc,List.length_append,enc_length,List.length_replicate];omega
end Go.Proofs.YtahlbjmafceoeaaGreatDoor.Six
namespace Go.Proofs.YtahlbjmafceoeaaGreatDoor.Six
open E Go.RowKit
open Hex (str str_size Qc8)
def bitN(l:List UInt8)(k:Nat):Nat:=(l.getD (k/8) 0).toNat/2 ^ (7-k%8)%2
theorem tdiv2(x:Nat)(h:x<2 ^ 60):wr .i64 (Int.tdiv (x:Int) 2)=((x/2:Nat):Int):=by
 rw [Int.tdiv_eq_ediv_of_nonneg (by omega),Qam (by omega) (by omega)];omega
theorem bit_l0(k:Nat)(f:Nat):∀ (v j:Nat),k%8+f=j→j≤7→v<256→Qa6.l0 (k:Int) (v:Int) (j:Int)=some ((v/2 ^ f:Nat):Int):=by
 have e0:Int.tmod (k:Int) 8=((k%8:Nat):Int):=by rw [Int.tmod_eq_emod_of_nonneg (by omega)];omega
 induction f with
 | zero =>
  intro v j hj h7 hv
  have c1:decide ((j:Int)>((k%8:Nat):Int))=false:=by simp;omega
  rw [Qa6.l0.eq_def,e0]
  simp only [c1,Bool.false_eq_true,↓reduceIte,Nat.pow_zero,Nat.div_one]
 | succ f ih =>
  intro v j hj h7 hv
  have c1:decide ((j:Int)>((k%8:Nat):Int))=true:=by simp;omega
  have e1:wr .i64 ((j:Int)-1)=((j-1:Nat):Int):=by rw [Qam (by omega) (by omega)];omega
  rw [Qa6.l0.eq_def,e0]
  simp only [c1,↓reduceIte,tdiv2 v (by omega),e1]
  rw [ih (v/2) (j-1) (by omega) (by omega) (by omega),Nat.div_div_eq_div_mul,←Nat.pow_succ']
theorem bit_eq(l:List UInt8)(k:Nat)(h:k<8*l.length)(hl:l.length<100000):Qa6 (ob l) (k:Int)=some ((bitN l k:Nat):Int):=by
 unfold Qa6
 have e1:wr .i64 (Int.tdiv (k:Int) 8)=((k/8:Nat):Int):=by
  rw [Int.tdiv_eq_ediv_of_nonneg (by omega),Qam (by omega) (by omega)];omega
 have hb:=(l.getD (k/8) 0).toNat_lt
 rw [e1,if_pos (by rw [Qbh];omega),lget_ob' l (k/8) (by omega),Qam (by omega) (by omega)]
 rw [show (7:Int)=((7:Nat):Int) from rfl,bit_l0 k (7-k%8) _ 7 (by omega) (by omega) hb,Qf,Int.tmod_eq_emod_of_nonneg (Int.natCast_nonneg _)]
 rfl
def bitP(l:List UInt8)(k:Nat):Nat:=if k<8*l.length then bitN l k else 0
theorem Qeb(l:List UInt8)(k:Nat):bitP l k<2:=by
 unfold bitP bitN;split<;>omega
theorem e8(l:List UInt8)(hl:l.length<100000):wr .i64 (8*((ob l).length:Int))=((8*l.length:Nat):Int):=by
 rw [Qbh,Qam (by omega) (by omega)];omega
theorem e6(i:Nat)(h:i<1000000):wr .i64 ((i:Int)+6)=((i+6:Nat):Int):=by
 rw [Qam (by omega) (by omega)];omega
theorem QfV(l:List UInt8)(hl:l.length<100000)(i n k:Nat)(hk:k<i+6)(hi:i<1000000)(hn:n<1000) :
  QH.l1 (ob l) i n k=QH.l1 (ob l) i ((2*n+bitP l k:Nat):Int) ((k+1:Nat):Int):=by
 have c1:decide ((k:Int)<((i+6:Nat):Int))=true:=by simp;omega
 have e1:wr .i64 ((k:Int)+1)=((k+1:Nat):Int):=by rw [Qam (by omega) (by omega)];omega
 have e2:wr .i64 (2*(n:Int))=((2*n:Nat):Int):=by rw [Qam (by omega) (by omega)];omega
 rw [QH.l1.eq_def,e6 i hi,e8 l hl,e1,e2]
 unfold bitP
 by_cases h:k<8*l.length
 ·have c2:decide ((k:Int)<((8*l.length:Nat):Int))=true:=by simp;omega
  have hb:bitN l k<2:=by unfold bitN;omega
  have e3:wr .i64 (((2*n:Nat):Int)+((bitN l k:Nat):Int))=((2*n+bitN l k:Nat):Int):=by rw [Qam (by omega) (by omega)];omega
  simp only [c1,c2,↓reduceIte,bit_eq l k h hl,Qf,e3,if_pos h]
 ·have c2:decide ((k:Int)<((8*l.length:Nat):Int))=false:=by simp;omega
  simp only [c1,c2,↓reduceIte,Bool.false_eq_true,if_neg h,Nat.add_zero]
def six(l:List UInt8)(i:Nat):Nat:=32*bitP l i+16*bitP l (i+1)+8*bitP l (i+2)+4*bitP l (i+3)+2*bitP l (i+4)+bitP l (i+5)
theorem six_lt(l:List UInt8)(i:Nat):six l i<64:=by
 have h0:=Qeb l i
 have h1:=Qeb l (i+1)
 have h2:=Qeb l (i+2)
 have h3:=Qeb l (i+3)
 have h4:=Qeb l (i+4)
 have h5:=Qeb l (i+5)
 unfold six;omega
theorem rl1_eq(l:List UInt8)(hl:l.length<100000)(i:Nat)(hi:i<1000000):QH.l1 (ob l) i 0 i=some ((six l i:Nat):Int):=by
 have h0:=Qeb l i
 have h1:=Qeb l (i+1)
 have h2:=Qeb l (i+2)
 have h3:=Qeb l (i+3)
 have h4:=Qeb l (i+4)
 have s0:=QfV l hl i 0 i (by omega) hi (by omega)
 have s1:=QfV l hl i (2*0+bitP l i) (i+1) (by omega) hi (by omega)
 have s2:=QfV l hl i (2*(2*0+bitP l i)+bitP l (i+1)) (i+2) (by omega) hi (by omega)
 have s3:=QfV l hl i (2*(2*(2*0+bitP l i)+bitP l (i+1))+bitP l (i+2)) (i+3) (by omega) hi (by omega)
 have s4:=QfV l hl i (2*(2*(2*(2*0+bitP l i)+bitP l (i+1))+bitP l (i+2))+bitP l (i+3)) (i+4) (by omega) hi (by omega)
 have s5:=QfV l hl i (2*(2*(2*(2*(2*0+bitP l i)+bitP l (i+1))+bitP l (i+2))+bitP l (i+3))+bitP l (i+4)) (i+5) (by omega) hi (by omega)
 refine s0.trans (s1.trans (s2.trans (s3.trans (s4.trans (s5.trans ?_)))))
 have c1:decide (((i+5+1:Nat):Int)<((i+6:Nat):Int))=false:=decide_eq_false (by omega)
 rw [QH.l1.eq_def,e6 i hi]
 simp only [c1,Bool.false_eq_true,↓reduceIte]
 congr 2
 unfold six;omega
def refE(l:List UInt8):Nat→Nat→List UInt8
 | 0,_=>[]
 | f+1,t=>if 6*t<8*l.length then sg (six l (6*t))::refE l f (t+1) else []
theorem rl0_eq(l:List UInt8)(hl:l.length<10000)(f:Nat):∀ (t:Nat) (o:ByteArray),8*l.length≤6*(t+f)→6*t≤8*l.length+6→o.size+f≤100000 →
  QH.l0 (ob l) o ((6*t:Nat):Int)=some (o++str (refE l f t)):=by
 have nil:∀ o:ByteArray,o=o++str []:=fun o=>by apply ByteArray.ext;simp [str]
 induction f with
 | zero =>
  intro t o h1 h3 h2
  have c1:decide (((6*t:Nat):Int)<((8*l.length:Nat):Int))=false:=by simp;omega
  rw [QH.l0.eq_def,e8 l (by omega)]
  simp only [c1,Bool.false_eq_true,↓reduceIte,refE,←nil]
 | succ f ih =>
  intro t o h1 h3 h2
  rw [QH.l0.eq_def,e8 l (by omega)]
  by_cases h:6*t<8*l.length
  ·have c1:decide (((6*t:Nat):Int)<((8*l.length:Nat):Int))=true:=by simp;omega
   have hs:=six_lt l (6*t)
   have e1:wr .i64 (((six l (6*t):Nat):Int)+1)=((six l (6*t)+1:Nat):Int):=by rw [Qam (by omega) (by omega)];omega
   have hS:Qcz=some tab:=rfl
   simp only [c1,↓reduceIte,rl1_eq l (by omega) (6*t) (by omega),Qf,hS,e1,e6 (6*t) (by omega)]
   have ht:(tab.size:Int)=64:=rfl
   rw [if_pos (by rw [ht];omega),Int.toNat_natCast,Int.toNat_natCast,tab_ext _ hs,if_pos (by rw [str_size];simp;omega)]
   rw [show 6*t+6=6*(t+1) by omega,ih (t+1) _ (by omega) (by omega) (by rw [ByteArray.size_append,str_size];simp;omega)]
   rw [refE,if_pos h,ByteArray.append_assoc,←Qc8];rfl
  ·have c1:decide (((6*t:Nat):Int)<((8*l.length:Nat):Int))=false:=by simp;omega
   simp only [c1,Bool.false_eq_true,↓reduceIte,refE,if_neg h,←nil]
theorem bitP_drop(l:List UInt8)(k:Nat):bitP l (24+k)=bitP (l.drop 3) k:=by
 unfold bitP bitN
 rw [List.length_drop]
 rw [show (24+k)/8=3+k/8 by omega,show (24+k)%8=k%8 by omega]
 have:(l.drop 3).getD (k/8) 0=l.getD (3+k/8) 0:=by simp [List.getD_eq_getElem?_getD]
 rw [this]
 by_cases h:24+k<8*l.length
 ·rw [if_pos h,if_pos (by omega)]
 ·rw [if_neg h,if_neg (by omega)]
theorem six_drop(l:List UInt8)(k:Nat):six l (24+k)=six (l.drop 3) k:=by
 unfold six
 simp only [Nat.add_assoc,bitP_drop]
theorem refE_drop(l:List UInt8)(f:Nat):∀ t,refE l f (4+t)=refE (l.drop 3) f t:=by
 induction f with
 | zero=>intro t;rfl
 | succ f ih =>
  intro t
  rw [refE,refE,List.length_drop]
  rw [show 4+t+1=4+(t+1) by omega,ih,show 6*(4+t)=24+6*t by omega,six_drop]
  by_cases h:24+6*t<8*l.length
  ·rw [if_pos h,if_pos (by omega)]
  ·rw [if_neg h,if_neg (by omega)]
theorem bitP_val(l:List UInt8)(k:Nat):bitP l k=(l.getD (k/8) 0).toNat/2 ^ (7-k%8)%2:=by
 unfold bitP bitN
 split
 ·rfl
 ·rw [List.getD_eq_getElem?_getD,List.getElem?_eq_none (by omega)];simp
theorem six_gX(l:List UInt8):∀ t,t<4→sg (six l (6*t))=sx (gX l) t:=by
 have ha:=(l.getD 0 0).toNat_lt
 have hb:=(l.getD 1 0).toNat_lt
 have hc:=(l.getD 2 0).toNat_lt
 intro t ht
 unfold sx
 congr 1
 have h:t=0∨t=1∨t=2∨t=3:=by omega
 unfold six gX
 rcases h with rfl | rfl | rfl | rfl<;>simp only [bitP_val,Nat.reduceMul,Nat.reduceAdd,Nat.reduceDiv,Nat.reduceMod,Nat.reduceSub,Nat.reducePow]<;>omega
theorem refE_enc(l:List UInt8):∀ f,(4*l.length+2)/3≤f→refE l f 0=enc l:=by
 generalize hn:l.length=n
 induction n using Nat.strongRecOn generalizing l with
 | _ n ih =>
  intro f hf
  rw [enc]
  by_cases h:l=[]
  ·subst h
   simp only [dif_pos]
   cases f with
   | zero=>rfl
   | succ f=>rw [refE,if_neg (by simp)]
  ·have hl:0<l.length:=List.length_pos_iff.2 h
   have g:=six_gX l
   have g0:=g 0 (by omega)
   have g1:=g 1 (by omega)
   have g2:=g 2 (by omega)
   have g3:=g 3 (by omega)
   simp only [Nat.mul_zero,Nat.mul_one,Nat.reduceMul] at g0 g1 g2 g3
   simp only [dif_neg h,grpS]
   by_cases h1:l.length=1
   ·obtain ⟨f,rfl⟩:∃ k,f=k+2:=⟨f-2,by omega⟩
    rw [h1,List.drop_eq_nil_of_le (by omega),enc,refE,if_pos (by omega),refE,if_pos (by omega)]
    have:refE l f 2=[]:=by
     cases f with
     | zero=>rfl
     | succ f=>rw [refE,if_neg (by omega)]
    simp only [Nat.zero_add,Nat.reduceAdd,Nat.mul_zero,Nat.mul_one,this,g0,g1,dif_pos,List.append_nil]
    rfl
   ·by_cases h2:l.length=2
    ·obtain ⟨f,rfl⟩:∃ k,f=k+3:=⟨f-3,by omega⟩
     rw [h2,List.drop_eq_nil_of_le (by omega),enc,refE,if_pos (by omega),refE,if_pos (by omega),refE,if_pos (by omega)]
     have:refE l f 3=[]:=by
      cases f with
      | zero=>rfl
      | succ f=>rw [refE,if_neg (by omega)]
     simp only [Nat.zero_add,Nat.reduceAdd,Nat.mul_zero,Nat.mul_one,Nat.reduceMul,this,g0,g1,g2,dif_pos,List.append_nil]
     rfl
    ·obtain ⟨f,rfl⟩:∃ k,f=k+4:=⟨f-4,by omega⟩
     rw [Nat.min_eq_right (by omega),refE,if_pos (by omega),refE,if_pos (by omega),refE,if_pos (by omega),refE,if_pos (by omega)]
     have:=refE_drop l f 0
     simp only [Nat.zero_add,Nat.reduceAdd,Nat.mul_zero,Nat.mul_one,Nat.reduceMul,g0,g1,g2,g3,Nat.add_zero] at this ⊢
     rw [this,ih (l.drop 3).length (by simp;omega) _ rfl f (by simp;omega)]
     rfl
theorem rl2_eq(k:Nat):∀ s:List UInt8,s.length+k≤1000000→(s.length+k)%4=0→k<4→QH.l2 (str s)=some (str (s++List.replicate k 61)):=by
 have tm:∀ n:Nat,(Int.tmod (n:Int) 4 != 0)=decide (n%4≠0):=fun n=>by
  rw [Int.tmod_eq_emod_of_nonneg (by omega)]
  by_cases h:n%4=0
  ·have:((n:Int)%4)=0:=by omega
   simp [h,this]
  ·have:¬ ((n:Int)%4)=0:=by omega
   simp [h,this]
 induction k with
 | zero =>
  intro s h1 h2 h3
  rw [QH.l2.eq_def,str_size,tm,if_neg (by simp;omega)]
  simp
 | succ k ih =>
  intro s h1 h2 h3
  rw [QH.l2.eq_def,str_size,tm,if_pos (by simp;omega)]
  have hz:(⟨#[61]⟩:ByteArray).size=1:=rfl
  have hp:str s++(⟨#[61]⟩:ByteArray)=str (s++[61]):=by rw [Qc8];rfl
  rw [hz,if_pos (by omega),hp,ih _ (by simp;omega) (by simp;omega) (by omega),List.append_assoc]
  rfl
theorem refEncode_eq(l:List UInt8)(h:l.length<5000):QH (ob l)=some (str (encP l)):=by
 unfold QH
 have h0:=rl0_eq l (by omega) ((4*l.length+2)/3) 0 (⟨#[]⟩) (by omega) (by omega) (by show 0+_≤_;omega)
 rw [show ((6*0:Nat):Int)=0 from rfl,refE_enc l _ (Nat.le_refl _)] at h0
 have e0:(⟨#[]⟩:ByteArray)++str (enc l)=str (enc l):=by apply ByteArray.ext;simp [str]
 have hm:(enc l).length+(3-l.length%3)%3=(l.length+2)/3*4:=by
  have:=encP_length l
  rw [encP_enc,List.length_append,List.length_replicate] at this
  exact this
 rw [h0,Qf,e0,rl2_eq ((3-l.length%3)%3) (enc l) (by omega) (by rw [hm];omega) (by omega),Qf,encP_enc]
end Go.Proofs.YtahlbjmafceoeaaGreatDoor.Six
namespace Go.Proofs.YtahlbjmafceoeaaGreatDoor.Key
open E Go.RowKit
open Hex (str str_size Qc8)
theorem vget_nat{m:Nat}(v:Vector Int m)(i:Nat)(h:i<m):vget v (i:Int)=v[i]:=by
 unfold vget;rw [Int.toNat_natCast];simp [List.getD_eq_getElem?_getD,h]
def IsB{m:Nat}(v:Vector Int m):Prop:=∀ n∈v.toList,(Lit.int .u8 n).wf=true
theorem IsB.ob{m:Nat}{v:Vector Int m}(h:IsB v):∃ l:List UInt8,v.toList=ob l∧l.length=m:=by
 obtain ⟨l,hl⟩:=exists_ob v.toList h
 refine ⟨l,hl,?_⟩
 have:=congrArg List.length hl
 rw [Qbh,Vector.length_toList] at this
 exact this.symm
end Go.Proofs.YtahlbjmafceoeaaGreatDoor.Key
namespace Go.Proofs.YtahlbjmafceoeaaGreatDoor.Key
open E Go.RowKit
open Hex (str str_size Qc8)
theorem bytes_l0(v:Vector Int 32)(f:Nat):∀ i:Nat,i+f=32→QaL.l0 v (v.toList.take i) i=some v.toList:=by
 induction f with
 | zero =>
  intro i hi
  obtain rfl:i=32:=by omega
  rw [QaL.l0.eq_def,if_neg (by decide),List.take_of_length_le (by simp)]
 | succ f ih =>
  intro i hi
  have e1:wr .i64 ((i:Int)+1)=((i+1:Nat):Int):=by rw [Qam (by omega) (by omega)];omega
  have e2:v.toList.take i++[vget v (i:Int)]=v.toList.take (i+1):=by
   rw [vget_nat v i (by omega),List.take_add_one]
   simp [show i<32 by omega]
  rw [QaL.l0.eq_def,if_pos (decide_eq_true (by omega)),if_pos (by omega),if_pos (by simp;omega),e1,e2,ih (i+1) (by omega)]
theorem bytes_eq(v:Vector Int 32):QaL v=some v.toList:=by
 unfold QaL
 have:=bytes_l0 v 32 0 rfl
 rw [show ((0:Nat):Int)=0 from rfl,List.take_zero] at this
 rw [this,Qf]
end Go.Proofs.YtahlbjmafceoeaaGreatDoor.Key
namespace Go.Proofs.YtahlbjmafceoeaaGreatDoor.Host
open E Go.RowKit
open Adr AdrT
theorem exists_mkE(a:Qav)(h:Qde a):∃ V l n,a=mkE (mkA V l) n∧l.length=16∧(Lit.int .i64 n).wf=true:=by
 obtain ⟨V,l,hA,hl,_⟩:=exists_mkA a.f_A h.1
 refine ⟨V,l,a.f_Port,?_,hl,h.2⟩
 cases a with | mk A n =>
 simp only at hA
 subst hA;rfl
def rightE(V:Int)(l:List UInt8)(n:Int):Bool:=QbP V l&&(decide (1≤n)&&decide (n≤65535))
theorem right_code12{V n:Int}{l:List UInt8}(hl:l.length=16):Qcm (mkE (mkA V l) n)=some (rightE V l n):=by
 unfold Qcm rightE
 show (QbN (mkA V l)>>=fun t2=>if t2=true then (if decide (n≥1)=true then some (decide (n≤65535)) else some false) else some false)=_
 rw [right_code hl,Qf]
 cases QbP V l with
 | false=>rfl
 | true =>
  rw [if_pos rfl]
  by_cases h:1≤n
  ·rw [if_pos (decide_eq_true h),decide_eq_true h];rfl
  ·rw [if_neg (by rw [decide_eq_true_eq];exact h),decide_eq_false h];rfl
theorem right_ref12{V n:Int}{l:List UInt8}(hl:l.length=16):QbT (mkE (mkA V l) n)=some (rightE V l n):=by
 unfold QbT rightE
 show (QV (mkA V l)>>=fun t2=>if t2=true then (if decide (n≥1)=true then some (decide (n≤65535)) else some false) else some false)=_
 rw [Qdy hl,Qf]
 cases QbP V l with
 | false=>rfl
 | true =>
  rw [if_pos rfl]
  by_cases h:1≤n
  ·rw [if_pos (decide_eq_true h),decide_eq_true h];rfl
  ·rw [if_neg (by rw [decide_eq_true_eq];exact h),decide_eq_false h];rfl
end Go.Proofs.YtahlbjmafceoeaaGreatDoor.Host
namespace Go.Proofs.YtahlbjmafceoeaaGreatDoor
open E Go.RowKit _root_.Go.Proofs.Tryz
theorem infoA238_is:(Tryz.prog.info? 38).isSome=true:=by kernel_rfl
noncomputable def infoA238_v:TypeInfo:=(Tryz.prog.info? 38).get infoA238_is
theorem infoA238:Tryz.prog.info? 38=some infoA238_v:=(Option.some_get _).symm
def QcT(x0:QF):Option (Bool) :=
 QbN x0.f_From>>=fun t2=>if t2=true then (QbN x0.f_To>>=fun t4=>if t4=true then (if (x0.f_From.f_V==x0.f_To.f_V)=true then (Qct x0.f_To x0.f_From>>=fun t7=>some (!t7)) else (some false)) else (some false)) else (some false)
theorem aggregate_Right_ok(x0:QF)(r:Bool)(hF:QcT x0=some r)(w:World) :
    Calls Tryz.prog 106 #[.agg (Cd.cs Qu x0).toArray] w (fun e w'=>e=.returned (.bool r)∧Below w.heap.size w w'):=by
 unfold QcT at hF
 refine ce (l:=[.agg (Cd.cs Qu x0).toArray]) func106 rfl rfl ?_
 refine QN ?_
 refine sr ?_
 refine Qag (cs:=Cd.cs Qu x0) rfl rfl rfl ?_
 intro b1
 refine aa (nwx [1] ?_)
 refine fa 0 underlying112 rfl sizeOf36 ?_
 refine aw (Qe (c:=Qb) (z:=x0.f_From) isAgg36 sizeOf36 rfl (Qp .z (Lens.comp lw (fun z=>{ x0 with f_From:=z }) (Qba x0)))) ?_
 obtain ⟨t2,ht2,hF⟩:=bM hF
 refine cB func71 rfl (fun w hw=>Qcl _ _ ht2 w) ?_
 refine am ?_
 obtain ⟨h3,hF⟩|⟨h3,hF⟩:=oi hF
 ·refine fx 6 h3 ?_
  refine gy ?_
  refine fa 17 underlying112 rfl sizeOf36 ?_
  refine gy ?_
  refine aw (Qe (c:=Qb) (z:=x0.f_To) isAgg36 sizeOf36 rfl (Qp .z (Lens.comp lw (fun z=>{ x0 with f_To:=z }) (QaS x0)))) ?_
  refine gy ?_
  obtain ⟨t4,ht4,hF⟩:=bM hF
  refine cB func71 rfl (fun w hw=>Qcl _ _ ht4 w) ?_
  refine aw xp (am ?_)
  obtain ⟨h5,hF⟩|⟨h5,hF⟩:=oi hF
  ·refine fx 11 h5 ?_
   refine gy ?_
   refine fa 0 underlying112 rfl sizeOf36 ?_
   refine gy ?_
   refine fa 0 underlying36 rfl sizeOf3 ?_
   refine gy ?_
   refine aw (Ql isAgg3 rfl (Qr (c:=(cInt .i64)) (y:=x0.f_From.f_V) .z (Lens.comp (Lens.comp lw (fun z=>{ x0 with f_From:=z }) (Qba x0)) (fun z=>{ x0.f_From with f_V:=z }) (QY x0.f_From)) rfl)) ?_
   refine gy ?_
   refine fa 17 underlying112 rfl sizeOf36 ?_
   refine gy ?_
   refine fa 0 underlying36 rfl sizeOf3 ?_
   refine gy ?_
   refine aw (Ql isAgg3 rfl (Qr (c:=(cInt .i64)) (y:=x0.f_To.f_V) .z (Lens.comp (Lens.comp lw (fun z=>{ x0 with f_To:=z }) (QaS x0)) (fun z=>{ x0.f_To with f_V:=z }) (QY x0.f_To)) rfl)) ?_
   refine gy ?_
   refine aw xq (aw xp (am ?_))
   obtain ⟨h6,hF⟩|⟨h6,hF⟩:=oi hF
   ·refine fx 20 h6 ?_
    refine gy ?_
    refine fa 17 underlying112 rfl sizeOf36 ?_
    refine gy ?_
    refine aw (Qe (c:=Qb) (z:=x0.f_To) isAgg36 sizeOf36 rfl (Qp .z (Lens.comp lw (fun z=>{ x0 with f_To:=z }) (QaS x0)))) ?_
    refine gy ?_
    refine fa 0 underlying112 rfl sizeOf36 ?_
    refine gy ?_
    refine aw (Qe (c:=Qb) (z:=x0.f_From) isAgg36 sizeOf36 rfl (Qp .z (Lens.comp lw (fun z=>{ x0 with f_From:=z }) (Qba x0)))) ?_
    refine gy ?_
    obtain ⟨t7,ht7,hF⟩:=bM hF
    refine cB func92 rfl (fun w hw=>Qdc _ _ _ ht7 w) ?_
    refine gy ?_
    refine aw (r_not rfl) ?_
    refine aw xp (aa (qn (dz (wq [2] ?_))))
    refine tn (qt ?_)
    have K:=os hF
    subst K
    exact r1 wb
   refine fx 20 h6 ?_
   refine gn ?_
   refine gn ?_
   refine gn ?_
   refine gn ?_
   refine gn ?_
   refine gn ?_
   refine aw xp (aa (qn (dz (wq [2] ?_))))
   refine tn (qt ?_)
   have K:=os hF
   subst K
   exact r1 wb
  refine fx 11 h5 ?_
  refine gn ?_
  refine gn ?_
  refine gn ?_
  refine gn ?_
  refine gn ?_
  refine gn ?_
  refine gn ?_
  refine aw xp (am ?_)
  refine gn ?_
  refine gn ?_
  refine gn ?_
  refine gn ?_
  refine gn ?_
  refine gn ?_
  refine aw xp (aa (qn (dz (wq [2] ?_))))
  refine tn (qt ?_)
  have K:=os hF
  subst K
  exact r1 wb
 refine fx 6 h3 ?_
 refine gn ?_
 refine gn ?_
 refine gn ?_
 refine aw xp (am ?_)
 refine gn ?_
 refine gn ?_
 refine gn ?_
 refine gn ?_
 refine gn ?_
 refine gn ?_
 refine gn ?_
 refine aw xp (am ?_)
 refine gn ?_
 refine gn ?_
 refine gn ?_
 refine gn ?_
 refine gn ?_
 refine gn ?_
 refine aw xp (aa (qn (dz (wq [2] ?_))))
 refine tn (qt ?_)
 have K:=os hF
 subst K
 exact r1 wb
def Qbc.l0(i5:Int)(i6:Qh):Option (Ctl (Qh×Bool) (Unit)) :=
 if (decide (i5≥0))=true then (if (0:Int)≤i5∧i5<16 then if (0:Int)≤i5∧i5<16 then if (0:Int)≤i5∧i5<16 then if (vget (({ i6 with f_B:=vset i6.f_B i5 (wr .u8 ((vget i6.f_B i5)+1)) }).f_B) i5 != (0:Int))=true then (some (.ret ({ i6 with f_B:=vset i6.f_B i5 (wr .u8 ((vget i6.f_B i5)+1)) },true))) else (Qbc.l0 (wr .i64 (i5-1)) ({ i6 with f_B:=vset i6.f_B i5 (wr .u8 ((vget i6.f_B i5)+1)) })) else none else none else none) else (some (.nx ()))
 partial_fixpoint
def Qbc(x0:Qh):Option (Qh×Bool) :=
 Qcj x0>>=fun t3=>Qbc.l0 (wr .i64 ((ishr .i64 t3 3)-1)) x0>>=fun q4=>match q4 with | .ret r'=>some r' | .nx sq4=>(some (({ f_V:=(0:Int),f_B:=(Vector.replicate 16 (0:Int):(Vector Int 16)) }:Qh),false))
theorem QeH(x0:Qh)(r:Qh×Bool)(hF:Qbc x0=some r)(w:World) :
    Calls Tryz.prog 108 #[.agg (Cd.cs Qb x0).toArray] w (fun e w'=>e=.returned (.tuple #[.agg (Cd.cs Qb r.1).toArray,.bool r.2])∧Below w.heap.size w w'):=by
 unfold Qbc at hF
 refine ce (l:=[.agg (Cd.cs Qb x0).toArray]) func108 rfl rfl ?_
 refine QN ?_
 refine sr ?_
 refine Qag (cs:=Cd.cs Qb x0) rfl rfl rfl ?_
 intro b1
 refine al (cs:=Cd.cs Qb zv1) zeroValue36 ?_
 intro b2
 refine aa (nt (qs (sr ?_)))
 refine aw (Qe (c:=Qb) (z:=x0) isAgg36 sizeOf36 rfl (Qp (.s .z) lw)) ?_
 obtain ⟨t3,ht3,hF⟩:=bM hF
 refine cB func118 rfl (fun w hw=>QcV _ _ ht3 w) ?_
 refine aw (r_ishr rfl rfl (by decide)) ?_
 refine aw (Qci rfl rfl) ?_
 refine aa (nwq [4,2,1] ?_)
 refine qb ?_
 obtain ⟨q4,hq4,hF⟩:=bM hF
 refine wq [4,2,1] ?_
 refine QbG (B:=0) (r:=r) (q:=q4) (A:=fun (_:Unit) Y=>At 27 [(2,.pointer (some ⟨b2,0,none⟩))] (Wd w [Qs b2 (Cd.cs Qb zv1) 36]) Y) ?_ ?_
 ·intro K
  refine Qbc.l0.partial_correctness  (motive:=fun i5 i6 x=>KR (fun (_:Unit) Y=>At 27 [(2,.pointer (some ⟨b2,0,none⟩))] (Wd w [Qs b2 (Cd.cs Qb zv1) 36]) Y) _ 0 r x→Round (fun Y=>At 27 [(1,.pointer (some ⟨b1,0,none⟩)),(2,.pointer (some ⟨b2,0,none⟩)),(4,.int .i64 i5)] (Wd w [Qs b2 (Cd.cs Qb zv1) 36,Qs b1 (Cd.cs Qb i6) 36]) Y) _ _ _) ?_ _ _ _ hq4 K
  ·clear K hF
   intro g ih i5 i6 x hF K
   refine QS ?_
   refine qs (sr (am ?_))
   refine aw (Qei rfl rfl) ?_
   refine nwq [10,4,2,1] ?_
   obtain ⟨h7,hF⟩|⟨h7,hF⟩:=oi hF
   ·refine ct h7 ?_
    refine sn (qs ?_)
    refine qb ?_
    refine sr (am (fa 1 underlying36 rfl sizeOf34 ?_))
    obtain ⟨h8,hF⟩:=gd hF
    refine aw (Qay underlying34 sizeOf5 rfl rfl h8) ?_
    refine aw (Ql isAgg5 rfl (Qr (c:=(cInt .u8)) (y:=vget i6.f_B i5) (.s .z) (Lens.comp (Lens.comp lw (fun z=>{ i6 with f_B:=z }) (QO i6)) (fun z=>vset i6.f_B i5 z) (Lens.vec (cInt .u8) (by decide) i6.f_B i5 h8)) rfl)) ?_
    refine aw xa (fa 1 underlying36 rfl sizeOf34 ?_)
    obtain ⟨h9,hF⟩:=gd hF
    refine aw (Qay underlying34 sizeOf5 rfl rfl h9) ?_
    refine QX (c:=(cInt .u8)) (z:=wr .u8 ((vget i6.f_B i5)+1)) (.s .z) (Lens.comp (Lens.comp lw (fun z=>{ i6 with f_B:=z }) (QO i6)) (fun z=>vset i6.f_B i5 z) (Lens.vec (cInt .u8) (by decide) i6.f_B i5 h9)) sizeOf5 rfl rfl rfl ?_
    refine ns (am (fa 1 underlying36 rfl sizeOf34 ?_))
    obtain ⟨h10,hF⟩:=gd hF
    refine aw (Qay underlying34 sizeOf5 rfl rfl h10) ?_
    refine aw (Ql isAgg5 rfl (Qr (c:=(cInt .u8)) (y:=vget (({ i6 with f_B:=vset i6.f_B i5 (wr .u8 ((vget i6.f_B i5)+1)) }).f_B) i5) (.s .z) (Lens.comp (Lens.comp lw (fun z=>{ { i6 with f_B:=vset i6.f_B i5 (wr .u8 ((vget i6.f_B i5)+1)) } with f_B:=z }) (QO ({ i6 with f_B:=vset i6.f_B i5 (wr .u8 ((vget i6.f_B i5)+1)) }))) (fun z=>vset (({ i6 with f_B:=vset i6.f_B i5 (wr .u8 ((vget i6.f_B i5)+1)) }).f_B) i5 z) (Lens.vec (cInt .u8) (by decide) (({ i6 with f_B:=vset i6.f_B i5 (wr .u8 ((vget i6.f_B i5)+1)) }).f_B) i5 h10)) rfl)) ?_
    refine aw xn (nwq [24,4,2,1] ?_)
    obtain ⟨h11,hF⟩|⟨h11,hF⟩:=oi hF
    ·refine ct h11 ?_
     refine sr ?_
     refine aw (Qe (c:=Qb) (z:={ i6 with f_B:=vset i6.f_B i5 (wr .u8 ((vget i6.f_B i5)+1)) }) isAgg36 sizeOf36 rfl (Qp (.s .z) lw)) ?_
     refine QX (c:=Qb) (z:={ i6 with f_B:=vset i6.f_B i5 (wr .u8 ((vget i6.f_B i5)+1)) }) .z lw sizeOf36 rfl rfl rfl ?_
     refine aa (qn ?_)
     refine Qal (H:=_) (.s .z) ?_
     refine wq [3,2] ?_
     refine tn (qt ?_)
     refine br (tr (tr (br (tr ?_))))
     obtain rfl:=os hF
     subst K
     exact Qe6 rfl (Qb8 (c:=Qb) (y:={ i6 with f_B:=vset i6.f_B i5 (wr .u8 ((vget i6.f_B i5)+1)) }) rfl .z lw isAgg36 sizeOf36 (.inl rfl)) (QeL rfl) wb
    refine cf h11 ?_
    refine Qaz ?_
    refine bm ?_
    refine qr (am ?_)
    refine aw (Qci rfl rfl) ?_
    refine aa (nwq [4,2,1] ?_)
    exact Qm (ih _ _ _ hF K) ⟨rfl,rfl,rfl,trivial⟩
   refine cf h7 ?_
   refine Q1 ?_
   refine te (te ?_)
   refine Qal (H:=_) (.s .z) ?_
   obtain rfl:=os hF
   exact Qm K ⟨rfl,trivial⟩
 cases q4 with
 | ret r'=>exact os hF
 | nx sq4 =>
  skip
  refine Qw ?_
  refine tn (sr ?_)
  refine aw (QW (zs:=Cd.cs Qb zv1) (cs:=Cd.cs Qb zv1) underlying36 zeroValue36 rfl (QbX) rfl rfl) ?_
  refine QX (c:=Qb) (z:=zv1) .z lw sizeOf36 rfl rfl rfl ?_
  refine aa (nwq [3,2] ?_)
  refine qt ?_
  have K:=os hF
  subst K
  exact Qe6 rfl (Qb8 (c:=Qb) (y:=zv1) rfl .z lw isAgg36 sizeOf36 (.inl rfl)) (QeL rfl) wb
def QaO.l0(x0:Qc)(t4:Int)(i6:Int)(i7:Qh):Option (Qh) :=
 if (decide (i6<ishr .i64 t4 3))=true then (if (0:Int)≤i6∧i6<16 then if (0:Int)≤wr .u64 (if 8<(if wr .i64 (x0.f_Bits-(wr .i64 (8*i6)))<0 then 0 else wr .i64 (x0.f_Bits-(wr .i64 (8*i6)))) then 8 else (if wr .i64 (x0.f_Bits-(wr .i64 (8*i6)))<0 then 0 else wr .i64 (x0.f_Bits-(wr .i64 (8*i6))))) then if (0:Int)≤i6∧i6<16 then QaO.l0 x0 t4 (wr .i64 (i6+1)) ({ i7 with f_B:=vset i7.f_B i6 (ior .u8 (vget i7.f_B i6) (ishr .u8 255 (wr .u64 (if 8<(if wr .i64 (x0.f_Bits-(wr .i64 (8*i6)))<0 then 0 else wr .i64 (x0.f_Bits-(wr .i64 (8*i6)))) then 8 else (if wr .i64 (x0.f_Bits-(wr .i64 (8*i6)))<0 then 0 else wr .i64 (x0.f_Bits-(wr .i64 (8*i6)))))))) }) else none else none else none) else (some i7)
 partial_fixpoint
def QaO(x0:Qc):Option (Qh) :=
 Qcj x0.f_A>>=fun t4=>QaO.l0 x0 t4 0 x0.f_A>>=fun q5=>some q5
theorem Qcs(x0:Qc)(r:Qh)(hF:QaO x0=some r)(w:World) :
    Calls Tryz.prog 105 #[.agg (Cd.cs Qa x0).toArray] w (fun e w'=>e=.returned (.agg (Cd.cs Qb r).toArray)∧Below w.heap.size w w'):=by
 unfold QaO at hF
 refine ce (l:=[.agg (Cd.cs Qa x0).toArray]) func105 rfl rfl ?_
 refine QN ?_
 refine sr ?_
 refine Qag (cs:=Cd.cs Qa x0) rfl rfl rfl ?_
 intro b1
 refine al (cs:=Cd.cs Qb zv1) zeroValue36 ?_
 intro b2
 refine ns (fa 0 underlying38 rfl sizeOf36 ?_)
 refine aw (Qe (c:=Qb) (z:=x0.f_A) isAgg36 sizeOf36 rfl (Qp (.s .z) (Lens.comp lw (fun z=>{ x0 with f_A:=z }) (QG x0)))) ?_
 refine al (cs:=Cd.cs Qb zv1) zeroValue36 ?_
 intro b3
 refine QX (c:=Qb) (z:=x0.f_A) .z lw sizeOf36 rfl rfl rfl ?_
 refine nt (qs (sr ?_))
 refine aw (Qe (c:=Qb) (z:=x0.f_A) isAgg36 sizeOf36 rfl (Qp .z lw)) ?_
 obtain ⟨t4,ht4,hF⟩:=bM hF
 refine cB func118 rfl (fun w hw=>QcV _ _ ht4 w) ?_
 refine aw (r_ishr rfl rfl (by decide)) ?_
 refine am (nwq [11,10,3,2,1] ?_)
 refine qb ?_
 obtain ⟨q5,hq5,hF⟩:=bM hF
 refine wq [11,10,3,2,1] ?_
 refine Q5 (B:=0) (A:=fun Y=>At 33 [(2,.pointer (some ⟨b2,0,none⟩)),(3,.pointer (some ⟨b3,0,none⟩))] (Wd w [Qs b3 (Cd.cs Qb q5) 36,Qs b2 (Cd.cs Qb zv1) 36]) Y) ?_ ?_
 ·intro K
  refine QaO.l0.partial_correctness x0 t4 (motive:=fun i6 i7 x=>KN (fun Y=>At 33 [(2,.pointer (some ⟨b2,0,none⟩)),(3,.pointer (some ⟨b3,0,none⟩))] (Wd w [Qs b3 (Cd.cs Qb x) 36,Qs b2 (Cd.cs Qb zv1) 36]) Y) _ 0→Round (fun Y=>At 33 [(1,.pointer (some ⟨b1,0,none⟩)),(2,.pointer (some ⟨b2,0,none⟩)),(3,.pointer (some ⟨b3,0,none⟩)),(10,.int .i64 (ishr .i64 t4 3)),(11,.int .i64 i6)] (Wd w [Qs b3 (Cd.cs Qb i7) 36,Qs b2 (Cd.cs Qb zv1) 36,Qs b1 (Cd.cs Qa x0) 38]) Y) _ _ _) ?_ _ _ _ hq5 K
  ·clear K hF
   intro g ih i6 i7 x hF K
   refine QS ?_
   refine sr (aw xl (nwq [12,11,10,3,2,1] ?_))
   refine qs ?_
   obtain ⟨h8,hF⟩|⟨h8,hF⟩:=oi hF
   ·refine ct h8 ?_
    refine sn (qs ?_)
    refine qb ?_
    refine sr (am (aa (ns (fa 17 underlying38 rfl sizeOf3 ?_))))
    refine aw (Ql isAgg3 rfl (Qr (c:=(cInt .i64)) (y:=x0.f_Bits) (.s (.s .z)) (Lens.comp lw (fun z=>{ x0 with f_Bits:=z }) (QE x0)) rfl)) ?_
    refine am ?_
    refine aw (Qfp rfl rfl) ?_
    refine aw (Qci rfl rfl) ?_
    refine aw (r_max rfl rfl) ?_
    refine aw (r_min rfl rfl) ?_
    refine aa (nt (qr (am (fa 1 underlying36 rfl sizeOf34 ?_))))
    obtain ⟨h9,hF⟩:=gd hF
    refine aw (Qay underlying34 sizeOf5 rfl rfl h9) ?_
    refine aw (Ql isAgg5 rfl (Qr (c:=(cInt .u8)) (y:=vget i7.f_B i6) .z (Lens.comp (Lens.comp lw (fun z=>{ i7 with f_B:=z }) (QO i7)) (fun z=>vset i7.f_B i6 z) (Lens.vec (cInt .u8) (by decide) i7.f_B i6 h9)) rfl)) ?_
    refine am ?_
    refine aw (QcY underlying3 underlying119 rfl) ?_
    obtain ⟨h10,hF⟩:=gd hF
    refine aw (r_ishr rfl rfl h10) ?_
    refine aw (r_ior rfl rfl) ?_
    refine fa 1 underlying36 rfl sizeOf34 ?_
    obtain ⟨h11,hF⟩:=gd hF
    refine aw (Qay underlying34 sizeOf5 rfl rfl h11) ?_
    refine QX (c:=(cInt .u8)) (z:=ior .u8 (vget i7.f_B i6) (ishr .u8 255 (wr .u64 (if 8<(if wr .i64 (x0.f_Bits-(wr .i64 (8*i6)))<0 then 0 else wr .i64 (x0.f_Bits-(wr .i64 (8*i6)))) then 8 else (if wr .i64 (x0.f_Bits-(wr .i64 (8*i6)))<0 then 0 else wr .i64 (x0.f_Bits-(wr .i64 (8*i6)))))))) .z (Lens.comp (Lens.comp lw (fun z=>{ i7 with f_B:=z }) (QO i7)) (fun z=>vset i7.f_B i6 z) (Lens.vec (cInt .u8) (by decide) i7.f_B i6 h11)) sizeOf5 rfl rfl rfl ?_
    refine qn (wq [11,10,3,2,1] ?_)
    refine bm ?_
    refine qr (aw xa (am (nwq [11,10,3,2,1] ?_)))
    exact Qm (ih _ _ _ hF K) ⟨rfl,rfl,rfl,rfl,rfl,trivial⟩
   refine cf h8 ?_
   refine Q1 ?_
   refine te (te ?_)
   refine Qal (H:=_) (.s (.s .z)) ?_
   obtain rfl:=os hF
   exact Qm K ⟨rfl,rfl,trivial⟩
 skip
 skip
 refine Qw ?_
 refine tn (sr ?_)
 refine aw (Qe (c:=Qb) (z:=q5) isAgg36 sizeOf36 rfl (Qp .z lw)) ?_
 refine QX (c:=Qb) (z:=q5) (.s .z) lw sizeOf36 rfl rfl rfl ?_
 refine qn (dz (wq [2] ?_))
 refine tn (qt ?_)
 have K:=os hF
 subst K
 exact Qer rfl (Qb8 (c:=Qb) (y:=q5) rfl .z lw isAgg36 sizeOf36 (.inl rfl)) wb
def Qbr.l0(x0:Qh)(i4:Int)(i5:Int):Option (Int) :=
 if (decide (i5≥0))=true then (Qf7 x0 i5>>=fun t7=>if (t7==0)=true then (Qbr.l0 x0 (wr .i64 (i4+1)) (wr .i64 (i5-1))) else (some i4)) else (some i4)
 partial_fixpoint
def Qbr(x0:Qh):Option (Int) :=
 Qcj x0>>=fun t2=>Qbr.l0 x0 0 (wr .i64 (t2-1))>>=fun q3=>some q3
theorem aggregate_low_ok(x0:Qh)(r:Int)(hF:Qbr x0=some r)(w:World) :
    Calls Tryz.prog 130 #[.agg (Cd.cs Qb x0).toArray] w (fun e w'=>e=.returned (.int .i64 r)∧Below w.heap.size w w'):=by
 unfold Qbr at hF
 refine ce (l:=[.agg (Cd.cs Qb x0).toArray]) func130 rfl rfl ?_
 refine QN ?_
 refine sr ?_
 refine Qag (cs:=Cd.cs Qb x0) rfl rfl rfl ?_
 intro b1
 refine aa (ns (aa (nt (qs (sr ?_)))))
 refine aw (Qe (c:=Qb) (z:=x0) isAgg36 sizeOf36 rfl (Qp .z lw)) ?_
 obtain ⟨t2,ht2,hF⟩:=bM hF
 refine cB func118 rfl (fun w hw=>QcV _ _ ht2 w) ?_
 refine aw (Qci rfl rfl) ?_
 refine aa (nwq [4,3,1] ?_)
 refine qb ?_
 obtain ⟨q3,hq3,hF⟩:=bM hF
 refine wq [4,3,1] ?_
 refine Q5 (B:=0) (A:=fun Y=>At 21 [(3,.int .i64 q3)] (Wd w []) Y) ?_ ?_
 ·intro K
  refine Qbr.l0.partial_correctness x0 (motive:=fun i4 i5 x=>KN (fun Y=>At 21 [(3,.int .i64 x)] (Wd w []) Y) _ 0→Round (fun Y=>At 21 [(1,.pointer (some ⟨b1,0,none⟩)),(3,.int .i64 i4),(4,.int .i64 i5)] (Wd w [Qs b1 (Cd.cs Qb x0) 36]) Y) _ _ _) ?_ _ _ _ hq3 K
  ·clear K hF
   intro g ih i4 i5 x hF K
   refine QS ?_
   refine qs (sr (am ?_))
   refine aw (Qei rfl rfl) ?_
   refine am ?_
   obtain ⟨h6,hF⟩|⟨h6,hF⟩:=oi hF
   ·refine fx 10 h6 ?_
    refine gy ?_
    refine aw (Qe (c:=Qb) (z:=x0) isAgg36 sizeOf36 rfl (Qp .z lw)) ?_
    refine gy ?_
    refine am ?_
    refine gy ?_
    obtain ⟨t7,ht7,hF⟩:=bM hF
    refine cB func164 rfl (fun w hw=>addr_Bit_ok _ _ _ ht7 w) ?_
    refine gy ?_
    refine aw xq (aw xp (nwq [15,4,3,1] ?_))
    obtain ⟨h8,hF⟩|⟨h8,hF⟩:=oi hF
    ·refine ct h8 ?_
     refine sn (qs ?_)
     refine qb ?_
     refine qr (am (aw xa (aa (qn (wq [4,3,1] ?_)))))
     refine bm ?_
     refine qr (am ?_)
     refine aw (Qci rfl rfl) ?_
     refine aa (nwq [4,3,1] ?_)
     exact Qm (ih _ _ _ hF K) ⟨rfl,rfl,rfl,trivial⟩
    refine cf h8 ?_
    refine Q1 ?_
    refine te (te ?_)
    refine dz ?_
    obtain rfl:=os hF
    exact Qm K ⟨rfl,trivial⟩
   refine fx 10 h6 ?_
   refine gn ?_
   refine gn ?_
   refine gn ?_
   refine gn ?_
   refine aw xp (nwq [15,4,3,1] ?_)
   refine cf rfl ?_
   refine Q1 ?_
   refine te (te ?_)
   refine dz ?_
   obtain rfl:=os hF
   exact Qm K ⟨rfl,trivial⟩
 skip
 skip
 refine Qw ?_
 refine tn (sr (am (aa (nwq [2] ?_))))
 refine qt ?_
 have K:=os hF
 subst K
 exact r1 wb
def Qa2.l0(x0:Qh)(x1:Qh)(i9:Int)(i10:Qc):Option (Qc) :=
 QaO i10>>=fun t11=>Qct x1 t11>>=fun t12=>if t12=true then (Qe1 x0 (wr .i64 (i9+1))>>=fun t14=>Qa2.l0 x0 x1 (wr .i64 (i9+1)) t14.1) else (some i10)
 partial_fixpoint
def Qa2(x0:Qh)(x1:Qh):Option (Qc) :=
 Qcj x0>>=fun t4=>Qbr x0>>=fun t5=>Qe1 x0 (wr .i64 (t4-t5))>>=fun t6=>Qa2.l0 x0 x1 (wr .i64 (t4-t5)) t6.1>>=fun q8=>some q8
theorem QfN(x0:Qh)(x1:Qh)(r:Qc)(hF:Qa2 x0 x1=some r)(w:World) :
    Calls Tryz.prog 107 #[.agg (Cd.cs Qb x0).toArray,.agg (Cd.cs Qb x1).toArray] w (fun e w'=>e=.returned (.agg (Cd.cs Qa r).toArray)∧Below w.heap.size w w'):=by
 unfold Qa2 at hF
 refine ce (l:=[.agg (Cd.cs Qb x0).toArray,.agg (Cd.cs Qb x1).toArray]) func107 rfl rfl ?_
 refine QN ?_
 refine sr ?_
 refine Qag (cs:=Cd.cs Qb x0) rfl rfl rfl ?_
 intro b1
 refine Qag (cs:=Cd.cs Qb x1) rfl rfl rfl ?_
 intro b2
 refine al (cs:=Cd.cs Qa zv9) zeroValue38 ?_
 intro b3
 refine ns ?_
 refine aw (Qe (c:=Qb) (z:=x0) isAgg36 sizeOf36 rfl (Qp (.s (.s .z)) lw)) ?_
 obtain ⟨t4,ht4,hF⟩:=bM hF
 refine cB func118 rfl (fun w hw=>QcV _ _ ht4 w) ?_
 refine aa (ns (am ?_))
 refine aw (Qe (c:=Qb) (z:=x0) isAgg36 sizeOf36 rfl (Qp (.s (.s .z)) lw)) ?_
 obtain ⟨t5,ht5,hF⟩:=bM hF
 refine cB func130 rfl (fun w hw=>aggregate_low_ok _ _ ht5 w) ?_
 refine aw (Qci rfl rfl) ?_
 refine aa (ns ?_)
 refine aw (Qe (c:=Qb) (z:=x0) isAgg36 sizeOf36 rfl (Qp (.s (.s .z)) lw)) ?_
 refine am ?_
 obtain ⟨t6,ht6,hF⟩:=bM hF
 refine cB func86 rfl (fun w hw=>cidr_Of_ok _ _ _ ht6 w) ?_
 refine am ?_
 refine aw xe (aw xe ?_)
 refine al (cs:=Cd.cs Qa zv9) zeroValue38 ?_
 intro b7
 refine QX (c:=Qa) (z:=t6.1) .z lw sizeOf38 rfl rfl rfl ?_
 refine aa (nwq [7,6,4,3,2] ?_)
 refine qs ?_
 refine qb ?_
 obtain ⟨q8,hq8,hF⟩:=bM hF
 refine wq [7,6,4,3,2] ?_
 refine Q5 (B:=0) (A:=fun Y=>At 34 [(4,.pointer (some ⟨b3,0,none⟩)),(7,.pointer (some ⟨b7,0,none⟩))] (Wd w [Qs b7 (Cd.cs Qa q8) 38,Qs b3 (Cd.cs Qa zv9) 38]) Y) ?_ ?_
 ·intro K
  refine Qa2.l0.partial_correctness x0 x1 (motive:=fun i9 i10 x=>KN (fun Y=>At 34 [(4,.pointer (some ⟨b3,0,none⟩)),(7,.pointer (some ⟨b7,0,none⟩))] (Wd w [Qs b7 (Cd.cs Qa x) 38,Qs b3 (Cd.cs Qa zv9) 38]) Y) _ 0→Round (fun Y=>At 34 [(2,.pointer (some ⟨b1,0,none⟩)),(3,.pointer (some ⟨b2,0,none⟩)),(4,.pointer (some ⟨b3,0,none⟩)),(6,.int .i64 i9),(7,.pointer (some ⟨b7,0,none⟩))] (Wd w [Qs b7 (Cd.cs Qa i10) 38,Qs b3 (Cd.cs Qa zv9) 38,Qs b2 (Cd.cs Qb x1) 36,Qs b1 (Cd.cs Qb x0) 36]) Y) _ _ _) ?_ _ _ _ hq8 K
  ·clear K hF
   intro g ih i9 i10 x hF K
   refine QS ?_
   refine qs (qs ?_)
   refine Qb4 (by kernel_rfl) (by kernel_rfl) (fun _ h=>h.drew) ?_
   refine Qk rfl rfl rfl (Qe (c:=Qb) (z:=x1) isAgg36 sizeOf36 rfl (Qp (.s (.s .z)) lw)) ?_
   refine Qk rfl rfl rfl (Qe (c:=Qa) (z:=i10) isAgg38 sizeOf38 rfl (Qp .z lw)) ?_
   obtain ⟨t11,ht11,hF⟩:=bM hF
   refine Qbb func105 rfl (by kernel_rfl) rfl rfl (fun w hw=>(Qcs _ _ ht11 w).mono fun _ _ h=>⟨h.1,hw.call h.2⟩) ?_
   obtain ⟨t12,ht12,hF⟩:=bM hF
   refine Qbb func92 rfl (by kernel_rfl) rfl rfl (fun w hw=>(Qdc _ _ _ ht12 w).mono fun _ _ h=>⟨h.1,hw.call h.2⟩) ?_
   refine QaX ?_
   refine wq [24,7,6,4,3,2] ?_
   refine tn ?_
   obtain ⟨h13,hF⟩|⟨h13,hF⟩:=oi hF
   ·refine ct h13 ?_
    refine sn ?_
    refine qb ?_
    refine sr (am (aw xa (aa (nt (qr ?_)))))
    refine aw (Qe (c:=Qb) (z:=x0) isAgg36 sizeOf36 rfl (Qp (.s (.s (.s .z))) lw)) ?_
    refine am ?_
    obtain ⟨t14,ht14,hF⟩:=bM hF
    refine cB func86 rfl (fun w hw=>cidr_Of_ok _ _ _ ht14 w) ?_
    refine am ?_
    refine aw xe (aw xe ?_)
    refine QX (c:=Qa) (z:=t14.1) .z lw sizeOf38 rfl rfl rfl ?_
    refine qn (wq [7,6,4,3,2] ?_)
    refine bm ?_
    exact Qm (ih _ _ _ hF K) ⟨rfl,rfl,rfl,rfl,rfl,trivial⟩
   refine cf h13 ?_
   refine Q1 ?_
   refine te (te ?_)
   refine Qal (H:=_) (.s (.s .z)) ?_
   refine Qal (H:=_) (.s (.s .z)) ?_
   obtain rfl:=os hF
   exact Qm K ⟨rfl,rfl,trivial⟩
 skip
 skip
 refine Qw ?_
 refine tn (sr ?_)
 refine aw (Qe (c:=Qa) (z:=q8) isAgg38 sizeOf38 rfl (Qp .z lw)) ?_
 refine QX (c:=Qa) (z:=q8) (.s .z) lw sizeOf38 rfl rfl rfl ?_
 refine qn (dz (wq [4] ?_))
 refine tn (qt ?_)
 have K:=os hF
 subst K
 exact Qer rfl (Qb8 (c:=Qa) (y:=q8) rfl .z lw isAgg38 sizeOf38 (.inl rfl)) wb
def QaR.l0(x0:QF)(i9:List Qc)(i10:Qh):Option (List Qc) :=
 Qa2 i10 x0.f_To>>=fun t13=>if (i9.length+1)*32≤140737488355328 then QaO t13>>=fun t19=>Qbc t19>>=fun t20=>if (!t20.2)=true then (some (i9++[t13])) else (Qct x0.f_To t20.1>>=fun t23=>if t23=true then (some (i9++[t13])) else (QaR.l0 x0 (i9++[t13]) t20.1)) else none
 partial_fixpoint
def QaR(x0:QF):Option (List Qc) :=
 QcT x0>>=fun t2=>if (!t2)=true then (some ([])) else (QaR.l0 x0 ([]:List Qc) x0.f_From>>=fun q7=>some q7)
theorem QfO(x0:QF)(r:List Qc)(hF:QaR x0=some r)(w:World) :
    Calls Tryz.prog 76 #[.agg (Cd.cs Qu x0).toArray] w (fun e w'=>∃ p cap,e=.returned (.slice p r.length cap)∧Own Qa 38 w.heap.size w' p cap r∧Below w.heap.size w w'):=by
 unfold QaR at hF
 refine ce (l:=[.agg (Cd.cs Qu x0).toArray]) func76 rfl rfl ?_
 refine QN ?_
 refine sr ?_
 refine Qag (cs:=Cd.cs Qu x0) rfl rfl rfl ?_
 intro b1
 refine aa (nt (qs (sr ?_)))
 refine aw (Qe (c:=Qu) (z:=x0) isAgg112 sizeOf112 rfl (Qp .z lw)) ?_
 obtain ⟨t2,ht2,hF⟩:=bM hF
 refine cB func106 rfl (fun w hw=>aggregate_Right_ok _ _ ht2 w) ?_
 refine aw (r_not rfl) ?_
 refine nwq [10,1] ?_
 obtain ⟨h3,hF⟩|⟨h3,hF⟩:=oi hF
 ·refine ct h3 ?_
  refine sr (aa (qn (dz (wq [2] ?_))))
  refine tn (rt ?_)
  have K:=os hF
  subst K
  exact r1 (fun w1 hw=>⟨none,0,rfl,Own.nil _ _ _ _,hw.below⟩)
 refine cf h3 ?_
 refine sns (aa (ns (fa 0 underlying112 rfl sizeOf36 ?_)))
 refine aw (Qe (c:=Qb) (z:=x0.f_From) isAgg36 sizeOf36 rfl (Qp .z (Lens.comp lw (fun z=>{ x0 with f_From:=z }) (Qba x0)))) ?_
 refine al (cs:=Cd.cs Qb zv1) zeroValue36 ?_
 intro b4
 refine QX (c:=Qb) (z:=x0.f_From) .z lw sizeOf36 rfl rfl rfl ?_
 refine nwq [4,3,1] ?_
 refine qb ?_
 refine Qbd Qa 38 ?_
 obtain ⟨q7,hq7,hF⟩:=bM hF
 refine wq [4,3,1] ?_
 refine QfL (r:=r) (q:=q7) ?_ ?_
 ·intro K
  refine QaR.l0.partial_correctness x0 (motive:=fun i9 i10 x=>x=r→Round (fun Y=>∀ (p11:Option Addr) (c12:Nat),At 37 [(1,.pointer (some ⟨b1,0,none⟩)),(3,.slice p11 i9.length c12),(4,.pointer (some ⟨b4,0,none⟩))] (Wd w [rowE Qa 38 p11 c12 i9,Qs b4 (Cd.cs Qb i10) 36,Qs b1 (Cd.cs Qu x0) 112]) Y) _ _ _) ?_ _ _ _ hq7 K none 0
  ·clear K hF
   intro g ih i9 i10 x hF K p11 c12
   refine QS ?_
   refine qb ?_
   refine sr ?_
   refine aw (Qe (c:=Qb) (z:=i10) isAgg36 sizeOf36 rfl (Qp (.s .z) lw)) ?_
   refine fa 17 underlying112 rfl sizeOf36 ?_
   refine aw (Qe (c:=Qb) (z:=x0.f_To) isAgg36 sizeOf36 rfl (Qp (.s (.s .z)) (Lens.comp lw (fun z=>{ x0 with f_To:=z }) (QaS x0)))) ?_
   obtain ⟨t13,ht13,hF⟩:=bM hF
   refine cB func107 rfl (fun w hw=>QfN _ _ _ ht13 w) ?_
   refine al (cs:=Cd.cs Qa zv9) zeroValue38 ?_
   intro b14
   refine QX (c:=Qa) (z:=t13) .z lw sizeOf38 rfl rfl rfl ?_
   refine ns (am ?_)
   refine aw (Qe (c:=Qa) (z:=t13) isAgg38 sizeOf38 rfl (Qp .z lw)) ?_
   refine Qbu (c:=Qa) ([zv9]:List Qc) ([t13]:List Qc) underlying58 sizeOf38 zeroValue38 rfl rfl rfl (by kernel_rfl) (QI (c:=Qa) (z:=t13) rfl (Lens.all Qa ([zv9]:List Qc) 0 (by first | decide | exact Nat.le_of_ble_eq_true rfl)) rfl rfl) rfl ?_
   intro b15
   obtain ⟨h16,hF⟩:=gd hF
   refine Qax (z:=.agg (Cd.cs Qa zv9).toArray) (c:=Qa) (ys:=([t13]:List Qc)) (.s (.s .z)) underlying58 infoA238 (by kernel_rfl) (by kernel_rfl) rfl rfl rfl rfl (fun _ hw=>Qaw (hw.ok (Upd.mem .z))) (by kernel_rfl) h16 (Qaj h16) rfl ?_
   intro p17 c18
   refine aa (qn (dz (tn (sr ?_))))
   refine aw (Qe (c:=Qa) (z:=t13) isAgg38 sizeOf38 rfl (Qp .z lw)) ?_
   obtain ⟨t19,ht19,hF⟩:=bM hF
   refine cB func105 rfl (fun w hw=>Qcs _ _ ht19 w) ?_
   obtain ⟨t20,ht20,hF⟩:=bM hF
   refine cB func108 rfl (fun w hw=>QeH _ _ ht20 w) ?_
   refine am ?_
   refine aw xe (aw xe ?_)
   refine al (cs:=Cd.cs Qb zv1) zeroValue36 ?_
   intro b21
   refine QX (c:=Qb) (z:=t20.1) .z lw sizeOf36 rfl rfl rfl ?_
   refine aa (qn ?_)
   refine Qal (H:=_) (.s .z) ?_
   refine wq [7,6,4,3,1] ?_
   refine tn (qs (sr (am ?_)))
   refine aw (r_not rfl) ?_
   refine am ?_
   obtain ⟨h22,hF⟩|⟨h22,hF⟩:=oi hF
   ·refine fx 29 h22 ?_
    refine gn ?_
    refine gn ?_
    refine gn ?_
    refine gn ?_
    refine aw xp (nwq [34,6,4,3,1] ?_)
    refine ct rfl ?_
    refine sr (am (aa (qn (dz ?_))))
    refine Qal (H:=_) (.s .z) ?_
    refine Qal (H:=_) (.s .z) ?_
    refine wq [2] ?_
    refine tn (qt ?_)
    refine tr (br (tr (br ?_)))
    obtain rfl:=os hF
    subst K
    exact r1 (fun w1 hw=>⟨p17,c18,rfl,hw.own .z,hw.below⟩)
   refine fx 29 h22 ?_
   refine gy ?_
   refine fa 17 underlying112 rfl sizeOf36 ?_
   refine gy ?_
   refine aw (Qe (c:=Qb) (z:=x0.f_To) isAgg36 sizeOf36 rfl (Qp (.s (.s (.s .z))) (Lens.comp lw (fun z=>{ x0 with f_To:=z }) (QaS x0)))) ?_
   refine gy ?_
   refine aw (Qe (c:=Qb) (z:=t20.1) isAgg36 sizeOf36 rfl (Qp .z lw)) ?_
   refine gy ?_
   obtain ⟨t23,ht23,hF⟩:=bM hF
   refine cB func92 rfl (fun w hw=>Qdc _ _ _ ht23 w) ?_
   refine aw xp (nwq [34,6,4,3,1] ?_)
   obtain ⟨h24,hF⟩|⟨h24,hF⟩:=oi hF
   ·refine ct h24 ?_
    refine sr (am (aa (qn (dz ?_))))
    refine Qal (H:=_) (.s .z) ?_
    refine Qal (H:=_) (.s .z) ?_
    refine wq [2] ?_
    refine tn (qt ?_)
    refine tr (br (tr (br ?_)))
    obtain rfl:=os hF
    subst K
    exact r1 (fun w1 hw=>⟨p17,c18,rfl,hw.own .z,hw.below⟩)
   refine cf h24 ?_
   refine sn (qr ?_)
   refine aw (Qe (c:=Qb) (z:=t20.1) isAgg36 sizeOf36 rfl (Qp .z lw)) ?_
   refine QX (c:=Qb) (z:=t20.1) (.s (.s .z)) lw sizeOf36 rfl rfl rfl ?_
   refine qn (dz (wq [4,3,1] ?_))
   refine bm ?_
   exact Qm (ih _ _ _ hF K p17 c18) ⟨rfl,rfl,rfl,trivial⟩
 exact os hF
def QcR(x0:Qc)(x1:Qc):Option (Int) :=
 Qc0 x0 x1>>=fun t3=>if t3=true then (some (-1)) else (Qc0 x1 x0>>=fun t5=>if t5=true then (some 1) else (some 0))
theorem aggregate_order_ok(x0:Qc)(x1:Qc)(r:Int)(hF:QcR x0 x1=some r)(w:World) :
    Calls Tryz.prog 103 #[.agg (Cd.cs Qa x0).toArray,.agg (Cd.cs Qa x1).toArray] w (fun e w'=>e=.returned (.int .i64 r)∧Below w.heap.size w w'):=by
 unfold QcR at hF
 refine ce (l:=[.agg (Cd.cs Qa x0).toArray,.agg (Cd.cs Qa x1).toArray]) func103 rfl rfl ?_
 refine QN ?_
 refine sr ?_
 refine Qag (cs:=Cd.cs Qa x0) rfl rfl rfl ?_
 intro b1
 refine Qag (cs:=Cd.cs Qa x1) rfl rfl rfl ?_
 intro b2
 refine aa (nwq [3,2] ?_)
 refine qs ?_
 refine qb ?_
 refine sr ?_
 refine aw (Qe (c:=Qa) (z:=x0) isAgg38 sizeOf38 rfl (Qp (.s .z) lw)) ?_
 refine aw (Qe (c:=Qa) (z:=x1) isAgg38 sizeOf38 rfl (Qp .z lw)) ?_
 obtain ⟨t3,ht3,hF⟩:=bM hF
 refine cB func70 rfl (fun w hw=>QdF _ _ _ ht3 w) ?_
 refine aa (nwq [5,3,2] ?_)
 obtain ⟨h4,hF⟩|⟨h4,hF⟩:=oi hF
 ·refine ct h4 ?_
  refine sr (aa (qn (dz (dz (wq [4] ?_)))))
  refine tn (qt ?_)
  refine br (tr ?_)
  have K:=os hF
  subst K
  exact r1 wb
 refine cf h4 ?_
 refine sr ?_
 refine aw (Qe (c:=Qa) (z:=x1) isAgg38 sizeOf38 rfl (Qp .z lw)) ?_
 refine aw (Qe (c:=Qa) (z:=x0) isAgg38 sizeOf38 rfl (Qp (.s .z) lw)) ?_
 obtain ⟨t5,ht5,hF⟩:=bM hF
 refine cB func70 rfl (fun w hw=>QdF _ _ _ ht5 w) ?_
 refine aa (qn (dz (dz (wq [9] ?_))))
 refine tn ?_
 obtain ⟨h6,hF⟩|⟨h6,hF⟩:=oi hF
 ·refine ct h6 ?_
  refine sr (aa (nwq [4] ?_))
  refine qt ?_
  refine br (tr ?_)
  have K:=os hF
  subst K
  exact r1 wb
 refine cf h6 ?_
 refine Qaz ?_
 refine bm ?_
 refine sr (aa (nwq [4] ?_))
 refine qt ?_
 have K:=os hF
 subst K
 exact r1 wb
def QcS(x0:QF)(x1:Qc):Option (Bool) :=
 if (x0.f_From.f_V != x1.f_A.f_V)=true then (some false) else (Qbc x0.f_To>>=fun t4=>if (!t4.2)=true then (some true) else (Qct t4.1 x1.f_A>>=fun t7=>some (!t7)))
theorem aggregate_joins_ok(x0:QF)(x1:Qc)(r:Bool)(hF:QcS x0 x1=some r)(w:World) :
    Calls Tryz.prog 104 #[.agg (Cd.cs Qu x0).toArray,.agg (Cd.cs Qa x1).toArray] w (fun e w'=>e=.returned (.bool r)∧Below w.heap.size w w'):=by
 unfold QcS at hF
 refine ce (l:=[.agg (Cd.cs Qu x0).toArray,.agg (Cd.cs Qa x1).toArray]) func104 rfl rfl ?_
 refine QN ?_
 refine sr ?_
 refine Qag (cs:=Cd.cs Qu x0) rfl rfl rfl ?_
 intro b1
 refine Qag (cs:=Cd.cs Qa x1) rfl rfl rfl ?_
 intro b2
 refine aa (nt (qs (sr (fa 0 underlying112 rfl sizeOf36 (fa 0 underlying36 rfl sizeOf3 ?_)))))
 refine aw (Ql isAgg3 rfl (Qr (c:=(cInt .i64)) (y:=x0.f_From.f_V) (.s .z) (Lens.comp (Lens.comp lw (fun z=>{ x0 with f_From:=z }) (Qba x0)) (fun z=>{ x0.f_From with f_V:=z }) (QY x0.f_From)) rfl)) ?_
 refine fa 0 underlying38 rfl sizeOf36 (fa 0 underlying36 rfl sizeOf3 ?_)
 refine aw (Ql isAgg3 rfl (Qr (c:=(cInt .i64)) (y:=x1.f_A.f_V) .z (Lens.comp (Lens.comp lw (fun z=>{ x1 with f_A:=z }) (QG x1)) (fun z=>{ x1.f_A with f_V:=z }) (QY x1.f_A)) rfl)) ?_
 refine aw xn (nwq [13,3,2] ?_)
 obtain ⟨h3,hF⟩|⟨h3,hF⟩:=oi hF
 ·refine ct h3 ?_
  refine sr (aa (qn (dz (dz (wq [4] ?_)))))
  refine tn (rt ?_)
  have K:=os hF
  subst K
  exact r1 wb
 refine cf h3 ?_
 refine sns (fa 17 underlying112 rfl sizeOf36 ?_)
 refine aw (Qe (c:=Qb) (z:=x0.f_To) isAgg36 sizeOf36 rfl (Qp (.s .z) (Lens.comp lw (fun z=>{ x0 with f_To:=z }) (QaS x0)))) ?_
 obtain ⟨t4,ht4,hF⟩:=bM hF
 refine cB func108 rfl (fun w hw=>QeH _ _ ht4 w) ?_
 refine am ?_
 refine aw xe (aw xe ?_)
 refine al (cs:=Cd.cs Qb zv1) zeroValue36 ?_
 intro b5
 refine QX (c:=Qb) (z:=t4.1) .z lw sizeOf36 rfl rfl rfl ?_
 refine aa (qn ?_)
 refine Qal (H:=_) (.s (.s .z)) ?_
 refine wq [6,5,3] ?_
 refine tn (sr (am ?_))
 refine aw (r_not rfl) ?_
 refine am ?_
 obtain ⟨h6,hF⟩|⟨h6,hF⟩:=oi hF
 ·refine fx 22 h6 ?_
  refine gn ?_
  refine gn ?_
  refine gn ?_
  refine gn ?_
  refine gn ?_
  refine aw xp (aa (qn (dz (dz (wq [4] ?_)))))
  refine tn (qt ?_)
  have K:=os hF
  subst K
  exact r1 wb
 refine fx 22 h6 ?_
 refine gy ?_
 refine aw (Qe (c:=Qb) (z:=t4.1) isAgg36 sizeOf36 rfl (Qp .z lw)) ?_
 refine gy ?_
 refine fa 0 underlying38 rfl sizeOf36 ?_
 refine gy ?_
 refine aw (Qe (c:=Qb) (z:=x1.f_A) isAgg36 sizeOf36 rfl (Qp (.s .z) (Lens.comp lw (fun z=>{ x1 with f_A:=z }) (QG x1)))) ?_
 refine gy ?_
 obtain ⟨t7,ht7,hF⟩:=bM hF
 refine cB func92 rfl (fun w hw=>Qdc _ _ _ ht7 w) ?_
 refine gy ?_
 refine aw (r_not rfl) ?_
 refine aw xp (aa (qn (dz (dz (wq [4] ?_)))))
 refine tn (qt ?_)
 have K:=os hF
 subst K
 exact r1 wb
def QM.l1(i6:Int)(i10:Int)(i11:Int):Option (Int) :=
 if (decide (i11<Int.tmod i6 8))=true then (QM.l1 i6 (wr .i64 (Int.tdiv i10 2)) (wr .i64 (i11+1))) else (some i10)
 partial_fixpoint
def QM.l0(t4:Int)(i6:Int)(i7:Qh):Option (Qh) :=
 if (decide (i6<t4))=true then (QM.l1 i6 128 0>>=fun q9=>if (0:Int)≤wr .i64 (Int.tdiv i6 8)∧wr .i64 (Int.tdiv i6 8)<16 then if (0:Int)≤wr .i64 (Int.tdiv i6 8)∧wr .i64 (Int.tdiv i6 8)<16 then QM.l0 t4 (wr .i64 (i6+1)) ({ i7 with f_B:=vset i7.f_B (wr .i64 (Int.tdiv i6 8)) (wr .u8 ((vget i7.f_B (wr .i64 (Int.tdiv i6 8)))+(wr .u8 q9))) }) else none else none) else (some i7)
 partial_fixpoint
def QM(x0:Qc):Option (Qh) :=
 QaK x0.f_A>>=fun t4=>QM.l0 t4 x0.f_Bits x0.f_A>>=fun q5=>some q5
theorem Qa7(x0:Qc)(r:Qh)(hF:QM x0=some r)(w:World) :
    Calls Tryz.prog 133 #[.agg (Cd.cs Qa x0).toArray] w (fun e w'=>e=.returned (.agg (Cd.cs Qb r).toArray)∧Below w.heap.size w w'):=by
 unfold QM at hF
 refine ce (l:=[.agg (Cd.cs Qa x0).toArray]) func133 rfl rfl ?_
 refine QN ?_
 refine sr ?_
 refine Qag (cs:=Cd.cs Qa x0) rfl rfl rfl ?_
 intro b1
 refine al (cs:=Cd.cs Qb zv1) zeroValue36 ?_
 intro b2
 refine ns (fa 0 underlying38 rfl sizeOf36 ?_)
 refine aw (Qe (c:=Qb) (z:=x0.f_A) isAgg36 sizeOf36 rfl (Qp (.s .z) (Lens.comp lw (fun z=>{ x0 with f_A:=z }) (QG x0)))) ?_
 refine al (cs:=Cd.cs Qb zv1) zeroValue36 ?_
 intro b3
 refine QX (c:=Qb) (z:=x0.f_A) .z lw sizeOf36 rfl rfl rfl ?_
 refine ns (fa 0 underlying38 rfl sizeOf36 ?_)
 refine aw (Qe (c:=Qb) (z:=x0.f_A) isAgg36 sizeOf36 rfl (Qp (.s (.s .z)) (Lens.comp lw (fun z=>{ x0 with f_A:=z }) (QG x0)))) ?_
 obtain ⟨t4,ht4,hF⟩:=bM hF
 refine cB func66 rfl (fun w hw=>QbQ _ _ ht4 w) ?_
 refine aa (nt (qs (sr (fa 17 underlying38 rfl sizeOf3 ?_))))
 refine aw (Ql isAgg3 rfl (Qr (c:=(cInt .i64)) (y:=x0.f_Bits) (.s (.s .z)) (Lens.comp lw (fun z=>{ x0 with f_Bits:=z }) (QE x0)) rfl)) ?_
 refine aa (qn ?_)
 refine Qal (H:=_) (.s (.s .z)) ?_
 refine wq [5,4,3,2] ?_
 refine tn ?_
 refine qb ?_
 obtain ⟨q5,hq5,hF⟩:=bM hF
 refine wq [5,4,3,2] ?_
 refine Q5 (B:=0) (A:=fun Y=>At 41 [(2,.pointer (some ⟨b2,0,none⟩)),(3,.pointer (some ⟨b3,0,none⟩))] (Wd w [Qs b3 (Cd.cs Qb q5) 36,Qs b2 (Cd.cs Qb zv1) 36]) Y) ?_ ?_
 ·intro K
  refine QM.l0.partial_correctness t4 (motive:=fun i6 i7 x=>KN (fun Y=>At 41 [(2,.pointer (some ⟨b2,0,none⟩)),(3,.pointer (some ⟨b3,0,none⟩))] (Wd w [Qs b3 (Cd.cs Qb x) 36,Qs b2 (Cd.cs Qb zv1) 36]) Y) _ 0→Round (fun Y=>At 41 [(2,.pointer (some ⟨b2,0,none⟩)),(3,.pointer (some ⟨b3,0,none⟩)),(4,.int .i64 t4),(5,.int .i64 i6)] (Wd w [Qs b3 (Cd.cs Qb i7) 36,Qs b2 (Cd.cs Qb zv1) 36]) Y) _ _ _) ?_ _ _ _ hq5 K
  ·clear K hF
   intro g ih i6 i7 x hF K
   refine QS ?_
   refine qs (sr (am (am (aw xl (nwq [17,5,4,3,2] ?_)))))
   obtain ⟨h8,hF⟩|⟨h8,hF⟩:=oi hF
   ·refine ct h8 ?_
    refine sn (qs ?_)
    refine qb ?_
    refine sr (aa (nt (qs (sr (aa (nwq [7,6,5,4,3,2] ?_))))))
    refine qb ?_
    obtain ⟨q9,hq9,hF⟩:=bM hF
    refine wq [7,6,5,4,3,2] ?_
    refine Q5 (B:=2) (A:=fun Y=>At 41 [(2,.pointer (some ⟨b2,0,none⟩)),(3,.pointer (some ⟨b3,0,none⟩)),(4,.int .i64 t4),(5,.int .i64 i6),(6,.int .i64 q9)] (Wd w [Qs b3 (Cd.cs Qb i7) 36,Qs b2 (Cd.cs Qb zv1) 36]) Y) ?_ ?_
    ·intro K
     refine QM.l1.partial_correctness i6 (motive:=fun i10 i11 x=>KN (fun Y=>At 41 [(2,.pointer (some ⟨b2,0,none⟩)),(3,.pointer (some ⟨b3,0,none⟩)),(4,.int .i64 t4),(5,.int .i64 i6),(6,.int .i64 x)] (Wd w [Qs b3 (Cd.cs Qb i7) 36,Qs b2 (Cd.cs Qb zv1) 36]) Y) _ 2→Round (fun Y=>At 41 [(2,.pointer (some ⟨b2,0,none⟩)),(3,.pointer (some ⟨b3,0,none⟩)),(4,.int .i64 t4),(5,.int .i64 i6),(6,.int .i64 i10),(7,.int .i64 i11)] (Wd w [Qs b3 (Cd.cs Qb i7) 36,Qs b2 (Cd.cs Qb zv1) 36]) Y) _ _ _) ?_ _ _ _ hq9 K
     ·clear K hF
      intro g ih i10 i11 x hF K
      refine QS ?_
      refine qs (sr (am (am ?_)))
      refine aw (r_irem rfl rfl (by decide)) ?_
      refine aw xl (nwq [23,7,6,5,4,3,2] ?_)
      obtain ⟨h12,hF⟩|⟨h12,hF⟩:=oi hF
      ·refine ct h12 ?_
       refine sn (qs ?_)
       refine qb ?_
       refine qr (am ?_)
       refine aw (Qew rfl rfl (by decide)) ?_
       refine aa (qn (wq [7,6,5,4,3,2] ?_))
       refine bm ?_
       refine qr (am (aw xa (aa (nwq [7,6,5,4,3,2] ?_))))
       exact Qm (ih _ _ _ hF K) ⟨rfl,rfl,rfl,rfl,rfl,rfl,trivial⟩
      refine cf h12 ?_
      refine Q1 ?_
      refine te (te ?_)
      obtain rfl:=os hF
      exact Qm K ⟨rfl,rfl,rfl,rfl,rfl,trivial⟩
    skip
    skip
    refine Qw ?_
    refine tn (qr (am ?_))
    refine aw (Qew rfl rfl (by decide)) ?_
    refine am ?_
    refine aw (Qew rfl rfl (by decide)) ?_
    refine fa 1 underlying36 rfl sizeOf34 ?_
    obtain ⟨h13,hF⟩:=gd hF
    refine aw (Qay underlying34 sizeOf5 rfl rfl h13) ?_
    refine aw (Ql isAgg5 rfl (Qr (c:=(cInt .u8)) (y:=vget i7.f_B (wr .i64 (Int.tdiv i6 8))) .z (Lens.comp (Lens.comp lw (fun z=>{ i7 with f_B:=z }) (QO i7)) (fun z=>vset i7.f_B (wr .i64 (Int.tdiv i6 8)) z) (Lens.vec (cInt .u8) (by decide) i7.f_B (wr .i64 (Int.tdiv i6 8)) h13)) rfl)) ?_
    refine am ?_
    refine aw (QcY underlying3 underlying5 rfl) ?_
    refine aw xa (fa 1 underlying36 rfl sizeOf34 ?_)
    obtain ⟨h14,hF⟩:=gd hF
    refine aw (Qay underlying34 sizeOf5 rfl rfl h14) ?_
    refine QX (c:=(cInt .u8)) (z:=wr .u8 ((vget i7.f_B (wr .i64 (Int.tdiv i6 8)))+(wr .u8 q9))) .z (Lens.comp (Lens.comp lw (fun z=>{ i7 with f_B:=z }) (QO i7)) (fun z=>vset i7.f_B (wr .i64 (Int.tdiv i6 8)) z) (Lens.vec (cInt .u8) (by decide) i7.f_B (wr .i64 (Int.tdiv i6 8)) h14)) sizeOf5 rfl rfl rfl ?_
    refine qn (wq [5,4,3,2] ?_)
    refine bm ?_
    refine qr (am (aw xa (aa (nwq [5,4,3,2] ?_))))
    exact Qm (ih _ _ _ hF K) ⟨rfl,rfl,rfl,rfl,trivial⟩
   refine cf h8 ?_
   refine Q1 ?_
   refine te (te ?_)
   obtain rfl:=os hF
   exact Qm K ⟨rfl,rfl,trivial⟩
 skip
 skip
 refine Qw ?_
 refine tn (sr ?_)
 refine aw (Qe (c:=Qb) (z:=q5) isAgg36 sizeOf36 rfl (Qp .z lw)) ?_
 refine QX (c:=Qb) (z:=q5) (.s .z) lw sizeOf36 rfl rfl rfl ?_
 refine qn (dz (wq [2] ?_))
 refine tn (qt ?_)
 have K:=os hF
 subst K
 exact Qer rfl (Qb8 (c:=Qb) (y:=q5) rfl .z lw isAgg36 sizeOf36 (.inl rfl)) wb
def Qcf(x0:Qh)(x1:Qh):Option (Bool) :=
 QV x0>>=fun t3=>if t3=true then (QV x1>>=fun t5=>if t5=true then (if (x0.f_V==x1.f_V)=true then (Qab x1 x0>>=fun t8=>some (!t8)) else (some false)) else (some false)) else (some false)
theorem Qfd(x0:Qh)(x1:Qh)(r:Bool)(hF:Qcf x0 x1=some r)(w:World) :
    Calls Tryz.prog 134 #[.agg (Cd.cs Qb x0).toArray,.agg (Cd.cs Qb x1).toArray] w (fun e w'=>e=.returned (.bool r)∧Below w.heap.size w w'):=by
 unfold Qcf at hF
 refine ce (l:=[.agg (Cd.cs Qb x0).toArray,.agg (Cd.cs Qb x1).toArray]) func134 rfl rfl ?_
 refine QN ?_
 refine sr ?_
 refine Qag (cs:=Cd.cs Qb x0) rfl rfl rfl ?_
 intro b1
 refine Qag (cs:=Cd.cs Qb x1) rfl rfl rfl ?_
 intro b2
 refine aa (nwx [3,2] ?_)
 refine aw (Qe (c:=Qb) (z:=x0) isAgg36 sizeOf36 rfl (Qp (.s .z) lw)) ?_
 obtain ⟨t3,ht3,hF⟩:=bM hF
 refine cB func65 rfl (fun w hw=>Qa3 _ _ ht3 w) ?_
 refine am ?_
 obtain ⟨h4,hF⟩|⟨h4,hF⟩:=oi hF
 ·refine fx 7 h4 ?_
  refine gy ?_
  refine aw (Qe (c:=Qb) (z:=x1) isAgg36 sizeOf36 rfl (Qp .z lw)) ?_
  refine gy ?_
  obtain ⟨t5,ht5,hF⟩:=bM hF
  refine cB func65 rfl (fun w hw=>Qa3 _ _ ht5 w) ?_
  refine aw xp (am ?_)
  obtain ⟨h6,hF⟩|⟨h6,hF⟩:=oi hF
  ·refine fx 11 h6 ?_
   refine gy ?_
   refine fa 0 underlying36 rfl sizeOf3 ?_
   refine gy ?_
   refine aw (Ql isAgg3 rfl (Qr (c:=(cInt .i64)) (y:=x0.f_V) (.s .z) (Lens.comp lw (fun z=>{ x0 with f_V:=z }) (QY x0)) rfl)) ?_
   refine gy ?_
   refine fa 0 underlying36 rfl sizeOf3 ?_
   refine gy ?_
   refine aw (Ql isAgg3 rfl (Qr (c:=(cInt .i64)) (y:=x1.f_V) .z (Lens.comp lw (fun z=>{ x1 with f_V:=z }) (QY x1)) rfl)) ?_
   refine gy ?_
   refine aw xq (aw xp (am ?_))
   obtain ⟨h7,hF⟩|⟨h7,hF⟩:=oi hF
   ·refine fx 18 h7 ?_
    refine gy ?_
    refine aw (Qe (c:=Qb) (z:=x1) isAgg36 sizeOf36 rfl (Qp .z lw)) ?_
    refine gy ?_
    refine aw (Qe (c:=Qb) (z:=x0) isAgg36 sizeOf36 rfl (Qp (.s .z) lw)) ?_
    refine gy ?_
    obtain ⟨t8,ht8,hF⟩:=bM hF
    refine cB func68 rfl (fun w hw=>Qbn _ _ _ ht8 w) ?_
    refine gy ?_
    refine aw (r_not rfl) ?_
    refine aw xp (aa (qn (dz (dz (wq [4] ?_)))))
    refine tn (qt ?_)
    have K:=os hF
    subst K
    exact r1 wb
   refine fx 18 h7 ?_
   refine gn ?_
   refine gn ?_
   refine gn ?_
   refine gn ?_
   refine aw xp (aa (qn (dz (dz (wq [4] ?_)))))
   refine tn (qt ?_)
   have K:=os hF
   subst K
   exact r1 wb
  refine fx 11 h6 ?_
  refine gn ?_
  refine gn ?_
  refine gn ?_
  refine gn ?_
  refine gn ?_
  refine aw xp (am ?_)
  refine gn ?_
  refine gn ?_
  refine gn ?_
  refine gn ?_
  refine aw xp (aa (qn (dz (dz (wq [4] ?_)))))
  refine tn (qt ?_)
  have K:=os hF
  subst K
  exact r1 wb
 refine fx 7 h4 ?_
 refine gn ?_
 refine gn ?_
 refine aw xp (am ?_)
 refine gn ?_
 refine gn ?_
 refine gn ?_
 refine gn ?_
 refine gn ?_
 refine aw xp (am ?_)
 refine gn ?_
 refine gn ?_
 refine gn ?_
 refine gn ?_
 refine aw xp (aa (qn (dz (dz (wq [4] ?_)))))
 refine tn (qt ?_)
 have K:=os hF
 subst K
 exact r1 wb
def QaP.l0(i5:Int)(i6:Qh):Option (Ctl (Qh×Bool) (Unit)) :=
 if (decide (i5≥0))=true then (if (0:Int)≤i5∧i5<16 then if (decide (vget i6.f_B i5<255))=true then (if (0:Int)≤i5∧i5<16 then if (0:Int)≤i5∧i5<16 then some (.ret ({ i6 with f_B:=vset i6.f_B i5 (wr .u8 ((vget i6.f_B i5)+1)) },true)) else none else none) else (if (0:Int)≤i5∧i5<16 then QaP.l0 (wr .i64 (i5-1)) ({ i6 with f_B:=vset i6.f_B i5 0 }) else none) else none) else (some (.nx ()))
 partial_fixpoint
def QaP(x0:Qh):Option (Qh×Bool) :=
 QaK x0>>=fun t3=>QaP.l0 (wr .i64 ((wr .i64 (Int.tdiv t3 8))-1)) x0>>=fun q4=>match q4 with | .ret r'=>some r' | .nx sq4=>(some (({ f_V:=(0:Int),f_B:=(Vector.replicate 16 (0:Int):(Vector Int 16)) }:Qh),false))
theorem QdA(x0:Qh)(r:Qh×Bool)(hF:QaP x0=some r)(w:World) :
    Calls Tryz.prog 132 #[.agg (Cd.cs Qb x0).toArray] w (fun e w'=>e=.returned (.tuple #[.agg (Cd.cs Qb r.1).toArray,.bool r.2])∧Below w.heap.size w w'):=by
 unfold QaP at hF
 refine ce (l:=[.agg (Cd.cs Qb x0).toArray]) func132 rfl rfl ?_
 refine QN ?_
 refine sr ?_
 refine Qag (cs:=Cd.cs Qb x0) rfl rfl rfl ?_
 intro b1
 refine al (cs:=Cd.cs Qb zv1) zeroValue36 ?_
 intro b2
 refine aa (nt (qs (sr ?_)))
 refine aw (Qe (c:=Qb) (z:=x0) isAgg36 sizeOf36 rfl (Qp (.s .z) lw)) ?_
 obtain ⟨t3,ht3,hF⟩:=bM hF
 refine cB func66 rfl (fun w hw=>QbQ _ _ ht3 w) ?_
 refine aw (Qew rfl rfl (by decide)) ?_
 refine aw (Qci rfl rfl) ?_
 refine aa (nwq [4,2,1] ?_)
 refine qb ?_
 obtain ⟨q4,hq4,hF⟩:=bM hF
 refine wq [4,2,1] ?_
 refine QbG (B:=0) (r:=r) (q:=q4) (A:=fun (_:Unit) Y=>At 31 [(2,.pointer (some ⟨b2,0,none⟩))] (Wd w [Qs b2 (Cd.cs Qb zv1) 36]) Y) ?_ ?_
 ·intro K
  refine QaP.l0.partial_correctness  (motive:=fun i5 i6 x=>KR (fun (_:Unit) Y=>At 31 [(2,.pointer (some ⟨b2,0,none⟩))] (Wd w [Qs b2 (Cd.cs Qb zv1) 36]) Y) _ 0 r x→Round (fun Y=>At 31 [(1,.pointer (some ⟨b1,0,none⟩)),(2,.pointer (some ⟨b2,0,none⟩)),(4,.int .i64 i5)] (Wd w [Qs b2 (Cd.cs Qb zv1) 36,Qs b1 (Cd.cs Qb i6) 36]) Y) _ _ _) ?_ _ _ _ hq4 K
  ·clear K hF
   intro g ih i5 i6 x hF K
   refine QS ?_
   refine qs (sr (am ?_))
   refine aw (Qei rfl rfl) ?_
   refine nwq [10,4,2,1] ?_
   obtain ⟨h7,hF⟩|⟨h7,hF⟩:=oi hF
   ·refine ct h7 ?_
    refine sn (qs ?_)
    refine qb ?_
    refine qs (sr (am (fa 1 underlying36 rfl sizeOf34 ?_)))
    obtain ⟨h8,hF⟩:=gd hF
    refine aw (Qay underlying34 sizeOf5 rfl rfl h8) ?_
    refine aw (Ql isAgg5 rfl (Qr (c:=(cInt .u8)) (y:=vget i6.f_B i5) (.s .z) (Lens.comp (Lens.comp lw (fun z=>{ i6 with f_B:=z }) (QO i6)) (fun z=>vset i6.f_B i5 z) (Lens.vec (cInt .u8) (by decide) i6.f_B i5 h8)) rfl)) ?_
    refine aw xl (nwq [17,4,2,1] ?_)
    obtain ⟨h9,hF⟩|⟨h9,hF⟩:=oi hF
    ·refine ct h9 ?_
     refine sr (am (am (fa 1 underlying36 rfl sizeOf34 ?_)))
     obtain ⟨h10,hF⟩:=gd hF
     refine aw (Qay underlying34 sizeOf5 rfl rfl h10) ?_
     refine aw (Ql isAgg5 rfl (Qr (c:=(cInt .u8)) (y:=vget i6.f_B i5) (.s .z) (Lens.comp (Lens.comp lw (fun z=>{ i6 with f_B:=z }) (QO i6)) (fun z=>vset i6.f_B i5 z) (Lens.vec (cInt .u8) (by decide) i6.f_B i5 h10)) rfl)) ?_
     refine aw xa (fa 1 underlying36 rfl sizeOf34 ?_)
     obtain ⟨h11,hF⟩:=gd hF
     refine aw (Qay underlying34 sizeOf5 rfl rfl h11) ?_
     refine QX (c:=(cInt .u8)) (z:=wr .u8 ((vget i6.f_B i5)+1)) (.s .z) (Lens.comp (Lens.comp lw (fun z=>{ i6 with f_B:=z }) (QO i6)) (fun z=>vset i6.f_B i5 z) (Lens.vec (cInt .u8) (by decide) i6.f_B i5 h11)) sizeOf5 rfl rfl rfl ?_
     refine ns ?_
     refine aw (Qe (c:=Qb) (z:={ i6 with f_B:=vset i6.f_B i5 (wr .u8 ((vget i6.f_B i5)+1)) }) isAgg36 sizeOf36 rfl (Qp (.s .z) lw)) ?_
     refine QX (c:=Qb) (z:={ i6 with f_B:=vset i6.f_B i5 (wr .u8 ((vget i6.f_B i5)+1)) }) .z lw sizeOf36 rfl rfl rfl ?_
     refine aa (qn ?_)
     refine Qal (H:=_) (.s .z) ?_
     refine wq [3,2] ?_
     refine tn (qt ?_)
     refine tr (br (tr (tr (br (tr ?_)))))
     obtain rfl:=os hF
     subst K
     exact Qe6 rfl (Qb8 (c:=Qb) (y:={ i6 with f_B:=vset i6.f_B i5 (wr .u8 ((vget i6.f_B i5)+1)) }) rfl .z lw isAgg36 sizeOf36 (.inl rfl)) (QeL rfl) wb
    refine cf h9 ?_
    refine sn (qr (am (fa 1 underlying36 rfl sizeOf34 ?_)))
    obtain ⟨h12,hF⟩:=gd hF
    refine aw (Qay underlying34 sizeOf5 rfl rfl h12) ?_
    refine QX (c:=(cInt .u8)) (z:=0) (.s .z) (Lens.comp (Lens.comp lw (fun z=>{ i6 with f_B:=z }) (QO i6)) (fun z=>vset i6.f_B i5 z) (Lens.vec (cInt .u8) (by decide) i6.f_B i5 h12)) sizeOf5 rfl rfl rfl ?_
    refine qn (wq [4,2,1] ?_)
    refine bm ?_
    refine qr (am ?_)
    refine aw (Qci rfl rfl) ?_
    refine aa (nwq [4,2,1] ?_)
    exact Qm (ih _ _ _ hF K) ⟨rfl,rfl,rfl,trivial⟩
   refine cf h7 ?_
   refine Q1 ?_
   refine te (te ?_)
   refine Qal (H:=_) (.s .z) ?_
   obtain rfl:=os hF
   exact Qm K ⟨rfl,trivial⟩
 cases q4 with
 | ret r'=>exact os hF
 | nx sq4 =>
  skip
  refine Qw ?_
  refine tn (sr ?_)
  refine aw (QW (zs:=Cd.cs Qb zv1) (cs:=Cd.cs Qb zv1) underlying36 zeroValue36 rfl (QbX) rfl rfl) ?_
  refine QX (c:=Qb) (z:=zv1) .z lw sizeOf36 rfl rfl rfl ?_
  refine aa (nwq [3,2] ?_)
  refine qt ?_
  have K:=os hF
  subst K
  exact Qe6 rfl (Qb8 (c:=Qb) (y:=zv1) rfl .z lw isAgg36 sizeOf36 (.inl rfl)) (QeL rfl) wb
def Q0.l1(x1:Qh)(i10:Qh)(i14:Int):Option (Int) :=
 Q4 i10 i14>>=fun t15=>if (!decide (t15=i10))=true then (Q0.l1 x1 i10 (wr .i64 (i14+1))) else (QM ({ { ({ f_A:=({ f_V:=(0:Int),f_B:=(Vector.replicate 16 (0:Int):(Vector Int 16)) }:Qh),f_Bits:=(0:Int) }:Qc) with f_A:=i10 } with f_Bits:=i14 })>>=fun t17=>Qab x1 t17>>=fun t18=>if t18=true then (Q0.l1 x1 i10 (wr .i64 (i14+1))) else (some i14))
 partial_fixpoint
def Q0.l0(x1:Qh)(i9:List Qc)(i10:Qh):Option (List Qc) :=
 Q0.l1 x1 i10 0>>=fun q13=>if (i9.length+1)*32≤140737488355328 then QM ({ { ({ f_A:=({ f_V:=(0:Int),f_B:=(Vector.replicate 16 (0:Int):(Vector Int 16)) }:Qh),f_Bits:=(0:Int) }:Qc) with f_A:=i10 } with f_Bits:=q13 })>>=fun t25=>QaP t25>>=fun t26=>if (!t26.2)=true then (some (i9++[{ { ({ f_A:=({ f_V:=(0:Int),f_B:=(Vector.replicate 16 (0:Int):(Vector Int 16)) }:Qh),f_Bits:=(0:Int) }:Qc) with f_A:=i10 } with f_Bits:=q13 }])) else (Qab x1 t26.1>>=fun t29=>if t29=true then (some (i9++[{ { ({ f_A:=({ f_V:=(0:Int),f_B:=(Vector.replicate 16 (0:Int):(Vector Int 16)) }:Qh),f_Bits:=(0:Int) }:Qc) with f_A:=i10 } with f_Bits:=q13 }])) else (Q0.l0 x1 (i9++[{ { ({ f_A:=({ f_V:=(0:Int),f_B:=(Vector.replicate 16 (0:Int):(Vector Int 16)) }:Qh),f_Bits:=(0:Int) }:Qc) with f_A:=i10 } with f_Bits:=q13 }]) t26.1)) else none
 partial_fixpoint
def Q0(x0:Qh)(x1:Qh):Option (List Qc) :=
 Qcf x0 x1>>=fun t3=>if (!t3)=true then (some ([])) else (Q0.l0 x1 ([]:List Qc) x0>>=fun q7=>some q7)
theorem Qeq(x0:Qh)(x1:Qh)(r:List Qc)(hF:Q0 x0 x1=some r)(w:World) :
    Calls Tryz.prog 110 #[.agg (Cd.cs Qb x0).toArray,.agg (Cd.cs Qb x1).toArray] w (fun e w'=>∃ p cap,e=.returned (.slice p r.length cap)∧Own Qa 38 w.heap.size w' p cap r∧Below w.heap.size w w'):=by
 unfold Q0 at hF
 refine ce (l:=[.agg (Cd.cs Qb x0).toArray,.agg (Cd.cs Qb x1).toArray]) func110 rfl rfl ?_
 refine QN ?_
 refine sr ?_
 refine Qag (cs:=Cd.cs Qb x0) rfl rfl rfl ?_
 intro b1
 refine Qag (cs:=Cd.cs Qb x1) rfl rfl rfl ?_
 intro b2
 refine aa (ns (aa (nt (qs (sr ?_)))))
 refine aw (Qe (c:=Qb) (z:=x0) isAgg36 sizeOf36 rfl (Qp (.s .z) lw)) ?_
 refine aw (Qe (c:=Qb) (z:=x1) isAgg36 sizeOf36 rfl (Qp .z lw)) ?_
 obtain ⟨t3,ht3,hF⟩:=bM hF
 refine cB func134 rfl (fun w hw=>Qfd _ _ _ ht3 w) ?_
 refine aw (r_not rfl) ?_
 refine nwq [13,5,3,2] ?_
 obtain ⟨h4,hF⟩|⟨h4,hF⟩:=oi hF
 ·refine ct h4 ?_
  refine sr (am (aa (qn (dz (dz (wq [4] ?_))))))
  refine tn (rt ?_)
  have K:=os hF
  subst K
  exact r1 (fun w1 hw=>⟨none,0,rfl,Own.nil _ _ _ _,hw.below⟩)
 refine cf h4 ?_
 refine sn ?_
 refine qb ?_
 refine Qbd Qa 38 ?_
 obtain ⟨q7,hq7,hF⟩:=bM hF
 refine wq [5,3,2] ?_
 refine QfL (r:=r) (q:=q7) ?_ ?_
 ·intro K
  refine Q0.l0.partial_correctness x1 (motive:=fun i9 i10 x=>x=r→Round (fun Y=>∀ (p11:Option Addr) (c12:Nat),At 52 [(2,.pointer (some ⟨b1,0,none⟩)),(3,.pointer (some ⟨b2,0,none⟩)),(5,.slice p11 i9.length c12)] (Wd w [rowE Qa 38 p11 c12 i9,Qs b2 (Cd.cs Qb x1) 36,Qs b1 (Cd.cs Qb i10) 36]) Y) _ _ _) ?_ _ _ _ hq7 K none 0
  ·clear K hF
   intro g ih i9 i10 x hF K p11 c12
   refine QS ?_
   refine qb ?_
   refine sr (aa (nwq [6,5,3,2] ?_))
   refine qs ?_
   refine qb ?_
   obtain ⟨q13,hq13,hF⟩:=bM hF
   refine wq [6,5,3,2] ?_
   refine Q5 (B:=2) (A:=fun Y=>At 52 [(2,.pointer (some ⟨b1,0,none⟩)),(3,.pointer (some ⟨b2,0,none⟩)),(5,.slice p11 i9.length c12),(6,.int .i64 q13)] (Wd w [rowE Qa 38 p11 c12 i9,Qs b2 (Cd.cs Qb x1) 36,Qs b1 (Cd.cs Qb i10) 36]) Y) ?_ ?_
   ·intro K
    refine Q0.l1.partial_correctness x1 i10 (motive:=fun i14 x=>KN (fun Y=>At 52 [(2,.pointer (some ⟨b1,0,none⟩)),(3,.pointer (some ⟨b2,0,none⟩)),(5,.slice p11 i9.length c12),(6,.int .i64 x)] (Wd w [rowE Qa 38 p11 c12 i9,Qs b2 (Cd.cs Qb x1) 36,Qs b1 (Cd.cs Qb i10) 36]) Y) _ 2→Round (fun Y=>At 52 [(2,.pointer (some ⟨b1,0,none⟩)),(3,.pointer (some ⟨b2,0,none⟩)),(5,.slice p11 i9.length c12),(6,.int .i64 i14)] (Wd w [rowE Qa 38 p11 c12 i9,Qs b2 (Cd.cs Qb x1) 36,Qs b1 (Cd.cs Qb i10) 36]) Y) _ _ _) ?_ _ _ hq13 K
    ·clear K hF
     intro g ih i14 x hF K
     refine QS ?_
     refine qs (qs ?_)
     refine Qb4 (by kernel_rfl) (by kernel_rfl) (fun _ h=>h.drew) ?_
     refine Qk rfl rfl rfl (Qe (c:=Qb) (z:=i10) isAgg36 sizeOf36 rfl (Qp (.s (.s .z)) lw)) ?_
     refine Qk rfl rfl rfl (Qaf rfl) ?_
     obtain ⟨t15,ht15,hF⟩:=bM hF
     refine Qbb func67 rfl (by kernel_rfl) rfl rfl (fun w hw=>(QdC _ _ _ ht15 w).mono fun _ _ h=>⟨h.1,hw.call h.2⟩) ?_
     refine Qk rfl rfl rfl (Qe (c:=Qb) (z:=i10) isAgg36 sizeOf36 rfl (Qp (.s (.s .z)) lw)) ?_
     refine Qk rfl rfl rfl (Qbz (c:=Qb) (a:=t15) (b:=i10) (Qcb) rfl Tryz.eqGuardType36 rfl rfl (.inr rfl) rfl) ?_
     refine Qk rfl rfl rfl (Qaf rfl) ?_
     obtain ⟨h16,hF⟩|⟨h16,hF⟩:=oi hF
     ·refine Qa0 (g:=20) rfl h16 ?_
      refine Qj rfl rfl rfl rfl rfl ?_
      refine Qj rfl rfl rfl rfl rfl ?_
      refine Qj rfl rfl rfl rfl rfl ?_
      refine Qj rfl rfl rfl rfl rfl ?_
      refine Qj rfl rfl rfl rfl rfl ?_
      refine Qj rfl rfl rfl rfl rfl ?_
      refine Qk rfl rfl rfl (Qa4 rfl rfl rfl) ?_
      refine QaX ?_
      refine wq [27,6,5,3,2] ?_
      refine tn ?_
      refine ct rfl ?_
      refine sn ?_
      refine qb ?_
      refine qr (am (aw xa (aa (qn (wq [6,5,3,2] ?_)))))
      refine bm ?_
      exact Qm (ih _ _ hF K) ⟨rfl,rfl,rfl,rfl,trivial⟩
     refine Qa0 (g:=20) rfl h16 ?_
     refine Qi rfl rfl rfl ?_
     refine Qk rfl rfl rfl (Qe (c:=Qb) (z:=x1) isAgg36 sizeOf36 rfl (Qp (.s .z) lw)) ?_
     refine Qi rfl rfl rfl ?_
     refine Qk rfl rfl rfl (Qe (c:=Qb) (z:=i10) isAgg36 sizeOf36 rfl (Qp (.s (.s .z)) lw)) ?_
     refine Qi rfl rfl rfl ?_
     refine Qk rfl rfl rfl (Qaf rfl) ?_
     refine Qi rfl rfl rfl ?_
     refine Qk rfl rfl rfl (QW (zs:=Cd.cs Qa zv9) (cs:=Cd.cs Qa ({ { zv9 with f_A:=i10 } with f_Bits:=i14 })) underlying38 zeroValue38 rfl (QaM) rfl (QI (c:=Qb) (z:=i10) rfl (QG zv9) rfl (QI (c:=(cInt .i64)) (z:=i14) rfl (QE ({ zv9 with f_A:=i10 })) rfl rfl))) ?_
     refine Qi rfl rfl rfl ?_
     obtain ⟨t17,ht17,hF⟩:=bM hF
     refine Qbb func133 rfl (by kernel_rfl) rfl rfl (fun w hw=>(Qa7 _ _ ht17 w).mono fun _ _ h=>⟨h.1,hw.call h.2⟩) ?_
     refine Qi rfl rfl rfl ?_
     obtain ⟨t18,ht18,hF⟩:=bM hF
     refine Qbb func68 rfl (by kernel_rfl) rfl rfl (fun w hw=>(Qbn _ _ _ ht18 w).mono fun _ _ h=>⟨h.1,hw.call h.2⟩) ?_
     refine Qk rfl rfl rfl (Qa4 rfl rfl rfl) ?_
     refine QaX ?_
     refine wq [27,6,5,3,2] ?_
     refine tn ?_
     obtain ⟨h19,hF⟩|⟨h19,hF⟩:=oi hF
     ·refine ct h19 ?_
      refine sn ?_
      refine qb ?_
      refine qr (am (aw xa (aa (qn (wq [6,5,3,2] ?_)))))
      refine bm ?_
      exact Qm (ih _ _ hF K) ⟨rfl,rfl,rfl,rfl,trivial⟩
     refine cf h19 ?_
     refine Q1 ?_
     refine te (te ?_)
     obtain rfl:=os hF
     exact Qm K ⟨rfl,rfl,rfl,rfl,trivial⟩
   skip
   skip
   refine Qw ?_
   refine tn (sr ?_)
   refine aw (Qe (c:=Qb) (z:=i10) isAgg36 sizeOf36 rfl (Qp (.s (.s .z)) lw)) ?_
   refine am ?_
   refine aw (QW (zs:=Cd.cs Qa zv9) (cs:=Cd.cs Qa ({ { zv9 with f_A:=i10 } with f_Bits:=q13 })) underlying38 zeroValue38 rfl (QaM) rfl (QI (c:=Qb) (z:=i10) rfl (QG zv9) rfl (QI (c:=(cInt .i64)) (z:=q13) rfl (QE ({ zv9 with f_A:=i10 })) rfl rfl))) ?_
   refine al (cs:=Cd.cs Qa zv9) zeroValue38 ?_
   intro b20
   refine QX (c:=Qa) (z:={ { zv9 with f_A:=i10 } with f_Bits:=q13 }) .z lw sizeOf38 rfl rfl rfl ?_
   refine ns (am ?_)
   refine aw (Qe (c:=Qa) (z:={ { zv9 with f_A:=i10 } with f_Bits:=q13 }) isAgg38 sizeOf38 rfl (Qp .z lw)) ?_
   refine Qbu (c:=Qa) ([zv9]:List Qc) ([{ { zv9 with f_A:=i10 } with f_Bits:=q13 }]:List Qc) underlying58 sizeOf38 zeroValue38 rfl rfl rfl (by kernel_rfl) (QI (c:=Qa) (z:={ { zv9 with f_A:=i10 } with f_Bits:=q13 }) rfl (Lens.all Qa ([zv9]:List Qc) 0 (by first | decide | exact Nat.le_of_ble_eq_true rfl)) rfl rfl) rfl ?_
   intro b21
   obtain ⟨h22,hF⟩:=gd hF
   refine Qax (z:=.agg (Cd.cs Qa zv9).toArray) (c:=Qa) (ys:=([{ { zv9 with f_A:=i10 } with f_Bits:=q13 }]:List Qc)) (.s (.s .z)) underlying58 infoA238 (by kernel_rfl) (by kernel_rfl) rfl rfl rfl rfl (fun _ hw=>Qaw (hw.ok (Upd.mem .z))) (by kernel_rfl) h22 (Qaj h22) rfl ?_
   intro p23 c24
   refine aa (qn (dz (tn (sr ?_))))
   refine aw (Qe (c:=Qa) (z:={ { zv9 with f_A:=i10 } with f_Bits:=q13 }) isAgg38 sizeOf38 rfl (Qp .z lw)) ?_
   obtain ⟨t25,ht25,hF⟩:=bM hF
   refine cB func133 rfl (fun w hw=>Qa7 _ _ ht25 w) ?_
   obtain ⟨t26,ht26,hF⟩:=bM hF
   refine cB func132 rfl (fun w hw=>QdA _ _ ht26 w) ?_
   refine am ?_
   refine aw xe (aw xe ?_)
   refine al (cs:=Cd.cs Qb zv1) zeroValue36 ?_
   intro b27
   refine QX (c:=Qb) (z:=t26.1) .z lw sizeOf36 rfl rfl rfl ?_
   refine aa (qn ?_)
   refine Qal (H:=_) (.s .z) ?_
   refine wq [9,8,5,3,2] ?_
   refine tn (qs (sr (am ?_)))
   refine aw (r_not rfl) ?_
   refine am ?_
   obtain ⟨h28,hF⟩|⟨h28,hF⟩:=oi hF
   ·refine fx 45 h28 ?_
    refine gn ?_
    refine gn ?_
    refine gn ?_
    refine aw xp (nwq [49,8,5,3,2] ?_)
    refine ct rfl ?_
    refine sr (am (aa (qn (dz ?_))))
    refine Qal (H:=_) (.s .z) ?_
    refine Qal (H:=_) (.s .z) ?_
    refine wq [4] ?_
    refine tn (qt ?_)
    refine tr (br (tr (br ?_)))
    obtain rfl:=os hF
    subst K
    exact r1 (fun w1 hw=>⟨p23,c24,rfl,hw.own .z,hw.below⟩)
   refine fx 45 h28 ?_
   refine gy ?_
   refine aw (Qe (c:=Qb) (z:=x1) isAgg36 sizeOf36 rfl (Qp (.s (.s .z)) lw)) ?_
   refine gy ?_
   refine aw (Qe (c:=Qb) (z:=t26.1) isAgg36 sizeOf36 rfl (Qp .z lw)) ?_
   refine gy ?_
   obtain ⟨t29,ht29,hF⟩:=bM hF
   refine cB func68 rfl (fun w hw=>Qbn _ _ _ ht29 w) ?_
   refine aw xp (nwq [49,8,5,3,2] ?_)
   obtain ⟨h30,hF⟩|⟨h30,hF⟩:=oi hF
   ·refine ct h30 ?_
    refine sr (am (aa (qn (dz ?_))))
    refine Qal (H:=_) (.s .z) ?_
    refine Qal (H:=_) (.s .z) ?_
    refine wq [4] ?_
    refine tn (qt ?_)
    refine tr (br (tr (br ?_)))
    obtain rfl:=os hF
    subst K
    exact r1 (fun w1 hw=>⟨p23,c24,rfl,hw.own .z,hw.below⟩)
   refine cf h30 ?_
   refine sn (qr ?_)
   refine aw (Qe (c:=Qb) (z:=t26.1) isAgg36 sizeOf36 rfl (Qp .z lw)) ?_
   refine QX (c:=Qb) (z:=t26.1) (.s (.s (.s .z))) lw sizeOf36 rfl rfl rfl ?_
   refine qn (dz (wq [5,3,2] ?_))
   refine bm ?_
   exact Qm (ih _ _ _ hF K p23 c24) ⟨rfl,rfl,rfl,trivial⟩
 exact os hF
end Go.Proofs.YtahlbjmafceoeaaGreatDoor
namespace Go.Proofs.YtahlbjmafceoeaaGreatDoor
open E Go.RowKit _root_.Go.Proofs.Tryz
theorem infoA338_is:(Tryz.prog.info? 38).isSome=true:=by kernel_rfl
noncomputable def infoA338_v:TypeInfo:=(Tryz.prog.info? 38).get infoA338_is
theorem infoA338:Tryz.prog.info? 38=some infoA338_v:=(Option.some_get _).symm
def Qbl(x0:Qc):Option (Bool) :=
 QbM x0>>=fun t2=>some (!t2)
theorem QdG(x0:Qc)(r:Bool)(hF:Qbl x0=some r)(w:World) :
    Calls Tryz.prog 101 #[.agg (Cd.cs Qa x0).toArray] w (fun e w'=>e=.returned (.bool r)∧Below w.heap.size w w'):=by
 unfold Qbl at hF
 refine ce (l:=[.agg (Cd.cs Qa x0).toArray]) func101 rfl rfl ?_
 refine QN ?_
 refine sr ?_
 refine Qag (cs:=Cd.cs Qa x0) rfl rfl rfl ?_
 intro b1
 refine aa (ns ?_)
 refine aw (Qe (c:=Qa) (z:=x0) isAgg38 sizeOf38 rfl (Qp .z lw)) ?_
 obtain ⟨t2,ht2,hF⟩:=bM hF
 refine cB func61 rfl (fun w hw=>QcU _ _ ht2 w) ?_
 refine aw (r_not rfl) ?_
 refine aa (qn (dz (wq [2] ?_)))
 refine tn (qt ?_)
 have K:=os hF
 subst K
 exact r1 wb
def Qz.l0(x0:List Qc)(i2:Int):Option (Ctl (Int) (Unit)) :=
 if (decide (i2<(x0.length:Int)))=true then (if (0:Int)≤i2∧i2<(x0.length:Int) then Qbl (lget x0 i2)>>=fun t8=>if t8=true then (some (.ret i2)) else (Qz.l0 x0 (wr .i64 (i2+1))) else none) else (some (.nx ()))
 partial_fixpoint
def Qz(x0:List Qc):Option (Int) :=
 Qz.l0 x0 0>>=fun q1=>match q1 with | .ret r'=>some r' | .nx sq1=>(some (-1))
theorem Qch(x0:List Qc)(p0_:Option Addr)(c0_:Nat)(r:Int)(hF:Qz x0=some r)(w:World)(hr0:Row Qa w p0_ c0_ x0) :
    Calls Tryz.prog 128 #[.slice p0_ x0.length c0_,.func (.func 101) #[] #[]] w (fun e w'=>e=.returned (.int .i64 r)∧Below w.heap.size w w'):=by
 unfold Qz at hF
 refine ce (l:=[.slice p0_ x0.length c0_,.func (.func 101) #[] #[]]) func128 rfl rfl ?_
 refine QN ?_
 refine sr (aa (nt (qs (sr (am ?_)))))
 refine aw (Q6 underlying58 rfl) ?_
 refine am (nwq [8,7,1,0] ?_)
 refine qb ?_
 obtain ⟨q1,hq1,hF⟩:=bM hF
 refine wq [8,7,1,0] ?_
 refine QbG (B:=0) (r:=r) (q:=q1) (A:=fun (_:Unit) Y=>At 19 [] (Wd w []) Y) ?_ ?_
 ·intro K
  refine Qz.l0.partial_correctness x0 (motive:=fun i2 x=>KR (fun (_:Unit) Y=>At 19 [] (Wd w []) Y) _ 0 r x→Round (fun Y=>At 19 [(0,.slice p0_ x0.length c0_),(1,.func (.func 101) #[] #[]),(7,.int .i64 (x0.length:Int)),(8,.int .i64 i2)] (Wd w []) Y) _ _ _) ?_ _ _ hq1 K
  ·clear K hF
   intro g ih i2 x hF K
   refine QS ?_
   refine sr (aw xl (nwq [9,8,7,1,0] ?_))
   refine qs ?_
   obtain ⟨h3,hF⟩|⟨h3,hF⟩:=oi hF
   ·refine ct h3 ?_
    refine sn (qs ?_)
    refine qb ?_
    refine sr (am (aa (nwx [8,7,5,1,0] ?_)))
    refine am (am (am ?_))
    obtain ⟨h4,hF⟩:=gd hF
    obtain ⟨b6,o7,hp5⟩:=QR hr0 h4
    refine aw (r_idx underlying58 sizeOf38 rfl rfl h4 hp5) ?_
    refine aw (Qe (c:=Qa) (z:=lget x0 i2) isAgg38 sizeOf38 rfl (QaF (fun _ h=>h.below) hr0 h4 hp5)) ?_
    refine at_callee rfl ?_
    obtain ⟨t8,ht8,hF⟩:=bM hF
    refine cB func101 rfl (fun w hw=>QdG _ _ ht8 w) ?_
    refine nwq [16,8,7,5,1,0] ?_
    obtain ⟨h9,hF⟩|⟨h9,hF⟩:=oi hF
    ·refine ct h9 ?_
     refine sr (am (aa (nwq [4] ?_)))
     refine qt ?_
     refine br (tr (tr (br (tr ?_))))
     obtain rfl:=os hF
     subst K
     exact r1 wb
    refine cf h9 ?_
    refine Qaz ?_
    refine bm ?_
    refine qr (aw xa (am (nwq [8,7,1,0] ?_)))
    exact Qm (ih _ _ hF K) ⟨rfl,rfl,rfl,rfl,trivial⟩
   refine cf h3 ?_
   refine Q1 ?_
   refine te (te ?_)
   obtain rfl:=os hF
   exact Qm K trivial
 cases q1 with
 | ret r'=>exact os hF
 | nx sq1 =>
  skip
  refine Qw ?_
  refine tn (sr (aa (nwq [4] ?_)))
  refine qt ?_
  have K:=os hF
  subst K
  exact r1 wb
def QbJ(x0:List Qc):Option (List Qc):=if (0+x0.length)*32≤140737488355328 then some x0 else none
theorem Qef(x0:List Qc)(p:Option Addr)(cap:Nat)(r:List Qc)(hF:QbJ x0=some r)(w:World)(hr:Row Qa w p cap x0) :
    Calls Tryz.prog 100 #[.slice p x0.length cap] w (fun e w'=>∃ p' cap',e=.returned (.slice p' r.length cap')∧Own Qa 38 w.heap.size w' p' cap' r∧Below w.heap.size w w'):=by
 unfold QbJ at hF
 obtain ⟨h,hF⟩:=gd hF
 obtain rfl:=os hF
 have heq:∀ w1,(binOp .eql 58 (.slice p x0.length cap) (.slice none 0 0)).run Tryz.prog w1=.ok (.bool p.isNone) w1:=fun w1=>Lib.run_eql_slice_nil w1 _ _ p x0.length cap 0 0 underlying58
 refine ce (l:=[.slice p x0.length cap]) func100 rfl rfl ?_
 refine QN ?_
 refine sr (aa (qn (tn (qs (sr (am ?_))))))
 refine at_val (v:=.bool p.isNone) rfl rfl rfl (fun a w1 h _=>?_) ?_
 ·have hx:a.eval (.tmp 3)=.slice p x0.length cap:=h.eval rfl
  have hy:a.eval (.const (.slice none 0 0))=.slice none 0 0:=rfl
  have hg:∀ (t:TypeId) (x y:Operand),(eqGuard .eql t x y (.slice p x0.length cap) (.slice none 0 0)).run Tryz.prog w1=.ok () w1:=fun t x y=>rfl
  simp only [execOp,hx,hy,Sem.run_bind,hg,Result.andThen_ok,heq]
  rfl
 refine qn (tn ?_)
 rcases hp:p with _ | a0
 ·have hxs:x0=[]:=by
   rcases hr.2 with h0 | ⟨b,o,hb,_⟩
   ·exact h0
   ·rw [hp] at hb;cases hb
  subst hxs
  refine ct rfl ?_
  refine sr (aa (qn (tn (rt ?_))))
  exact r1 (fun w1 hw=>⟨none,0,rfl,Own.nil _ _ _ _,hw.below⟩)
 refine cf rfl ?_
 refine sns ?_
 refine at_lit0 Qa underlying58 sizeOf38 rfl ?_
 intro b
 refine am ?_
 refine Qdk (z:=.agg (Cd.cs Qa zv9).toArray) (c:=Qa) (ys:=x0) .z underlying58 infoA338 (by kernel_rfl) (by kernel_rfl) rfl rfl rfl (fun w1 hw=>hp▸hr.below hw.below) (by kernel_rfl) h (Qaj h) rfl ?_
 intro p' cap'
 refine aa (qn (tn (qt ?_)))
 exact r1 (fun w1 hw=>⟨p',cap',rfl,hw.own .z,hw.below⟩)
def Qy.l0(i6:List Qc)(i7:Int)(i9:Int):Option (List Qc×Int) :=
 if (decide (i9<(i6.length:Int)))=true then (if (0:Int)≤i9∧i9<(i6.length:Int) then Qbl (lget i6 i9)>>=fun t20=>if (!t20)=true then (if (0:Int)≤i7∧i7<(i6.length:Int) then Qy.l0 (lset i6 i7 (lget i6 i9)) (wr .i64 (i7+1)) (wr .i64 (i9+1)) else none) else (Qy.l0 i6 i7 (wr .i64 (i9+1))) else none) else (some (i6,i7))
 partial_fixpoint
def Qy(x0:List Qc):Option (List Qc) :=
 Qz x0>>=fun t1=>if (t1==(-1))=true then (some x0) else (Qy.l0 x0 t1 (wr .i64 (t1+1))>>=fun q5=>if (0:Int)≤q5.2∧q5.2≤(q5.1.length:Int)∧(q5.1.length:Int)≤(q5.1.length:Int) then if (0:Int)≤q5.2∧q5.2≤((List.take (Int.toNat q5.2) q5.1++List.replicate (List.length q5.1-Int.toNat q5.2) ({ f_A:=({ f_V:=(0:Int),f_B:=(Vector.replicate 16 (0:Int):(Vector Int 16)) }:Qh),f_Bits:=(0:Int) }:Qc)).length:Int) then some (List.take (Int.toNat q5.2) (List.take (Int.toNat q5.2) q5.1++List.replicate (List.length q5.1-Int.toNat q5.2) ({ f_A:=({ f_V:=(0:Int),f_B:=(Vector.replicate 16 (0:Int):(Vector Int 16)) }:Qh),f_Bits:=(0:Int) }:Qc))) else none else none)
theorem Qcd{x0:List Qc}{r:List Qc}(hF:Qy x0=some r):∀ {w0 w:World} {G_:List Ent} {p0_:Option Addr} {c0_:Nat} (hw_:Wd w0 (rowE Qa 38 p0_ c0_ x0::G_) w),
    Calls Tryz.prog 99 #[.slice p0_ x0.length c0_,.func (.func 101) #[] #[]] w (fun e w'=>∃ (p:Option Addr) (cap:Nat),e=.returned (.slice p r.length cap)∧Wd w0 (rowE Qa 38 p cap r::G_) w'):=by
 intro w0 w G_ p0_ c0_ hw_
 unfold Qy at hF
 refine ce (l:=[.slice p0_ x0.length c0_,.func (.func 101) #[] #[]]) func99 rfl rfl ?_
 refine at_enterF hw_ ?_
 refine sr (aa (ns (am (am ?_))))
 obtain ⟨t1,ht1,hF⟩:=bM hF
 refine cB func128 rfl (fun w hw=>Qch _ _ _ _ ht1 w (hw.own .z).row) ?_
 refine aa (nt (qs (sr (am (aw xq (nwq [12,5,1,0] ?_))))))
 obtain ⟨h2,hF⟩|⟨h2,hF⟩:=oi hF
 ·refine ct h2 ?_
  refine sr (am (aa (nwq [4] ?_)))
  refine rt ?_
  have K:=os hF
  subst K
  exact r1 (fun w1 hw=>⟨p0_,c0_,rfl,hw⟩)
 refine cf h2 ?_
 refine sn (qs (sr (am (aw xa (aa (nwq [6,5,1,0] ?_))))))
 refine qb ?_
 obtain ⟨q5,hq5,hF⟩:=bM hF
 refine wq [6,5,1,0] ?_
 refine Q5 (B:=0) (A:=fun Y=>∀ (p12:Option Addr) (c13:Nat),At 42 [(0,.slice p12 q5.1.length c13),(5,.int .i64 q5.2)] (Wd w0 (rowE Qa 38 p12 c13 q5.1::G_)) Y) ?_ ?_
 ·intro K
  refine Qy.l0.partial_correctness  (motive:=fun i6 i7 i9 x=>KN (fun Y=>∀ (p12:Option Addr) (c13:Nat),At 42 [(0,.slice p12 x.1.length c13),(5,.int .i64 x.2)] (Wd w0 (rowE Qa 38 p12 c13 x.1::G_)) Y) _ 0→Round (fun Y=>∀ (p10:Option Addr) (c11:Nat),At 42 [(0,.slice p10 i6.length c11),(1,.func (.func 101) #[] #[]),(5,.int .i64 i7),(6,.int .i64 i9)] (Wd w0 (rowE Qa 38 p10 c11 i6::G_)) Y) _ _ _) ?_ _ _ _ _ hq5 K p0_ c0_
  ·clear K hF
   intro g ih i6 i7 i9 x hF K p10 c11
   refine QS ?_
   refine qs (sr (am (am ?_)))
   refine aw (Q6 underlying58 rfl) ?_
   refine aw xl (nwq [19,6,5,1,0] ?_)
   obtain ⟨h14,hF⟩|⟨h14,hF⟩:=oi hF
   ·refine ct h14 ?_
    refine sn (qs ?_)
    refine qb ?_
    refine sr (am (am ?_))
    obtain ⟨h15,hF⟩:=gd hF
    refine QaU (φ:=∃ b o,p10=some ⟨b,o,none⟩) (fun _ hw=>QR (hw.own .z).row h15) ?_
    rintro ⟨b17,o18,hp16⟩
    refine aw (r_idx underlying58 sizeOf38 rfl rfl h15 hp16) ?_
    refine aw (Qe (c:=Qa) (z:=lget i6 i9) isAgg38 sizeOf38 rfl (fun w1 hw=>QaF (W:=fun w1=>w1=_) (fun w1 h=>by subst h;exact Below.refl _ _) (hw.own .z).row h15 hp16 _ rfl)) ?_
    refine al (cs:=Cd.cs Qa zv9) zeroValue38 ?_
    intro b19
    refine QX (c:=Qa) (z:=lget i6 i9) .z lw sizeOf38 rfl rfl rfl ?_
    refine nwx [7,6,5,1,0] ?_
    refine am ?_
    refine aw (Qe (c:=Qa) (z:=lget i6 i9) isAgg38 sizeOf38 rfl (Qp .z lw)) ?_
    refine at_callee rfl ?_
    obtain ⟨t20,ht20,hF⟩:=bM hF
    refine cB func101 rfl (fun w hw=>QdG _ _ ht20 w) ?_
    refine aw (r_not rfl) ?_
    refine nwq [29,7,6,5,1,0] ?_
    obtain ⟨h21,hF⟩|⟨h21,hF⟩:=oi hF
    ·refine ct h21 ?_
     refine sr (am (am ?_))
     refine aw (Qe (c:=Qa) (z:=lget i6 i9) isAgg38 sizeOf38 rfl (Qp .z lw)) ?_
     obtain ⟨h22,hF⟩:=gd hF
     refine QaU (φ:=∃ b o,p10=some ⟨b,o,none⟩) (fun _ hw=>QR (hw.own (.s .z)).row h22) ?_
     rintro ⟨b24,o25,hp23⟩
     refine aw (r_idx underlying58 sizeOf38 rfl rfl h22 hp23) ?_
     refine Qe5 (c:=Qa) (c':=Qa) (i:=i7) (z:=lget i6 i9) (y:=lget i6 i9) (.s .z) h22 hp23 lw (by rfl) sizeOf38 rfl rfl rfl ?_
     refine at_ov (t:=0) rfl (show Value.slice p10 (List.length i6) c11=.slice p10 (List.length (lset i6 i7 (lget i6 i9))) c11 from congrArg (fun n_=>Value.slice p10 n_ c11) ((Qcx _ _ _).symm)) ?_
     refine at_ov (t:=30) rfl (show Value.slice p10 (List.length i6) c11=.slice p10 (List.length (lset i6 i7 (lget i6 i9))) c11 from congrArg (fun n_=>Value.slice p10 n_ c11) ((Qcx _ _ _).symm)) ?_
     refine qn (dz (tn (qr (am (aw xa (aa (qn (wq [6,5,1,0] ?_))))))))
     refine bm ?_
     refine qr (am (aw xa (aa (nwq [6,5,1,0] ?_))))
     exact Qm (ih _ _ _ _ hF K p10 c11) ⟨rfl,rfl,rfl,rfl,trivial⟩
    refine cf h21 ?_
    refine Qaz ?_
    refine bm ?_
    refine qr (am (aw xa (aa (qn (dz (wq [6,5,1,0] ?_))))))
    refine tn ?_
    exact Qm (ih _ _ _ _ hF K p10 c11) ⟨rfl,rfl,rfl,rfl,trivial⟩
   refine cf h14 ?_
   refine Q1 ?_
   refine te (te ?_)
   obtain rfl:=os hF
   exact Qm (K p10 c11) ⟨rfl,rfl,trivial⟩
 skip
 intro p12 c13
 refine Qw ?_
 refine tn (sr (am (am ?_)))
 obtain ⟨h26,hF⟩:=gd hF
 refine QaU (fun w1 hw=>(hw.own .z).row.len) ?_
 intro hl27
 refine aw (Qev (c:=Qa) underlying58 sizeOf38 rfl hl27 ⟨_,rfl⟩ rfl h26) ?_
 refine at_clearRow (c:=Qa) (z:=zv9) (lo:=q5.2) .z underlying58 sizeOf38 zeroValue38 rfl h26 rfl ?_
 refine at_ov (t:=0) rfl (show Value.slice p12 (List.length q5.1) c13=.slice p12 (List.length (List.take (Int.toNat q5.2) q5.1++List.replicate (List.length q5.1-Int.toNat q5.2) zv9)) c13 from congrArg (fun n_=>Value.slice p12 n_ c13) ((clear_length h26).symm)) ?_
 refine at_ov (t:=36) rfl (show Value.slice p12 (List.length q5.1) c13=.slice p12 (List.length (List.take (Int.toNat q5.2) q5.1++List.replicate (List.length q5.1-Int.toNat q5.2) zv9)) c13 from congrArg (fun n_=>Value.slice p12 n_ c13) ((clear_length h26).symm)) ?_
 refine nwx [5,0] ?_
 refine am (am ?_)
 obtain ⟨h28,hF⟩:=gd hF
 refine at_cutOwn (c:=Qa) .z underlying58 sizeOf38 rfl rfl h28 rfl ?_
 refine aa (nwq [4] ?_)
 refine qt ?_
 have K:=os hF
 subst K
 exact r1 (fun w1 hw=>⟨p12,c13,rfl,hw⟩)
end Go.Proofs.YtahlbjmafceoeaaGreatDoor
namespace Go.Proofs.YtahlbjmafceoeaaGreatDoor
def num(l:List UInt8):Nat:=l.foldl (fun a b=>a*256+b.toNat) 0
theorem num_snoc(l:List UInt8)(x:UInt8):num (l++[x])=num l*256+x.toNat:=by simp [num]
theorem num_from(l:List UInt8)(a:Nat):l.foldl (fun a b=>a*256+b.toNat) a=a*256 ^ l.length+num l:=by
 induction l generalizing a with
 | nil=>simp [num]
 | cons x r ih =>
  unfold num
  rw [List.foldl_cons,List.foldl_cons,ih,ih (0*256+x.toNat),List.length_cons,Nat.pow_succ]
  rw [Nat.add_mul,Nat.zero_mul,Nat.zero_add,Nat.mul_assoc,Nat.mul_comm 256,Nat.add_assoc]
theorem num_append(l k:List UInt8):num (l++k)=num l*256 ^ k.length+num k:=by
 unfold num;rw [List.foldl_append,num_from];rfl
theorem QfW(x:UInt8)(r:List UInt8):num (x::r)=x.toNat*256 ^ r.length+num r:=by
 rw [show x::r=[x]++r from rfl,num_append];simp [num]
theorem num_lt:∀ l:List UInt8,num l<256 ^ l.length
 | []=>by simp [num]
 | x::r=>by
  rw [QfW,List.length_cons,Nat.pow_succ]
  have h1:=num_lt r
  have h2:=x.toNat_lt
  have h3:(x.toNat+1)*256 ^ r.length≤256*256 ^ r.length:=Nat.mul_le_mul_right _ (by omega)
  rw [Nat.add_mul,Nat.one_mul] at h3
  rw [Nat.mul_comm (256 ^ r.length)]
  omega
theorem cmp_num:∀ (a b:List UInt8),a.length=b.length→(Lib.compareBytes a b<0↔num a<num b)
 | [],[],_=>by simp [Lib.compareBytes,num]
 | x::a,y::b,h=>by
  have hl:a.length=b.length:=by simpa using h
  have ha:=num_lt a
  have hb:=num_lt b
  rw [QfW,QfW,←hl]
  rw [←hl] at hb
  unfold Lib.compareBytes
  by_cases h1:x<y
  ·rw [if_pos h1]
   have h2:x.toNat+1≤y.toNat:=UInt8.lt_iff_toNat_lt.1 h1
   have h3:(x.toNat+1)*256 ^ a.length≤y.toNat*256 ^ a.length:=Nat.mul_le_mul_right _ h2
   rw [Nat.add_mul,Nat.one_mul] at h3
   constructor
   ·intro _;omega
   ·intro _;decide
  ·rw [if_neg h1]
   by_cases h2:y<x
   ·rw [if_pos h2]
    have h4:y.toNat+1≤x.toNat:=UInt8.lt_iff_toNat_lt.1 h2
    have h3:(y.toNat+1)*256 ^ a.length≤x.toNat*256 ^ a.length:=Nat.mul_le_mul_right _ h4
    rw [Nat.add_mul,Nat.one_mul] at h3
    constructor
    ·intro h;exact absurd h (by decide)
    ·intro _;omega
   ·rw [if_neg h2]
    have he:x.toNat=y.toNat:=by
     have e1:=mt UInt8.lt_iff_toNat_lt.2 h1
     have e2:=mt UInt8.lt_iff_toNat_lt.2 h2
     omega
    rw [cmp_num a b hl,he]
    omega
theorem num_inj:∀ {a b:List UInt8},a.length=b.length→num a=num b→a=b
 | [],[],_,_=>rfl
 | x::a,y::b,h,e=>by
  have hl:a.length=b.length:=by simpa using h
  rw [QfW,QfW,←hl] at e
  have ha:=num_lt a
  have hb:=num_lt b
  rw [←hl] at hb
  have hx:x.toNat=y.toNat:=by
   rcases Nat.lt_trichotomy x.toNat y.toNat with h | h | h
   ·have h3:(x.toNat+1)*256 ^ a.length≤y.toNat*256 ^ a.length:=Nat.mul_le_mul_right _ h
    rw [Nat.add_mul,Nat.one_mul] at h3;omega
   ·exact h
   ·have h3:(y.toNat+1)*256 ^ a.length≤x.toNat*256 ^ a.length:=Nat.mul_le_mul_right _ h
    rw [Nat.add_mul,Nat.one_mul] at h3;omega
  rw [hx] at e
  rw [UInt8.toNat_inj.1 hx,num_inj hl (by omega)]
def digs:Nat→Nat→List UInt8
 | 0,_=>[]
 | m+1,n=>digs m (n/256)++[UInt8.ofNat (n%256)]
theorem Qbt:∀ m n,(digs m n).length=m
 | 0,_=>rfl
 | m+1,n=>by simp [digs,Qbt m]
theorem num_digs:∀ m n,n<256 ^ m→num (digs m n)=n
 | 0,n,h=>by simp at h;subst h;rfl
 | m+1,n,h=>by
  rw [digs,num_snoc,num_digs m (n/256) (by rw [Nat.pow_succ] at h;omega),UInt8.toNat_ofNat',Nat.mod_mod]
  omega
theorem digs_num(l:List UInt8):digs l.length (num l)=l:=num_inj (Qbt _ _) (num_digs _ _ (num_lt l))
theorem digs_get:∀ (m n i:Nat),i<m→(digs m n)[i]? = some (UInt8.ofNat (n/256 ^ (m-1-i)%256))
 | m+1,n,i,h=>by
  rw [digs]
  by_cases hi:i=m
  ·subst hi
   rw [List.getElem?_append_right (by rw [Qbt];exact Nat.le_refl _),Qbt]
   simp
  ·rw [List.getElem?_append_left (by rw [Qbt];omega),digs_get m (n/256) i (by omega),Nat.div_div_eq_div_mul]
   congr 4
   rw [show m+1-1-i=m-1-i+1 by omega,Nat.pow_succ,Nat.mul_comm]
end Go.Proofs.YtahlbjmafceoeaaGreatDoor
namespace Go.Proofs.YtahlbjmafceoeaaGreatDoor
open E Go.RowKit
def okb(v:Vector Int 16):Bool:=v.toList.all fun n=>decide (0≤n)&&decide (n<256)
theorem okb_mem{v:Vector Int 16}(h:okb v=true):∀ n∈v.toList,0≤n∧n<256:=fun n hn=>by
 have:=List.all_eq_true.1 h n hn
 simpa using this
def ordI(x y:Qc):Int:=(QcR x y).getD 0
theorem unb_inj:∀ {a b:List Int},(∀ n∈a,0≤n∧n<256)→(∀ n∈b,0≤n∧n<256)→unb a=unb b→a=b
 | [],[],_,_,_=>rfl
 | [],_::_,_,_,h=>by simp [unb] at h
 | _::_,[],_,_,h=>by simp [unb] at h
 | x::a,y::b,ha,hb,h=>by
  have h':UInt8.ofNat x.toNat::unb a=UInt8.ofNat y.toNat::unb b:=h
  injection h' with h1 h2
  have hx:=ha x (List.mem_cons_self ..)
  have hy:=hb y (List.mem_cons_self ..)
  have h3:x.toNat=y.toNat:=by
   have:=congrArg UInt8.toNat h1
   rw [UInt8.toNat_ofNat',UInt8.toNat_ofNat',Nat.mod_eq_of_lt (by omega),Nat.mod_eq_of_lt (by omega)] at this
   exact this
  rw [show x=y by omega,unb_inj (fun n hn=>ha n (List.mem_cons_of_mem _ hn)) (fun n hn=>hb n (List.mem_cons_of_mem _ hn)) h2]
theorem unb_len(l:List Int):(unb l).length=l.length:=by simp [unb]
theorem keyA_inj{a b:Qh}(ha:okb a.f_B=true)(hb:okb b.f_B=true)(h1:a.f_V=b.f_V)(h2:num (unb a.f_B.toList)=num (unb b.f_B.toList)):a=b:=by
 have e:=unb_inj (okb_mem ha) (okb_mem hb) (num_inj (by rw [unb_len,unb_len,Vector.length_toList,Vector.length_toList]) h2)
 obtain ⟨v,x⟩:=a
 obtain ⟨u,y⟩:=b
 simp only at h1 e
 subst h1
 rw [Vector.toList_inj.1 e]
def lessK(a b:Qh):Bool:=if a.f_V=b.f_V then decide (num (unb a.f_B.toList)<num (unb b.f_B.toList)) else decide (a.f_V<b.f_V)
theorem less_key(a b:Qh):Qct a b=some (lessK a b):=by
 unfold Qct lessK
 by_cases h:a.f_V=b.f_V
 ·have hne:(a.f_V != b.f_V)=false:=by simpa using h
  rw [hne,if_neg Bool.false_ne_true,if_pos h]
  unfold QdY
  show some (decide (Lib.compareBytes _ _<0))=_
  congr 1
  rw [decide_eq_decide]
  exact cmp_num _ _ (by rw [unb_len,unb_len,Vector.length_toList,Vector.length_toList])
 ·have hne:(a.f_V != b.f_V)=true:=by simpa using h
  rw [hne,if_pos rfl,if_neg h]
def lessP(x y:Qc):Bool:=if x.f_A=y.f_A then decide (x.f_Bits<y.f_Bits) else lessK x.f_A y.f_A
theorem QfI(x y:Qc):Qc0 x y=some (lessP x y):=by
 unfold Qc0 lessP
 by_cases h:x.f_A=y.f_A
 ·rw [decide_eq_true h,if_pos rfl,if_pos h]
 ·rw [decide_eq_false h,if_neg Bool.false_ne_true,if_neg h,less_key];rfl
theorem order_key(x y:Qc):QcR x y=some (if lessP x y=true then -1 else if lessP y x=true then 1 else 0):=by
 unfold QcR
 rw [QfI,QfI]
 show (if lessP x y=true then some (-1) else (if lessP y x=true then some 1 else some 0))=_
 split
 ·rfl
 ·split<;>rfl
theorem ltOf_ord:ltOf ordI=lessP:=by
 funext x y
 unfold ltOf ordI
 rw [order_key]
 show decide ((if lessP x y=true then (-1:Int) else if lessP y x=true then 1 else 0)<0)=_
 cases h:lessP x y
 ·rw [if_neg Bool.false_ne_true];split<;>rfl
 ·rfl
def okP(x:Qc):Prop:=okb x.f_A.f_B=true
theorem lessP_iff{x y:Qc}(hx:okP x)(hy:okP y):lessP x y=true↔x.f_A.f_V<y.f_A.f_V∨(x.f_A.f_V=y.f_A.f_V∧(num (unb x.f_A.f_B.toList)<num (unb y.f_A.f_B.toList)∨(num (unb x.f_A.f_B.toList)=num (unb y.f_A.f_B.toList)∧x.f_Bits<y.f_Bits))):=by
 unfold lessP lessK
 by_cases h:x.f_A=y.f_A
 ·rw [if_pos h,decide_eq_true_iff,h];omega
 ·rw [if_neg h]
  by_cases hV:x.f_A.f_V=y.f_A.f_V
  ·rw [if_pos hV,decide_eq_true_iff]
   have hn:num (unb x.f_A.f_B.toList)≠num (unb y.f_A.f_B.toList):=fun e=>h (keyA_inj hx hy hV e)
   omega
  ·rw [if_neg hV,decide_eq_true_iff];omega
theorem Qdt{x y:Qc}(hx:okP x)(hy:okP y):lessP x y=false↔¬ (x.f_A.f_V<y.f_A.f_V∨(x.f_A.f_V=y.f_A.f_V∧(num (unb x.f_A.f_B.toList)<num (unb y.f_A.f_B.toList)∨(num (unb x.f_A.f_B.toList)=num (unb y.f_A.f_B.toList)∧x.f_Bits<y.f_Bits)))):=by
 rw [←lessP_iff hx hy];simp
theorem Qd8:SWOn okP lessP where
 irrefl x hx:=by rw [Qdt hx hx];omega
 trans x y z hx hy hz h1 h2:=by rw [lessP_iff hx hy] at h1;rw [lessP_iff hy hz] at h2;rw [lessP_iff hx hz];omega
 ntrans x y z hx hy hz h1 h2:=by rw [Qdt hx hy] at h1;rw [Qdt hy hz] at h2;rw [Qdt hx hz];omega
theorem lessP_anti{x y:Qc}(hx:okP x)(hy:okP y)(h1:lessP x y=false)(h2:lessP y x=false):x=y:=by
 rw [Qdt hx hy] at h1
 rw [Qdt hy hx] at h2
 have e1:=keyA_inj (a:=x.f_A) (b:=y.f_A) hx hy (by omega) (by omega)
 have e2:x.f_Bits=y.f_Bits:=by omega
 obtain ⟨a,b⟩:=x
 obtain ⟨c,d⟩:=y
 simp only at e1 e2
 rw [e1,e2]
def Qc4(xs:List Qc):Option (List Qc):=if (xs.all fun x=>okb x.f_A.f_B)=true∧xs.length≤1000000 then some (isort lessP xs) else none
theorem Qfo{xs r:List Qc}(h:Qc4 xs=some r):r.length=xs.length:=by
 unfold Qc4 at h
 split at h
 ·cases h;exact Qdz _ _
 ·cases h
theorem sort_Prefix_ok{xs r:List Qc}(h:Qc4 xs=some r){w0 w:World}{H G:List Ent}{f:Ent→List Ent}{p:Option Addr}{cap:Nat}(hu:Upd H (rowE Qa 38 p cap xs) f G)(hw:Wd w0 H w) :
  Calls Tryz.prog 102 #[.slice p xs.length cap,.func (.func 103) #[] #[]] w fun en w'=>en=.returned (.tuple #[])∧Wd w0 (f (rowE Qa 38 p cap r)) w':=by
 unfold Qc4 at h
 split at h
 ·next hh =>
  cases h
  have hK:∀ x∈xs,okP x:=fun x hx=>List.all_eq_true.1 hh.1 x hx
  have:=sort_calls Tryz.sortP Qa okP Tryz.isAgg38 Tryz.sizeOf38 ordI (by rw [ltOf_ord];exact Qd8) 103 (enters_of Tryz.func103 (by kernel_rfl) rfl)
   (fun x y _ _ w=>aggregate_order_ok _ _ _ (by unfold ordI;rw [order_key];rfl) w) hK (by rw [ltOf_ord];exact fun x hx y hy h1 h2=>lessP_anti (hK x hx) (hK y hy) h1 h2) (by omega) hu hw
  rw [ltOf_ord] at this
  exact this
 ·cases h
end Go.Proofs.YtahlbjmafceoeaaGreatDoor
