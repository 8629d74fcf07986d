/- Texts of this claim, those in one that belong together; printed by a program of this project. -/
import Derived.Test.YtahlbjmafceoeaaGreatDoorProg
import Derived.Test.YtahlbjmafceoeaaGreatDoorKLintTells2
set_option linter.unusedVariables false
set_option linter.unusedSimpArgs false
set_option maxRecDepth 20000
namespace Go.Proofs.YtahlbjmafceoeaaGreatDoor
open E Go.RowKit _root_.Go.Proofs.Tryz
theorem infoA438_is:(Tryz.prog.info? 38).isSome=true:=by kernel_rfl
noncomputable def infoA438_v:TypeInfo:=(Tryz.prog.info? 38).get infoA438_is
theorem infoA438:Tryz.prog.info? 38=some infoA438_v:=(Option.some_get _).symm
theorem infoA4112_is:(Tryz.prog.info? 112).isSome=true:=by kernel_rfl
noncomputable def infoA4112_v:TypeInfo:=(Tryz.prog.info? 112).get infoA4112_is
theorem infoA4112:Tryz.prog.info? 112=some infoA4112_v:=(Option.some_get _).symm
theorem infoA4144_is:(Tryz.prog.info? 144).isSome=true:=by kernel_rfl
noncomputable def infoA4144_v:TypeInfo:=(Tryz.prog.info? 144).get infoA4144_is
theorem infoA4144:Tryz.prog.info? 144=some infoA4144_v:=(Option.some_get _).symm
def Qak.l0(t7:List Qc)(i11:List QF)(i12:Int):Option (List QF) :=
 if (decide (i12<(t7.length:Int)))=true then (if (0:Int)≤i12∧i12<(t7.length:Int) then if ((i11.length:Int)==0)=true then (QaO (lget t7 i12)>>=fun t25=>if (i11.length+1)*48≤140737488355328 then Qak.l0 t7 (i11++[{ { ({ f_From:=({ f_V:=(0:Int),f_B:=(Vector.replicate 16 (0:Int):(Vector Int 16)) }:Qh),f_To:=({ f_V:=(0:Int),f_B:=(Vector.replicate 16 (0:Int):(Vector Int 16)) }:Qh) }:QF) with f_From:=(lget t7 i12).f_A } with f_To:=t25 }]) (wr .i64 (i12+1)) else none) else (if (0:Int)≤wr .i64 ((i11.length:Int)-1)∧wr .i64 ((i11.length:Int)-1)<(i11.length:Int) then QcS (lget i11 (wr .i64 ((i11.length:Int)-1))) (lget t7 i12)>>=fun t35=>if (!t35)=true then (QaO (lget t7 i12)>>=fun t38=>if (i11.length+1)*48≤140737488355328 then Qak.l0 t7 (i11++[{ { ({ f_From:=({ f_V:=(0:Int),f_B:=(Vector.replicate 16 (0:Int):(Vector Int 16)) }:Qh),f_To:=({ f_V:=(0:Int),f_B:=(Vector.replicate 16 (0:Int):(Vector Int 16)) }:Qh) }:QF) with f_From:=(lget t7 i12).f_A } with f_To:=t38 }]) (wr .i64 (i12+1)) else none) else (QaO (lget t7 i12)>>=fun t44=>if (0:Int)≤wr .i64 ((i11.length:Int)-1)∧wr .i64 ((i11.length:Int)-1)<(i11.length:Int) then Qct ((lget i11 (wr .i64 ((i11.length:Int)-1))).f_To) t44>>=fun t50=>if t50=true then (if (0:Int)≤wr .i64 ((i11.length:Int)-1)∧wr .i64 ((i11.length:Int)-1)<(i11.length:Int) then Qak.l0 t7 (lset i11 (wr .i64 ((i11.length:Int)-1)) ({ (lget i11 (wr .i64 ((i11.length:Int)-1))) with f_To:=t44 })) (wr .i64 (i12+1)) else none) else (Qak.l0 t7 i11 (wr .i64 (i12+1))) else none) else none) else none) else (some i11)
 partial_fixpoint
def Qak(x0:List Qc):Option (List QF) :=
 QbJ x0>>=fun t1=>Qy t1>>=fun t4=>Qc4 t4>>=fun t7=>Qak.l0 t7 ([]:List QF) 0>>=fun q10=>some q10
set_option maxHeartbeats 3200000 in
theorem QgB(x0:List Qc)(p0_:Option Addr)(c0_:Nat)(r:List QF)(hF:Qak x0=some r)(w:World)(hr0:Row Qa w p0_ c0_ x0) :
    Calls Tryz.prog 75 #[.slice p0_ x0.length c0_] w (fun e w'=>∃ p cap,e=.returned (.slice p r.length cap)∧Own Qu 112 w.heap.size w' p cap r∧Below w.heap.size w w'):=by
 unfold Qak at hF
 refine ce (l:=[.slice p0_ x0.length c0_]) func75 rfl rfl ?_
 refine QN ?_
 refine sr (aa (nwx [0] ?_))
 refine am ?_
 obtain ⟨t1,ht1,hF⟩:=bM hF
 refine Qca (c:=Qa) (e:=38) (ys:=t1) (V:=fun p cap=>.slice p t1.length cap) func100 rfl (by kernel_rfl) rfl rfl (fun w hw=>Qef _ _ _ _ ht1 w (hr0.below hw.below)) ?_
 intro p2 c3
 obtain ⟨t4,ht4,hF⟩:=bM hF
 refine at_callG (V:=fun p cap=>.slice p t4.length cap) (T:=fun p cap=>[rowE Qa 38 p cap t4]) func99 rfl (by kernel_rfl) rfl rfl (fun w hw=>Qcd ht4 hw) ?_
 intro p5 c6
 refine aa (nwx [3] ?_)
 refine am ?_
 obtain ⟨t7,ht7,hF⟩:=bM hF
 refine at_callN (v:=.tuple #[]) (T:=[rowE Qa 38 p5 c6 t7]) func102 rfl (by kernel_rfl) rfl rfl (fun w hw=>sort_Prefix_ok ht7 .z hw) ?_
 refine at_ov (t:=3) rfl (show Value.slice p5 (List.length t4) c6=.slice p5 (List.length t7) c6 from congrArg (fun n_=>Value.slice p5 n_ c6) ((Qfo ht7).symm)) ?_
 refine at_ov (t:=12) rfl (show Value.slice p5 (List.length t4) c6=.slice p5 (List.length t7) c6 from congrArg (fun n_=>Value.slice p5 n_ c6) ((Qfo ht7).symm)) ?_
 refine ns (aa (nt (qs (sr (am ?_)))))
 refine aw (Q6 underlying58 rfl) ?_
 refine am (nwq [16,15,14,4] ?_)
 refine qb ?_
 refine Qbd Qu 112 ?_
 obtain ⟨q10,hq10,hF⟩:=bM hF
 refine wq [16,15,14,4] ?_
 refine Q5 (B:=0) (A:=fun Y=>∀ (p15:Option Addr) (c16:Nat),At 60 [(4,.slice p15 q10.length c16)] (Wd w [rowE Qu 112 p15 c16 q10]) Y) ?_ ?_
 ·intro K
  refine Qak.l0.partial_correctness t7 (motive:=fun i11 i12 x=>KN (fun Y=>∀ (p15:Option Addr) (c16:Nat),At 60 [(4,.slice p15 x.length c16)] (Wd w [rowE Qu 112 p15 c16 x]) Y) _ 0→Round (fun Y=>∀ (p13:Option Addr) (c14:Nat),At 60 [(4,.slice p13 i11.length c14),(14,.slice p5 t7.length c6),(15,.int .i64 (t7.length:Int)),(16,.int .i64 i12)] (Wd w [rowE Qu 112 p13 c14 i11,rowE Qa 38 p5 c6 t7]) Y) _ _ _) ?_ _ _ _ hq10 K none 0
  ·clear K hF
   intro g ih i11 i12 x hF K p13 c14
   refine QS ?_
   refine sr (aw xl (nwq [17,16,15,14,4] ?_))
   refine qs ?_
   obtain ⟨h17,hF⟩|⟨h17,hF⟩:=oi hF
   ·refine ct h17 ?_
    refine sn (qs ?_)
    refine qb ?_
    refine sr ?_
    obtain ⟨h18,hF⟩:=gd hF
    refine QaU (φ:=∃ b o,p5=some ⟨b,o,none⟩) (fun _ hw=>QR (hw.own (.s .z)).row h18) ?_
    rintro ⟨b20,o21,hp19⟩
    refine aw (r_idx underlying58 sizeOf38 rfl rfl h18 hp19) ?_
    refine aw (Qe (c:=Qa) (z:=lget t7 i12) isAgg38 sizeOf38 rfl (fun w1 hw=>QaF (W:=fun w1=>w1=_) (fun w1 h=>by subst h;exact Below.refl _ _) (hw.own (.s .z)).row h18 hp19 _ rfl)) ?_
    refine al (cs:=Cd.cs Qa zv9) zeroValue38 ?_
    intro b22
    refine QX (c:=Qa) (z:=lget t7 i12) .z lw sizeOf38 rfl rfl rfl ?_
    refine ns (am ?_)
    refine aw (Q6 underlying109 rfl) ?_
    refine aa (nt (qs (qs (wq [16,15,14,7,6,4] ?_))))
    obtain ⟨h23,hF⟩|⟨h23,hF⟩:=oi hF
    ·skip
     refine Qcv [.q 22 (fun g24=>.int .i64 (i11.length:Int)) [] 0 0,.q 23 (fun g24=>.bool ((i11.length:Int)==0)) [0] 0 0,.q 24 (fun g24=>.bool true) [1] 0 0,.q 25 (fun g24=>undef) [2] 0 0,.q 26 (fun g24=>undef) [2] 0 0,.q 27 (fun g24=>undef) [2,4] 0 0,.q 28 (fun g24=>undef) [2,3,5] 0 0,.q 29 (fun g24=>undef) [2,6] 0 0,.q 30 (fun g24=>undef) [2] 0 0,.q 31 (fun g24=>undef) [2,7,8] 0 0,.q 32 (fun g24=>undef) [2,9] 0 0,.q 33 (fun g24=>.bool true) [2,10] 0 0] (fun g24 s=>match s with | _=>(Wd w [Qs b22 (Cd.cs Qa (lget t7 i12)) 38,rowE Qu 112 p13 c14 i11,rowE Qa 38 p5 c6 t7])) 0 (by kernel_rfl) (by kernel_rfl) (by kernel_rfl) (by kernel_rfl) (by kernel_rfl) ⟨fun _ _ _=>rfl,fun _ _ _=>rfl,fun _ _ _=>rfl,fun _ _ _=>rfl,fun _ _ _=>rfl,fun _ _ _=>rfl,fun _ _ _=>rfl,fun _ _ _=>rfl,fun _ _ _=>rfl,fun _ _ _=>rfl,fun _ _ _=>rfl,fun _ _ _=>rfl,trivial⟩ (by kernel_rfl) (fun w_ h=>⟨fun _=>g3 0 none 0 none w_,h.drew⟩) ⟨?_,?_,?_,?_,?_,?_,?_,?_,?_,?_,?_,?_,trivial⟩ ?_
     ·intro Lx g24 s K hl hh k
      show At 60 ((4,_)::(6,_)::(7,_)::(14,_)::(15,_)::(16,_)::Lx) _ _
      refine am ?_
      exact Qn k
     ·intro Lx g24 s K hl hh k
      show At 60 ((22,_)::(4,_)::(6,_)::(7,_)::(14,_)::(15,_)::(16,_)::Lx) _ _
      refine aw xq ?_
      exact Qn k
     ·intro Lx g24 s K hl hh k
      show At 60 ((23,_)::(4,_)::(6,_)::(7,_)::(14,_)::(15,_)::(16,_)::Lx) _ _
      refine am ?_
      exact Qn (QcH h23 k)
     ·intro Lx g24 s K hl hh k
      show At 60 ((24,_)::(4,_)::(6,_)::(7,_)::(14,_)::(15,_)::(16,_)::Lx) _ _
      refine gn ?_
      exact Qn k
     ·intro Lx g24 s K hl hh k
      show At 60 ((24,_)::(4,_)::(6,_)::(7,_)::(14,_)::(15,_)::(16,_)::Lx) _ _
      refine gn ?_
      exact Qn k
     ·intro Lx g24 s K hl hh k
      show At 60 ((24,_)::(26,_)::(4,_)::(6,_)::(7,_)::(14,_)::(15,_)::(16,_)::Lx) _ _
      refine gn ?_
      exact Qn k
     ·intro Lx g24 s K hl hh k
      show At 60 ((24,_)::(25,_)::(27,_)::(4,_)::(6,_)::(7,_)::(14,_)::(15,_)::(16,_)::Lx) _ _
      refine gn ?_
      exact Qn k
     ·intro Lx g24 s K hl hh k
      show At 60 ((24,_)::(28,_)::(4,_)::(6,_)::(7,_)::(14,_)::(15,_)::(16,_)::Lx) _ _
      obtain rfl:s=0:=by omega
      refine gn ?_
      exact Qn k
     ·intro Lx g24 s K hl hh k
      show At 60 ((24,_)::(4,_)::(6,_)::(7,_)::(14,_)::(15,_)::(16,_)::Lx) _ _
      obtain rfl:s=0:=by omega
      refine gn ?_
      exact Qn k
     ·intro Lx g24 s K hl hh k
      show At 60 ((24,_)::(29,_)::(30,_)::(4,_)::(6,_)::(7,_)::(14,_)::(15,_)::(16,_)::Lx) _ _
      obtain rfl:s=0:=by omega
      refine gn ?_
      exact Qn k
     ·intro Lx g24 s K hl hh k
      show At 60 ((24,_)::(31,_)::(4,_)::(6,_)::(7,_)::(14,_)::(15,_)::(16,_)::Lx) _ _
      refine gn ?_
      exact Qn k
     ·intro Lx g24 s K hl hh k
      show At 60 ((24,_)::(32,_)::(4,_)::(6,_)::(7,_)::(14,_)::(15,_)::(16,_)::Lx) _ _
      refine aw xp ?_
      exact Qn k
     intro g24
     show At 60 [(22,_),(23,_),(24,_),(25,_),(26,_),(27,_),(28,_),(29,_),(30,_),(31,_),(32,_),(33,_),(4,_),(6,_),(7,_),(14,_),(15,_),(16,_)] _ _
     refine wq [33,16,15,14,7,6,4] ?_
     refine tn ?_
     refine ct rfl ?_
     refine qs (wq [16,15,14,6,4] ?_)
     obtain ⟨t25,ht25,hF⟩:=bM hF
     refine QfM [.q 34 (fun g27=>.slice p13 i11.length c14) [] 0 1,.q 35 (fun g27=>.pointer (some ⟨b22,0+0,none⟩)) [] 0 0,.q 36 (fun g27=>.agg (Cd.cs Qb ((lget t7 i12).f_A)).toArray) [1] 0 0,.q 37 (fun g27=>.agg (Cd.cs Qa (lget t7 i12)).toArray) [] 0 0,.q 38 (fun g27=>.agg (Cd.cs Qb t25).toArray) [3] 0 0,.q 39 (fun g27=>.agg (Cd.cs Qu ({ { zv10 with f_From:=(lget t7 i12).f_A } with f_To:=t25 })).toArray) [2,4] 0 0,.al 0 40 (fun g27=>.slice (some ⟨((g27 0).1),0,none⟩) ([{ { zv10 with f_From:=(lget t7 i12).f_A } with f_To:=t25 }]:List QF).length 1) [5]] (fun g27 s=>match s with | 0=>(Wd w [Qs b22 (Cd.cs Qa (lget t7 i12)) 38,rowE Qu 112 p13 c14 i11,rowE Qa 38 p5 c6 t7]) | _=>(Wd w [Qs ((g27 0).1) (Qu.all ([{ { zv10 with f_From:=(lget t7 i12).f_A } with f_To:=t25 }]:List QF)) 112,Qs b22 (Cd.cs Qa (lget t7 i12)) 38,rowE Qu 112 p13 c14 i11,rowE Qa 38 p5 c6 t7])) 1 7 (by kernel_rfl) (by kernel_rfl) (by kernel_rfl) (by kernel_rfl) (by kernel_rfl) (by kernel_rfl) ⟨fun _ _ _=>rfl,fun _ _ _=>rfl,fun _ _ _=>rfl,fun _ _ _=>rfl,fun _ _ _=>rfl,fun _ _ _=>rfl,fun g27 g2 h=>by show (.slice (some ⟨((g27 0).1),0,none⟩) ([{ { zv10 with f_From:=(lget t7 i12).f_A } with f_To:=t25 }]:List QF).length 1:Value)=.slice (some ⟨((g2 0).1),0,none⟩) ([{ { zv10 with f_From:=(lget t7 i12).f_A } with f_To:=t25 }]:List QF).length 1;rw [h 0 (show 0<1 by decide)],trivial⟩ (by kernel_rfl) (fun w_ h=>⟨fun _=>g3 0 none 0 none w_,h.drew⟩) ⟨?_,?_,?_,?_,?_,?_,?_,trivial⟩ ?_
     ·intro Lx g27 s K hl hh k
      show At 60 ((4,_)::(6,_)::(14,_)::(15,_)::(16,_)::Lx) _ _
      refine am ?_
      exact Qn k
     ·intro Lx g27 s K hl hh k
      show At 60 ((4,_)::(6,_)::(14,_)::(15,_)::(16,_)::Lx) _ _
      refine fa 0 underlying38 rfl sizeOf36 ?_
      exact Qn k
     ·intro Lx g27 s K hl hh k
      show At 60 ((35,_)::(4,_)::(6,_)::(14,_)::(15,_)::(16,_)::Lx) _ _
      obtain rfl:s=0:=by omega
      refine aw (Qe (c:=Qb) (z:=(lget t7 i12).f_A) isAgg36 sizeOf36 rfl (Qp .z (Lens.comp lw (fun z=>{ lget t7 i12 with f_A:=z }) (QG (lget t7 i12))))) ?_
      exact Qn k
     ·intro Lx g27 s K hl hh k
      show At 60 ((4,_)::(6,_)::(14,_)::(15,_)::(16,_)::Lx) _ _
      obtain rfl:s=0:=by omega
      refine aw (Qe (c:=Qa) (z:=lget t7 i12) isAgg38 sizeOf38 rfl (Qp .z lw)) ?_
      exact Qn k
     ·intro Lx g27 s K hl hh k
      show At 60 ((37,_)::(4,_)::(6,_)::(14,_)::(15,_)::(16,_)::Lx) _ _
      obtain rfl:s=0:=by omega
      refine cB func105 rfl (fun w hw=>Qcs _ _ ht25 w) ?_
      exact Qn k
     ·intro Lx g27 s K hl hh k
      show At 60 ((36,_)::(38,_)::(4,_)::(6,_)::(14,_)::(15,_)::(16,_)::Lx) _ _
      obtain rfl:s=0:=by omega
      refine aw (QW (zs:=Cd.cs Qu zv10) (cs:=Cd.cs Qu ({ { zv10 with f_From:=(lget t7 i12).f_A } with f_To:=t25 })) underlying112 zeroValue112 rfl (QcW) rfl (QI (c:=Qb) (z:=(lget t7 i12).f_A) rfl (Qba zv10) rfl (QI (c:=Qb) (z:=t25) rfl (QaS ({ zv10 with f_From:=(lget t7 i12).f_A })) rfl rfl))) ?_
      exact Qn k
     ·intro Lx g27 K k
      show At 60 ((39,_)::(4,_)::(6,_)::(14,_)::(15,_)::(16,_)::Lx) _ _
      refine Qbu (c:=Qu) ([zv10]:List QF) ([{ { zv10 with f_From:=(lget t7 i12).f_A } with f_To:=t25 }]:List QF) underlying109 sizeOf112 zeroValue112 rfl rfl rfl (by kernel_rfl) (QI (c:=Qu) (z:={ { zv10 with f_From:=(lget t7 i12).f_A } with f_To:=t25 }) rfl (Lens.all Qu ([zv10]:List QF) 0 (by first | decide | exact Nat.le_of_ble_eq_true rfl)) rfl rfl) rfl ?_
      intro b26
      exact Qn (k (g3 b26 none 0 none w))
     intro g27
     show At 60 [(34,_),(35,_),(36,_),(37,_),(38,_),(39,_),(40,_),(4,_),(6,_),(14,_),(15,_),(16,_)] _ _
     obtain ⟨h28,hF⟩:=gd hF
     refine Qax (z:=.agg (Cd.cs Qu zv10).toArray) (c:=Qu) (ys:=([{ { zv10 with f_From:=(lget t7 i12).f_A } with f_To:=t25 }]:List QF)) (.s (.s .z)) underlying109 infoA4112 (by kernel_rfl) (by kernel_rfl) rfl rfl rfl rfl (fun _ hw=>Qaw (hw.ok (Upd.mem .z))) (by kernel_rfl) h28 (Qaj h28) rfl ?_
     intro p29 c30
     refine aa (qn (dz (dz (wq [16,15,14,4] ?_))))
     refine tn ?_
     refine Q1 ?_
     refine te (Qw (tn ?_))
     refine qr (aw xa (am (nwq [16,15,14,4] ?_)))
     exact Qm (ih _ _ _ hF K p29 c30) ⟨rfl,rfl,rfl,rfl,trivial⟩
    skip
    obtain ⟨h31,hF⟩:=gd hF
    refine QaU (φ:=∃ b o,p13=some ⟨b,o,none⟩) (fun _ hw=>QR (hw.own (.s .z)).row h31) ?_
    rintro ⟨b33,o34,hp32⟩
    obtain ⟨t35,ht35,hF⟩:=bM hF
    refine Qcv [.q 22 (fun g36=>.int .i64 (i11.length:Int)) [] 0 0,.q 23 (fun g36=>.bool ((i11.length:Int)==0)) [0] 0 0,.q 24 (fun g36=>.bool false) [1] 0 0,.q 25 (fun g36=>.slice p13 i11.length c14) [2] 0 0,.q 26 (fun g36=>.int .i64 (i11.length:Int)) [2] 0 0,.q 27 (fun g36=>.int .i64 (wr .i64 ((i11.length:Int)-1))) [2,4] 0 0,.q 28 (fun g36=>.pointer (some ⟨b33,o34+Int.toNat (wr .i64 ((i11.length:Int)-1))*34,none⟩)) [2,3,5] 0 0,.q 29 (fun g36=>.agg (Cd.cs Qu (lget i11 (wr .i64 ((i11.length:Int)-1)))).toArray) [2,6] 0 0,.q 30 (fun g36=>.agg (Cd.cs Qa (lget t7 i12)).toArray) [2] 0 0,.q 31 (fun g36=>.bool t35) [2,7,8] 0 0,.q 32 (fun g36=>.bool (!t35)) [2,9] 0 0,.q 33 (fun g36=>.bool (!t35)) [2,10] 0 0] (fun g36 s=>match s with | _=>(Wd w [Qs b22 (Cd.cs Qa (lget t7 i12)) 38,rowE Qu 112 p13 c14 i11,rowE Qa 38 p5 c6 t7])) 0 (by kernel_rfl) (by kernel_rfl) (by kernel_rfl) (by kernel_rfl) (by kernel_rfl) ⟨fun _ _ _=>rfl,fun _ _ _=>rfl,fun _ _ _=>rfl,fun _ _ _=>rfl,fun _ _ _=>rfl,fun _ _ _=>rfl,fun _ _ _=>rfl,fun _ _ _=>rfl,fun _ _ _=>rfl,fun _ _ _=>rfl,fun _ _ _=>rfl,fun _ _ _=>rfl,trivial⟩ (by kernel_rfl) (fun w_ h=>⟨fun _=>g3 0 none 0 none w_,h.drew⟩) ⟨?_,?_,?_,?_,?_,?_,?_,?_,?_,?_,?_,?_,trivial⟩ ?_
    ·intro Lx g36 s K hl hh k
     show At 60 ((4,_)::(6,_)::(7,_)::(14,_)::(15,_)::(16,_)::Lx) _ _
     refine am ?_
     exact Qn k
    ·intro Lx g36 s K hl hh k
     show At 60 ((22,_)::(4,_)::(6,_)::(7,_)::(14,_)::(15,_)::(16,_)::Lx) _ _
     refine aw xq ?_
     exact Qn k
    ·intro Lx g36 s K hl hh k
     show At 60 ((23,_)::(4,_)::(6,_)::(7,_)::(14,_)::(15,_)::(16,_)::Lx) _ _
     refine am ?_
     exact Qn (QcH h23 k)
    ·intro Lx g36 s K hl hh k
     show At 60 ((24,_)::(4,_)::(6,_)::(7,_)::(14,_)::(15,_)::(16,_)::Lx) _ _
     refine gy ?_
     refine am ?_
     exact Qn k
    ·intro Lx g36 s K hl hh k
     show At 60 ((24,_)::(4,_)::(6,_)::(7,_)::(14,_)::(15,_)::(16,_)::Lx) _ _
     refine gy ?_
     refine am ?_
     exact Qn k
    ·intro Lx g36 s K hl hh k
     show At 60 ((24,_)::(26,_)::(4,_)::(6,_)::(7,_)::(14,_)::(15,_)::(16,_)::Lx) _ _
     refine gy ?_
     refine aw (Qci rfl rfl) ?_
     exact Qn k
    ·intro Lx g36 s K hl hh k
     show At 60 ((24,_)::(25,_)::(27,_)::(4,_)::(6,_)::(7,_)::(14,_)::(15,_)::(16,_)::Lx) _ _
     refine gy ?_
     refine aw (r_idx underlying109 sizeOf112 rfl rfl h31 hp32) ?_
     exact Qn k
    ·intro Lx g36 s K hl hh k
     show At 60 ((24,_)::(28,_)::(4,_)::(6,_)::(7,_)::(14,_)::(15,_)::(16,_)::Lx) _ _
     refine gy ?_
     obtain rfl:s=0:=by omega
     refine aw (Qe (c:=Qu) (z:=lget i11 (wr .i64 ((i11.length:Int)-1))) isAgg112 sizeOf112 rfl (fun w1 hw=>QaF (W:=fun w1=>w1=_) (fun w1 h=>by subst h;exact Below.refl _ _) (hw.own (.s .z)).row h31 hp32 _ rfl)) ?_
     exact Qn k
    ·intro Lx g36 s K hl hh k
     show At 60 ((24,_)::(4,_)::(6,_)::(7,_)::(14,_)::(15,_)::(16,_)::Lx) _ _
     refine gy ?_
     obtain rfl:s=0:=by omega
     refine aw (Qe (c:=Qa) (z:=lget t7 i12) isAgg38 sizeOf38 rfl (Qp .z lw)) ?_
     exact Qn k
    ·intro Lx g36 s K hl hh k
     show At 60 ((24,_)::(29,_)::(30,_)::(4,_)::(6,_)::(7,_)::(14,_)::(15,_)::(16,_)::Lx) _ _
     refine gy ?_
     obtain rfl:s=0:=by omega
     refine cB func104 rfl (fun w hw=>aggregate_joins_ok _ _ _ ht35 w) ?_
     exact Qn k
    ·intro Lx g36 s K hl hh k
     show At 60 ((24,_)::(31,_)::(4,_)::(6,_)::(7,_)::(14,_)::(15,_)::(16,_)::Lx) _ _
     refine gy ?_
     refine aw (r_not rfl) ?_
     exact Qn k
    ·intro Lx g36 s K hl hh k
     show At 60 ((24,_)::(32,_)::(4,_)::(6,_)::(7,_)::(14,_)::(15,_)::(16,_)::Lx) _ _
     refine aw xp ?_
     exact Qn k
    intro g36
    show At 60 [(22,_),(23,_),(24,_),(25,_),(26,_),(27,_),(28,_),(29,_),(30,_),(31,_),(32,_),(33,_),(4,_),(6,_),(7,_),(14,_),(15,_),(16,_)] _ _
    refine wq [33,16,15,14,7,6,4] ?_
    refine tn ?_
    obtain ⟨h37,hF⟩|⟨h37,hF⟩:=oi hF
    ·refine ct h37 ?_
     refine qs (wq [16,15,14,6,4] ?_)
     obtain ⟨t38,ht38,hF⟩:=bM hF
     refine QfM [.q 34 (fun g40=>.slice p13 i11.length c14) [] 0 1,.q 35 (fun g40=>.pointer (some ⟨b22,0+0,none⟩)) [] 0 0,.q 36 (fun g40=>.agg (Cd.cs Qb ((lget t7 i12).f_A)).toArray) [1] 0 0,.q 37 (fun g40=>.agg (Cd.cs Qa (lget t7 i12)).toArray) [] 0 0,.q 38 (fun g40=>.agg (Cd.cs Qb t38).toArray) [3] 0 0,.q 39 (fun g40=>.agg (Cd.cs Qu ({ { zv10 with f_From:=(lget t7 i12).f_A } with f_To:=t38 })).toArray) [2,4] 0 0,.al 0 40 (fun g40=>.slice (some ⟨((g40 0).1),0,none⟩) ([{ { zv10 with f_From:=(lget t7 i12).f_A } with f_To:=t38 }]:List QF).length 1) [5]] (fun g40 s=>match s with | 0=>(Wd w [Qs b22 (Cd.cs Qa (lget t7 i12)) 38,rowE Qu 112 p13 c14 i11,rowE Qa 38 p5 c6 t7]) | _=>(Wd w [Qs ((g40 0).1) (Qu.all ([{ { zv10 with f_From:=(lget t7 i12).f_A } with f_To:=t38 }]:List QF)) 112,Qs b22 (Cd.cs Qa (lget t7 i12)) 38,rowE Qu 112 p13 c14 i11,rowE Qa 38 p5 c6 t7])) 1 7 (by kernel_rfl) (by kernel_rfl) (by kernel_rfl) (by kernel_rfl) (by kernel_rfl) (by kernel_rfl) ⟨fun _ _ _=>rfl,fun _ _ _=>rfl,fun _ _ _=>rfl,fun _ _ _=>rfl,fun _ _ _=>rfl,fun _ _ _=>rfl,fun g40 g2 h=>by show (.slice (some ⟨((g40 0).1),0,none⟩) ([{ { zv10 with f_From:=(lget t7 i12).f_A } with f_To:=t38 }]:List QF).length 1:Value)=.slice (some ⟨((g2 0).1),0,none⟩) ([{ { zv10 with f_From:=(lget t7 i12).f_A } with f_To:=t38 }]:List QF).length 1;rw [h 0 (show 0<1 by decide)],trivial⟩ (by kernel_rfl) (fun w_ h=>⟨fun _=>g3 0 none 0 none w_,h.drew⟩) ⟨?_,?_,?_,?_,?_,?_,?_,trivial⟩ ?_
     ·intro Lx g40 s K hl hh k
      show At 60 ((4,_)::(6,_)::(14,_)::(15,_)::(16,_)::Lx) _ _
      refine am ?_
      exact Qn k
     ·intro Lx g40 s K hl hh k
      show At 60 ((4,_)::(6,_)::(14,_)::(15,_)::(16,_)::Lx) _ _
      refine fa 0 underlying38 rfl sizeOf36 ?_
      exact Qn k
     ·intro Lx g40 s K hl hh k
      show At 60 ((35,_)::(4,_)::(6,_)::(14,_)::(15,_)::(16,_)::Lx) _ _
      obtain rfl:s=0:=by omega
      refine aw (Qe (c:=Qb) (z:=(lget t7 i12).f_A) isAgg36 sizeOf36 rfl (Qp .z (Lens.comp lw (fun z=>{ lget t7 i12 with f_A:=z }) (QG (lget t7 i12))))) ?_
      exact Qn k
     ·intro Lx g40 s K hl hh k
      show At 60 ((4,_)::(6,_)::(14,_)::(15,_)::(16,_)::Lx) _ _
      obtain rfl:s=0:=by omega
      refine aw (Qe (c:=Qa) (z:=lget t7 i12) isAgg38 sizeOf38 rfl (Qp .z lw)) ?_
      exact Qn k
     ·intro Lx g40 s K hl hh k
      show At 60 ((37,_)::(4,_)::(6,_)::(14,_)::(15,_)::(16,_)::Lx) _ _
      obtain rfl:s=0:=by omega
      refine cB func105 rfl (fun w hw=>Qcs _ _ ht38 w) ?_
      exact Qn k
     ·intro Lx g40 s K hl hh k
      show At 60 ((36,_)::(38,_)::(4,_)::(6,_)::(14,_)::(15,_)::(16,_)::Lx) _ _
      obtain rfl:s=0:=by omega
      refine aw (QW (zs:=Cd.cs Qu zv10) (cs:=Cd.cs Qu ({ { zv10 with f_From:=(lget t7 i12).f_A } with f_To:=t38 })) underlying112 zeroValue112 rfl (QcW) rfl (QI (c:=Qb) (z:=(lget t7 i12).f_A) rfl (Qba zv10) rfl (QI (c:=Qb) (z:=t38) rfl (QaS ({ zv10 with f_From:=(lget t7 i12).f_A })) rfl rfl))) ?_
      exact Qn k
     ·intro Lx g40 K k
      show At 60 ((39,_)::(4,_)::(6,_)::(14,_)::(15,_)::(16,_)::Lx) _ _
      refine Qbu (c:=Qu) ([zv10]:List QF) ([{ { zv10 with f_From:=(lget t7 i12).f_A } with f_To:=t38 }]:List QF) underlying109 sizeOf112 zeroValue112 rfl rfl rfl (by kernel_rfl) (QI (c:=Qu) (z:={ { zv10 with f_From:=(lget t7 i12).f_A } with f_To:=t38 }) rfl (Lens.all Qu ([zv10]:List QF) 0 (by first | decide | exact Nat.le_of_ble_eq_true rfl)) rfl rfl) rfl ?_
      intro b39
      exact Qn (k (g3 b39 none 0 none w))
     intro g40
     show At 60 [(34,_),(35,_),(36,_),(37,_),(38,_),(39,_),(40,_),(4,_),(6,_),(14,_),(15,_),(16,_)] _ _
     obtain ⟨h41,hF⟩:=gd hF
     refine Qax (z:=.agg (Cd.cs Qu zv10).toArray) (c:=Qu) (ys:=([{ { zv10 with f_From:=(lget t7 i12).f_A } with f_To:=t38 }]:List QF)) (.s (.s .z)) underlying109 infoA4112 (by kernel_rfl) (by kernel_rfl) rfl rfl rfl rfl (fun _ hw=>Qaw (hw.ok (Upd.mem .z))) (by kernel_rfl) h41 (Qaj h41) rfl ?_
     intro p42 c43
     refine aa (qn (dz (dz (wq [16,15,14,4] ?_))))
     refine tn ?_
     refine Q1 ?_
     refine te (Qw (tn ?_))
     refine qr (aw xa (am (nwq [16,15,14,4] ?_)))
     exact Qm (ih _ _ _ hF K p42 c43) ⟨rfl,rfl,rfl,rfl,trivial⟩
    refine cf h37 ?_
    refine sns ?_
    refine aw (Qe (c:=Qa) (z:=lget t7 i12) isAgg38 sizeOf38 rfl (Qp .z lw)) ?_
    obtain ⟨t44,ht44,hF⟩:=bM hF
    refine cB func105 rfl (fun w hw=>Qcs _ _ ht44 w) ?_
    refine al (cs:=Cd.cs Qb zv1) zeroValue36 ?_
    intro b45
    refine QX (c:=Qb) (z:=t44) .z lw sizeOf36 rfl rfl rfl ?_
    refine qn ?_
    refine Qal (H:=_) (.s .z) ?_
    refine tn (qs (wq [16,15,14,8,7,4] ?_))
    obtain ⟨h46,hF⟩:=gd hF
    refine QaU (φ:=∃ b o,p13=some ⟨b,o,none⟩) (fun _ hw=>QR (hw.own (.s .z)).row h46) ?_
    rintro ⟨b48,o49,hp47⟩
    obtain ⟨t50,ht50,hF⟩:=bM hF
    refine Qcv [.q 44 (fun g51=>.slice p13 i11.length c14) [] 0 0,.q 45 (fun g51=>.int .i64 (i11.length:Int)) [] 0 0,.q 46 (fun g51=>.int .i64 (wr .i64 ((i11.length:Int)-1))) [1] 0 0,.q 47 (fun g51=>.pointer (some ⟨b48,o49+Int.toNat (wr .i64 ((i11.length:Int)-1))*34,none⟩)) [0,2] 0 0,.q 48 (fun g51=>.pointer (some ⟨b48,o49+Int.toNat (wr .i64 ((i11.length:Int)-1))*34+17,none⟩)) [3] 0 0,.q 49 (fun g51=>.agg (Cd.cs Qb ((lget i11 (wr .i64 ((i11.length:Int)-1))).f_To)).toArray) [4] 0 0,.q 50 (fun g51=>.agg (Cd.cs Qb t44).toArray) [] 0 0,.q 51 (fun g51=>.bool t50) [5,6] 0 0] (fun g51 s=>match s with | _=>(Wd w [Qs b45 (Cd.cs Qb t44) 36,rowE Qu 112 p13 c14 i11,rowE Qa 38 p5 c6 t7])) 0 (by kernel_rfl) (by kernel_rfl) (by kernel_rfl) (by kernel_rfl) (by kernel_rfl) ⟨fun _ _ _=>rfl,fun _ _ _=>rfl,fun _ _ _=>rfl,fun _ _ _=>rfl,fun _ _ _=>rfl,fun _ _ _=>rfl,fun _ _ _=>rfl,fun _ _ _=>rfl,trivial⟩ (by kernel_rfl) (fun w_ h=>⟨fun _=>g3 0 none 0 none w_,h.drew⟩) ⟨?_,?_,?_,?_,?_,?_,?_,?_,trivial⟩ ?_
    ·intro Lx g51 s K hl hh k
     show At 60 ((4,_)::(7,_)::(8,_)::(14,_)::(15,_)::(16,_)::Lx) _ _
     refine am ?_
     exact Qn k
    ·intro Lx g51 s K hl hh k
     show At 60 ((4,_)::(7,_)::(8,_)::(14,_)::(15,_)::(16,_)::Lx) _ _
     refine am ?_
     exact Qn k
    ·intro Lx g51 s K hl hh k
     show At 60 ((45,_)::(4,_)::(7,_)::(8,_)::(14,_)::(15,_)::(16,_)::Lx) _ _
     refine aw (Qci rfl rfl) ?_
     exact Qn k
    ·intro Lx g51 s K hl hh k
     show At 60 ((44,_)::(46,_)::(4,_)::(7,_)::(8,_)::(14,_)::(15,_)::(16,_)::Lx) _ _
     refine aw (r_idx underlying109 sizeOf112 rfl rfl h46 hp47) ?_
     exact Qn k
    ·intro Lx g51 s K hl hh k
     show At 60 ((47,_)::(4,_)::(7,_)::(8,_)::(14,_)::(15,_)::(16,_)::Lx) _ _
     refine fa 17 underlying112 rfl sizeOf36 ?_
     exact Qn k
    ·intro Lx g51 s K hl hh k
     show At 60 ((48,_)::(4,_)::(7,_)::(8,_)::(14,_)::(15,_)::(16,_)::Lx) _ _
     obtain rfl:s=0:=by omega
     refine aw (Qe (c:=Qb) (z:=(lget i11 (wr .i64 ((i11.length:Int)-1))).f_To) isAgg36 sizeOf36 rfl (fun w1 hw=>QbH (y:=(lget i11 (wr .i64 ((i11.length:Int)-1))).f_To) (W:=fun w1=>w1=_) (fun w1 h=>by subst h;exact Below.refl _ _) (hw.own (.s .z)).row h46 hp47 (Lens.comp lw (fun z=>{ (lget i11 (wr .i64 ((i11.length:Int)-1))) with f_To:=z }) (QaS (lget i11 (wr .i64 ((i11.length:Int)-1))))) _ rfl)) ?_
     exact Qn k
    ·intro Lx g51 s K hl hh k
     show At 60 ((4,_)::(7,_)::(8,_)::(14,_)::(15,_)::(16,_)::Lx) _ _
     obtain rfl:s=0:=by omega
     refine aw (Qe (c:=Qb) (z:=t44) isAgg36 sizeOf36 rfl (Qp .z lw)) ?_
     exact Qn k
    ·intro Lx g51 s K hl hh k
     show At 60 ((49,_)::(50,_)::(4,_)::(7,_)::(8,_)::(14,_)::(15,_)::(16,_)::Lx) _ _
     obtain rfl:s=0:=by omega
     refine cB func92 rfl (fun w hw=>Qdc _ _ _ ht50 w) ?_
     exact Qn k
    intro g51
    show At 60 [(44,_),(45,_),(46,_),(47,_),(48,_),(49,_),(50,_),(51,_),(4,_),(7,_),(8,_),(14,_),(15,_),(16,_)] _ _
    refine wq [51,16,15,14,8,7,4] ?_
    refine tn ?_
    obtain ⟨h52,hF⟩|⟨h52,hF⟩:=oi hF
    ·refine ct h52 ?_
     refine qr (am (am ?_))
     refine aw (Qci rfl rfl) ?_
     refine aw (Qe (c:=Qb) (z:=t44) isAgg36 sizeOf36 rfl (Qp .z lw)) ?_
     obtain ⟨h53,hF⟩:=gd hF
     refine QaU (φ:=∃ b o,p13=some ⟨b,o,none⟩) (fun _ hw=>QR (hw.own (.s .z)).row h53) ?_
     rintro ⟨b55,o56,hp54⟩
     refine aw (r_idx underlying109 sizeOf112 rfl rfl h53 hp54) ?_
     refine fa 17 underlying112 rfl sizeOf36 ?_
     refine Qe5 (c:=Qu) (c':=Qb) (i:=wr .i64 ((i11.length:Int)-1)) (z:=t44) (y:={ (lget i11 (wr .i64 ((i11.length:Int)-1))) with f_To:=t44 }) (.s .z) h53 hp54 (Lens.comp lw (fun z=>{ (lget i11 (wr .i64 ((i11.length:Int)-1))) with f_To:=z }) (QaS (lget i11 (wr .i64 ((i11.length:Int)-1))))) (by rfl) sizeOf36 rfl rfl rfl ?_
     refine at_ov (t:=4) rfl (show Value.slice p13 (List.length i11) c14=.slice p13 (List.length (lset i11 (wr .i64 ((i11.length:Int)-1)) ({ (lget i11 (wr .i64 ((i11.length:Int)-1))) with f_To:=t44 }))) c14 from congrArg (fun n_=>Value.slice p13 n_ c14) ((Qcx _ _ _).symm)) ?_
     refine at_ov (t:=52) rfl (show Value.slice p13 (List.length i11) c14=.slice p13 (List.length (lset i11 (wr .i64 ((i11.length:Int)-1)) ({ (lget i11 (wr .i64 ((i11.length:Int)-1))) with f_To:=t44 }))) c14 from congrArg (fun n_=>Value.slice p13 n_ c14) ((Qcx _ _ _).symm)) ?_
     refine qn (dz (wq [16,15,14,4] ?_))
     refine bm ?_
     refine qr (aw xa (am (nwq [16,15,14,4] ?_)))
     exact Qm (ih _ _ _ hF K p13 c14) ⟨rfl,rfl,rfl,rfl,trivial⟩
    refine cf h52 ?_
    refine Qaz ?_
    refine bm ?_
    refine qr (aw xa (am (qn (dz (wq [16,15,14,4] ?_)))))
    refine tn ?_
    exact Qm (ih _ _ _ hF K p13 c14) ⟨rfl,rfl,rfl,rfl,trivial⟩
   refine cf h17 ?_
   refine Q1 ?_
   refine te (te ?_)
   refine Qal (H:=_) (.s .z) ?_
   obtain rfl:=os hF
   exact Qm (K p13 c14) ⟨rfl,trivial⟩
 skip
 intro p15 c16
 refine Qw ?_
 refine tn (sr (am (aa (nwq [2] ?_))))
 refine qt ?_
 have K:=os hF
 subst K
 exact r1 (fun w1 hw=>⟨p15,c16,rfl,hw.own .z,hw.below⟩)
def QaW.l0(t1:List QF)(i7:List Qc)(i9:Int):Option (List Qc) :=
 if (decide (i9<(t1.length:Int)))=true then (if (0:Int)≤i9∧i9<(t1.length:Int) then QaR (lget t1 i9)>>=fun t20=>if (i7.length+t20.length)*32≤140737488355328 then QaW.l0 t1 (i7++t20) (wr .i64 (i9+1)) else none else none) else (some i7)
 partial_fixpoint
def QaW(x0:List Qc):Option (List Qc) :=
 Qak x0>>=fun t1=>QaW.l0 t1 ([]:List Qc) 0>>=fun q6=>some q6
theorem aggregate_Cover_ok(x0:List Qc)(p0_:Option Addr)(c0_:Nat)(r:List Qc)(hF:QaW x0=some r)(w:World)(hr0:Row Qa w p0_ c0_ x0) :
    Calls Tryz.prog 50 #[.slice p0_ x0.length c0_] w (fun e w'=>∃ p cap,e=.returned (.slice p r.length cap)∧Own Qa 38 w.heap.size w' p cap r∧Below w.heap.size w w'):=by
 unfold QaW at hF
 refine ce (l:=[.slice p0_ x0.length c0_]) func50 rfl rfl ?_
 refine QN ?_
 refine sr (aa (ns (aa (nt (qs (sr (am ?_)))))))
 obtain ⟨t1,ht1,hF⟩:=bM hF
 refine Qca (c:=Qu) (e:=112) (ys:=t1) (V:=fun p cap=>.slice p t1.length cap) func75 rfl (by kernel_rfl) rfl rfl (fun w hw=>QgB _ _ _ _ ht1 w (hr0.below hw.below)) ?_
 intro p2 c3
 refine aw (Q6 underlying109 rfl) ?_
 refine am (nwq [9,8,7,3] ?_)
 refine qb ?_
 refine Qbd Qa 38 ?_
 obtain ⟨q6,hq6,hF⟩:=bM hF
 refine wq [9,8,7,3] ?_
 refine Q5 (B:=0) (A:=fun Y=>∀ (p12:Option Addr) (c13:Nat),At 19 [(3,.slice p12 q6.length c13)] (Wd w [rowE Qa 38 p12 c13 q6]) Y) ?_ ?_
 ·intro K
  refine QaW.l0.partial_correctness t1 (motive:=fun i7 i9 x=>KN (fun Y=>∀ (p12:Option Addr) (c13:Nat),At 19 [(3,.slice p12 x.length c13)] (Wd w [rowE Qa 38 p12 c13 x]) Y) _ 0→Round (fun Y=>∀ (p10:Option Addr) (c11:Nat),At 19 [(3,.slice p10 i7.length c11),(7,.slice p2 t1.length c3),(8,.int .i64 (t1.length:Int)),(9,.int .i64 i9)] (Wd w [rowE Qa 38 p10 c11 i7,rowE Qu 112 p2 c3 t1]) Y) _ _ _) ?_ _ _ _ hq6 K none 0
  ·clear K hF
   intro g ih i7 i9 x hF K p10 c11
   refine QS ?_
   refine sr (aw xl (nwq [10,9,8,7,3] ?_))
   refine qs ?_
   obtain ⟨h14,hF⟩|⟨h14,hF⟩:=oi hF
   ·refine ct h14 ?_
    refine sn (qs ?_)
    refine qb ?_
    refine sr ?_
    obtain ⟨h15,hF⟩:=gd hF
    refine QaU (φ:=∃ b o,p2=some ⟨b,o,none⟩) (fun _ hw=>QR (hw.own (.s .z)).row h15) ?_
    rintro ⟨b17,o18,hp16⟩
    refine aw (r_idx underlying109 sizeOf112 rfl rfl h15 hp16) ?_
    refine aw (Qe (c:=Qu) (z:=lget t1 i9) isAgg112 sizeOf112 rfl (fun w1 hw=>QaF (W:=fun w1=>w1=_) (fun w1 h=>by subst h;exact Below.refl _ _) (hw.own (.s .z)).row h15 hp16 _ rfl)) ?_
    refine al (cs:=Cd.cs Qu zv10) zeroValue112 ?_
    intro b19
    refine QX (c:=Qu) (z:=lget t1 i9) .z lw sizeOf112 rfl rfl rfl ?_
    refine nt (qr (am ?_))
    refine aw (Qe (c:=Qu) (z:=lget t1 i9) isAgg112 sizeOf112 rfl (Qp .z lw)) ?_
    obtain ⟨t20,ht20,hF⟩:=bM hF
    refine Qca (c:=Qa) (e:=38) (ys:=t20) (V:=fun p cap=>.slice p t20.length cap) func76 rfl (by kernel_rfl) rfl rfl (fun w hw=>QfO _ _ ht20 w) ?_
    intro p21 c22
    obtain ⟨h23,hF⟩:=gd hF
    refine Qdk (z:=.agg (Cd.cs Qa zv9).toArray) (c:=Qa) (ys:=t20) (.s (.s .z)) underlying58 infoA438 (by kernel_rfl) (by kernel_rfl) rfl rfl rfl (fun w1 hw=>(hw.own .z).row) (by kernel_rfl) h23 (Qaj h23) rfl ?_
    intro p24 c25
    refine aa (qn (dz (dz (wq [9,8,7,3] ?_))))
    refine bm ?_
    refine qr (aw xa (am (nwq [9,8,7,3] ?_)))
    exact Qm (ih _ _ _ hF K p24 c25) ⟨rfl,rfl,rfl,rfl,trivial⟩
   refine cf h14 ?_
   refine Q1 ?_
   refine te (te ?_)
   refine Qal (H:=_) (.s .z) ?_
   obtain rfl:=os hF
   exact Qm (K p10 c11) ⟨rfl,trivial⟩
 skip
 intro p12 c13
 refine Qw ?_
 refine tn (sr (am (aa (nwq [2] ?_))))
 refine qt ?_
 have K:=os hF
 subst K
 exact r1 (fun w1 hw=>⟨p12,c13,rfl,hw.own .z,hw.below⟩)
def Q2.l1(x0:List Qc)(i4:List Qc)(i5:Int)(i18:Int):Option (Int) :=
 if (decide (i18>0))=true then (if (0:Int)≤i5∧i5<(x0.length:Int) then if (0:Int)≤wr .i64 (i18-1)∧wr .i64 (i18-1)<(i4.length:Int) then Qa1 (lget x0 i5) (lget i4 (wr .i64 (i18-1)))>>=fun t28=>if t28=true then (Q2.l1 x0 i4 i5 (wr .i64 (i18-1))) else (some i18) else none else none) else (some i18)
 partial_fixpoint
def Q2.l0(x0:List Qc)(i4:List Qc)(i5:Int):Option (List Qc) :=
 if (decide (i5<(x0.length:Int)))=true then (if (0:Int)≤i5∧i5<(x0.length:Int) then Qad (lget x0 i5)>>=fun t15=>if (!t15)=true then (Q2.l0 x0 i4 (wr .i64 (i5+1))) else (Q2.l1 x0 i4 i5 (i4.length:Int)>>=fun q17=>if (0:Int)≤0∧0≤q17∧q17≤(i4.length:Int) then if (([]:List Qc).length+(lsub i4 0 q17).length)*32≤140737488355328 then if (0:Int)≤i5∧i5<(x0.length:Int) then if ((([]:List Qc)++(lsub i4 0 q17)).length+1)*32≤140737488355328 then if (0:Int)≤q17∧q17≤(i4.length:Int)∧(i4.length:Int)≤(i4.length:Int) then if (((([]:List Qc)++(lsub i4 0 q17))++[lget x0 i5]).length+(lsub i4 q17 (i4.length:Int)).length)*32≤140737488355328 then Q2.l0 x0 (((([]:List Qc)++(lsub i4 0 q17))++[lget x0 i5])++(lsub i4 q17 (i4.length:Int))) (wr .i64 (i5+1)) else none else none else none else none else none else none) else none) else (some i4)
 partial_fixpoint
def Q2(x0:List Qc):Option (List Qc) :=
 Q2.l0 x0 ([]:List Qc) 0>>=fun q3=>some q3
set_option maxHeartbeats 3200000 in
theorem QeV(x0:List Qc)(p0_:Option Addr)(c0_:Nat)(r:List Qc)(hF:Q2 x0=some r)(w:World)(hr0:Row Qa w p0_ c0_ x0) :
    Calls Tryz.prog 131 #[.slice p0_ x0.length c0_] w (fun e w'=>∃ p cap,e=.returned (.slice p r.length cap)∧Own Qa 38 w.heap.size w' p cap r∧Below w.heap.size w w'):=by
 unfold Q2 at hF
 refine ce (l:=[.slice p0_ x0.length c0_]) func131 rfl rfl ?_
 refine QN ?_
 refine sr (aa (ns (aa (nt (qs (sr (aa (nwq [4,3,0] ?_))))))))
 refine qb ?_
 refine Qbd Qa 38 ?_
 obtain ⟨q3,hq3,hF⟩:=bM hF
 refine wq [4,3,0] ?_
 refine Q5 (B:=0) (A:=fun Y=>∀ (p8:Option Addr) (c9:Nat),At 55 [(3,.slice p8 q3.length c9)] (Wd w [rowE Qa 38 p8 c9 q3]) Y) ?_ ?_
 ·intro K
  refine Q2.l0.partial_correctness x0 (motive:=fun i4 i5 x=>KN (fun Y=>∀ (p8:Option Addr) (c9:Nat),At 55 [(3,.slice p8 x.length c9)] (Wd w [rowE Qa 38 p8 c9 x]) Y) _ 0→Round (fun Y=>∀ (p6:Option Addr) (c7:Nat),At 55 [(0,.slice p0_ x0.length c0_),(3,.slice p6 i4.length c7),(4,.int .i64 i5)] (Wd w [rowE Qa 38 p6 c7 i4]) Y) _ _ _) ?_ _ _ _ hq3 K none 0
  ·clear K hF
   intro g ih i4 i5 x hF K p6 c7
   refine QS ?_
   refine qs (sr (am (am ?_)))
   refine aw (Q6 underlying58 rfl) ?_
   refine aw xl (nwq [10,4,3,0] ?_)
   obtain ⟨h10,hF⟩|⟨h10,hF⟩:=oi hF
   ·refine ct h10 ?_
    refine sn (qs ?_)
    refine qb ?_
    refine qs (sr (am (am ?_)))
    obtain ⟨h11,hF⟩:=gd hF
    obtain ⟨b13,o14,hp12⟩:=QR hr0 h11
    refine aw (r_idx underlying58 sizeOf38 rfl rfl h11 hp12) ?_
    refine aw (Qe (c:=Qa) (z:=lget x0 i5) isAgg38 sizeOf38 rfl (QaF (fun _ h=>h.below) hr0 h11 hp12)) ?_
    obtain ⟨t15,ht15,hF⟩:=bM hF
    refine cB func40 rfl (fun w hw=>Qbx _ _ ht15 w) ?_
    refine aw (r_not rfl) ?_
    refine nwq [18,4,3,0] ?_
    obtain ⟨h16,hF⟩|⟨h16,hF⟩:=oi hF
    ·refine ct h16 ?_
     refine Q1 ?_
     refine te (Qw (tn ?_))
     refine qr (am (aw xa (aa (nwq [4,3,0] ?_))))
     exact Qm (ih _ _ _ hF K p6 c7) ⟨rfl,rfl,rfl,trivial⟩
    refine cf h16 ?_
    refine sns (am ?_)
    refine aw (Q6 underlying58 rfl) ?_
    refine aa (nwq [5,4,3,0] ?_)
    refine qs ?_
    refine qb ?_
    obtain ⟨q17,hq17,hF⟩:=bM hF
    refine wq [5,4,3,0] ?_
    refine Q5 (B:=2) (A:=fun Y=>At 55 [(0,.slice p0_ x0.length c0_),(3,.slice p6 i4.length c7),(4,.int .i64 i5),(5,.int .i64 q17)] (Wd w [rowE Qa 38 p6 c7 i4]) Y) ?_ ?_
    ·intro K
     refine Q2.l1.partial_correctness x0 i4 i5 (motive:=fun i18 x=>KN (fun Y=>At 55 [(0,.slice p0_ x0.length c0_),(3,.slice p6 i4.length c7),(4,.int .i64 i5),(5,.int .i64 x)] (Wd w [rowE Qa 38 p6 c7 i4]) Y) _ 2→Round (fun Y=>At 55 [(0,.slice p0_ x0.length c0_),(3,.slice p6 i4.length c7),(4,.int .i64 i5),(5,.int .i64 i18)] (Wd w [rowE Qa 38 p6 c7 i4]) Y) _ _ _) ?_ _ _ hq17 K
     ·clear K hF
      intro g ih i18 x hF K
      refine QS ?_
      refine qs (qs (wq [5,4,3,0] ?_))
      obtain ⟨h19,hF⟩|⟨h19,hF⟩:=oi hF
      ·skip
       obtain ⟨h20,hF⟩:=gd hF
       obtain ⟨b22,o23,hp21⟩:=QR hr0 h20
       obtain ⟨h24,hF⟩:=gd hF
       refine QaU (φ:=∃ b o,p6=some ⟨b,o,none⟩) (fun _ hw=>QR (hw.own .z).row h24) ?_
       rintro ⟨b26,o27,hp25⟩
       obtain ⟨t28,ht28,hF⟩:=bM hF
       refine Qcv [.q 21 (fun g29=>.int .i64 i18) [] 0 0,.q 22 (fun g29=>.bool (decide (i18>0))) [0] 0 0,.q 23 (fun g29=>.bool true) [1] 0 0,.q 24 (fun g29=>.slice p0_ x0.length c0_) [2] 0 0,.q 25 (fun g29=>.int .i64 i5) [2] 0 0,.q 26 (fun g29=>.pointer (some ⟨b22,o23+Int.toNat i5*18,none⟩)) [2,3,4] 0 0,.q 27 (fun g29=>.agg (Cd.cs Qa (lget x0 i5)).toArray) [2,5] 0 0,.q 28 (fun g29=>.slice p6 i4.length c7) [2] 0 0,.q 29 (fun g29=>.int .i64 i18) [2] 0 0,.q 30 (fun g29=>.int .i64 (wr .i64 (i18-1))) [2,8] 0 0,.q 31 (fun g29=>.pointer (some ⟨b26,o27+Int.toNat (wr .i64 (i18-1))*18,none⟩)) [2,7,9] 0 0,.q 32 (fun g29=>.agg (Cd.cs Qa (lget i4 (wr .i64 (i18-1)))).toArray) [2,10] 0 0,.q 33 (fun g29=>.bool t28) [2,6,11] 0 0,.q 34 (fun g29=>.bool t28) [2,12] 0 0] (fun g29 s=>match s with | _=>(Wd w [rowE Qa 38 p6 c7 i4])) 0 (by kernel_rfl) (by kernel_rfl) (by kernel_rfl) (by kernel_rfl) (by kernel_rfl) ⟨fun _ _ _=>rfl,fun _ _ _=>rfl,fun _ _ _=>rfl,fun _ _ _=>rfl,fun _ _ _=>rfl,fun _ _ _=>rfl,fun _ _ _=>rfl,fun _ _ _=>rfl,fun _ _ _=>rfl,fun _ _ _=>rfl,fun _ _ _=>rfl,fun _ _ _=>rfl,fun _ _ _=>rfl,fun _ _ _=>rfl,trivial⟩ (by kernel_rfl) (fun w_ h=>⟨fun _=>g3 0 none 0 none w_,h.drew⟩) ⟨?_,?_,?_,?_,?_,?_,?_,?_,?_,?_,?_,?_,?_,?_,trivial⟩ ?_
       ·intro Lx g29 s K hl hh k
        show At 55 ((0,_)::(3,_)::(4,_)::(5,_)::Lx) _ _
        refine am ?_
        exact Qn k
       ·intro Lx g29 s K hl hh k
        show At 55 ((21,_)::(0,_)::(3,_)::(4,_)::(5,_)::Lx) _ _
        refine aw (QcK rfl rfl) ?_
        exact Qn k
       ·intro Lx g29 s K hl hh k
        show At 55 ((22,_)::(0,_)::(3,_)::(4,_)::(5,_)::Lx) _ _
        refine am ?_
        exact Qn (QcH h19 k)
       ·intro Lx g29 s K hl hh k
        show At 55 ((23,_)::(0,_)::(3,_)::(4,_)::(5,_)::Lx) _ _
        refine gy ?_
        refine am ?_
        exact Qn k
       ·intro Lx g29 s K hl hh k
        show At 55 ((23,_)::(0,_)::(3,_)::(4,_)::(5,_)::Lx) _ _
        refine gy ?_
        refine am ?_
        exact Qn k
       ·intro Lx g29 s K hl hh k
        show At 55 ((23,_)::(24,_)::(25,_)::(0,_)::(3,_)::(4,_)::(5,_)::Lx) _ _
        refine gy ?_
        refine aw (r_idx underlying58 sizeOf38 rfl rfl h20 hp21) ?_
        exact Qn k
       ·intro Lx g29 s K hl hh k
        show At 55 ((23,_)::(26,_)::(0,_)::(3,_)::(4,_)::(5,_)::Lx) _ _
        refine gy ?_
        obtain rfl:s=0:=by omega
        refine aw (Qe (c:=Qa) (z:=lget x0 i5) isAgg38 sizeOf38 rfl (QaF (fun _ h=>h.below) hr0 h20 hp21)) ?_
        exact Qn k
       ·intro Lx g29 s K hl hh k
        show At 55 ((23,_)::(0,_)::(3,_)::(4,_)::(5,_)::Lx) _ _
        refine gy ?_
        refine am ?_
        exact Qn k
       ·intro Lx g29 s K hl hh k
        show At 55 ((23,_)::(0,_)::(3,_)::(4,_)::(5,_)::Lx) _ _
        refine gy ?_
        refine am ?_
        exact Qn k
       ·intro Lx g29 s K hl hh k
        show At 55 ((23,_)::(29,_)::(0,_)::(3,_)::(4,_)::(5,_)::Lx) _ _
        refine gy ?_
        refine aw (Qci rfl rfl) ?_
        exact Qn k
       ·intro Lx g29 s K hl hh k
        show At 55 ((23,_)::(28,_)::(30,_)::(0,_)::(3,_)::(4,_)::(5,_)::Lx) _ _
        refine gy ?_
        refine aw (r_idx underlying58 sizeOf38 rfl rfl h24 hp25) ?_
        exact Qn k
       ·intro Lx g29 s K hl hh k
        show At 55 ((23,_)::(31,_)::(0,_)::(3,_)::(4,_)::(5,_)::Lx) _ _
        refine gy ?_
        obtain rfl:s=0:=by omega
        refine aw (Qe (c:=Qa) (z:=lget i4 (wr .i64 (i18-1))) isAgg38 sizeOf38 rfl (fun w1 hw=>QaF (W:=fun w1=>w1=_) (fun w1 h=>by subst h;exact Below.refl _ _) (hw.own .z).row h24 hp25 _ rfl)) ?_
        exact Qn k
       ·intro Lx g29 s K hl hh k
        show At 55 ((23,_)::(27,_)::(32,_)::(0,_)::(3,_)::(4,_)::(5,_)::Lx) _ _
        refine gy ?_
        obtain rfl:s=0:=by omega
        refine cB func41 rfl (fun w hw=>QcP _ _ _ ht28 w) ?_
        exact Qn k
       ·intro Lx g29 s K hl hh k
        show At 55 ((23,_)::(33,_)::(0,_)::(3,_)::(4,_)::(5,_)::Lx) _ _
        refine aw xp ?_
        exact Qn k
       intro g29
       show At 55 [(21,_),(22,_),(23,_),(24,_),(25,_),(26,_),(27,_),(28,_),(29,_),(30,_),(31,_),(32,_),(33,_),(34,_),(0,_),(3,_),(4,_),(5,_)] _ _
       refine wq [34,5,4,3,0] ?_
       refine tn ?_
       obtain ⟨h30,hF⟩|⟨h30,hF⟩:=oi hF
       ·refine ct h30 ?_
        refine sn ?_
        refine qb ?_
        refine qr (am ?_)
        refine aw (Qci rfl rfl) ?_
        refine aa (qn (wq [5,4,3,0] ?_))
        refine bm ?_
        exact Qm (ih _ _ hF K) ⟨rfl,rfl,rfl,rfl,trivial⟩
       refine cf h30 ?_
       refine Q1 ?_
       refine te (te ?_)
       obtain rfl:=os hF
       exact Qm K ⟨rfl,rfl,rfl,rfl,trivial⟩
      skip
      refine Qcv [.q 21 (fun g31=>.int .i64 i18) [] 0 0,.q 22 (fun g31=>.bool (decide (i18>0))) [0] 0 0,.q 23 (fun g31=>.bool false) [1] 0 0,.q 24 (fun g31=>undef) [2] 0 0,.q 25 (fun g31=>undef) [2] 0 0,.q 26 (fun g31=>undef) [2,3,4] 0 0,.q 27 (fun g31=>undef) [2,5] 0 0,.q 28 (fun g31=>undef) [2] 0 0,.q 29 (fun g31=>undef) [2] 0 0,.q 30 (fun g31=>undef) [2,8] 0 0,.q 31 (fun g31=>undef) [2,7,9] 0 0,.q 32 (fun g31=>undef) [2,10] 0 0,.q 33 (fun g31=>undef) [2,6,11] 0 0,.q 34 (fun g31=>.bool false) [2,12] 0 0] (fun g31 s=>match s with | _=>(Wd w [rowE Qa 38 p6 c7 i4])) 0 (by kernel_rfl) (by kernel_rfl) (by kernel_rfl) (by kernel_rfl) (by kernel_rfl) ⟨fun _ _ _=>rfl,fun _ _ _=>rfl,fun _ _ _=>rfl,fun _ _ _=>rfl,fun _ _ _=>rfl,fun _ _ _=>rfl,fun _ _ _=>rfl,fun _ _ _=>rfl,fun _ _ _=>rfl,fun _ _ _=>rfl,fun _ _ _=>rfl,fun _ _ _=>rfl,fun _ _ _=>rfl,fun _ _ _=>rfl,trivial⟩ (by kernel_rfl) (fun w_ h=>⟨fun _=>g3 0 none 0 none w_,h.drew⟩) ⟨?_,?_,?_,?_,?_,?_,?_,?_,?_,?_,?_,?_,?_,?_,trivial⟩ ?_
      ·intro Lx g31 s K hl hh k
       show At 55 ((0,_)::(3,_)::(4,_)::(5,_)::Lx) _ _
       refine am ?_
       exact Qn k
      ·intro Lx g31 s K hl hh k
       show At 55 ((21,_)::(0,_)::(3,_)::(4,_)::(5,_)::Lx) _ _
       refine aw (QcK rfl rfl) ?_
       exact Qn k
      ·intro Lx g31 s K hl hh k
       show At 55 ((22,_)::(0,_)::(3,_)::(4,_)::(5,_)::Lx) _ _
       refine am ?_
       exact Qn (QcH h19 k)
      ·intro Lx g31 s K hl hh k
       show At 55 ((23,_)::(0,_)::(3,_)::(4,_)::(5,_)::Lx) _ _
       refine gn ?_
       exact Qn k
      ·intro Lx g31 s K hl hh k
       show At 55 ((23,_)::(0,_)::(3,_)::(4,_)::(5,_)::Lx) _ _
       refine gn ?_
       exact Qn k
      ·intro Lx g31 s K hl hh k
       show At 55 ((23,_)::(24,_)::(25,_)::(0,_)::(3,_)::(4,_)::(5,_)::Lx) _ _
       refine gn ?_
       exact Qn k
      ·intro Lx g31 s K hl hh k
       show At 55 ((23,_)::(26,_)::(0,_)::(3,_)::(4,_)::(5,_)::Lx) _ _
       obtain rfl:s=0:=by omega
       refine gn ?_
       exact Qn k
      ·intro Lx g31 s K hl hh k
       show At 55 ((23,_)::(0,_)::(3,_)::(4,_)::(5,_)::Lx) _ _
       refine gn ?_
       exact Qn k
      ·intro Lx g31 s K hl hh k
       show At 55 ((23,_)::(0,_)::(3,_)::(4,_)::(5,_)::Lx) _ _
       refine gn ?_
       exact Qn k
      ·intro Lx g31 s K hl hh k
       show At 55 ((23,_)::(29,_)::(0,_)::(3,_)::(4,_)::(5,_)::Lx) _ _
       refine gn ?_
       exact Qn k
      ·intro Lx g31 s K hl hh k
       show At 55 ((23,_)::(28,_)::(30,_)::(0,_)::(3,_)::(4,_)::(5,_)::Lx) _ _
       refine gn ?_
       exact Qn k
      ·intro Lx g31 s K hl hh k
       show At 55 ((23,_)::(31,_)::(0,_)::(3,_)::(4,_)::(5,_)::Lx) _ _
       obtain rfl:s=0:=by omega
       refine gn ?_
       exact Qn k
      ·intro Lx g31 s K hl hh k
       show At 55 ((23,_)::(27,_)::(32,_)::(0,_)::(3,_)::(4,_)::(5,_)::Lx) _ _
       obtain rfl:s=0:=by omega
       refine gn ?_
       exact Qn k
      ·intro Lx g31 s K hl hh k
       show At 55 ((23,_)::(33,_)::(0,_)::(3,_)::(4,_)::(5,_)::Lx) _ _
       refine aw xp ?_
       exact Qn k
      intro g31
      show At 55 [(21,_),(22,_),(23,_),(24,_),(25,_),(26,_),(27,_),(28,_),(29,_),(30,_),(31,_),(32,_),(33,_),(34,_),(0,_),(3,_),(4,_),(5,_)] _ _
      refine wq [34,5,4,3,0] ?_
      refine tn ?_
      refine cf rfl ?_
      refine Q1 ?_
      refine te (te ?_)
      obtain rfl:=os hF
      exact Qm K ⟨rfl,rfl,rfl,rfl,trivial⟩
    skip
    skip
    refine Qw ?_
    refine tn (sr ?_)
    refine at_lit0 Qa underlying58 sizeOf38 rfl ?_
    intro b32
    refine am (am ?_)
    obtain ⟨h33,hF⟩:=gd hF
    refine QaU (fun w1 hw=>(hw.own (.s .z)).row.len) ?_
    intro hl34
    refine aw (Qev (c:=Qa) underlying58 sizeOf38 rfl hl34 rfl ⟨_,rfl⟩ h33) ?_
    obtain ⟨h35,hF⟩:=gd hF
    refine Qdk (z:=.agg (Cd.cs Qa zv9).toArray) (c:=Qa) (ys:=(lsub i4 0 q17)) .z underlying58 infoA438 (by kernel_rfl) (by kernel_rfl) rfl rfl rfl (fun w1 hw=>(Row.sub (hw.own (.s .z)).row h33)) (by kernel_rfl) h35 (Qaj h35) rfl ?_
    intro p36 c37
    refine aa (ns (am (am (am ?_))))
    obtain ⟨h38,hF⟩:=gd hF
    obtain ⟨b40,o41,hp39⟩:=QR hr0 h38
    refine aw (r_idx underlying58 sizeOf38 rfl rfl h38 hp39) ?_
    refine aw (Qe (c:=Qa) (z:=lget x0 i5) isAgg38 sizeOf38 rfl (QaF (fun _ h=>h.below) hr0 h38 hp39)) ?_
    refine Qbu (c:=Qa) ([zv9]:List Qc) ([lget x0 i5]:List Qc) underlying58 sizeOf38 zeroValue38 rfl rfl rfl (by kernel_rfl) (QI (c:=Qa) (z:=lget x0 i5) rfl (Lens.all Qa ([zv9]:List Qc) 0 (by first | decide | exact Nat.le_of_ble_eq_true rfl)) rfl rfl) rfl ?_
    intro b42
    obtain ⟨h43,hF⟩:=gd hF
    refine Qax (z:=.agg (Cd.cs Qa zv9).toArray) (c:=Qa) (ys:=([lget x0 i5]:List Qc)) (.s .z) underlying58 infoA438 (by kernel_rfl) (by kernel_rfl) rfl rfl rfl rfl (fun _ hw=>Qaw (hw.ok (Upd.mem .z))) (by kernel_rfl) h43 (Qaj h43) rfl ?_
    intro p44 c45
    refine aa (qn (dz (tn (qr (am (am (am ?_)))))))
    obtain ⟨h46,hF⟩:=gd hF
    refine QaU (fun w1 hw=>(hw.own (.s .z)).row.len) ?_
    intro hl47
    refine aw (Qev (c:=Qa) underlying58 sizeOf38 rfl hl47 ⟨_,rfl⟩ rfl h46) ?_
    obtain ⟨h48,hF⟩:=gd hF
    refine Qdk (z:=.agg (Cd.cs Qa zv9).toArray) (c:=Qa) (ys:=(lsub i4 q17 (i4.length:Int))) .z underlying58 infoA438 (by kernel_rfl) (by kernel_rfl) rfl rfl rfl (fun w1 hw=>(Row.sub (hw.own (.s .z)).row h46)) (by kernel_rfl) h48 (Qaj h48) rfl ?_
    intro p49 c50
    refine aa (qn ?_)
    refine Qal (H:=_) (.s .z) ?_
    refine wq [4,3,0] ?_
    refine bm ?_
    refine qr (am (aw xa (aa (nwq [4,3,0] ?_))))
    exact Qm (ih _ _ _ hF K p49 c50) ⟨rfl,rfl,rfl,trivial⟩
   refine cf h10 ?_
   refine Q1 ?_
   refine te (te ?_)
   obtain rfl:=os hF
   exact Qm (K p6 c7) ⟨rfl,trivial⟩
 skip
 intro p8 c9
 refine Qw ?_
 refine tn (sr (am (aa (nwq [2] ?_))))
 refine qt ?_
 have K:=os hF
 subst K
 exact r1 (fun w1 hw=>⟨p8,c9,rfl,hw.own .z,hw.below⟩)
def QZ.l0(t1:List Qc)(i7:List (Vector Qh 2))(i9:Int):Option (List (Vector Qh 2)) :=
 if (decide (i9<(t1.length:Int)))=true then (if (decide ((i7.length:Int)>0))=true then (if (0:Int)≤wr .i64 ((i7.length:Int)-1)∧wr .i64 ((i7.length:Int)-1)<(i7.length:Int) then QaP (vget (lget i7 (wr .i64 ((i7.length:Int)-1))) 1)>>=fun t20=>if (0:Int)≤wr .i64 ((i7.length:Int)-1)∧wr .i64 ((i7.length:Int)-1)<(i7.length:Int) then if (0:Int)≤i9∧i9<(t1.length:Int) then if ((vget (lget i7 (wr .i64 ((i7.length:Int)-1))) 0).f_V==((lget t1 i9).f_A).f_V)=true then (if (!t20.2)=true then (if (0:Int)≤wr .i64 ((i7.length:Int)-1)∧wr .i64 ((i7.length:Int)-1)<(i7.length:Int) then if (0:Int)≤i9∧i9<(t1.length:Int) then QM (lget t1 i9)>>=fun t42=>Qab (vget (lget i7 (wr .i64 ((i7.length:Int)-1))) 1) t42>>=fun t43=>if t43=true then (if (0:Int)≤i9∧i9<(t1.length:Int) then QM (lget t1 i9)>>=fun t50=>if (0:Int)≤wr .i64 ((i7.length:Int)-1)∧wr .i64 ((i7.length:Int)-1)<(i7.length:Int) then QZ.l0 t1 (lset i7 (wr .i64 ((i7.length:Int)-1)) (vset (lget i7 (wr .i64 ((i7.length:Int)-1))) 1 t50)) (wr .i64 (i9+1)) else none else none) else (QZ.l0 t1 i7 (wr .i64 (i9+1))) else none else none) else (if (0:Int)≤i9∧i9<(t1.length:Int) then Qab t20.1 ((lget t1 i9).f_A)>>=fun t60=>if (!t60)=true then (if (0:Int)≤wr .i64 ((i7.length:Int)-1)∧wr .i64 ((i7.length:Int)-1)<(i7.length:Int) then if (0:Int)≤i9∧i9<(t1.length:Int) then QM (lget t1 i9)>>=fun t71=>Qab (vget (lget i7 (wr .i64 ((i7.length:Int)-1))) 1) t71>>=fun t72=>if t72=true then (if (0:Int)≤i9∧i9<(t1.length:Int) then QM (lget t1 i9)>>=fun t79=>if (0:Int)≤wr .i64 ((i7.length:Int)-1)∧wr .i64 ((i7.length:Int)-1)<(i7.length:Int) then QZ.l0 t1 (lset i7 (wr .i64 ((i7.length:Int)-1)) (vset (lget i7 (wr .i64 ((i7.length:Int)-1))) 1 t79)) (wr .i64 (i9+1)) else none else none) else (QZ.l0 t1 i7 (wr .i64 (i9+1))) else none else none) else (if (0:Int)≤i9∧i9<(t1.length:Int) then if (0:Int)≤i9∧i9<(t1.length:Int) then QM (lget t1 i9)>>=fun t93=>if (i7.length+1)*48≤140737488355328 then QZ.l0 t1 (i7++[vset (vset (Vector.replicate 2 ({ f_V:=(0:Int),f_B:=(Vector.replicate 16 (0:Int):(Vector Int 16)) }:Qh):(Vector Qh 2)) 0 ((lget t1 i9).f_A)) 1 t93]) (wr .i64 (i9+1)) else none else none else none) else none)) else (if (0:Int)≤i9∧i9<(t1.length:Int) then if (0:Int)≤i9∧i9<(t1.length:Int) then QM (lget t1 i9)>>=fun t108=>if (i7.length+1)*48≤140737488355328 then QZ.l0 t1 (i7++[vset (vset (Vector.replicate 2 ({ f_V:=(0:Int),f_B:=(Vector.replicate 16 (0:Int):(Vector Int 16)) }:Qh):(Vector Qh 2)) 0 ((lget t1 i9).f_A)) 1 t108]) (wr .i64 (i9+1)) else none else none else none) else none else none else none) else (if (0:Int)≤i9∧i9<(t1.length:Int) then if (0:Int)≤i9∧i9<(t1.length:Int) then QM (lget t1 i9)>>=fun t122=>if (i7.length+1)*48≤140737488355328 then QZ.l0 t1 (i7++[vset (vset (Vector.replicate 2 ({ f_V:=(0:Int),f_B:=(Vector.replicate 16 (0:Int):(Vector Int 16)) }:Qh):(Vector Qh 2)) 0 ((lget t1 i9).f_A)) 1 t122]) (wr .i64 (i9+1)) else none else none else none)) else (some i7)
 partial_fixpoint
def QZ(x0:List Qc):Option (List (Vector Qh 2)) :=
 Q2 x0>>=fun t1=>QZ.l0 t1 ([]:List (Vector Qh 2)) 0>>=fun q6=>some q6
set_option maxRecDepth 20000 in
set_option maxHeartbeats 3200000 in
theorem QeW(x0:List Qc)(p0_:Option Addr)(c0_:Nat)(r:List (Vector Qh 2))(hF:QZ x0=some r)(w:World)(hr0:Row Qa w p0_ c0_ x0) :
    Calls Tryz.prog 109 #[.slice p0_ x0.length c0_] w (fun e w'=>∃ p cap,e=.returned (.slice p r.length cap)∧Own (cVec Qb 2 (by decide)) 144 w.heap.size w' p cap r∧Below w.heap.size w w'):=by
 unfold QZ at hF
 refine ce (l:=[.slice p0_ x0.length c0_]) func109 rfl rfl ?_
 refine QN ?_
 refine sr (aa (ns (aa (ns (am ?_)))))
 obtain ⟨t1,ht1,hF⟩:=bM hF
 refine Qca (c:=Qa) (e:=38) (ys:=t1) (V:=fun p cap=>.slice p t1.length cap) func131 rfl (by kernel_rfl) rfl rfl (fun w hw=>QeV _ _ _ _ ht1 w (hr0.below hw.below)) ?_
 intro p2 c3
 refine aa (nt (qs (sr (aa (nwq [5,4,3] ?_)))))
 refine qb ?_
 refine Qbd (cVec Qb 2 (by decide)) 144 ?_
 obtain ⟨q6,hq6,hF⟩:=bM hF
 refine wq [5,4,3] ?_
 refine Q5 (B:=0) (A:=fun Y=>∀ (p12:Option Addr) (c13:Nat),At 98 [(3,.slice p12 q6.length c13)] (Wd w [rowE (cVec Qb 2 (by decide)) 144 p12 c13 q6]) Y) ?_ ?_
 ·intro K
  refine QZ.l0.partial_correctness t1 (motive:=fun i7 i9 x=>KN (fun Y=>∀ (p12:Option Addr) (c13:Nat),At 98 [(3,.slice p12 x.length c13)] (Wd w [rowE (cVec Qb 2 (by decide)) 144 p12 c13 x]) Y) _ 0→Round (fun Y=>∀ (p10:Option Addr) (c11:Nat),At 98 [(3,.slice p10 i7.length c11),(4,.slice p2 t1.length c3),(5,.int .i64 i9)] (Wd w [rowE (cVec Qb 2 (by decide)) 144 p10 c11 i7,rowE Qa 38 p2 c3 t1]) Y) _ _ _) ?_ _ _ _ hq6 K none 0
  ·clear K hF
   intro g ih i7 i9 x hF K p10 c11
   refine QS ?_
   refine qs (sr (am (am ?_)))
   refine aw (Q6 underlying58 rfl) ?_
   refine aw xl (nwq [15,5,4,3] ?_)
   obtain ⟨h14,hF⟩|⟨h14,hF⟩:=oi hF
   ·refine ct h14 ?_
    refine sn (qs ?_)
    refine qb ?_
    refine sr (am ?_)
    refine aw (Q6 underlying141 rfl) ?_
    refine aa (nt (qs (sr (am ?_))))
    refine aw (QcK rfl rfl) ?_
    refine nwq [21,6,5,4,3] ?_
    obtain ⟨h15,hF⟩|⟨h15,hF⟩:=oi hF
    ·refine ct h15 ?_
     refine sr (am (am ?_))
     refine aw (Qci rfl rfl) ?_
     obtain ⟨h16,hF⟩:=gd hF
     refine QaU (φ:=∃ b o,p10=some ⟨b,o,none⟩) (fun _ hw=>QR (hw.own .z).row h16) ?_
     rintro ⟨b18,o19,hp17⟩
     refine aw (r_idx underlying141 sizeOf144 rfl rfl h16 hp17) ?_
     refine aw (Qay underlying144 sizeOf36 rfl rfl (by decide)) ?_
     refine aw (Qe (c:=Qb) (z:=vget (lget i7 (wr .i64 ((i7.length:Int)-1))) 1) isAgg36 sizeOf36 rfl (fun w1 hw=>QbH (y:=vget (lget i7 (wr .i64 ((i7.length:Int)-1))) 1) (W:=fun w1=>w1=_) (fun w1 h=>by subst h;exact Below.refl _ _) (hw.own .z).row h16 hp17 (Lens.comp lw (fun z=>vset (lget i7 (wr .i64 ((i7.length:Int)-1))) 1 z) (Lens.vec Qb (by decide) (lget i7 (wr .i64 ((i7.length:Int)-1))) 1 (by decide))) _ rfl)) ?_
     obtain ⟨t20,ht20,hF⟩:=bM hF
     refine cB func132 rfl (fun w hw=>QdA _ _ ht20 w) ?_
     refine am ?_
     refine aw xe (aw xe ?_)
     refine al (cs:=Cd.cs Qb zv1) zeroValue36 ?_
     intro b21
     refine QX (c:=Qb) (z:=t20.1) .z lw sizeOf36 rfl rfl rfl ?_
     refine aa (nt (qs (wq [8,7,6,5,4,3] ?_)))
     obtain ⟨h22,hF⟩:=gd hF
     refine QaU (φ:=∃ b o,p10=some ⟨b,o,none⟩) (fun _ hw=>QR (hw.own (.s .z)).row h22) ?_
     rintro ⟨b24,o25,hp23⟩
     obtain ⟨h26,hF⟩:=gd hF
     refine QaU (φ:=∃ b o,p2=some ⟨b,o,none⟩) (fun _ hw=>QR (hw.own (.s (.s .z))).row h26) ?_
     rintro ⟨b28,o29,hp27⟩
     refine Qcv [.q 32 (fun g30=>.slice p10 i7.length c11) [] 0 0,.q 33 (fun g30=>.int .i64 (i7.length:Int)) [] 0 0,.q 34 (fun g30=>.int .i64 (wr .i64 ((i7.length:Int)-1))) [1] 0 0,.q 35 (fun g30=>.pointer (some ⟨b24,o25+Int.toNat (wr .i64 ((i7.length:Int)-1))*34,none⟩)) [0,2] 0 0,.q 36 (fun g30=>.pointer (some ⟨b24,o25+Int.toNat (wr .i64 ((i7.length:Int)-1))*34+Int.toNat 0*17,none⟩)) [3] 0 0,.q 37 (fun g30=>.pointer (some ⟨b24,o25+Int.toNat (wr .i64 ((i7.length:Int)-1))*34+Int.toNat 0*17+0,none⟩)) [4] 0 0,.q 38 (fun g30=>.int .i64 ((vget (lget i7 (wr .i64 ((i7.length:Int)-1))) 0).f_V)) [5] 0 0,.q 39 (fun g30=>.slice p2 t1.length c3) [] 0 0,.q 40 (fun g30=>.int .i64 i9) [] 0 0,.q 41 (fun g30=>.pointer (some ⟨b28,o29+Int.toNat i9*18,none⟩)) [7,8] 0 0,.q 42 (fun g30=>.pointer (some ⟨b28,o29+Int.toNat i9*18+0,none⟩)) [9] 0 0,.q 43 (fun g30=>.pointer (some ⟨b28,o29+Int.toNat i9*18+0+0,none⟩)) [10] 0 0,.q 44 (fun g30=>.int .i64 (((lget t1 i9).f_A).f_V)) [11] 0 0,.q 45 (fun g30=>.bool ((vget (lget i7 (wr .i64 ((i7.length:Int)-1))) 0).f_V==((lget t1 i9).f_A).f_V)) [6,12] 0 0,.q 9 (fun g30=>.bool ((vget (lget i7 (wr .i64 ((i7.length:Int)-1))) 0).f_V==((lget t1 i9).f_A).f_V)) [13] 0 0] (fun g30 s=>match s with | _=>(Wd w [Qs b21 (Cd.cs Qb t20.1) 36,rowE (cVec Qb 2 (by decide)) 144 p10 c11 i7,rowE Qa 38 p2 c3 t1])) 0 (by kernel_rfl) (by kernel_rfl) (by kernel_rfl) (by kernel_rfl) (by kernel_rfl) ⟨fun _ _ _=>rfl,fun _ _ _=>rfl,fun _ _ _=>rfl,fun _ _ _=>rfl,fun _ _ _=>rfl,fun _ _ _=>rfl,fun _ _ _=>rfl,fun _ _ _=>rfl,fun _ _ _=>rfl,fun _ _ _=>rfl,fun _ _ _=>rfl,fun _ _ _=>rfl,fun _ _ _=>rfl,fun _ _ _=>rfl,fun _ _ _=>rfl,trivial⟩ (by kernel_rfl) (fun w_ h=>⟨fun _=>g3 0 none 0 none w_,h.drew⟩) ⟨?_,?_,?_,?_,?_,?_,?_,?_,?_,?_,?_,?_,?_,?_,?_,trivial⟩ ?_
     ·intro Lx g30 s K hl hh k
      show At 98 ((3,_)::(4,_)::(5,_)::(6,_)::(7,_)::(8,_)::Lx) _ _
      refine am ?_
      exact Qn k
     ·intro Lx g30 s K hl hh k
      show At 98 ((3,_)::(4,_)::(5,_)::(6,_)::(7,_)::(8,_)::Lx) _ _
      refine am ?_
      exact Qn k
     ·intro Lx g30 s K hl hh k
      show At 98 ((33,_)::(3,_)::(4,_)::(5,_)::(6,_)::(7,_)::(8,_)::Lx) _ _
      refine aw (Qci rfl rfl) ?_
      exact Qn k
     ·intro Lx g30 s K hl hh k
      show At 98 ((32,_)::(34,_)::(3,_)::(4,_)::(5,_)::(6,_)::(7,_)::(8,_)::Lx) _ _
      refine aw (r_idx underlying141 sizeOf144 rfl rfl h22 hp23) ?_
      exact Qn k
     ·intro Lx g30 s K hl hh k
      show At 98 ((35,_)::(3,_)::(4,_)::(5,_)::(6,_)::(7,_)::(8,_)::Lx) _ _
      refine aw (Qay underlying144 sizeOf36 rfl rfl (by decide)) ?_
      exact Qn k
     ·intro Lx g30 s K hl hh k
      show At 98 ((36,_)::(3,_)::(4,_)::(5,_)::(6,_)::(7,_)::(8,_)::Lx) _ _
      refine fa 0 underlying36 rfl sizeOf3 ?_
      exact Qn k
     ·intro Lx g30 s K hl hh k
      show At 98 ((37,_)::(3,_)::(4,_)::(5,_)::(6,_)::(7,_)::(8,_)::Lx) _ _
      obtain rfl:s=0:=by omega
      refine aw (Ql isAgg3 rfl (fun w1 hw=>QbK (y:=(vget (lget i7 (wr .i64 ((i7.length:Int)-1))) 0).f_V) (W:=fun w1=>w1=_) (fun w1 h=>by subst h;exact Below.refl _ _) (hw.own (.s .z)).row h22 hp23 (Lens.comp (Lens.comp lw (fun z=>vset (lget i7 (wr .i64 ((i7.length:Int)-1))) 0 z) (Lens.vec Qb (by decide) (lget i7 (wr .i64 ((i7.length:Int)-1))) 0 (by decide))) (fun z=>{ vget (lget i7 (wr .i64 ((i7.length:Int)-1))) 0 with f_V:=z }) (QY (vget (lget i7 (wr .i64 ((i7.length:Int)-1))) 0))) rfl _ rfl)) ?_
      exact Qn k
     ·intro Lx g30 s K hl hh k
      show At 98 ((3,_)::(4,_)::(5,_)::(6,_)::(7,_)::(8,_)::Lx) _ _
      refine am ?_
      exact Qn k
     ·intro Lx g30 s K hl hh k
      show At 98 ((3,_)::(4,_)::(5,_)::(6,_)::(7,_)::(8,_)::Lx) _ _
      refine am ?_
      exact Qn k
     ·intro Lx g30 s K hl hh k
      show At 98 ((39,_)::(40,_)::(3,_)::(4,_)::(5,_)::(6,_)::(7,_)::(8,_)::Lx) _ _
      refine aw (r_idx underlying58 sizeOf38 rfl rfl h26 hp27) ?_
      exact Qn k
     ·intro Lx g30 s K hl hh k
      show At 98 ((41,_)::(3,_)::(4,_)::(5,_)::(6,_)::(7,_)::(8,_)::Lx) _ _
      refine fa 0 underlying38 rfl sizeOf36 ?_
      exact Qn k
     ·intro Lx g30 s K hl hh k
      show At 98 ((42,_)::(3,_)::(4,_)::(5,_)::(6,_)::(7,_)::(8,_)::Lx) _ _
      refine fa 0 underlying36 rfl sizeOf3 ?_
      exact Qn k
     ·intro Lx g30 s K hl hh k
      show At 98 ((43,_)::(3,_)::(4,_)::(5,_)::(6,_)::(7,_)::(8,_)::Lx) _ _
      obtain rfl:s=0:=by omega
      refine aw (Ql isAgg3 rfl (fun w1 hw=>QbK (y:=((lget t1 i9).f_A).f_V) (W:=fun w1=>w1=_) (fun w1 h=>by subst h;exact Below.refl _ _) (hw.own (.s (.s .z))).row h26 hp27 (Lens.comp (Lens.comp lw (fun z=>{ (lget t1 i9) with f_A:=z }) (QG (lget t1 i9))) (fun z=>{ (lget t1 i9).f_A with f_V:=z }) (QY ((lget t1 i9).f_A))) rfl _ rfl)) ?_
      exact Qn k
     ·intro Lx g30 s K hl hh k
      show At 98 ((38,_)::(44,_)::(3,_)::(4,_)::(5,_)::(6,_)::(7,_)::(8,_)::Lx) _ _
      refine aw xq ?_
      exact Qn k
     ·intro Lx g30 s K hl hh k
      show At 98 ((45,_)::(3,_)::(4,_)::(5,_)::(6,_)::(7,_)::(8,_)::Lx) _ _
      refine aa ?_
      exact Qn k
     intro g30
     show At 98 [(32,_),(33,_),(34,_),(35,_),(36,_),(37,_),(38,_),(39,_),(40,_),(41,_),(42,_),(43,_),(44,_),(45,_),(9,_),(3,_),(4,_),(5,_),(6,_),(7,_),(8,_)] _ _
     refine tn (qs (wq [9,8,7,6,5,4,3] ?_))
     obtain ⟨h31,hF⟩|⟨h31,hF⟩:=oi hF
     ·skip
      obtain ⟨h32,hF⟩|⟨h32,hF⟩:=oi hF
      ·skip
       refine Qcv [.q 46 (fun g33=>.bool ((vget (lget i7 (wr .i64 ((i7.length:Int)-1))) 0).f_V==((lget t1 i9).f_A).f_V)) [] 0 0,.q 47 (fun g33=>.bool true) [0] 0 0,.q 48 (fun g33=>.bool t20.2) [1] 0 0,.q 49 (fun g33=>.bool (!t20.2)) [1,2] 0 0,.q 50 (fun g33=>.bool true) [1,3] 0 0,.q 51 (fun g33=>undef) [4] 0 0,.q 52 (fun g33=>undef) [4] 0 0,.q 53 (fun g33=>undef) [4] 0 0,.q 54 (fun g33=>undef) [4,6,7] 0 0,.q 55 (fun g33=>undef) [4,8] 0 0,.q 56 (fun g33=>undef) [4,9] 0 0,.q 57 (fun g33=>undef) [4,5,10] 0 0,.q 58 (fun g33=>undef) [4,11] 0 0,.q 59 (fun g33=>.bool true) [1,4,12] 0 0,.q 60 (fun g33=>.bool true) [1,13] 0 0] (fun g33 s=>match s with | _=>(Wd w [Qs b21 (Cd.cs Qb t20.1) 36,rowE (cVec Qb 2 (by decide)) 144 p10 c11 i7,rowE Qa 38 p2 c3 t1])) 0 (by kernel_rfl) (by kernel_rfl) (by kernel_rfl) (by kernel_rfl) (by kernel_rfl) ⟨fun _ _ _=>rfl,fun _ _ _=>rfl,fun _ _ _=>rfl,fun _ _ _=>rfl,fun _ _ _=>rfl,fun _ _ _=>rfl,fun _ _ _=>rfl,fun _ _ _=>rfl,fun _ _ _=>rfl,fun _ _ _=>rfl,fun _ _ _=>rfl,fun _ _ _=>rfl,fun _ _ _=>rfl,fun _ _ _=>rfl,fun _ _ _=>rfl,trivial⟩ (by kernel_rfl) (fun w_ h=>⟨fun _=>g3 0 none 0 none w_,h.drew⟩) ⟨?_,?_,?_,?_,?_,?_,?_,?_,?_,?_,?_,?_,?_,?_,?_,trivial⟩ ?_
       ·intro Lx g33 s K hl hh k
        show At 98 ((3,_)::(4,_)::(5,_)::(6,_)::(7,_)::(8,_)::(9,_)::Lx) _ _
        refine am ?_
        exact Qn k
       ·intro Lx g33 s K hl hh k
        show At 98 ((46,_)::(3,_)::(4,_)::(5,_)::(6,_)::(7,_)::(8,_)::(9,_)::Lx) _ _
        refine am ?_
        exact Qn (QcH h31 k)
       ·intro Lx g33 s K hl hh k
        show At 98 ((47,_)::(3,_)::(4,_)::(5,_)::(6,_)::(7,_)::(8,_)::(9,_)::Lx) _ _
        refine gy ?_
        refine am ?_
        exact Qn k
       ·intro Lx g33 s K hl hh k
        show At 98 ((47,_)::(48,_)::(3,_)::(4,_)::(5,_)::(6,_)::(7,_)::(8,_)::(9,_)::Lx) _ _
        refine gy ?_
        refine aw (r_not rfl) ?_
        exact Qn k
       ·intro Lx g33 s K hl hh k
        show At 98 ((47,_)::(49,_)::(3,_)::(4,_)::(5,_)::(6,_)::(7,_)::(8,_)::(9,_)::Lx) _ _
        refine gy ?_
        refine am ?_
        exact Qn (QcH h32 k)
       ·intro Lx g33 s K hl hh k
        show At 98 ((50,_)::(3,_)::(4,_)::(5,_)::(6,_)::(7,_)::(8,_)::(9,_)::Lx) _ _
        obtain rfl:s=0:=by omega
        refine gn ?_
        exact Qn k
       ·intro Lx g33 s K hl hh k
        show At 98 ((50,_)::(3,_)::(4,_)::(5,_)::(6,_)::(7,_)::(8,_)::(9,_)::Lx) _ _
        refine gn ?_
        exact Qn k
       ·intro Lx g33 s K hl hh k
        show At 98 ((50,_)::(3,_)::(4,_)::(5,_)::(6,_)::(7,_)::(8,_)::(9,_)::Lx) _ _
        refine gn ?_
        exact Qn k
       ·intro Lx g33 s K hl hh k
        show At 98 ((50,_)::(52,_)::(53,_)::(3,_)::(4,_)::(5,_)::(6,_)::(7,_)::(8,_)::(9,_)::Lx) _ _
        refine gn ?_
        exact Qn k
       ·intro Lx g33 s K hl hh k
        show At 98 ((50,_)::(54,_)::(3,_)::(4,_)::(5,_)::(6,_)::(7,_)::(8,_)::(9,_)::Lx) _ _
        refine gn ?_
        exact Qn k
       ·intro Lx g33 s K hl hh k
        show At 98 ((50,_)::(55,_)::(3,_)::(4,_)::(5,_)::(6,_)::(7,_)::(8,_)::(9,_)::Lx) _ _
        obtain rfl:s=0:=by omega
        refine gn ?_
        exact Qn k
       ·intro Lx g33 s K hl hh k
        show At 98 ((50,_)::(51,_)::(56,_)::(3,_)::(4,_)::(5,_)::(6,_)::(7,_)::(8,_)::(9,_)::Lx) _ _
        obtain rfl:s=0:=by omega
        refine gn ?_
        exact Qn k
       ·intro Lx g33 s K hl hh k
        show At 98 ((50,_)::(57,_)::(3,_)::(4,_)::(5,_)::(6,_)::(7,_)::(8,_)::(9,_)::Lx) _ _
        refine gn ?_
        exact Qn k
       ·intro Lx g33 s K hl hh k
        show At 98 ((47,_)::(50,_)::(58,_)::(3,_)::(4,_)::(5,_)::(6,_)::(7,_)::(8,_)::(9,_)::Lx) _ _
        refine gy ?_
        refine aw xp ?_
        exact Qn k
       ·intro Lx g33 s K hl hh k
        show At 98 ((47,_)::(59,_)::(3,_)::(4,_)::(5,_)::(6,_)::(7,_)::(8,_)::(9,_)::Lx) _ _
        refine aw xp ?_
        exact Qn k
       intro g33
       show At 98 [(46,_),(47,_),(48,_),(49,_),(50,_),(51,_),(52,_),(53,_),(54,_),(55,_),(56,_),(57,_),(58,_),(59,_),(60,_),(3,_),(4,_),(5,_),(6,_),(7,_),(8,_),(9,_)] _ _
       refine dz (wq [60,6,5,4,3] ?_)
       refine tn ?_
       refine ct rfl ?_
       refine qs (qs (wq [6,5,4,3] ?_))
       obtain ⟨h34,hF⟩:=gd hF
       refine QaU (φ:=∃ b o,p10=some ⟨b,o,none⟩) (fun _ hw=>QR (hw.own .z).row h34) ?_
       rintro ⟨b36,o37,hp35⟩
       obtain ⟨h38,hF⟩:=gd hF
       refine QaU (φ:=∃ b o,p2=some ⟨b,o,none⟩) (fun _ hw=>QR (hw.own (.s .z)).row h38) ?_
       rintro ⟨b40,o41,hp39⟩
       obtain ⟨t42,ht42,hF⟩:=bM hF
       obtain ⟨t43,ht43,hF⟩:=bM hF
       refine Qcv [.q 61 (fun g44=>.slice p10 i7.length c11) [] 0 0,.q 62 (fun g44=>.int .i64 (i7.length:Int)) [] 0 0,.q 63 (fun g44=>.int .i64 (wr .i64 ((i7.length:Int)-1))) [1] 0 0,.q 64 (fun g44=>.pointer (some ⟨b36,o37+Int.toNat (wr .i64 ((i7.length:Int)-1))*34,none⟩)) [0,2] 0 0,.q 65 (fun g44=>.pointer (some ⟨b36,o37+Int.toNat (wr .i64 ((i7.length:Int)-1))*34+Int.toNat 1*17,none⟩)) [3] 0 0,.q 66 (fun g44=>.agg (Cd.cs Qb (vget (lget i7 (wr .i64 ((i7.length:Int)-1))) 1)).toArray) [4] 0 0,.q 67 (fun g44=>.slice p2 t1.length c3) [] 0 0,.q 68 (fun g44=>.int .i64 i9) [] 0 0,.q 69 (fun g44=>.pointer (some ⟨b40,o41+Int.toNat i9*18,none⟩)) [6,7] 0 0,.q 70 (fun g44=>.agg (Cd.cs Qa (lget t1 i9)).toArray) [8] 0 0,.q 71 (fun g44=>.agg (Cd.cs Qb t42).toArray) [9] 0 0,.q 72 (fun g44=>.bool t43) [5,10] 0 0] (fun g44 s=>match s with | _=>(Wd w [rowE (cVec Qb 2 (by decide)) 144 p10 c11 i7,rowE Qa 38 p2 c3 t1])) 0 (by kernel_rfl) (by kernel_rfl) (by kernel_rfl) (by kernel_rfl) (by kernel_rfl) ⟨fun _ _ _=>rfl,fun _ _ _=>rfl,fun _ _ _=>rfl,fun _ _ _=>rfl,fun _ _ _=>rfl,fun _ _ _=>rfl,fun _ _ _=>rfl,fun _ _ _=>rfl,fun _ _ _=>rfl,fun _ _ _=>rfl,fun _ _ _=>rfl,fun _ _ _=>rfl,trivial⟩ (by kernel_rfl) (fun w_ h=>⟨fun _=>g3 0 none 0 none w_,h.drew⟩) ⟨?_,?_,?_,?_,?_,?_,?_,?_,?_,?_,?_,?_,trivial⟩ ?_
       ·intro Lx g44 s K hl hh k
        show At 98 ((3,_)::(4,_)::(5,_)::(6,_)::Lx) _ _
        refine am ?_
        exact Qn k
       ·intro Lx g44 s K hl hh k
        show At 98 ((3,_)::(4,_)::(5,_)::(6,_)::Lx) _ _
        refine am ?_
        exact Qn k
       ·intro Lx g44 s K hl hh k
        show At 98 ((62,_)::(3,_)::(4,_)::(5,_)::(6,_)::Lx) _ _
        refine aw (Qci rfl rfl) ?_
        exact Qn k
       ·intro Lx g44 s K hl hh k
        show At 98 ((61,_)::(63,_)::(3,_)::(4,_)::(5,_)::(6,_)::Lx) _ _
        refine aw (r_idx underlying141 sizeOf144 rfl rfl h34 hp35) ?_
        exact Qn k
       ·intro Lx g44 s K hl hh k
        show At 98 ((64,_)::(3,_)::(4,_)::(5,_)::(6,_)::Lx) _ _
        refine aw (Qay underlying144 sizeOf36 rfl rfl (by decide)) ?_
        exact Qn k
       ·intro Lx g44 s K hl hh k
        show At 98 ((65,_)::(3,_)::(4,_)::(5,_)::(6,_)::Lx) _ _
        obtain rfl:s=0:=by omega
        refine aw (Qe (c:=Qb) (z:=vget (lget i7 (wr .i64 ((i7.length:Int)-1))) 1) isAgg36 sizeOf36 rfl (fun w1 hw=>QbH (y:=vget (lget i7 (wr .i64 ((i7.length:Int)-1))) 1) (W:=fun w1=>w1=_) (fun w1 h=>by subst h;exact Below.refl _ _) (hw.own .z).row h34 hp35 (Lens.comp lw (fun z=>vset (lget i7 (wr .i64 ((i7.length:Int)-1))) 1 z) (Lens.vec Qb (by decide) (lget i7 (wr .i64 ((i7.length:Int)-1))) 1 (by decide))) _ rfl)) ?_
        exact Qn k
       ·intro Lx g44 s K hl hh k
        show At 98 ((3,_)::(4,_)::(5,_)::(6,_)::Lx) _ _
        refine am ?_
        exact Qn k
       ·intro Lx g44 s K hl hh k
        show At 98 ((3,_)::(4,_)::(5,_)::(6,_)::Lx) _ _
        refine am ?_
        exact Qn k
       ·intro Lx g44 s K hl hh k
        show At 98 ((67,_)::(68,_)::(3,_)::(4,_)::(5,_)::(6,_)::Lx) _ _
        refine aw (r_idx underlying58 sizeOf38 rfl rfl h38 hp39) ?_
        exact Qn k
       ·intro Lx g44 s K hl hh k
        show At 98 ((69,_)::(3,_)::(4,_)::(5,_)::(6,_)::Lx) _ _
        obtain rfl:s=0:=by omega
        refine aw (Qe (c:=Qa) (z:=lget t1 i9) isAgg38 sizeOf38 rfl (fun w1 hw=>QaF (W:=fun w1=>w1=_) (fun w1 h=>by subst h;exact Below.refl _ _) (hw.own (.s .z)).row h38 hp39 _ rfl)) ?_
        exact Qn k
       ·intro Lx g44 s K hl hh k
        show At 98 ((70,_)::(3,_)::(4,_)::(5,_)::(6,_)::Lx) _ _
        obtain rfl:s=0:=by omega
        refine cB func133 rfl (fun w hw=>Qa7 _ _ ht42 w) ?_
        exact Qn k
       ·intro Lx g44 s K hl hh k
        show At 98 ((66,_)::(71,_)::(3,_)::(4,_)::(5,_)::(6,_)::Lx) _ _
        obtain rfl:s=0:=by omega
        refine cB func68 rfl (fun w hw=>Qbn _ _ _ ht43 w) ?_
        exact Qn k
       intro g44
       show At 98 [(61,_),(62,_),(63,_),(64,_),(65,_),(66,_),(67,_),(68,_),(69,_),(70,_),(71,_),(72,_),(3,_),(4,_),(5,_),(6,_)] _ _
       refine wq [72,6,5,4,3] ?_
       refine tn ?_
       obtain ⟨h45,hF⟩|⟨h45,hF⟩:=oi hF
       ·refine ct h45 ?_
        refine wq [6,5,4,3] ?_
        obtain ⟨h46,hF⟩:=gd hF
        refine QaU (φ:=∃ b o,p2=some ⟨b,o,none⟩) (fun _ hw=>QR (hw.own (.s .z)).row h46) ?_
        rintro ⟨b48,o49,hp47⟩
        obtain ⟨t50,ht50,hF⟩:=bM hF
        obtain ⟨h51,hF⟩:=gd hF
        refine QaU (φ:=∃ b o,p10=some ⟨b,o,none⟩) (fun _ hw=>QR (hw.own .z).row h51) ?_
        rintro ⟨b53,o54,hp52⟩
        refine Qcv [.q 73 (fun g55=>.slice p10 i7.length c11) [] 0 0,.q 74 (fun g55=>.int .i64 (i7.length:Int)) [] 0 0,.q 75 (fun g55=>.int .i64 (wr .i64 ((i7.length:Int)-1))) [1] 0 0,.q 76 (fun g55=>.slice p2 t1.length c3) [] 0 0,.q 77 (fun g55=>.int .i64 i9) [] 0 0,.q 78 (fun g55=>.pointer (some ⟨b48,o49+Int.toNat i9*18,none⟩)) [3,4] 0 0,.q 79 (fun g55=>.agg (Cd.cs Qa (lget t1 i9)).toArray) [5] 0 0,.q 80 (fun g55=>.agg (Cd.cs Qb t50).toArray) [6] 0 0,.q 81 (fun g55=>.pointer (some ⟨b53,o54+Int.toNat (wr .i64 ((i7.length:Int)-1))*34,none⟩)) [0,2] 0 0,.q 82 (fun g55=>.pointer (some ⟨b53,o54+Int.toNat (wr .i64 ((i7.length:Int)-1))*34+Int.toNat 1*17,none⟩)) [8] 0 0,.st 0 none [7,9]] (fun g55 s=>match s with | 0=>(Wd w [rowE (cVec Qb 2 (by decide)) 144 p10 c11 i7,rowE Qa 38 p2 c3 t1]) | _=>(Wd w [rowE (cVec Qb 2 (by decide)) 144 p10 c11 (lset i7 (wr .i64 ((i7.length:Int)-1)) (vset (lget i7 (wr .i64 ((i7.length:Int)-1))) 1 t50)),rowE Qa 38 p2 c3 t1])) 1 (by kernel_rfl) (by kernel_rfl) (by kernel_rfl) (by kernel_rfl) (by kernel_rfl) ⟨fun _ _ _=>rfl,fun _ _ _=>rfl,fun _ _ _=>rfl,fun _ _ _=>rfl,fun _ _ _=>rfl,fun _ _ _=>rfl,fun _ _ _=>rfl,fun _ _ _=>rfl,fun _ _ _=>rfl,fun _ _ _=>rfl,fun _ _ _=>rfl,trivial⟩ (by kernel_rfl) (fun w_ h=>⟨fun _=>g3 0 none 0 none w_,h.drew⟩) ⟨?_,?_,?_,?_,?_,?_,?_,?_,?_,?_,?_,trivial⟩ ?_
        ·intro Lx g55 s K hl hh k
         show At 98 ((3,_)::(4,_)::(5,_)::(6,_)::Lx) _ _
         refine am ?_
         exact Qn k
        ·intro Lx g55 s K hl hh k
         show At 98 ((3,_)::(4,_)::(5,_)::(6,_)::Lx) _ _
         refine am ?_
         exact Qn k
        ·intro Lx g55 s K hl hh k
         show At 98 ((74,_)::(3,_)::(4,_)::(5,_)::(6,_)::Lx) _ _
         refine aw (Qci rfl rfl) ?_
         exact Qn k
        ·intro Lx g55 s K hl hh k
         show At 98 ((3,_)::(4,_)::(5,_)::(6,_)::Lx) _ _
         refine am ?_
         exact Qn k
        ·intro Lx g55 s K hl hh k
         show At 98 ((3,_)::(4,_)::(5,_)::(6,_)::Lx) _ _
         refine am ?_
         exact Qn k
        ·intro Lx g55 s K hl hh k
         show At 98 ((76,_)::(77,_)::(3,_)::(4,_)::(5,_)::(6,_)::Lx) _ _
         refine aw (r_idx underlying58 sizeOf38 rfl rfl h46 hp47) ?_
         exact Qn k
        ·intro Lx g55 s K hl hh k
         show At 98 ((78,_)::(3,_)::(4,_)::(5,_)::(6,_)::Lx) _ _
         obtain rfl:s=0:=by omega
         refine aw (Qe (c:=Qa) (z:=lget t1 i9) isAgg38 sizeOf38 rfl (fun w1 hw=>QaF (W:=fun w1=>w1=_) (fun w1 h=>by subst h;exact Below.refl _ _) (hw.own (.s .z)).row h46 hp47 _ rfl)) ?_
         exact Qn k
        ·intro Lx g55 s K hl hh k
         show At 98 ((79,_)::(3,_)::(4,_)::(5,_)::(6,_)::Lx) _ _
         obtain rfl:s=0:=by omega
         refine cB func133 rfl (fun w hw=>Qa7 _ _ ht50 w) ?_
         exact Qn k
        ·intro Lx g55 s K hl hh k
         show At 98 ((73,_)::(75,_)::(3,_)::(4,_)::(5,_)::(6,_)::Lx) _ _
         refine aw (r_idx underlying141 sizeOf144 rfl rfl h51 hp52) ?_
         exact Qn k
        ·intro Lx g55 s K hl hh k
         show At 98 ((81,_)::(3,_)::(4,_)::(5,_)::(6,_)::Lx) _ _
         refine aw (Qay underlying144 sizeOf36 rfl rfl (by decide)) ?_
         exact Qn k
        ·intro Lx g55 K k
         show At 98 ((80,_)::(82,_)::(3,_)::(4,_)::(5,_)::(6,_)::Lx) _ _
         refine Qe5 (c:=(cVec Qb 2 (by decide))) (c':=Qb) (i:=wr .i64 ((i7.length:Int)-1)) (z:=t50) (y:=vset (lget i7 (wr .i64 ((i7.length:Int)-1))) 1 t50) .z h51 hp52 (Lens.comp lw (fun z=>vset (lget i7 (wr .i64 ((i7.length:Int)-1))) 1 z) (Lens.vec Qb (by decide) (lget i7 (wr .i64 ((i7.length:Int)-1))) 1 (by decide))) (by rfl) sizeOf36 rfl rfl rfl ?_
         exact Qn k
        intro g55
        show At 98 [(73,_),(74,_),(75,_),(76,_),(77,_),(78,_),(79,_),(80,_),(81,_),(82,_),(3,_),(4,_),(5,_),(6,_)] _ _
        refine at_ov (t:=3) rfl (show Value.slice p10 (List.length i7) c11=.slice p10 (List.length (lset i7 (wr .i64 ((i7.length:Int)-1)) (vset (lget i7 (wr .i64 ((i7.length:Int)-1))) 1 t50))) c11 from congrArg (fun n_=>Value.slice p10 n_ c11) ((Qcx _ _ _).symm)) ?_
        refine at_ov (t:=73) rfl (show Value.slice p10 (List.length i7) c11=.slice p10 (List.length (lset i7 (wr .i64 ((i7.length:Int)-1)) (vset (lget i7 (wr .i64 ((i7.length:Int)-1))) 1 t50))) c11 from congrArg (fun n_=>Value.slice p10 n_ c11) ((Qcx _ _ _).symm)) ?_
        refine wq [5,4,3] ?_
        refine tn ?_
        refine Q1 ?_
        refine te (Qw (tn ?_))
        refine qr (am (aw xa (aa (nwq [5,4,3] ?_))))
        exact Qm (ih _ _ _ hF K p10 c11) ⟨rfl,rfl,rfl,trivial⟩
       refine cf h45 ?_
       refine sn ?_
       refine Q1 ?_
       refine te (Qw (tn ?_))
       refine qr (am (aw xa (aa (nwq [5,4,3] ?_))))
       exact Qm (ih _ _ _ hF K p10 c11) ⟨rfl,rfl,rfl,trivial⟩
      skip
      obtain ⟨h56,hF⟩:=gd hF
      refine QaU (φ:=∃ b o,p2=some ⟨b,o,none⟩) (fun _ hw=>QR (hw.own (.s (.s .z))).row h56) ?_
      rintro ⟨b58,o59,hp57⟩
      obtain ⟨t60,ht60,hF⟩:=bM hF
      refine Qcv [.q 46 (fun g61=>.bool ((vget (lget i7 (wr .i64 ((i7.length:Int)-1))) 0).f_V==((lget t1 i9).f_A).f_V)) [] 0 0,.q 47 (fun g61=>.bool true) [0] 0 0,.q 48 (fun g61=>.bool t20.2) [1] 0 0,.q 49 (fun g61=>.bool (!t20.2)) [1,2] 0 0,.q 50 (fun g61=>.bool false) [1,3] 0 0,.q 51 (fun g61=>.agg (Cd.cs Qb t20.1).toArray) [4] 0 0,.q 52 (fun g61=>.slice p2 t1.length c3) [4] 0 0,.q 53 (fun g61=>.int .i64 i9) [4] 0 0,.q 54 (fun g61=>.pointer (some ⟨b58,o59+Int.toNat i9*18,none⟩)) [4,6,7] 0 0,.q 55 (fun g61=>.pointer (some ⟨b58,o59+Int.toNat i9*18+0,none⟩)) [4,8] 0 0,.q 56 (fun g61=>.agg (Cd.cs Qb ((lget t1 i9).f_A)).toArray) [4,9] 0 0,.q 57 (fun g61=>.bool t60) [4,5,10] 0 0,.q 58 (fun g61=>.bool (!t60)) [4,11] 0 0,.q 59 (fun g61=>.bool (!t60)) [1,4,12] 0 0,.q 60 (fun g61=>.bool (!t60)) [1,13] 0 0] (fun g61 s=>match s with | _=>(Wd w [Qs b21 (Cd.cs Qb t20.1) 36,rowE (cVec Qb 2 (by decide)) 144 p10 c11 i7,rowE Qa 38 p2 c3 t1])) 0 (by kernel_rfl) (by kernel_rfl) (by kernel_rfl) (by kernel_rfl) (by kernel_rfl) ⟨fun _ _ _=>rfl,fun _ _ _=>rfl,fun _ _ _=>rfl,fun _ _ _=>rfl,fun _ _ _=>rfl,fun _ _ _=>rfl,fun _ _ _=>rfl,fun _ _ _=>rfl,fun _ _ _=>rfl,fun _ _ _=>rfl,fun _ _ _=>rfl,fun _ _ _=>rfl,fun _ _ _=>rfl,fun _ _ _=>rfl,fun _ _ _=>rfl,trivial⟩ (by kernel_rfl) (fun w_ h=>⟨fun _=>g3 0 none 0 none w_,h.drew⟩) ⟨?_,?_,?_,?_,?_,?_,?_,?_,?_,?_,?_,?_,?_,?_,?_,trivial⟩ ?_
      ·intro Lx g61 s K hl hh k
       show At 98 ((3,_)::(4,_)::(5,_)::(6,_)::(7,_)::(8,_)::(9,_)::Lx) _ _
       refine am ?_
       exact Qn k
      ·intro Lx g61 s K hl hh k
       show At 98 ((46,_)::(3,_)::(4,_)::(5,_)::(6,_)::(7,_)::(8,_)::(9,_)::Lx) _ _
       refine am ?_
       exact Qn (QcH h31 k)
      ·intro Lx g61 s K hl hh k
       show At 98 ((47,_)::(3,_)::(4,_)::(5,_)::(6,_)::(7,_)::(8,_)::(9,_)::Lx) _ _
       refine gy ?_
       refine am ?_
       exact Qn k
      ·intro Lx g61 s K hl hh k
       show At 98 ((47,_)::(48,_)::(3,_)::(4,_)::(5,_)::(6,_)::(7,_)::(8,_)::(9,_)::Lx) _ _
       refine gy ?_
       refine aw (r_not rfl) ?_
       exact Qn k
      ·intro Lx g61 s K hl hh k
       show At 98 ((47,_)::(49,_)::(3,_)::(4,_)::(5,_)::(6,_)::(7,_)::(8,_)::(9,_)::Lx) _ _
       refine gy ?_
       refine am ?_
       exact Qn (QcH h32 k)
      ·intro Lx g61 s K hl hh k
       show At 98 ((50,_)::(3,_)::(4,_)::(5,_)::(6,_)::(7,_)::(8,_)::(9,_)::Lx) _ _
       refine gy ?_
       obtain rfl:s=0:=by omega
       refine aw (Qe (c:=Qb) (z:=t20.1) isAgg36 sizeOf36 rfl (Qp .z lw)) ?_
       exact Qn k
      ·intro Lx g61 s K hl hh k
       show At 98 ((50,_)::(3,_)::(4,_)::(5,_)::(6,_)::(7,_)::(8,_)::(9,_)::Lx) _ _
       refine gy ?_
       refine am ?_
       exact Qn k
      ·intro Lx g61 s K hl hh k
       show At 98 ((50,_)::(3,_)::(4,_)::(5,_)::(6,_)::(7,_)::(8,_)::(9,_)::Lx) _ _
       refine gy ?_
       refine am ?_
       exact Qn k
      ·intro Lx g61 s K hl hh k
       show At 98 ((50,_)::(52,_)::(53,_)::(3,_)::(4,_)::(5,_)::(6,_)::(7,_)::(8,_)::(9,_)::Lx) _ _
       refine gy ?_
       refine aw (r_idx underlying58 sizeOf38 rfl rfl h56 hp57) ?_
       exact Qn k
      ·intro Lx g61 s K hl hh k
       show At 98 ((50,_)::(54,_)::(3,_)::(4,_)::(5,_)::(6,_)::(7,_)::(8,_)::(9,_)::Lx) _ _
       refine gy ?_
       refine fa 0 underlying38 rfl sizeOf36 ?_
       exact Qn k
      ·intro Lx g61 s K hl hh k
       show At 98 ((50,_)::(55,_)::(3,_)::(4,_)::(5,_)::(6,_)::(7,_)::(8,_)::(9,_)::Lx) _ _
       refine gy ?_
       obtain rfl:s=0:=by omega
       refine aw (Qe (c:=Qb) (z:=(lget t1 i9).f_A) isAgg36 sizeOf36 rfl (fun w1 hw=>QbH (y:=(lget t1 i9).f_A) (W:=fun w1=>w1=_) (fun w1 h=>by subst h;exact Below.refl _ _) (hw.own (.s (.s .z))).row h56 hp57 (Lens.comp lw (fun z=>{ (lget t1 i9) with f_A:=z }) (QG (lget t1 i9))) _ rfl)) ?_
       exact Qn k
      ·intro Lx g61 s K hl hh k
       show At 98 ((50,_)::(51,_)::(56,_)::(3,_)::(4,_)::(5,_)::(6,_)::(7,_)::(8,_)::(9,_)::Lx) _ _
       refine gy ?_
       obtain rfl:s=0:=by omega
       refine cB func68 rfl (fun w hw=>Qbn _ _ _ ht60 w) ?_
       exact Qn k
      ·intro Lx g61 s K hl hh k
       show At 98 ((50,_)::(57,_)::(3,_)::(4,_)::(5,_)::(6,_)::(7,_)::(8,_)::(9,_)::Lx) _ _
       refine gy ?_
       refine aw (r_not rfl) ?_
       exact Qn k
      ·intro Lx g61 s K hl hh k
       show At 98 ((47,_)::(50,_)::(58,_)::(3,_)::(4,_)::(5,_)::(6,_)::(7,_)::(8,_)::(9,_)::Lx) _ _
       refine gy ?_
       refine aw xp ?_
       exact Qn k
      ·intro Lx g61 s K hl hh k
       show At 98 ((47,_)::(59,_)::(3,_)::(4,_)::(5,_)::(6,_)::(7,_)::(8,_)::(9,_)::Lx) _ _
       refine aw xp ?_
       exact Qn k
      intro g61
      show At 98 [(46,_),(47,_),(48,_),(49,_),(50,_),(51,_),(52,_),(53,_),(54,_),(55,_),(56,_),(57,_),(58,_),(59,_),(60,_),(3,_),(4,_),(5,_),(6,_),(7,_),(8,_),(9,_)] _ _
      refine dz (wq [60,6,5,4,3] ?_)
      refine tn ?_
      obtain ⟨h62,hF⟩|⟨h62,hF⟩:=oi hF
      ·refine ct h62 ?_
       refine qs (qs (wq [6,5,4,3] ?_))
       obtain ⟨h63,hF⟩:=gd hF
       refine QaU (φ:=∃ b o,p10=some ⟨b,o,none⟩) (fun _ hw=>QR (hw.own .z).row h63) ?_
       rintro ⟨b65,o66,hp64⟩
       obtain ⟨h67,hF⟩:=gd hF
       refine QaU (φ:=∃ b o,p2=some ⟨b,o,none⟩) (fun _ hw=>QR (hw.own (.s .z)).row h67) ?_
       rintro ⟨b69,o70,hp68⟩
       obtain ⟨t71,ht71,hF⟩:=bM hF
       obtain ⟨t72,ht72,hF⟩:=bM hF
       refine Qcv [.q 61 (fun g73=>.slice p10 i7.length c11) [] 0 0,.q 62 (fun g73=>.int .i64 (i7.length:Int)) [] 0 0,.q 63 (fun g73=>.int .i64 (wr .i64 ((i7.length:Int)-1))) [1] 0 0,.q 64 (fun g73=>.pointer (some ⟨b65,o66+Int.toNat (wr .i64 ((i7.length:Int)-1))*34,none⟩)) [0,2] 0 0,.q 65 (fun g73=>.pointer (some ⟨b65,o66+Int.toNat (wr .i64 ((i7.length:Int)-1))*34+Int.toNat 1*17,none⟩)) [3] 0 0,.q 66 (fun g73=>.agg (Cd.cs Qb (vget (lget i7 (wr .i64 ((i7.length:Int)-1))) 1)).toArray) [4] 0 0,.q 67 (fun g73=>.slice p2 t1.length c3) [] 0 0,.q 68 (fun g73=>.int .i64 i9) [] 0 0,.q 69 (fun g73=>.pointer (some ⟨b69,o70+Int.toNat i9*18,none⟩)) [6,7] 0 0,.q 70 (fun g73=>.agg (Cd.cs Qa (lget t1 i9)).toArray) [8] 0 0,.q 71 (fun g73=>.agg (Cd.cs Qb t71).toArray) [9] 0 0,.q 72 (fun g73=>.bool t72) [5,10] 0 0] (fun g73 s=>match s with | _=>(Wd w [rowE (cVec Qb 2 (by decide)) 144 p10 c11 i7,rowE Qa 38 p2 c3 t1])) 0 (by kernel_rfl) (by kernel_rfl) (by kernel_rfl) (by kernel_rfl) (by kernel_rfl) ⟨fun _ _ _=>rfl,fun _ _ _=>rfl,fun _ _ _=>rfl,fun _ _ _=>rfl,fun _ _ _=>rfl,fun _ _ _=>rfl,fun _ _ _=>rfl,fun _ _ _=>rfl,fun _ _ _=>rfl,fun _ _ _=>rfl,fun _ _ _=>rfl,fun _ _ _=>rfl,trivial⟩ (by kernel_rfl) (fun w_ h=>⟨fun _=>g3 0 none 0 none w_,h.drew⟩) ⟨?_,?_,?_,?_,?_,?_,?_,?_,?_,?_,?_,?_,trivial⟩ ?_
       ·intro Lx g73 s K hl hh k
        show At 98 ((3,_)::(4,_)::(5,_)::(6,_)::Lx) _ _
        refine am ?_
        exact Qn k
       ·intro Lx g73 s K hl hh k
        show At 98 ((3,_)::(4,_)::(5,_)::(6,_)::Lx) _ _
        refine am ?_
        exact Qn k
       ·intro Lx g73 s K hl hh k
        show At 98 ((62,_)::(3,_)::(4,_)::(5,_)::(6,_)::Lx) _ _
        refine aw (Qci rfl rfl) ?_
        exact Qn k
       ·intro Lx g73 s K hl hh k
        show At 98 ((61,_)::(63,_)::(3,_)::(4,_)::(5,_)::(6,_)::Lx) _ _
        refine aw (r_idx underlying141 sizeOf144 rfl rfl h63 hp64) ?_
        exact Qn k
       ·intro Lx g73 s K hl hh k
        show At 98 ((64,_)::(3,_)::(4,_)::(5,_)::(6,_)::Lx) _ _
        refine aw (Qay underlying144 sizeOf36 rfl rfl (by decide)) ?_
        exact Qn k
       ·intro Lx g73 s K hl hh k
        show At 98 ((65,_)::(3,_)::(4,_)::(5,_)::(6,_)::Lx) _ _
        obtain rfl:s=0:=by omega
        refine aw (Qe (c:=Qb) (z:=vget (lget i7 (wr .i64 ((i7.length:Int)-1))) 1) isAgg36 sizeOf36 rfl (fun w1 hw=>QbH (y:=vget (lget i7 (wr .i64 ((i7.length:Int)-1))) 1) (W:=fun w1=>w1=_) (fun w1 h=>by subst h;exact Below.refl _ _) (hw.own .z).row h63 hp64 (Lens.comp lw (fun z=>vset (lget i7 (wr .i64 ((i7.length:Int)-1))) 1 z) (Lens.vec Qb (by decide) (lget i7 (wr .i64 ((i7.length:Int)-1))) 1 (by decide))) _ rfl)) ?_
        exact Qn k
       ·intro Lx g73 s K hl hh k
        show At 98 ((3,_)::(4,_)::(5,_)::(6,_)::Lx) _ _
        refine am ?_
        exact Qn k
       ·intro Lx g73 s K hl hh k
        show At 98 ((3,_)::(4,_)::(5,_)::(6,_)::Lx) _ _
        refine am ?_
        exact Qn k
       ·intro Lx g73 s K hl hh k
        show At 98 ((67,_)::(68,_)::(3,_)::(4,_)::(5,_)::(6,_)::Lx) _ _
        refine aw (r_idx underlying58 sizeOf38 rfl rfl h67 hp68) ?_
        exact Qn k
       ·intro Lx g73 s K hl hh k
        show At 98 ((69,_)::(3,_)::(4,_)::(5,_)::(6,_)::Lx) _ _
        obtain rfl:s=0:=by omega
        refine aw (Qe (c:=Qa) (z:=lget t1 i9) isAgg38 sizeOf38 rfl (fun w1 hw=>QaF (W:=fun w1=>w1=_) (fun w1 h=>by subst h;exact Below.refl _ _) (hw.own (.s .z)).row h67 hp68 _ rfl)) ?_
        exact Qn k
       ·intro Lx g73 s K hl hh k
        show At 98 ((70,_)::(3,_)::(4,_)::(5,_)::(6,_)::Lx) _ _
        obtain rfl:s=0:=by omega
        refine cB func133 rfl (fun w hw=>Qa7 _ _ ht71 w) ?_
        exact Qn k
       ·intro Lx g73 s K hl hh k
        show At 98 ((66,_)::(71,_)::(3,_)::(4,_)::(5,_)::(6,_)::Lx) _ _
        obtain rfl:s=0:=by omega
        refine cB func68 rfl (fun w hw=>Qbn _ _ _ ht72 w) ?_
        exact Qn k
       intro g73
       show At 98 [(61,_),(62,_),(63,_),(64,_),(65,_),(66,_),(67,_),(68,_),(69,_),(70,_),(71,_),(72,_),(3,_),(4,_),(5,_),(6,_)] _ _
       refine wq [72,6,5,4,3] ?_
       refine tn ?_
       obtain ⟨h74,hF⟩|⟨h74,hF⟩:=oi hF
       ·refine ct h74 ?_
        refine wq [6,5,4,3] ?_
        obtain ⟨h75,hF⟩:=gd hF
        refine QaU (φ:=∃ b o,p2=some ⟨b,o,none⟩) (fun _ hw=>QR (hw.own (.s .z)).row h75) ?_
        rintro ⟨b77,o78,hp76⟩
        obtain ⟨t79,ht79,hF⟩:=bM hF
        obtain ⟨h80,hF⟩:=gd hF
        refine QaU (φ:=∃ b o,p10=some ⟨b,o,none⟩) (fun _ hw=>QR (hw.own .z).row h80) ?_
        rintro ⟨b82,o83,hp81⟩
        refine Qcv [.q 73 (fun g84=>.slice p10 i7.length c11) [] 0 0,.q 74 (fun g84=>.int .i64 (i7.length:Int)) [] 0 0,.q 75 (fun g84=>.int .i64 (wr .i64 ((i7.length:Int)-1))) [1] 0 0,.q 76 (fun g84=>.slice p2 t1.length c3) [] 0 0,.q 77 (fun g84=>.int .i64 i9) [] 0 0,.q 78 (fun g84=>.pointer (some ⟨b77,o78+Int.toNat i9*18,none⟩)) [3,4] 0 0,.q 79 (fun g84=>.agg (Cd.cs Qa (lget t1 i9)).toArray) [5] 0 0,.q 80 (fun g84=>.agg (Cd.cs Qb t79).toArray) [6] 0 0,.q 81 (fun g84=>.pointer (some ⟨b82,o83+Int.toNat (wr .i64 ((i7.length:Int)-1))*34,none⟩)) [0,2] 0 0,.q 82 (fun g84=>.pointer (some ⟨b82,o83+Int.toNat (wr .i64 ((i7.length:Int)-1))*34+Int.toNat 1*17,none⟩)) [8] 0 0,.st 0 none [7,9]] (fun g84 s=>match s with | 0=>(Wd w [rowE (cVec Qb 2 (by decide)) 144 p10 c11 i7,rowE Qa 38 p2 c3 t1]) | _=>(Wd w [rowE (cVec Qb 2 (by decide)) 144 p10 c11 (lset i7 (wr .i64 ((i7.length:Int)-1)) (vset (lget i7 (wr .i64 ((i7.length:Int)-1))) 1 t79)),rowE Qa 38 p2 c3 t1])) 1 (by kernel_rfl) (by kernel_rfl) (by kernel_rfl) (by kernel_rfl) (by kernel_rfl) ⟨fun _ _ _=>rfl,fun _ _ _=>rfl,fun _ _ _=>rfl,fun _ _ _=>rfl,fun _ _ _=>rfl,fun _ _ _=>rfl,fun _ _ _=>rfl,fun _ _ _=>rfl,fun _ _ _=>rfl,fun _ _ _=>rfl,fun _ _ _=>rfl,trivial⟩ (by kernel_rfl) (fun w_ h=>⟨fun _=>g3 0 none 0 none w_,h.drew⟩) ⟨?_,?_,?_,?_,?_,?_,?_,?_,?_,?_,?_,trivial⟩ ?_
        ·intro Lx g84 s K hl hh k
         show At 98 ((3,_)::(4,_)::(5,_)::(6,_)::Lx) _ _
         refine am ?_
         exact Qn k
        ·intro Lx g84 s K hl hh k
         show At 98 ((3,_)::(4,_)::(5,_)::(6,_)::Lx) _ _
         refine am ?_
         exact Qn k
        ·intro Lx g84 s K hl hh k
         show At 98 ((74,_)::(3,_)::(4,_)::(5,_)::(6,_)::Lx) _ _
         refine aw (Qci rfl rfl) ?_
         exact Qn k
        ·intro Lx g84 s K hl hh k
         show At 98 ((3,_)::(4,_)::(5,_)::(6,_)::Lx) _ _
         refine am ?_
         exact Qn k
        ·intro Lx g84 s K hl hh k
         show At 98 ((3,_)::(4,_)::(5,_)::(6,_)::Lx) _ _
         refine am ?_
         exact Qn k
        ·intro Lx g84 s K hl hh k
         show At 98 ((76,_)::(77,_)::(3,_)::(4,_)::(5,_)::(6,_)::Lx) _ _
         refine aw (r_idx underlying58 sizeOf38 rfl rfl h75 hp76) ?_
         exact Qn k
        ·intro Lx g84 s K hl hh k
         show At 98 ((78,_)::(3,_)::(4,_)::(5,_)::(6,_)::Lx) _ _
         obtain rfl:s=0:=by omega
         refine aw (Qe (c:=Qa) (z:=lget t1 i9) isAgg38 sizeOf38 rfl (fun w1 hw=>QaF (W:=fun w1=>w1=_) (fun w1 h=>by subst h;exact Below.refl _ _) (hw.own (.s .z)).row h75 hp76 _ rfl)) ?_
         exact Qn k
        ·intro Lx g84 s K hl hh k
         show At 98 ((79,_)::(3,_)::(4,_)::(5,_)::(6,_)::Lx) _ _
         obtain rfl:s=0:=by omega
         refine cB func133 rfl (fun w hw=>Qa7 _ _ ht79 w) ?_
         exact Qn k
        ·intro Lx g84 s K hl hh k
         show At 98 ((73,_)::(75,_)::(3,_)::(4,_)::(5,_)::(6,_)::Lx) _ _
         refine aw (r_idx underlying141 sizeOf144 rfl rfl h80 hp81) ?_
         exact Qn k
        ·intro Lx g84 s K hl hh k
         show At 98 ((81,_)::(3,_)::(4,_)::(5,_)::(6,_)::Lx) _ _
         refine aw (Qay underlying144 sizeOf36 rfl rfl (by decide)) ?_
         exact Qn k
        ·intro Lx g84 K k
         show At 98 ((80,_)::(82,_)::(3,_)::(4,_)::(5,_)::(6,_)::Lx) _ _
         refine Qe5 (c:=(cVec Qb 2 (by decide))) (c':=Qb) (i:=wr .i64 ((i7.length:Int)-1)) (z:=t79) (y:=vset (lget i7 (wr .i64 ((i7.length:Int)-1))) 1 t79) .z h80 hp81 (Lens.comp lw (fun z=>vset (lget i7 (wr .i64 ((i7.length:Int)-1))) 1 z) (Lens.vec Qb (by decide) (lget i7 (wr .i64 ((i7.length:Int)-1))) 1 (by decide))) (by rfl) sizeOf36 rfl rfl rfl ?_
         exact Qn k
        intro g84
        show At 98 [(73,_),(74,_),(75,_),(76,_),(77,_),(78,_),(79,_),(80,_),(81,_),(82,_),(3,_),(4,_),(5,_),(6,_)] _ _
        refine at_ov (t:=3) rfl (show Value.slice p10 (List.length i7) c11=.slice p10 (List.length (lset i7 (wr .i64 ((i7.length:Int)-1)) (vset (lget i7 (wr .i64 ((i7.length:Int)-1))) 1 t79))) c11 from congrArg (fun n_=>Value.slice p10 n_ c11) ((Qcx _ _ _).symm)) ?_
        refine at_ov (t:=73) rfl (show Value.slice p10 (List.length i7) c11=.slice p10 (List.length (lset i7 (wr .i64 ((i7.length:Int)-1)) (vset (lget i7 (wr .i64 ((i7.length:Int)-1))) 1 t79))) c11 from congrArg (fun n_=>Value.slice p10 n_ c11) ((Qcx _ _ _).symm)) ?_
        refine wq [5,4,3] ?_
        refine tn ?_
        refine Q1 ?_
        refine te (Qw (tn ?_))
        refine qr (am (aw xa (aa (nwq [5,4,3] ?_))))
        exact Qm (ih _ _ _ hF K p10 c11) ⟨rfl,rfl,rfl,trivial⟩
       refine cf h74 ?_
       refine sn ?_
       refine Q1 ?_
       refine te (Qw (tn ?_))
       refine qr (am (aw xa (aa (nwq [5,4,3] ?_))))
       exact Qm (ih _ _ _ hF K p10 c11) ⟨rfl,rfl,rfl,trivial⟩
      refine cf h62 ?_
      refine sn (wq [5,4,3] ?_)
      obtain ⟨h85,hF⟩:=gd hF
      refine QaU (φ:=∃ b o,p2=some ⟨b,o,none⟩) (fun _ hw=>QR (hw.own (.s .z)).row h85) ?_
      rintro ⟨b87,o88,hp86⟩
      obtain ⟨h89,hF⟩:=gd hF
      refine QaU (φ:=∃ b o,p2=some ⟨b,o,none⟩) (fun _ hw=>QR (hw.own (.s .z)).row h89) ?_
      rintro ⟨b91,o92,hp90⟩
      obtain ⟨t93,ht93,hF⟩:=bM hF
      refine QfM [.q 83 (fun g95=>.slice p10 i7.length c11) [] 0 1,.q 84 (fun g95=>.slice p2 t1.length c3) [] 0 0,.q 85 (fun g95=>.int .i64 i9) [] 0 0,.q 86 (fun g95=>.pointer (some ⟨b87,o88+Int.toNat i9*18,none⟩)) [1,2] 0 0,.q 87 (fun g95=>.pointer (some ⟨b87,o88+Int.toNat i9*18+0,none⟩)) [3] 0 0,.q 88 (fun g95=>.agg (Cd.cs Qb ((lget t1 i9).f_A)).toArray) [4] 0 0,.q 89 (fun g95=>.slice p2 t1.length c3) [] 0 0,.q 90 (fun g95=>.int .i64 i9) [] 0 0,.q 91 (fun g95=>.pointer (some ⟨b91,o92+Int.toNat i9*18,none⟩)) [6,7] 0 0,.q 92 (fun g95=>.agg (Cd.cs Qa (lget t1 i9)).toArray) [8] 0 0,.q 93 (fun g95=>.agg (Cd.cs Qb t93).toArray) [9] 0 0,.q 94 (fun g95=>.agg (Cd.cs (cVec Qb 2 (by decide)) (vset (vset (Vector.replicate 2 zv1:(Vector Qh 2)) 0 ((lget t1 i9).f_A)) 1 t93)).toArray) [5,10] 0 0,.al 0 95 (fun g95=>.slice (some ⟨((g95 0).1),0,none⟩) ([vset (vset (Vector.replicate 2 zv1:(Vector Qh 2)) 0 ((lget t1 i9).f_A)) 1 t93]:List (Vector Qh 2)).length 1) [11]] (fun g95 s=>match s with | 0=>(Wd w [rowE (cVec Qb 2 (by decide)) 144 p10 c11 i7,rowE Qa 38 p2 c3 t1]) | _=>(Wd w [Qs ((g95 0).1) ((cVec Qb 2 (by decide)).all ([vset (vset (Vector.replicate 2 zv1:(Vector Qh 2)) 0 ((lget t1 i9).f_A)) 1 t93]:List (Vector Qh 2))) 144,rowE (cVec Qb 2 (by decide)) 144 p10 c11 i7,rowE Qa 38 p2 c3 t1])) 1 13 (by kernel_rfl) (by kernel_rfl) (by kernel_rfl) (by kernel_rfl) (by kernel_rfl) (by kernel_rfl) ⟨fun _ _ _=>rfl,fun _ _ _=>rfl,fun _ _ _=>rfl,fun _ _ _=>rfl,fun _ _ _=>rfl,fun _ _ _=>rfl,fun _ _ _=>rfl,fun _ _ _=>rfl,fun _ _ _=>rfl,fun _ _ _=>rfl,fun _ _ _=>rfl,fun _ _ _=>rfl,fun g95 g2 h=>by show (.slice (some ⟨((g95 0).1),0,none⟩) ([vset (vset (Vector.replicate 2 zv1:(Vector Qh 2)) 0 ((lget t1 i9).f_A)) 1 t93]:List (Vector Qh 2)).length 1:Value)=.slice (some ⟨((g2 0).1),0,none⟩) ([vset (vset (Vector.replicate 2 zv1:(Vector Qh 2)) 0 ((lget t1 i9).f_A)) 1 t93]:List (Vector Qh 2)).length 1;rw [h 0 (show 0<1 by decide)],trivial⟩ (by kernel_rfl) (fun w_ h=>⟨fun _=>g3 0 none 0 none w_,h.drew⟩) ⟨?_,?_,?_,?_,?_,?_,?_,?_,?_,?_,?_,?_,?_,trivial⟩ ?_
      ·intro Lx g95 s K hl hh k
       show At 98 ((3,_)::(4,_)::(5,_)::Lx) _ _
       refine am ?_
       exact Qn k
      ·intro Lx g95 s K hl hh k
       show At 98 ((3,_)::(4,_)::(5,_)::Lx) _ _
       refine am ?_
       exact Qn k
      ·intro Lx g95 s K hl hh k
       show At 98 ((3,_)::(4,_)::(5,_)::Lx) _ _
       refine am ?_
       exact Qn k
      ·intro Lx g95 s K hl hh k
       show At 98 ((84,_)::(85,_)::(3,_)::(4,_)::(5,_)::Lx) _ _
       refine aw (r_idx underlying58 sizeOf38 rfl rfl h85 hp86) ?_
       exact Qn k
      ·intro Lx g95 s K hl hh k
       show At 98 ((86,_)::(3,_)::(4,_)::(5,_)::Lx) _ _
       refine fa 0 underlying38 rfl sizeOf36 ?_
       exact Qn k
      ·intro Lx g95 s K hl hh k
       show At 98 ((87,_)::(3,_)::(4,_)::(5,_)::Lx) _ _
       obtain rfl:s=0:=by omega
       refine aw (Qe (c:=Qb) (z:=(lget t1 i9).f_A) isAgg36 sizeOf36 rfl (fun w1 hw=>QbH (y:=(lget t1 i9).f_A) (W:=fun w1=>w1=_) (fun w1 h=>by subst h;exact Below.refl _ _) (hw.own (.s .z)).row h85 hp86 (Lens.comp lw (fun z=>{ (lget t1 i9) with f_A:=z }) (QG (lget t1 i9))) _ rfl)) ?_
       exact Qn k
      ·intro Lx g95 s K hl hh k
       show At 98 ((3,_)::(4,_)::(5,_)::Lx) _ _
       refine am ?_
       exact Qn k
      ·intro Lx g95 s K hl hh k
       show At 98 ((3,_)::(4,_)::(5,_)::Lx) _ _
       refine am ?_
       exact Qn k
      ·intro Lx g95 s K hl hh k
       show At 98 ((89,_)::(90,_)::(3,_)::(4,_)::(5,_)::Lx) _ _
       refine aw (r_idx underlying58 sizeOf38 rfl rfl h89 hp90) ?_
       exact Qn k
      ·intro Lx g95 s K hl hh k
       show At 98 ((91,_)::(3,_)::(4,_)::(5,_)::Lx) _ _
       obtain rfl:s=0:=by omega
       refine aw (Qe (c:=Qa) (z:=lget t1 i9) isAgg38 sizeOf38 rfl (fun w1 hw=>QaF (W:=fun w1=>w1=_) (fun w1 h=>by subst h;exact Below.refl _ _) (hw.own (.s .z)).row h89 hp90 _ rfl)) ?_
       exact Qn k
      ·intro Lx g95 s K hl hh k
       show At 98 ((92,_)::(3,_)::(4,_)::(5,_)::Lx) _ _
       obtain rfl:s=0:=by omega
       refine cB func133 rfl (fun w hw=>Qa7 _ _ ht93 w) ?_
       exact Qn k
      ·intro Lx g95 s K hl hh k
       show At 98 ((88,_)::(93,_)::(3,_)::(4,_)::(5,_)::Lx) _ _
       obtain rfl:s=0:=by omega
       refine aw (Qcw (zs:=Cd.cs (cVec Qb 2 (by decide)) (Vector.replicate 2 zv1:(Vector Qh 2))) (cs:=Cd.cs (cVec Qb 2 (by decide)) (vset (vset (Vector.replicate 2 zv1:(Vector Qh 2)) 0 ((lget t1 i9).f_A)) 1 t93)) underlying144 zeroValue144 rfl sizeOf36 rfl (QI (c:=Qb) (z:=(lget t1 i9).f_A) rfl (Lens.vec Qb (by decide) (Vector.replicate 2 zv1:(Vector Qh 2)) 0 (by decide)) rfl (QI (c:=Qb) (z:=t93) rfl (Lens.vec Qb (by decide) (vset (Vector.replicate 2 zv1:(Vector Qh 2)) 0 ((lget t1 i9).f_A)) 1 (by decide)) rfl rfl))) ?_
       exact Qn k
      ·intro Lx g95 K k
       show At 98 ((94,_)::(3,_)::(4,_)::(5,_)::Lx) _ _
       refine Qbu (c:=(cVec Qb 2 (by decide))) ([(Vector.replicate 2 zv1:(Vector Qh 2))]:List (Vector Qh 2)) ([vset (vset (Vector.replicate 2 zv1:(Vector Qh 2)) 0 ((lget t1 i9).f_A)) 1 t93]:List (Vector Qh 2)) underlying141 sizeOf144 zeroValue144 rfl rfl rfl (by kernel_rfl) (QI (c:=(cVec Qb 2 (by decide))) (z:=vset (vset (Vector.replicate 2 zv1:(Vector Qh 2)) 0 ((lget t1 i9).f_A)) 1 t93) rfl (Lens.all (cVec Qb 2 (by decide)) ([(Vector.replicate 2 zv1:(Vector Qh 2))]:List (Vector Qh 2)) 0 (by first | decide | exact Nat.le_of_ble_eq_true rfl)) rfl rfl) rfl ?_
       intro b94
       exact Qn (k (g3 b94 none 0 none w))
      intro g95
      show At 98 [(83,_),(84,_),(85,_),(86,_),(87,_),(88,_),(89,_),(90,_),(91,_),(92,_),(93,_),(94,_),(95,_),(3,_),(4,_),(5,_)] _ _
      obtain ⟨h96,hF⟩:=gd hF
      refine Qax (z:=.agg (Cd.cs (cVec Qb 2 (by decide)) (Vector.replicate 2 zv1:(Vector Qh 2))).toArray) (c:=(cVec Qb 2 (by decide))) (ys:=([vset (vset (Vector.replicate 2 zv1:(Vector Qh 2)) 0 ((lget t1 i9).f_A)) 1 t93]:List (Vector Qh 2))) (.s .z) underlying141 infoA4144 (by kernel_rfl) (by kernel_rfl) rfl rfl rfl rfl (fun _ hw=>Qaw (hw.ok (Upd.mem .z))) (by kernel_rfl) h96 (Qaj h96) rfl ?_
      intro p97 c98
      refine aa (qn (dz (wq [5,4,3] ?_)))
      refine bm ?_
      refine qr (am (aw xa (aa (nwq [5,4,3] ?_))))
      exact Qm (ih _ _ _ hF K p97 c98) ⟨rfl,rfl,rfl,trivial⟩
     skip
     refine Qcv [.q 46 (fun g99=>.bool ((vget (lget i7 (wr .i64 ((i7.length:Int)-1))) 0).f_V==((lget t1 i9).f_A).f_V)) [] 0 0,.q 47 (fun g99=>.bool false) [0] 0 0,.q 48 (fun g99=>undef) [1] 0 0,.q 49 (fun g99=>undef) [1,2] 0 0,.q 50 (fun g99=>undef) [1,3] 0 0,.q 51 (fun g99=>undef) [4] 0 0,.q 52 (fun g99=>undef) [4] 0 0,.q 53 (fun g99=>undef) [4] 0 0,.q 54 (fun g99=>undef) [4,6,7] 0 0,.q 55 (fun g99=>undef) [4,8] 0 0,.q 56 (fun g99=>undef) [4,9] 0 0,.q 57 (fun g99=>undef) [4,5,10] 0 0,.q 58 (fun g99=>undef) [4,11] 0 0,.q 59 (fun g99=>undef) [1,4,12] 0 0,.q 60 (fun g99=>.bool false) [1,13] 0 0] (fun g99 s=>match s with | _=>(Wd w [Qs b21 (Cd.cs Qb t20.1) 36,rowE (cVec Qb 2 (by decide)) 144 p10 c11 i7,rowE Qa 38 p2 c3 t1])) 0 (by kernel_rfl) (by kernel_rfl) (by kernel_rfl) (by kernel_rfl) (by kernel_rfl) ⟨fun _ _ _=>rfl,fun _ _ _=>rfl,fun _ _ _=>rfl,fun _ _ _=>rfl,fun _ _ _=>rfl,fun _ _ _=>rfl,fun _ _ _=>rfl,fun _ _ _=>rfl,fun _ _ _=>rfl,fun _ _ _=>rfl,fun _ _ _=>rfl,fun _ _ _=>rfl,fun _ _ _=>rfl,fun _ _ _=>rfl,fun _ _ _=>rfl,trivial⟩ (by kernel_rfl) (fun w_ h=>⟨fun _=>g3 0 none 0 none w_,h.drew⟩) ⟨?_,?_,?_,?_,?_,?_,?_,?_,?_,?_,?_,?_,?_,?_,?_,trivial⟩ ?_
     ·intro Lx g99 s K hl hh k
      show At 98 ((3,_)::(4,_)::(5,_)::(6,_)::(7,_)::(8,_)::(9,_)::Lx) _ _
      refine am ?_
      exact Qn k
     ·intro Lx g99 s K hl hh k
      show At 98 ((46,_)::(3,_)::(4,_)::(5,_)::(6,_)::(7,_)::(8,_)::(9,_)::Lx) _ _
      refine am ?_
      exact Qn (QcH h31 k)
     ·intro Lx g99 s K hl hh k
      show At 98 ((47,_)::(3,_)::(4,_)::(5,_)::(6,_)::(7,_)::(8,_)::(9,_)::Lx) _ _
      refine gn ?_
      exact Qn k
     ·intro Lx g99 s K hl hh k
      show At 98 ((47,_)::(48,_)::(3,_)::(4,_)::(5,_)::(6,_)::(7,_)::(8,_)::(9,_)::Lx) _ _
      refine gn ?_
      exact Qn k
     ·intro Lx g99 s K hl hh k
      show At 98 ((47,_)::(49,_)::(3,_)::(4,_)::(5,_)::(6,_)::(7,_)::(8,_)::(9,_)::Lx) _ _
      refine gn ?_
      exact Qn k
     ·intro Lx g99 s K hl hh k
      show At 98 ((50,_)::(3,_)::(4,_)::(5,_)::(6,_)::(7,_)::(8,_)::(9,_)::Lx) _ _
      obtain rfl:s=0:=by omega
      refine Q9 rfl rfl rfl rfl ?_
      exact Qn k
     ·intro Lx g99 s K hl hh k
      show At 98 ((50,_)::(3,_)::(4,_)::(5,_)::(6,_)::(7,_)::(8,_)::(9,_)::Lx) _ _
      refine Q9 rfl rfl rfl rfl ?_
      exact Qn k
     ·intro Lx g99 s K hl hh k
      show At 98 ((50,_)::(3,_)::(4,_)::(5,_)::(6,_)::(7,_)::(8,_)::(9,_)::Lx) _ _
      refine Q9 rfl rfl rfl rfl ?_
      exact Qn k
     ·intro Lx g99 s K hl hh k
      show At 98 ((50,_)::(52,_)::(53,_)::(3,_)::(4,_)::(5,_)::(6,_)::(7,_)::(8,_)::(9,_)::Lx) _ _
      refine Q9 rfl rfl rfl rfl ?_
      exact Qn k
     ·intro Lx g99 s K hl hh k
      show At 98 ((50,_)::(54,_)::(3,_)::(4,_)::(5,_)::(6,_)::(7,_)::(8,_)::(9,_)::Lx) _ _
      refine Q9 rfl rfl rfl rfl ?_
      exact Qn k
     ·intro Lx g99 s K hl hh k
      show At 98 ((50,_)::(55,_)::(3,_)::(4,_)::(5,_)::(6,_)::(7,_)::(8,_)::(9,_)::Lx) _ _
      obtain rfl:s=0:=by omega
      refine Q9 rfl rfl rfl rfl ?_
      exact Qn k
     ·intro Lx g99 s K hl hh k
      show At 98 ((50,_)::(51,_)::(56,_)::(3,_)::(4,_)::(5,_)::(6,_)::(7,_)::(8,_)::(9,_)::Lx) _ _
      obtain rfl:s=0:=by omega
      refine Q9 rfl rfl rfl rfl ?_
      exact Qn k
     ·intro Lx g99 s K hl hh k
      show At 98 ((50,_)::(57,_)::(3,_)::(4,_)::(5,_)::(6,_)::(7,_)::(8,_)::(9,_)::Lx) _ _
      refine Q9 rfl rfl rfl rfl ?_
      exact Qn k
     ·intro Lx g99 s K hl hh k
      show At 98 ((47,_)::(50,_)::(58,_)::(3,_)::(4,_)::(5,_)::(6,_)::(7,_)::(8,_)::(9,_)::Lx) _ _
      refine gn ?_
      exact Qn k
     ·intro Lx g99 s K hl hh k
      show At 98 ((47,_)::(59,_)::(3,_)::(4,_)::(5,_)::(6,_)::(7,_)::(8,_)::(9,_)::Lx) _ _
      refine aw xp ?_
      exact Qn k
     intro g99
     show At 98 [(46,_),(47,_),(48,_),(49,_),(50,_),(51,_),(52,_),(53,_),(54,_),(55,_),(56,_),(57,_),(58,_),(59,_),(60,_),(3,_),(4,_),(5,_),(6,_),(7,_),(8,_),(9,_)] _ _
     refine dz (wq [60,6,5,4,3] ?_)
     refine tn ?_
     refine cf rfl ?_
     refine sn (wq [5,4,3] ?_)
     obtain ⟨h100,hF⟩:=gd hF
     refine QaU (φ:=∃ b o,p2=some ⟨b,o,none⟩) (fun _ hw=>QR (hw.own (.s .z)).row h100) ?_
     rintro ⟨b102,o103,hp101⟩
     obtain ⟨h104,hF⟩:=gd hF
     refine QaU (φ:=∃ b o,p2=some ⟨b,o,none⟩) (fun _ hw=>QR (hw.own (.s .z)).row h104) ?_
     rintro ⟨b106,o107,hp105⟩
     obtain ⟨t108,ht108,hF⟩:=bM hF
     refine QfM [.q 83 (fun g110=>.slice p10 i7.length c11) [] 0 1,.q 84 (fun g110=>.slice p2 t1.length c3) [] 0 0,.q 85 (fun g110=>.int .i64 i9) [] 0 0,.q 86 (fun g110=>.pointer (some ⟨b102,o103+Int.toNat i9*18,none⟩)) [1,2] 0 0,.q 87 (fun g110=>.pointer (some ⟨b102,o103+Int.toNat i9*18+0,none⟩)) [3] 0 0,.q 88 (fun g110=>.agg (Cd.cs Qb ((lget t1 i9).f_A)).toArray) [4] 0 0,.q 89 (fun g110=>.slice p2 t1.length c3) [] 0 0,.q 90 (fun g110=>.int .i64 i9) [] 0 0,.q 91 (fun g110=>.pointer (some ⟨b106,o107+Int.toNat i9*18,none⟩)) [6,7] 0 0,.q 92 (fun g110=>.agg (Cd.cs Qa (lget t1 i9)).toArray) [8] 0 0,.q 93 (fun g110=>.agg (Cd.cs Qb t108).toArray) [9] 0 0,.q 94 (fun g110=>.agg (Cd.cs (cVec Qb 2 (by decide)) (vset (vset (Vector.replicate 2 zv1:(Vector Qh 2)) 0 ((lget t1 i9).f_A)) 1 t108)).toArray) [5,10] 0 0,.al 0 95 (fun g110=>.slice (some ⟨((g110 0).1),0,none⟩) ([vset (vset (Vector.replicate 2 zv1:(Vector Qh 2)) 0 ((lget t1 i9).f_A)) 1 t108]:List (Vector Qh 2)).length 1) [11]] (fun g110 s=>match s with | 0=>(Wd w [rowE (cVec Qb 2 (by decide)) 144 p10 c11 i7,rowE Qa 38 p2 c3 t1]) | _=>(Wd w [Qs ((g110 0).1) ((cVec Qb 2 (by decide)).all ([vset (vset (Vector.replicate 2 zv1:(Vector Qh 2)) 0 ((lget t1 i9).f_A)) 1 t108]:List (Vector Qh 2))) 144,rowE (cVec Qb 2 (by decide)) 144 p10 c11 i7,rowE Qa 38 p2 c3 t1])) 1 13 (by kernel_rfl) (by kernel_rfl) (by kernel_rfl) (by kernel_rfl) (by kernel_rfl) (by kernel_rfl) ⟨fun _ _ _=>rfl,fun _ _ _=>rfl,fun _ _ _=>rfl,fun _ _ _=>rfl,fun _ _ _=>rfl,fun _ _ _=>rfl,fun _ _ _=>rfl,fun _ _ _=>rfl,fun _ _ _=>rfl,fun _ _ _=>rfl,fun _ _ _=>rfl,fun _ _ _=>rfl,fun g110 g2 h=>by show (.slice (some ⟨((g110 0).1),0,none⟩) ([vset (vset (Vector.replicate 2 zv1:(Vector Qh 2)) 0 ((lget t1 i9).f_A)) 1 t108]:List (Vector Qh 2)).length 1:Value)=.slice (some ⟨((g2 0).1),0,none⟩) ([vset (vset (Vector.replicate 2 zv1:(Vector Qh 2)) 0 ((lget t1 i9).f_A)) 1 t108]:List (Vector Qh 2)).length 1;rw [h 0 (show 0<1 by decide)],trivial⟩ (by kernel_rfl) (fun w_ h=>⟨fun _=>g3 0 none 0 none w_,h.drew⟩) ⟨?_,?_,?_,?_,?_,?_,?_,?_,?_,?_,?_,?_,?_,trivial⟩ ?_
     ·intro Lx g110 s K hl hh k
      show At 98 ((3,_)::(4,_)::(5,_)::Lx) _ _
      refine am ?_
      exact Qn k
     ·intro Lx g110 s K hl hh k
      show At 98 ((3,_)::(4,_)::(5,_)::Lx) _ _
      refine am ?_
      exact Qn k
     ·intro Lx g110 s K hl hh k
      show At 98 ((3,_)::(4,_)::(5,_)::Lx) _ _
      refine am ?_
      exact Qn k
     ·intro Lx g110 s K hl hh k
      show At 98 ((84,_)::(85,_)::(3,_)::(4,_)::(5,_)::Lx) _ _
      refine aw (r_idx underlying58 sizeOf38 rfl rfl h100 hp101) ?_
      exact Qn k
     ·intro Lx g110 s K hl hh k
      show At 98 ((86,_)::(3,_)::(4,_)::(5,_)::Lx) _ _
      refine fa 0 underlying38 rfl sizeOf36 ?_
      exact Qn k
     ·intro Lx g110 s K hl hh k
      show At 98 ((87,_)::(3,_)::(4,_)::(5,_)::Lx) _ _
      obtain rfl:s=0:=by omega
      refine aw (Qe (c:=Qb) (z:=(lget t1 i9).f_A) isAgg36 sizeOf36 rfl (fun w1 hw=>QbH (y:=(lget t1 i9).f_A) (W:=fun w1=>w1=_) (fun w1 h=>by subst h;exact Below.refl _ _) (hw.own (.s .z)).row h100 hp101 (Lens.comp lw (fun z=>{ (lget t1 i9) with f_A:=z }) (QG (lget t1 i9))) _ rfl)) ?_
      exact Qn k
     ·intro Lx g110 s K hl hh k
      show At 98 ((3,_)::(4,_)::(5,_)::Lx) _ _
      refine am ?_
      exact Qn k
     ·intro Lx g110 s K hl hh k
      show At 98 ((3,_)::(4,_)::(5,_)::Lx) _ _
      refine am ?_
      exact Qn k
     ·intro Lx g110 s K hl hh k
      show At 98 ((89,_)::(90,_)::(3,_)::(4,_)::(5,_)::Lx) _ _
      refine aw (r_idx underlying58 sizeOf38 rfl rfl h104 hp105) ?_
      exact Qn k
     ·intro Lx g110 s K hl hh k
      show At 98 ((91,_)::(3,_)::(4,_)::(5,_)::Lx) _ _
      obtain rfl:s=0:=by omega
      refine aw (Qe (c:=Qa) (z:=lget t1 i9) isAgg38 sizeOf38 rfl (fun w1 hw=>QaF (W:=fun w1=>w1=_) (fun w1 h=>by subst h;exact Below.refl _ _) (hw.own (.s .z)).row h104 hp105 _ rfl)) ?_
      exact Qn k
     ·intro Lx g110 s K hl hh k
      show At 98 ((92,_)::(3,_)::(4,_)::(5,_)::Lx) _ _
      obtain rfl:s=0:=by omega
      refine cB func133 rfl (fun w hw=>Qa7 _ _ ht108 w) ?_
      exact Qn k
     ·intro Lx g110 s K hl hh k
      show At 98 ((88,_)::(93,_)::(3,_)::(4,_)::(5,_)::Lx) _ _
      obtain rfl:s=0:=by omega
      refine aw (Qcw (zs:=Cd.cs (cVec Qb 2 (by decide)) (Vector.replicate 2 zv1:(Vector Qh 2))) (cs:=Cd.cs (cVec Qb 2 (by decide)) (vset (vset (Vector.replicate 2 zv1:(Vector Qh 2)) 0 ((lget t1 i9).f_A)) 1 t108)) underlying144 zeroValue144 rfl sizeOf36 rfl (QI (c:=Qb) (z:=(lget t1 i9).f_A) rfl (Lens.vec Qb (by decide) (Vector.replicate 2 zv1:(Vector Qh 2)) 0 (by decide)) rfl (QI (c:=Qb) (z:=t108) rfl (Lens.vec Qb (by decide) (vset (Vector.replicate 2 zv1:(Vector Qh 2)) 0 ((lget t1 i9).f_A)) 1 (by decide)) rfl rfl))) ?_
      exact Qn k
     ·intro Lx g110 K k
      show At 98 ((94,_)::(3,_)::(4,_)::(5,_)::Lx) _ _
      refine Qbu (c:=(cVec Qb 2 (by decide))) ([(Vector.replicate 2 zv1:(Vector Qh 2))]:List (Vector Qh 2)) ([vset (vset (Vector.replicate 2 zv1:(Vector Qh 2)) 0 ((lget t1 i9).f_A)) 1 t108]:List (Vector Qh 2)) underlying141 sizeOf144 zeroValue144 rfl rfl rfl (by kernel_rfl) (QI (c:=(cVec Qb 2 (by decide))) (z:=vset (vset (Vector.replicate 2 zv1:(Vector Qh 2)) 0 ((lget t1 i9).f_A)) 1 t108) rfl (Lens.all (cVec Qb 2 (by decide)) ([(Vector.replicate 2 zv1:(Vector Qh 2))]:List (Vector Qh 2)) 0 (by first | decide | exact Nat.le_of_ble_eq_true rfl)) rfl rfl) rfl ?_
      intro b109
      exact Qn (k (g3 b109 none 0 none w))
     intro g110
     show At 98 [(83,_),(84,_),(85,_),(86,_),(87,_),(88,_),(89,_),(90,_),(91,_),(92,_),(93,_),(94,_),(95,_),(3,_),(4,_),(5,_)] _ _
     obtain ⟨h111,hF⟩:=gd hF
     refine Qax (z:=.agg (Cd.cs (cVec Qb 2 (by decide)) (Vector.replicate 2 zv1:(Vector Qh 2))).toArray) (c:=(cVec Qb 2 (by decide))) (ys:=([vset (vset (Vector.replicate 2 zv1:(Vector Qh 2)) 0 ((lget t1 i9).f_A)) 1 t108]:List (Vector Qh 2))) (.s .z) underlying141 infoA4144 (by kernel_rfl) (by kernel_rfl) rfl rfl rfl rfl (fun _ hw=>Qaw (hw.ok (Upd.mem .z))) (by kernel_rfl) h111 (Qaj h111) rfl ?_
     intro p112 c113
     refine aa (qn (dz (wq [5,4,3] ?_)))
     refine bm ?_
     refine qr (am (aw xa (aa (nwq [5,4,3] ?_))))
     exact Qm (ih _ _ _ hF K p112 c113) ⟨rfl,rfl,rfl,trivial⟩
    refine cf h15 ?_
    refine sn (wq [5,4,3] ?_)
    obtain ⟨h114,hF⟩:=gd hF
    refine QaU (φ:=∃ b o,p2=some ⟨b,o,none⟩) (fun _ hw=>QR (hw.own (.s .z)).row h114) ?_
    rintro ⟨b116,o117,hp115⟩
    obtain ⟨h118,hF⟩:=gd hF
    refine QaU (φ:=∃ b o,p2=some ⟨b,o,none⟩) (fun _ hw=>QR (hw.own (.s .z)).row h118) ?_
    rintro ⟨b120,o121,hp119⟩
    obtain ⟨t122,ht122,hF⟩:=bM hF
    refine QfM [.q 83 (fun g124=>.slice p10 i7.length c11) [] 0 1,.q 84 (fun g124=>.slice p2 t1.length c3) [] 0 0,.q 85 (fun g124=>.int .i64 i9) [] 0 0,.q 86 (fun g124=>.pointer (some ⟨b116,o117+Int.toNat i9*18,none⟩)) [1,2] 0 0,.q 87 (fun g124=>.pointer (some ⟨b116,o117+Int.toNat i9*18+0,none⟩)) [3] 0 0,.q 88 (fun g124=>.agg (Cd.cs Qb ((lget t1 i9).f_A)).toArray) [4] 0 0,.q 89 (fun g124=>.slice p2 t1.length c3) [] 0 0,.q 90 (fun g124=>.int .i64 i9) [] 0 0,.q 91 (fun g124=>.pointer (some ⟨b120,o121+Int.toNat i9*18,none⟩)) [6,7] 0 0,.q 92 (fun g124=>.agg (Cd.cs Qa (lget t1 i9)).toArray) [8] 0 0,.q 93 (fun g124=>.agg (Cd.cs Qb t122).toArray) [9] 0 0,.q 94 (fun g124=>.agg (Cd.cs (cVec Qb 2 (by decide)) (vset (vset (Vector.replicate 2 zv1:(Vector Qh 2)) 0 ((lget t1 i9).f_A)) 1 t122)).toArray) [5,10] 0 0,.al 0 95 (fun g124=>.slice (some ⟨((g124 0).1),0,none⟩) ([vset (vset (Vector.replicate 2 zv1:(Vector Qh 2)) 0 ((lget t1 i9).f_A)) 1 t122]:List (Vector Qh 2)).length 1) [11]] (fun g124 s=>match s with | 0=>(Wd w [rowE (cVec Qb 2 (by decide)) 144 p10 c11 i7,rowE Qa 38 p2 c3 t1]) | _=>(Wd w [Qs ((g124 0).1) ((cVec Qb 2 (by decide)).all ([vset (vset (Vector.replicate 2 zv1:(Vector Qh 2)) 0 ((lget t1 i9).f_A)) 1 t122]:List (Vector Qh 2))) 144,rowE (cVec Qb 2 (by decide)) 144 p10 c11 i7,rowE Qa 38 p2 c3 t1])) 1 13 (by kernel_rfl) (by kernel_rfl) (by kernel_rfl) (by kernel_rfl) (by kernel_rfl) (by kernel_rfl) ⟨fun _ _ _=>rfl,fun _ _ _=>rfl,fun _ _ _=>rfl,fun _ _ _=>rfl,fun _ _ _=>rfl,fun _ _ _=>rfl,fun _ _ _=>rfl,fun _ _ _=>rfl,fun _ _ _=>rfl,fun _ _ _=>rfl,fun _ _ _=>rfl,fun _ _ _=>rfl,fun g124 g2 h=>by show (.slice (some ⟨((g124 0).1),0,none⟩) ([vset (vset (Vector.replicate 2 zv1:(Vector Qh 2)) 0 ((lget t1 i9).f_A)) 1 t122]:List (Vector Qh 2)).length 1:Value)=.slice (some ⟨((g2 0).1),0,none⟩) ([vset (vset (Vector.replicate 2 zv1:(Vector Qh 2)) 0 ((lget t1 i9).f_A)) 1 t122]:List (Vector Qh 2)).length 1;rw [h 0 (show 0<1 by decide)],trivial⟩ (by kernel_rfl) (fun w_ h=>⟨fun _=>g3 0 none 0 none w_,h.drew⟩) ⟨?_,?_,?_,?_,?_,?_,?_,?_,?_,?_,?_,?_,?_,trivial⟩ ?_
    ·intro Lx g124 s K hl hh k
     show At 98 ((3,_)::(4,_)::(5,_)::Lx) _ _
     refine am ?_
     exact Qn k
    ·intro Lx g124 s K hl hh k
     show At 98 ((3,_)::(4,_)::(5,_)::Lx) _ _
     refine am ?_
     exact Qn k
    ·intro Lx g124 s K hl hh k
     show At 98 ((3,_)::(4,_)::(5,_)::Lx) _ _
     refine am ?_
     exact Qn k
    ·intro Lx g124 s K hl hh k
     show At 98 ((84,_)::(85,_)::(3,_)::(4,_)::(5,_)::Lx) _ _
     refine aw (r_idx underlying58 sizeOf38 rfl rfl h114 hp115) ?_
     exact Qn k
    ·intro Lx g124 s K hl hh k
     show At 98 ((86,_)::(3,_)::(4,_)::(5,_)::Lx) _ _
     refine fa 0 underlying38 rfl sizeOf36 ?_
     exact Qn k
    ·intro Lx g124 s K hl hh k
     show At 98 ((87,_)::(3,_)::(4,_)::(5,_)::Lx) _ _
     obtain rfl:s=0:=by omega
     refine aw (Qe (c:=Qb) (z:=(lget t1 i9).f_A) isAgg36 sizeOf36 rfl (fun w1 hw=>QbH (y:=(lget t1 i9).f_A) (W:=fun w1=>w1=_) (fun w1 h=>by subst h;exact Below.refl _ _) (hw.own (.s .z)).row h114 hp115 (Lens.comp lw (fun z=>{ (lget t1 i9) with f_A:=z }) (QG (lget t1 i9))) _ rfl)) ?_
     exact Qn k
    ·intro Lx g124 s K hl hh k
     show At 98 ((3,_)::(4,_)::(5,_)::Lx) _ _
     refine am ?_
     exact Qn k
    ·intro Lx g124 s K hl hh k
     show At 98 ((3,_)::(4,_)::(5,_)::Lx) _ _
     refine am ?_
     exact Qn k
    ·intro Lx g124 s K hl hh k
     show At 98 ((89,_)::(90,_)::(3,_)::(4,_)::(5,_)::Lx) _ _
     refine aw (r_idx underlying58 sizeOf38 rfl rfl h118 hp119) ?_
     exact Qn k
    ·intro Lx g124 s K hl hh k
     show At 98 ((91,_)::(3,_)::(4,_)::(5,_)::Lx) _ _
     obtain rfl:s=0:=by omega
     refine aw (Qe (c:=Qa) (z:=lget t1 i9) isAgg38 sizeOf38 rfl (fun w1 hw=>QaF (W:=fun w1=>w1=_) (fun w1 h=>by subst h;exact Below.refl _ _) (hw.own (.s .z)).row h118 hp119 _ rfl)) ?_
     exact Qn k
    ·intro Lx g124 s K hl hh k
     show At 98 ((92,_)::(3,_)::(4,_)::(5,_)::Lx) _ _
     obtain rfl:s=0:=by omega
     refine cB func133 rfl (fun w hw=>Qa7 _ _ ht122 w) ?_
     exact Qn k
    ·intro Lx g124 s K hl hh k
     show At 98 ((88,_)::(93,_)::(3,_)::(4,_)::(5,_)::Lx) _ _
     obtain rfl:s=0:=by omega
     refine aw (Qcw (zs:=Cd.cs (cVec Qb 2 (by decide)) (Vector.replicate 2 zv1:(Vector Qh 2))) (cs:=Cd.cs (cVec Qb 2 (by decide)) (vset (vset (Vector.replicate 2 zv1:(Vector Qh 2)) 0 ((lget t1 i9).f_A)) 1 t122)) underlying144 zeroValue144 rfl sizeOf36 rfl (QI (c:=Qb) (z:=(lget t1 i9).f_A) rfl (Lens.vec Qb (by decide) (Vector.replicate 2 zv1:(Vector Qh 2)) 0 (by decide)) rfl (QI (c:=Qb) (z:=t122) rfl (Lens.vec Qb (by decide) (vset (Vector.replicate 2 zv1:(Vector Qh 2)) 0 ((lget t1 i9).f_A)) 1 (by decide)) rfl rfl))) ?_
     exact Qn k
    ·intro Lx g124 K k
     show At 98 ((94,_)::(3,_)::(4,_)::(5,_)::Lx) _ _
     refine Qbu (c:=(cVec Qb 2 (by decide))) ([(Vector.replicate 2 zv1:(Vector Qh 2))]:List (Vector Qh 2)) ([vset (vset (Vector.replicate 2 zv1:(Vector Qh 2)) 0 ((lget t1 i9).f_A)) 1 t122]:List (Vector Qh 2)) underlying141 sizeOf144 zeroValue144 rfl rfl rfl (by kernel_rfl) (QI (c:=(cVec Qb 2 (by decide))) (z:=vset (vset (Vector.replicate 2 zv1:(Vector Qh 2)) 0 ((lget t1 i9).f_A)) 1 t122) rfl (Lens.all (cVec Qb 2 (by decide)) ([(Vector.replicate 2 zv1:(Vector Qh 2))]:List (Vector Qh 2)) 0 (by first | decide | exact Nat.le_of_ble_eq_true rfl)) rfl rfl) rfl ?_
     intro b123
     exact Qn (k (g3 b123 none 0 none w))
    intro g124
    show At 98 [(83,_),(84,_),(85,_),(86,_),(87,_),(88,_),(89,_),(90,_),(91,_),(92,_),(93,_),(94,_),(95,_),(3,_),(4,_),(5,_)] _ _
    obtain ⟨h125,hF⟩:=gd hF
    refine Qax (z:=.agg (Cd.cs (cVec Qb 2 (by decide)) (Vector.replicate 2 zv1:(Vector Qh 2))).toArray) (c:=(cVec Qb 2 (by decide))) (ys:=([vset (vset (Vector.replicate 2 zv1:(Vector Qh 2)) 0 ((lget t1 i9).f_A)) 1 t122]:List (Vector Qh 2))) (.s .z) underlying141 infoA4144 (by kernel_rfl) (by kernel_rfl) rfl rfl rfl rfl (fun _ hw=>Qaw (hw.ok (Upd.mem .z))) (by kernel_rfl) h125 (Qaj h125) rfl ?_
    intro p126 c127
    refine aa (qn (dz (wq [5,4,3] ?_)))
    refine bm ?_
    refine qr (am (aw xa (aa (nwq [5,4,3] ?_))))
    exact Qm (ih _ _ _ hF K p126 c127) ⟨rfl,rfl,rfl,trivial⟩
   refine cf h14 ?_
   refine Q1 ?_
   refine te (te ?_)
   refine Qal (H:=_) (.s .z) ?_
   obtain rfl:=os hF
   exact Qm (K p10 c11) ⟨rfl,trivial⟩
 skip
 intro p12 c13
 refine Qw ?_
 refine tn (sr (am (aa (nwq [2] ?_))))
 refine qt ?_
 have K:=os hF
 subst K
 exact r1 (fun w1 hw=>⟨p12,c13,rfl,hw.own .z,hw.below⟩)
def QaA.l0(t1:List (Vector Qh 2))(i7:List Qc)(i9:Int):Option (List Qc) :=
 if (decide (i9<(t1.length:Int)))=true then (if (0:Int)≤i9∧i9<(t1.length:Int) then if (0:Int)≤i9∧i9<(t1.length:Int) then Q0 (vget (lget t1 i9) 0) (vget (lget t1 i9) 1)>>=fun t23=>if (i7.length+t23.length)*32≤140737488355328 then QaA.l0 t1 (i7++t23) (wr .i64 (i9+1)) else none else none else none) else (some i7)
 partial_fixpoint
def QaA(x0:List Qc):Option (List Qc) :=
 QZ x0>>=fun t1=>QaA.l0 t1 ([]:List Qc) 0>>=fun q6=>some q6
set_option maxHeartbeats 3200000 in
theorem Qfe(x0:List Qc)(p0_:Option Addr)(c0_:Nat)(r:List Qc)(hF:QaA x0=some r)(w:World)(hr0:Row Qa w p0_ c0_ x0) :
    Calls Tryz.prog 78 #[.slice p0_ x0.length c0_] w (fun e w'=>∃ p cap,e=.returned (.slice p r.length cap)∧Own Qa 38 w.heap.size w' p cap r∧Below w.heap.size w w'):=by
 unfold QaA at hF
 refine ce (l:=[.slice p0_ x0.length c0_]) func78 rfl rfl ?_
 refine QN ?_
 refine sr (aa (ns (aa (ns (am ?_)))))
 obtain ⟨t1,ht1,hF⟩:=bM hF
 refine Qca (c:=(cVec Qb 2 (by decide))) (e:=144) (ys:=t1) (V:=fun p cap=>.slice p t1.length cap) func109 rfl (by kernel_rfl) rfl rfl (fun w hw=>QeW _ _ _ _ ht1 w (hr0.below hw.below)) ?_
 intro p2 c3
 refine aa (nt (qs (sr (aa (nwq [5,4,3] ?_)))))
 refine qb ?_
 refine Qbd Qa 38 ?_
 obtain ⟨q6,hq6,hF⟩:=bM hF
 refine wq [5,4,3] ?_
 refine Q5 (B:=0) (A:=fun Y=>∀ (p12:Option Addr) (c13:Nat),At 28 [(3,.slice p12 q6.length c13)] (Wd w [rowE Qa 38 p12 c13 q6]) Y) ?_ ?_
 ·intro K
  refine QaA.l0.partial_correctness t1 (motive:=fun i7 i9 x=>KN (fun Y=>∀ (p12:Option Addr) (c13:Nat),At 28 [(3,.slice p12 x.length c13)] (Wd w [rowE Qa 38 p12 c13 x]) Y) _ 0→Round (fun Y=>∀ (p10:Option Addr) (c11:Nat),At 28 [(3,.slice p10 i7.length c11),(4,.slice p2 t1.length c3),(5,.int .i64 i9)] (Wd w [rowE Qa 38 p10 c11 i7,rowE (cVec Qb 2 (by decide)) 144 p2 c3 t1]) Y) _ _ _) ?_ _ _ _ hq6 K none 0
  ·clear K hF
   intro g ih i7 i9 x hF K p10 c11
   refine QS ?_
   refine qs (sr (am (am ?_)))
   refine aw (Q6 underlying141 rfl) ?_
   refine aw xl (nwq [11,5,4,3] ?_)
   obtain ⟨h14,hF⟩|⟨h14,hF⟩:=oi hF
   ·refine ct h14 ?_
    refine sn (qs ?_)
    refine qb ?_
    refine wq [5,4,3] ?_
    obtain ⟨h15,hF⟩:=gd hF
    refine QaU (φ:=∃ b o,p2=some ⟨b,o,none⟩) (fun _ hw=>QR (hw.own (.s .z)).row h15) ?_
    rintro ⟨b17,o18,hp16⟩
    obtain ⟨h19,hF⟩:=gd hF
    refine QaU (φ:=∃ b o,p2=some ⟨b,o,none⟩) (fun _ hw=>QR (hw.own (.s .z)).row h19) ?_
    rintro ⟨b21,o22,hp20⟩
    obtain ⟨t23,ht23,hF⟩:=bM hF
    refine QfM [.q 14 (fun g26=>.slice p10 i7.length c11) [] 0 1,.q 15 (fun g26=>.slice p2 t1.length c3) [] 0 0,.q 16 (fun g26=>.int .i64 i9) [] 0 0,.q 17 (fun g26=>.pointer (some ⟨b17,o18+Int.toNat i9*34,none⟩)) [1,2] 0 0,.q 18 (fun g26=>.pointer (some ⟨b17,o18+Int.toNat i9*34+Int.toNat 0*17,none⟩)) [3] 0 0,.q 19 (fun g26=>.agg (Cd.cs Qb (vget (lget t1 i9) 0)).toArray) [4] 0 0,.q 20 (fun g26=>.slice p2 t1.length c3) [] 0 0,.q 21 (fun g26=>.int .i64 i9) [] 0 0,.q 22 (fun g26=>.pointer (some ⟨b21,o22+Int.toNat i9*34,none⟩)) [6,7] 0 0,.q 23 (fun g26=>.pointer (some ⟨b21,o22+Int.toNat i9*34+Int.toNat 1*17,none⟩)) [8] 0 0,.q 24 (fun g26=>.agg (Cd.cs Qb (vget (lget t1 i9) 1)).toArray) [9] 0 0,.al 0 25 (fun g26=>.slice ((g26 0).2.1) t23.length ((g26 0).2.2.1)) [5,10]] (fun g26 s=>match s with | 0=>(Wd w [rowE Qa 38 p10 c11 i7,rowE (cVec Qb 2 (by decide)) 144 p2 c3 t1]) | _=>(Wd w [rowE Qa 38 ((g26 0).2.1) ((g26 0).2.2.1) t23,rowE Qa 38 p10 c11 i7,rowE (cVec Qb 2 (by decide)) 144 p2 c3 t1])) 1 12 (by kernel_rfl) (by kernel_rfl) (by kernel_rfl) (by kernel_rfl) (by kernel_rfl) (by kernel_rfl) ⟨fun _ _ _=>rfl,fun _ _ _=>rfl,fun _ _ _=>rfl,fun _ _ _=>rfl,fun _ _ _=>rfl,fun _ _ _=>rfl,fun _ _ _=>rfl,fun _ _ _=>rfl,fun _ _ _=>rfl,fun _ _ _=>rfl,fun _ _ _=>rfl,fun g26 g2 h=>by show (.slice ((g26 0).2.1) t23.length ((g26 0).2.2.1):Value)=.slice ((g2 0).2.1) t23.length ((g2 0).2.2.1);rw [h 0 (show 0<1 by decide)],trivial⟩ (by kernel_rfl) (fun w_ h=>⟨fun _=>g3 0 none 0 none w_,h.drew⟩) ⟨?_,?_,?_,?_,?_,?_,?_,?_,?_,?_,?_,?_,trivial⟩ ?_
    ·intro Lx g26 s K hl hh k
     show At 28 ((3,_)::(4,_)::(5,_)::Lx) _ _
     refine am ?_
     exact Qn k
    ·intro Lx g26 s K hl hh k
     show At 28 ((3,_)::(4,_)::(5,_)::Lx) _ _
     refine am ?_
     exact Qn k
    ·intro Lx g26 s K hl hh k
     show At 28 ((3,_)::(4,_)::(5,_)::Lx) _ _
     refine am ?_
     exact Qn k
    ·intro Lx g26 s K hl hh k
     show At 28 ((15,_)::(16,_)::(3,_)::(4,_)::(5,_)::Lx) _ _
     refine aw (r_idx underlying141 sizeOf144 rfl rfl h15 hp16) ?_
     exact Qn k
    ·intro Lx g26 s K hl hh k
     show At 28 ((17,_)::(3,_)::(4,_)::(5,_)::Lx) _ _
     refine aw (Qay underlying144 sizeOf36 rfl rfl (by decide)) ?_
     exact Qn k
    ·intro Lx g26 s K hl hh k
     show At 28 ((18,_)::(3,_)::(4,_)::(5,_)::Lx) _ _
     obtain rfl:s=0:=by omega
     refine aw (Qe (c:=Qb) (z:=vget (lget t1 i9) 0) isAgg36 sizeOf36 rfl (fun w1 hw=>QbH (y:=vget (lget t1 i9) 0) (W:=fun w1=>w1=_) (fun w1 h=>by subst h;exact Below.refl _ _) (hw.own (.s .z)).row h15 hp16 (Lens.comp lw (fun z=>vset (lget t1 i9) 0 z) (Lens.vec Qb (by decide) (lget t1 i9) 0 (by decide))) _ rfl)) ?_
     exact Qn k
    ·intro Lx g26 s K hl hh k
     show At 28 ((3,_)::(4,_)::(5,_)::Lx) _ _
     refine am ?_
     exact Qn k
    ·intro Lx g26 s K hl hh k
     show At 28 ((3,_)::(4,_)::(5,_)::Lx) _ _
     refine am ?_
     exact Qn k
    ·intro Lx g26 s K hl hh k
     show At 28 ((20,_)::(21,_)::(3,_)::(4,_)::(5,_)::Lx) _ _
     refine aw (r_idx underlying141 sizeOf144 rfl rfl h19 hp20) ?_
     exact Qn k
    ·intro Lx g26 s K hl hh k
     show At 28 ((22,_)::(3,_)::(4,_)::(5,_)::Lx) _ _
     refine aw (Qay underlying144 sizeOf36 rfl rfl (by decide)) ?_
     exact Qn k
    ·intro Lx g26 s K hl hh k
     show At 28 ((23,_)::(3,_)::(4,_)::(5,_)::Lx) _ _
     obtain rfl:s=0:=by omega
     refine aw (Qe (c:=Qb) (z:=vget (lget t1 i9) 1) isAgg36 sizeOf36 rfl (fun w1 hw=>QbH (y:=vget (lget t1 i9) 1) (W:=fun w1=>w1=_) (fun w1 h=>by subst h;exact Below.refl _ _) (hw.own (.s .z)).row h19 hp20 (Lens.comp lw (fun z=>vset (lget t1 i9) 1 z) (Lens.vec Qb (by decide) (lget t1 i9) 1 (by decide))) _ rfl)) ?_
     exact Qn k
    ·intro Lx g26 K k
     show At 28 ((19,_)::(24,_)::(3,_)::(4,_)::(5,_)::Lx) _ _
     refine Qca (c:=Qa) (e:=38) (ys:=t23) (V:=fun p cap=>.slice p t23.length cap) func110 rfl (by kernel_rfl) rfl rfl (fun w hw=>Qeq _ _ _ ht23 w) ?_
     intro p24 c25
     exact Qn (k (g3 0 p24 c25 none w))
    intro g26
    show At 28 [(14,_),(15,_),(16,_),(17,_),(18,_),(19,_),(20,_),(21,_),(22,_),(23,_),(24,_),(25,_),(3,_),(4,_),(5,_)] _ _
    obtain ⟨h27,hF⟩:=gd hF
    refine Qdk (z:=.agg (Cd.cs Qa zv9).toArray) (c:=Qa) (ys:=t23) (.s .z) underlying58 infoA438 (by kernel_rfl) (by kernel_rfl) rfl rfl rfl (fun w1 hw=>(hw.own .z).row) (by kernel_rfl) h27 (Qaj h27) rfl ?_
    intro p28 c29
    refine aa (qn (dz (wq [5,4,3] ?_)))
    refine bm ?_
    refine qr (am (aw xa (aa (nwq [5,4,3] ?_))))
    exact Qm (ih _ _ _ hF K p28 c29) ⟨rfl,rfl,rfl,trivial⟩
   refine cf h14 ?_
   refine Q1 ?_
   refine te (te ?_)
   refine Qal (H:=_) (.s .z) ?_
   obtain rfl:=os hF
   exact Qm (K p10 c11) ⟨rfl,trivial⟩
 skip
 intro p12 c13
 refine Qw ?_
 refine tn (sr (am (aa (nwq [2] ?_))))
 refine qt ?_
 have K:=os hF
 subst K
 exact r1 (fun w1 hw=>⟨p12,c13,rfl,hw.own .z,hw.below⟩)
end Go.Proofs.YtahlbjmafceoeaaGreatDoor
namespace Go.Proofs.YtahlbjmafceoeaaGreatDoor
open E Go.RowKit _root_.Go.Proofs.Tryz
theorem infoF149_is:(Tryz.prog.info? 49).isSome=true:=by kernel_rfl
noncomputable def infoF149_v:TypeInfo:=(Tryz.prog.info? 49).get infoF149_is
theorem infoF149:Tryz.prog.info? 49=some infoF149_v:=(Option.some_get _).symm
def Qbi.l0(x0:List Qd)(x1:Qh)(i5:Bool)(i6:Int)(i7:Qd):Option (Bool×Qd) :=
 if (decide (i6<(x0.length:Int)))=true then (if (0:Int)≤i6∧i6<(x0.length:Int) then Qbq ((lget x0 i6).f_P) x1>>=fun t13=>if t13=true then (if (!i5)=true then (if (0:Int)≤i6∧i6<(x0.length:Int) then Qbi.l0 x0 x1 true (wr .i64 (i6+1)) (lget x0 i6) else none) else (if (0:Int)≤i6∧i6<(x0.length:Int) then if (decide (((lget x0 i6).f_P).f_Bits>i7.f_P.f_Bits))=true then (if (0:Int)≤i6∧i6<(x0.length:Int) then Qbi.l0 x0 x1 true (wr .i64 (i6+1)) (lget x0 i6) else none) else (Qbi.l0 x0 x1 i5 (wr .i64 (i6+1)) i7) else none)) else (Qbi.l0 x0 x1 i5 (wr .i64 (i6+1)) i7) else none) else (some (i5,i7))
 partial_fixpoint
def Qbi(x0:List Qd)(x1:Qh):Option (Qd×Bool) :=
 Qbi.l0 x0 x1 false 0 ({ f_P:=({ f_A:=({ f_V:=(0:Int),f_B:=(Vector.replicate 16 (0:Int):(Vector Int 16)) }:Qh),f_Bits:=(0:Int) }:Qc),f_Owner:=(0:Int) }:Qd)>>=fun q4=>some (q4.2,q4.1)
def QaC.l0(x0:List Qd)(x1:Qd)(i5:List Qd)(i6:Bool)(i7:Int):Option (List Qd×Bool) :=
 if (decide (i7<(x0.length:Int)))=true then (if (0:Int)≤i7∧i7<(x0.length:Int) then if (decide ((lget x0 i7).f_P=x1.f_P))=true then (QaC.l0 x0 x1 i5 i6 (wr .i64 (i7+1))) else (if (!i6)=true then (if (0:Int)≤i7∧i7<(x0.length:Int) then Qa1 x1.f_P ((lget x0 i7).f_P)>>=fun t23=>if t23=true then (if (i5.length+1)*40≤140737488355328 then if (0:Int)≤i7∧i7<(x0.length:Int) then if ((i5++[x1]).length+1)*40≤140737488355328 then QaC.l0 x0 x1 ((i5++[x1])++[lget x0 i7]) true (wr .i64 (i7+1)) else none else none else none) else (if (0:Int)≤i7∧i7<(x0.length:Int) then if (i5.length+1)*40≤140737488355328 then QaC.l0 x0 x1 (i5++[lget x0 i7]) i6 (wr .i64 (i7+1)) else none else none) else none) else (if (0:Int)≤i7∧i7<(x0.length:Int) then if (i5.length+1)*40≤140737488355328 then QaC.l0 x0 x1 (i5++[lget x0 i7]) i6 (wr .i64 (i7+1)) else none else none)) else none) else (some (i5,i6))
 partial_fixpoint
def QaC(x0:List Qd)(x1:Qd):Option (List Qd) :=
 QaC.l0 x0 x1 ([]:List Qd) false 0>>=fun q4=>if (!q4.2)=true then (if (q4.1.length+1)*40≤140737488355328 then some (q4.1++[x1]) else none) else (some q4.1)
theorem Qgc(x0:List Qd)(p0_:Option Addr)(c0_:Nat)(x1:Qd)(r:List Qd)(hF:QaC x0 x1=some r)(w:World)(hr0:Row Qg w p0_ c0_ x0) :
    Calls Tryz.prog 15 #[.slice p0_ x0.length c0_,.agg (Cd.cs Qg x1).toArray] w (fun e w'=>∃ p cap,e=.returned (.slice p r.length cap)∧Own Qg 49 w.heap.size w' p cap r∧Below w.heap.size w w'):=by
 unfold QaC at hF
 refine ce (l:=[.slice p0_ x0.length c0_,.agg (Cd.cs Qg x1).toArray]) func15 rfl rfl ?_
 refine QN ?_
 refine sr ?_
 refine Qag (cs:=Cd.cs Qg x1) rfl rfl rfl ?_
 intro b1
 refine aa (ns (aa (ns (aa (nt (qs (sr (aa ?_))))))))
 refine nwq [7,6,5,3,0] ?_
 refine qb ?_
 refine Qbd Qg 49 ?_
 obtain ⟨q4,hq4,hF⟩:=bM hF
 refine wq [7,6,5,3,0] ?_
 refine Q5 (B:=0) (A:=fun Y=>∀ (p10:Option Addr) (c11:Nat),At 52 [(3,.pointer (some ⟨b1,0,none⟩)),(5,.slice p10 q4.1.length c11),(6,.bool q4.2)] (Wd w [rowE Qg 49 p10 c11 q4.1,Qs b1 (Cd.cs Qg x1) 49]) Y) ?_ ?_
 ·intro K
  refine QaC.l0.partial_correctness x0 x1 (motive:=fun i5 i6 i7 x=>KN (fun Y=>∀ (p10:Option Addr) (c11:Nat),At 52 [(3,.pointer (some ⟨b1,0,none⟩)),(5,.slice p10 x.1.length c11),(6,.bool x.2)] (Wd w [rowE Qg 49 p10 c11 x.1,Qs b1 (Cd.cs Qg x1) 49]) Y) _ 0→Round (fun Y=>∀ (p8:Option Addr) (c9:Nat),At 52 [(0,.slice p0_ x0.length c0_),(3,.pointer (some ⟨b1,0,none⟩)),(5,.slice p8 i5.length c9),(6,.bool i6),(7,.int .i64 i7)] (Wd w [rowE Qg 49 p8 c9 i5,Qs b1 (Cd.cs Qg x1) 49]) Y) _ _ _) ?_ _ _ _ _ hq4 K none 0
  ·clear K hF
   intro g ih i5 i6 i7 x hF K p8 c9
   refine QS ?_
   refine qs (sr (am (am ?_)))
   refine aw (Q6 underlying46 rfl) ?_
   refine aw xl (nwq [11,7,6,5,3,0] ?_)
   obtain ⟨h12,hF⟩|⟨h12,hF⟩:=oi hF
   ·refine ct h12 ?_
    refine sn (qs ?_)
    refine qb ?_
    refine qs (qs ?_)
    refine Qb4 (by kernel_rfl) (by kernel_rfl) (fun _ h=>h.drew) ?_
    refine Qk rfl rfl rfl (Qaf rfl) ?_
    refine Qk rfl rfl rfl (Qaf rfl) ?_
    obtain ⟨h13,hF⟩:=gd hF
    obtain ⟨b15,o16,hp14⟩:=QR hr0 h13
    refine Qk rfl rfl rfl (r_idx underlying46 sizeOf49 rfl rfl h13 hp14) ?_
    refine Qk rfl rfl rfl (QJ (fo:=0) underlying49 rfl rfl (fun w=>⟨_,sizeOf38 w⟩) rfl) ?_
    refine Qk rfl rfl rfl (Qe (c:=Qa) (z:=(lget x0 i7).f_P) isAgg38 sizeOf38 rfl (QbH (y:=(lget x0 i7).f_P) (fun _ h=>h.below) hr0 h13 hp14 (Lens.comp lw (fun z=>{ (lget x0 i7) with f_P:=z }) (QQ (lget x0 i7))))) ?_
    refine Qk rfl rfl rfl (QJ (fo:=0) underlying49 rfl rfl (fun w=>⟨_,sizeOf38 w⟩) rfl) ?_
    refine Qk rfl rfl rfl (Qe (c:=Qa) (z:=x1.f_P) isAgg38 sizeOf38 rfl (Qp (.s .z) (Lens.comp lw (fun z=>{ x1 with f_P:=z }) (QQ x1)))) ?_
    refine Qk rfl rfl rfl (Qbz (c:=Qa) (a:=(lget x0 i7).f_P) (b:=x1.f_P) (Qap) rfl Tryz.eqGuardType38 rfl rfl (.inl rfl) rfl) ?_
    refine QaX ?_
    refine wq [21,7,6,5,3,0] ?_
    refine tn ?_
    obtain ⟨h17,hF⟩|⟨h17,hF⟩:=oi hF
    ·refine ct h17 ?_
     refine Q1 ?_
     refine te (Qw (tn ?_))
     refine qr (am (aw xa (aa (nwq [7,6,5,3,0] ?_))))
     exact Qm (ih _ _ _ _ hF K p8 c9) ⟨rfl,rfl,rfl,rfl,rfl,trivial⟩
    refine cf h17 ?_
    refine sn (qs (qs ?_))
    refine Qb4 (by kernel_rfl) (by kernel_rfl) (fun _ h=>h.drew) ?_
    refine Qk rfl rfl rfl (Qaf rfl) ?_
    refine Qk rfl rfl rfl (r_not rfl) ?_
    refine Qk rfl rfl rfl (Qaf rfl) ?_
    obtain ⟨h18,hF⟩|⟨h18,hF⟩:=oi hF
    ·refine Qa0 (g:=24) rfl h18 ?_
     refine Qi rfl rfl rfl ?_
     refine Qk rfl rfl rfl (QJ (fo:=0) underlying49 rfl rfl (fun w=>⟨_,sizeOf38 w⟩) rfl) ?_
     refine Qi rfl rfl rfl ?_
     refine Qk rfl rfl rfl (Qe (c:=Qa) (z:=x1.f_P) isAgg38 sizeOf38 rfl (Qp (.s .z) (Lens.comp lw (fun z=>{ x1 with f_P:=z }) (QQ x1)))) ?_
     refine Qi rfl rfl rfl ?_
     refine Qk rfl rfl rfl (Qaf rfl) ?_
     refine Qi rfl rfl rfl ?_
     refine Qk rfl rfl rfl (Qaf rfl) ?_
     refine Qi rfl rfl rfl ?_
     obtain ⟨h19,hF⟩:=gd hF
     obtain ⟨b21,o22,hp20⟩:=QR hr0 h19
     refine Qk rfl rfl rfl (r_idx underlying46 sizeOf49 rfl rfl h19 hp20) ?_
     refine Qi rfl rfl rfl ?_
     refine Qk rfl rfl rfl (QJ (fo:=0) underlying49 rfl rfl (fun w=>⟨_,sizeOf38 w⟩) rfl) ?_
     refine Qi rfl rfl rfl ?_
     refine Qk rfl rfl rfl (Qe (c:=Qa) (z:=(lget x0 i7).f_P) isAgg38 sizeOf38 rfl (QbH (y:=(lget x0 i7).f_P) (fun _ h=>h.below) hr0 h19 hp20 (Lens.comp lw (fun z=>{ (lget x0 i7) with f_P:=z }) (QQ (lget x0 i7))))) ?_
     refine Qi rfl rfl rfl ?_
     obtain ⟨t23,ht23,hF⟩:=bM hF
     refine Qbb func41 rfl (by kernel_rfl) rfl rfl (fun w hw=>(QcP _ _ _ ht23 w).mono fun _ _ h=>⟨h.1,hw.call h.2⟩) ?_
     refine Qk rfl rfl rfl (Qa4 rfl rfl rfl) ?_
     refine QaX ?_
     refine wq [33,7,6,5,3,0] ?_
     refine tn ?_
     obtain ⟨h24,hF⟩|⟨h24,hF⟩:=oi hF
     ·refine ct h24 ?_
      refine sr (am ?_)
      refine aw (Qe (c:=Qg) (z:=x1) isAgg49 sizeOf49 rfl (Qp (.s .z) lw)) ?_
      refine Qbu (c:=Qg) ([zv13]:List Qd) ([x1]:List Qd) underlying46 sizeOf49 zeroValue49 rfl rfl rfl (by kernel_rfl) (QI (c:=Qg) (z:=x1) rfl (Lens.all Qg ([zv13]:List Qd) 0 (by first | decide | exact Nat.le_of_ble_eq_true rfl)) rfl rfl) rfl ?_
      intro b25
      obtain ⟨h26,hF⟩:=gd hF
      refine Qax (z:=.agg (Cd.cs Qg zv13).toArray) (c:=Qg) (ys:=([x1]:List Qd)) (.s .z) underlying46 infoF149 (by kernel_rfl) (by kernel_rfl) rfl rfl rfl rfl (fun _ hw=>Qaw (hw.ok (Upd.mem .z))) (by kernel_rfl) h26 (Qaj h26) rfl ?_
      intro p27 c28
      refine aa (qn (dz (tn (qr (aa (nt (qr (am ?_))))))))
      refine am (am ?_)
      obtain ⟨h29,hF⟩:=gd hF
      obtain ⟨b31,o32,hp30⟩:=QR hr0 h29
      refine aw (r_idx underlying46 sizeOf49 rfl rfl h29 hp30) ?_
      refine aw (Qe (c:=Qg) (z:=lget x0 i7) isAgg49 sizeOf49 rfl (QaF (fun _ h=>h.below) hr0 h29 hp30)) ?_
      refine Qbu (c:=Qg) ([zv13]:List Qd) ([lget x0 i7]:List Qd) underlying46 sizeOf49 zeroValue49 rfl rfl rfl (by kernel_rfl) (QI (c:=Qg) (z:=lget x0 i7) rfl (Lens.all Qg ([zv13]:List Qd) 0 (by first | decide | exact Nat.le_of_ble_eq_true rfl)) rfl rfl) rfl ?_
      intro b33
      obtain ⟨h34,hF⟩:=gd hF
      refine Qax (z:=.agg (Cd.cs Qg zv13).toArray) (c:=Qg) (ys:=([lget x0 i7]:List Qd)) (.s .z) underlying46 infoF149 (by kernel_rfl) (by kernel_rfl) rfl rfl rfl rfl (fun _ hw=>Qaw (hw.ok (Upd.mem .z))) (by kernel_rfl) h34 (Qaj h34) rfl ?_
      intro p35 c36
      refine aa (qn (dz (wq [7,6,5,3,0] ?_)))
      refine bm ?_
      refine qr (am (aw xa (aa (nwq [7,6,5,3,0] ?_))))
      exact Qm (ih _ _ _ _ hF K p35 c36) ⟨rfl,rfl,rfl,rfl,rfl,trivial⟩
     refine cf h24 ?_
     refine sn (qr (am (am (am ?_))))
     obtain ⟨h37,hF⟩:=gd hF
     obtain ⟨b39,o40,hp38⟩:=QR hr0 h37
     refine aw (r_idx underlying46 sizeOf49 rfl rfl h37 hp38) ?_
     refine aw (Qe (c:=Qg) (z:=lget x0 i7) isAgg49 sizeOf49 rfl (QaF (fun _ h=>h.below) hr0 h37 hp38)) ?_
     refine Qbu (c:=Qg) ([zv13]:List Qd) ([lget x0 i7]:List Qd) underlying46 sizeOf49 zeroValue49 rfl rfl rfl (by kernel_rfl) (QI (c:=Qg) (z:=lget x0 i7) rfl (Lens.all Qg ([zv13]:List Qd) 0 (by first | decide | exact Nat.le_of_ble_eq_true rfl)) rfl rfl) rfl ?_
     intro b41
     obtain ⟨h42,hF⟩:=gd hF
     refine Qax (z:=.agg (Cd.cs Qg zv13).toArray) (c:=Qg) (ys:=([lget x0 i7]:List Qd)) (.s .z) underlying46 infoF149 (by kernel_rfl) (by kernel_rfl) rfl rfl rfl rfl (fun _ hw=>Qaw (hw.ok (Upd.mem .z))) (by kernel_rfl) h42 (Qaj h42) rfl ?_
     intro p43 c44
     refine aa (qn (dz (wq [7,6,5,3,0] ?_)))
     refine bm ?_
     refine qr (am (aw xa (aa (nwq [7,6,5,3,0] ?_))))
     exact Qm (ih _ _ _ _ hF K p43 c44) ⟨rfl,rfl,rfl,rfl,rfl,trivial⟩
    refine Qa0 (g:=24) rfl h18 ?_
    refine Qj rfl rfl rfl rfl rfl ?_
    refine Qj rfl rfl rfl rfl rfl ?_
    refine Qj rfl rfl rfl rfl rfl ?_
    refine Qj rfl rfl rfl rfl rfl ?_
    refine Qj rfl rfl rfl rfl rfl ?_
    refine Qj rfl rfl rfl rfl rfl ?_
    refine Qj rfl rfl rfl rfl rfl ?_
    refine Qj rfl rfl rfl rfl rfl ?_
    refine Qk rfl rfl rfl (Qa4 rfl rfl rfl) ?_
    refine QaX ?_
    refine wq [33,7,6,5,3,0] ?_
    refine tn ?_
    refine cf rfl ?_
    refine sn (qr (am (am (am ?_))))
    obtain ⟨h45,hF⟩:=gd hF
    obtain ⟨b47,o48,hp46⟩:=QR hr0 h45
    refine aw (r_idx underlying46 sizeOf49 rfl rfl h45 hp46) ?_
    refine aw (Qe (c:=Qg) (z:=lget x0 i7) isAgg49 sizeOf49 rfl (QaF (fun _ h=>h.below) hr0 h45 hp46)) ?_
    refine Qbu (c:=Qg) ([zv13]:List Qd) ([lget x0 i7]:List Qd) underlying46 sizeOf49 zeroValue49 rfl rfl rfl (by kernel_rfl) (QI (c:=Qg) (z:=lget x0 i7) rfl (Lens.all Qg ([zv13]:List Qd) 0 (by first | decide | exact Nat.le_of_ble_eq_true rfl)) rfl rfl) rfl ?_
    intro b49
    obtain ⟨h50,hF⟩:=gd hF
    refine Qax (z:=.agg (Cd.cs Qg zv13).toArray) (c:=Qg) (ys:=([lget x0 i7]:List Qd)) (.s .z) underlying46 infoF149 (by kernel_rfl) (by kernel_rfl) rfl rfl rfl rfl (fun _ hw=>Qaw (hw.ok (Upd.mem .z))) (by kernel_rfl) h50 (Qaj h50) rfl ?_
    intro p51 c52
    refine aa (qn (dz (wq [7,6,5,3,0] ?_)))
    refine bm ?_
    refine qr (am (aw xa (aa (nwq [7,6,5,3,0] ?_))))
    exact Qm (ih _ _ _ _ hF K p51 c52) ⟨rfl,rfl,rfl,rfl,rfl,trivial⟩
   refine cf h12 ?_
   refine Q1 ?_
   refine te (te ?_)
   obtain rfl:=os hF
   exact Qm (K p8 c9) ⟨rfl,rfl,rfl,trivial⟩
 skip
 intro p10 c11
 refine Qw ?_
 refine tn (qs (sr (am ?_)))
 refine aw (r_not rfl) ?_
 refine nwq [46,5,3] ?_
 obtain ⟨h53,hF⟩|⟨h53,hF⟩:=oi hF
 ·refine ct h53 ?_
  refine qr (am ?_)
  refine aw (Qe (c:=Qg) (z:=x1) isAgg49 sizeOf49 rfl (Qp (.s .z) lw)) ?_
  refine Qbu (c:=Qg) ([zv13]:List Qd) ([x1]:List Qd) underlying46 sizeOf49 zeroValue49 rfl rfl rfl (by kernel_rfl) (QI (c:=Qg) (z:=x1) rfl (Lens.all Qg ([zv13]:List Qd) 0 (by first | decide | exact Nat.le_of_ble_eq_true rfl)) rfl rfl) rfl ?_
  intro b54
  obtain ⟨h55,hF⟩:=gd hF
  refine Qax (z:=.agg (Cd.cs Qg zv13).toArray) (c:=Qg) (ys:=([x1]:List Qd)) (.s .z) underlying46 infoF149 (by kernel_rfl) (by kernel_rfl) rfl rfl rfl rfl (fun _ hw=>Qaw (hw.ok (Upd.mem .z))) (by kernel_rfl) h55 (Qaj h55) rfl ?_
  intro p56 c57
  refine aa (qn (dz ?_))
  refine Qal (H:=_) (.s .z) ?_
  refine tn (sr (am (aa (nwq [4] ?_))))
  refine qt ?_
  have K:=os hF
  subst K
  exact r1 (fun w1 hw=>⟨p56,c57,rfl,hw.own .z,hw.below⟩)
 refine cf h53 ?_
 refine sns (am (aa (qn ?_)))
 refine Qal (H:=_) (.s .z) ?_
 refine wq [4] ?_
 refine tn (qt ?_)
 have K:=os hF
 subst K
 exact r1 (fun w1 hw=>⟨p10,c11,rfl,hw.own .z,hw.below⟩)
def QaT.l0(x0:List Qd)(x1:Qc)(i3:Int):Option (Ctl (Int) (Unit)) :=
 if (decide (i3<(x0.length:Int)))=true then (if (0:Int)≤i3∧i3<(x0.length:Int) then if (decide ((lget x0 i3).f_P=x1))=true then (some (.ret i3)) else (QaT.l0 x0 x1 (wr .i64 (i3+1))) else none) else (some (.nx ()))
 partial_fixpoint
def QaT(x0:List Qd)(x1:Qc):Option (Int) :=
 QaT.l0 x0 x1 0>>=fun q2=>match q2 with | .ret r'=>some r' | .nx sq2=>(some (-1))
theorem Qfh(x0:List Qd)(p0_:Option Addr)(c0_:Nat)(x1:Qc)(r:Int)(hF:QaT x0 x1=some r)(w:World)(hr0:Row Qg w p0_ c0_ x0) :
    Calls Tryz.prog 52 #[.slice p0_ x0.length c0_,.agg (Cd.cs Qa x1).toArray] w (fun e w'=>e=.returned (.int .i64 r)∧Below w.heap.size w w'):=by
 unfold QaT at hF
 refine ce (l:=[.slice p0_ x0.length c0_,.agg (Cd.cs Qa x1).toArray]) func52 rfl rfl ?_
 refine QN ?_
 refine sr ?_
 refine Qag (cs:=Cd.cs Qa x1) rfl rfl rfl ?_
 intro b1
 refine aa (nt (qs (sr (aa (nwq [5,3,0] ?_)))))
 refine qb ?_
 obtain ⟨q2,hq2,hF⟩:=bM hF
 refine wq [5,3,0] ?_
 refine QbG (B:=0) (r:=r) (q:=q2) (A:=fun (_:Unit) Y=>At 20 [] (Wd w []) Y) ?_ ?_
 ·intro K
  refine QaT.l0.partial_correctness x0 x1 (motive:=fun i3 x=>KR (fun (_:Unit) Y=>At 20 [] (Wd w []) Y) _ 0 r x→Round (fun Y=>At 20 [(0,.slice p0_ x0.length c0_),(3,.pointer (some ⟨b1,0,none⟩)),(5,.int .i64 i3)] (Wd w [Qs b1 (Cd.cs Qa x1) 38]) Y) _ _ _) ?_ _ _ hq2 K
  ·clear K hF
   intro g ih i3 x hF K
   refine QS ?_
   refine qs (sr (am (am ?_)))
   refine aw (Q6 underlying46 rfl) ?_
   refine aw xl (nwq [9,5,3,0] ?_)
   obtain ⟨h4,hF⟩|⟨h4,hF⟩:=oi hF
   ·refine ct h4 ?_
    refine sn (qs ?_)
    refine qb ?_
    refine qs ?_
    refine Qb4 (by kernel_rfl) (by kernel_rfl) (fun _ h=>h.drew) ?_
    refine Qk rfl rfl rfl (Qaf rfl) ?_
    refine Qk rfl rfl rfl (Qaf rfl) ?_
    obtain ⟨h5,hF⟩:=gd hF
    obtain ⟨b7,o8,hp6⟩:=QR hr0 h5
    refine Qk rfl rfl rfl (r_idx underlying46 sizeOf49 rfl rfl h5 hp6) ?_
    refine Qk rfl rfl rfl (QJ (fo:=0) underlying49 rfl rfl (fun w=>⟨_,sizeOf38 w⟩) rfl) ?_
    refine Qk rfl rfl rfl (Qe (c:=Qa) (z:=(lget x0 i3).f_P) isAgg38 sizeOf38 rfl (QbH (y:=(lget x0 i3).f_P) (fun _ h=>h.below) hr0 h5 hp6 (Lens.comp lw (fun z=>{ (lget x0 i3) with f_P:=z }) (QQ (lget x0 i3))))) ?_
    refine Qk rfl rfl rfl (Qe (c:=Qa) (z:=x1) isAgg38 sizeOf38 rfl (Qp .z lw)) ?_
    refine Qk rfl rfl rfl (Qbz (c:=Qa) (a:=(lget x0 i3).f_P) (b:=x1) (Qap) rfl Tryz.eqGuardType38 rfl rfl (.inl rfl) rfl) ?_
    refine QaX ?_
    refine wq [18,5,3,0] ?_
    refine tn ?_
    obtain ⟨h9,hF⟩|⟨h9,hF⟩:=oi hF
    ·refine ct h9 ?_
     refine sr (am (aa (qn (dz (wq [4] ?_)))))
     refine tn (qt ?_)
     refine br (tr (tr (br (tr ?_))))
     obtain rfl:=os hF
     subst K
     exact r1 wb
    refine cf h9 ?_
    refine Qaz ?_
    refine bm ?_
    refine qr (am (aw xa (aa (nwq [5,3,0] ?_))))
    exact Qm (ih _ _ hF K) ⟨rfl,rfl,rfl,trivial⟩
   refine cf h4 ?_
   refine Q1 ?_
   refine te (te ?_)
   refine dz ?_
   obtain rfl:=os hF
   exact Qm K trivial
 cases q2 with
 | ret r'=>exact os hF
 | nx sq2 =>
  skip
  refine Qw ?_
  refine tn (sr (aa (nwq [4] ?_)))
  refine qt ?_
  have K:=os hF
  subst K
  exact r1 wb
def QbD.l0(x0:List Qd)(x1:Qd)(i4:Bool)(i5:Int)(i6:Qd):Option (Bool×Qd) :=
 if (decide (i5<(x0.length:Int)))=true then (if (0:Int)≤i5∧i5<(x0.length:Int) then if (!decide ((lget x0 i5).f_P=x1.f_P))=true then (Qco ((lget x0 i5).f_P) x1.f_P>>=fun t14=>if t14=true then (if (!i4)=true then (QbD.l0 x0 x1 true (wr .i64 (i5+1)) (lget x0 i5)) else (if (decide (((lget x0 i5).f_P).f_Bits>i6.f_P.f_Bits))=true then (QbD.l0 x0 x1 true (wr .i64 (i5+1)) (lget x0 i5)) else (QbD.l0 x0 x1 i4 (wr .i64 (i5+1)) i6))) else (QbD.l0 x0 x1 i4 (wr .i64 (i5+1)) i6)) else (QbD.l0 x0 x1 i4 (wr .i64 (i5+1)) i6) else none) else (some (i4,i6))
 partial_fixpoint
def QbD(x0:List Qd)(x1:Qd):Option (Qd×Bool) :=
 QbD.l0 x0 x1 false 0 ({ f_P:=({ f_A:=({ f_V:=(0:Int),f_B:=(Vector.replicate 16 (0:Int):(Vector Int 16)) }:Qh),f_Bits:=(0:Int) }:Qc),f_Owner:=(0:Int) }:Qd)>>=fun q3=>some (q3.2,q3.1)
theorem flat_above_ok(x0:List Qd)(p0_:Option Addr)(c0_:Nat)(x1:Qd)(r:Qd×Bool)(hF:QbD x0 x1=some r)(w:World)(hr0:Row Qg w p0_ c0_ x0) :
    Calls Tryz.prog 73 #[.slice p0_ x0.length c0_,.agg (Cd.cs Qg x1).toArray] w (fun e w'=>e=.returned (.tuple #[.agg (Cd.cs Qg r.1).toArray,.bool r.2])∧Below w.heap.size w w'):=by
 unfold QbD at hF
 refine ce (l:=[.slice p0_ x0.length c0_,.agg (Cd.cs Qg x1).toArray]) func73 rfl rfl ?_
 refine QN ?_
 refine sr ?_
 refine Qag (cs:=Cd.cs Qg x1) rfl rfl rfl ?_
 intro b1
 refine al (cs:=Cd.cs Qg zv13) zeroValue49 ?_
 intro b2
 refine aa (nt (qs (sr (am ?_))))
 refine aw (Q6 underlying46 rfl) ?_
 refine am (nwq [10,9,8,5,4,3] ?_)
 refine qb ?_
 obtain ⟨q3,hq3,hF⟩:=bM hF
 refine wq [10,9,8,5,4,3] ?_
 refine Q5 (B:=0) (A:=fun Y=>At 43 [(4,.pointer (some ⟨b2,0,none⟩)),(5,.bool q3.1)] (Wd w [Qs b2 (Cd.cs Qg q3.2) 49]) Y) ?_ ?_
 ·intro K
  refine QbD.l0.partial_correctness x0 x1 (motive:=fun i4 i5 i6 x=>KN (fun Y=>At 43 [(4,.pointer (some ⟨b2,0,none⟩)),(5,.bool x.1)] (Wd w [Qs b2 (Cd.cs Qg x.2) 49]) Y) _ 0→Round (fun Y=>At 43 [(3,.pointer (some ⟨b1,0,none⟩)),(4,.pointer (some ⟨b2,0,none⟩)),(5,.bool i4),(8,.slice p0_ x0.length c0_),(9,.int .i64 (x0.length:Int)),(10,.int .i64 i5)] (Wd w [Qs b2 (Cd.cs Qg i6) 49,Qs b1 (Cd.cs Qg x1) 49]) Y) _ _ _) ?_ _ _ _ _ hq3 K
  ·clear K hF
   intro g ih i4 i5 i6 x hF K
   refine QS ?_
   refine sr (aw xl (nwq [11,10,9,8,5,4,3] ?_))
   refine qs ?_
   obtain ⟨h7,hF⟩|⟨h7,hF⟩:=oi hF
   ·refine ct h7 ?_
    refine sn (qs ?_)
    refine qb ?_
    refine sr ?_
    obtain ⟨h8,hF⟩:=gd hF
    obtain ⟨b10,o11,hp9⟩:=QR hr0 h8
    refine aw (r_idx underlying46 sizeOf49 rfl rfl h8 hp9) ?_
    refine aw (Qe (c:=Qg) (z:=lget x0 i5) isAgg49 sizeOf49 rfl (QaF (fun _ h=>h.below) hr0 h8 hp9)) ?_
    refine al (cs:=Cd.cs Qg zv13) zeroValue49 ?_
    intro b12
    refine QX (c:=Qg) (z:=lget x0 i5) .z lw sizeOf49 rfl rfl rfl ?_
    refine nwx [10,9,8,7,5,4,3] ?_
    refine fa 0 underlying49 rfl sizeOf38 ?_
    refine aw (Qe (c:=Qa) (z:=(lget x0 i5).f_P) isAgg38 sizeOf38 rfl (Qp .z (Lens.comp lw (fun z=>{ lget x0 i5 with f_P:=z }) (QQ (lget x0 i5))))) ?_
    refine fa 0 underlying49 rfl sizeOf38 ?_
    refine aw (Qe (c:=Qa) (z:=x1.f_P) isAgg38 sizeOf38 rfl (Qp (.s (.s .z)) (Lens.comp lw (fun z=>{ x1 with f_P:=z }) (QQ x1)))) ?_
    refine aw (Qbz (c:=Qa) (a:=(lget x0 i5).f_P) (b:=x1.f_P) (Qap) rfl Tryz.eqGuardType38 rfl rfl (.inr rfl) rfl) ?_
    refine am ?_
    obtain ⟨h13,hF⟩|⟨h13,hF⟩:=oi hF
    ·refine fx 19 h13 ?_
     refine gy ?_
     refine fa 0 underlying49 rfl sizeOf38 ?_
     refine gy ?_
     refine aw (Qe (c:=Qa) (z:=(lget x0 i5).f_P) isAgg38 sizeOf38 rfl (Qp .z (Lens.comp lw (fun z=>{ lget x0 i5 with f_P:=z }) (QQ (lget x0 i5))))) ?_
     refine gy ?_
     refine fa 0 underlying49 rfl sizeOf38 ?_
     refine gy ?_
     refine aw (Qe (c:=Qa) (z:=x1.f_P) isAgg38 sizeOf38 rfl (Qp (.s (.s .z)) (Lens.comp lw (fun z=>{ x1 with f_P:=z }) (QQ x1)))) ?_
     refine gy ?_
     obtain ⟨t14,ht14,hF⟩:=bM hF
     refine cB func49 rfl (fun w hw=>Qgl _ _ _ ht14 w) ?_
     refine aw xp (am ?_)
     obtain ⟨h15,hF⟩|⟨h15,hF⟩:=oi hF
     ·refine fx 26 h15 ?_
      refine gy ?_
      refine am ?_
      refine gy ?_
      refine aw (r_not rfl) ?_
      refine gy ?_
      refine am ?_
      obtain ⟨h16,hF⟩|⟨h16,hF⟩:=oi hF
      ·refine fx 29 h16 ?_
       refine gn ?_
       refine gn ?_
       refine gn ?_
       refine gn ?_
       refine gn ?_
       refine gn ?_
       refine gn ?_
       refine gy ?_
       refine aw xp (aw xp (nwq [38,10,9,8,7,5,4,3] ?_))
       refine ct rfl ?_
       refine qr ?_
       refine aw (Qe (c:=Qg) (z:=lget x0 i5) isAgg49 sizeOf49 rfl (Qp .z lw)) ?_
       refine QX (c:=Qg) (z:=lget x0 i5) (.s .z) lw sizeOf49 rfl rfl rfl ?_
       refine aa (qn (dz (wq [10,9,8,5,4,3] ?_)))
       refine bm ?_
       refine qr (aw xa (am (nwq [10,9,8,5,4,3] ?_)))
       exact Qm (ih _ _ _ _ hF K) ⟨rfl,rfl,rfl,rfl,rfl,rfl,trivial⟩
      refine fx 29 h16 ?_
      refine gy ?_
      refine fa 0 underlying49 rfl sizeOf38 ?_
      refine gy ?_
      refine fa 17 underlying38 rfl sizeOf3 ?_
      refine gy ?_
      refine aw (Ql isAgg3 rfl (Qr (c:=(cInt .i64)) (y:=((lget x0 i5).f_P).f_Bits) .z (Lens.comp (Lens.comp lw (fun z=>{ lget x0 i5 with f_P:=z }) (QQ (lget x0 i5))) (fun z=>{ (lget x0 i5).f_P with f_Bits:=z }) (QE ((lget x0 i5).f_P))) rfl)) ?_
      refine gy ?_
      refine fa 0 underlying49 rfl sizeOf38 ?_
      refine gy ?_
      refine fa 17 underlying38 rfl sizeOf3 ?_
      refine gy ?_
      refine aw (Ql isAgg3 rfl (Qr (c:=(cInt .i64)) (y:=i6.f_P.f_Bits) (.s .z) (Lens.comp (Lens.comp lw (fun z=>{ i6 with f_P:=z }) (QQ i6)) (fun z=>{ i6.f_P with f_Bits:=z }) (QE i6.f_P)) rfl)) ?_
      refine gy ?_
      refine aw (QcK rfl rfl) ?_
      refine gy ?_
      refine aw xp (aw xp (nwq [38,10,9,8,7,5,4,3] ?_))
      obtain ⟨h17,hF⟩|⟨h17,hF⟩:=oi hF
      ·refine ct h17 ?_
       refine qr ?_
       refine aw (Qe (c:=Qg) (z:=lget x0 i5) isAgg49 sizeOf49 rfl (Qp .z lw)) ?_
       refine QX (c:=Qg) (z:=lget x0 i5) (.s .z) lw sizeOf49 rfl rfl rfl ?_
       refine aa (qn (dz (wq [10,9,8,5,4,3] ?_)))
       refine bm ?_
       refine qr (aw xa (am (nwq [10,9,8,5,4,3] ?_)))
       exact Qm (ih _ _ _ _ hF K) ⟨rfl,rfl,rfl,rfl,rfl,rfl,trivial⟩
      refine cf h17 ?_
      refine Qaz ?_
      refine bm ?_
      refine qr (aw xa (am (qn (dz (wq [10,9,8,5,4,3] ?_)))))
      refine tn ?_
      exact Qm (ih _ _ _ _ hF K) ⟨rfl,rfl,rfl,rfl,rfl,rfl,trivial⟩
     refine fx 26 h15 ?_
     refine gn ?_
     refine gn ?_
     refine gn ?_
     refine Q9 rfl rfl rfl rfl ?_
     refine Q9 rfl rfl rfl rfl ?_
     refine Q9 rfl rfl rfl rfl ?_
     refine Q9 rfl rfl rfl rfl ?_
     refine Q9 rfl rfl rfl rfl ?_
     refine Q9 rfl rfl rfl rfl ?_
     refine Q9 rfl rfl rfl rfl ?_
     refine gn ?_
     refine aw xp (nwq [38,10,9,8,7,5,4,3] ?_)
     refine cf rfl ?_
     refine Qaz ?_
     refine bm ?_
     refine qr (aw xa (am (qn (dz (wq [10,9,8,5,4,3] ?_)))))
     refine tn ?_
     exact Qm (ih _ _ _ _ hF K) ⟨rfl,rfl,rfl,rfl,rfl,rfl,trivial⟩
    refine fx 19 h13 ?_
    refine gn ?_
    refine gn ?_
    refine gn ?_
    refine gn ?_
    refine gn ?_
    refine aw xp (am ?_)
    refine gn ?_
    refine gn ?_
    refine gn ?_
    refine Q9 rfl rfl rfl rfl ?_
    refine Q9 rfl rfl rfl rfl ?_
    refine Q9 rfl rfl rfl rfl ?_
    refine Q9 rfl rfl rfl rfl ?_
    refine Q9 rfl rfl rfl rfl ?_
    refine Q9 rfl rfl rfl rfl ?_
    refine Q9 rfl rfl rfl rfl ?_
    refine gn ?_
    refine aw xp (nwq [38,10,9,8,7,5,4,3] ?_)
    refine cf rfl ?_
    refine Qaz ?_
    refine bm ?_
    refine qr (aw xa (am (qn (dz (wq [10,9,8,5,4,3] ?_)))))
    refine tn ?_
    exact Qm (ih _ _ _ _ hF K) ⟨rfl,rfl,rfl,rfl,rfl,rfl,trivial⟩
   refine cf h7 ?_
   refine Q1 ?_
   refine te (te ?_)
   refine Qal (H:=_) (.s .z) ?_
   obtain rfl:=os hF
   exact Qm K ⟨rfl,rfl,trivial⟩
 skip
 skip
 refine Qw ?_
 refine tn (sr ?_)
 refine aw (Qe (c:=Qg) (z:=q3.2) isAgg49 sizeOf49 rfl (Qp .z lw)) ?_
 refine am ?_
 refine QX (c:=Qg) (z:=q3.2) .z lw sizeOf49 rfl rfl rfl ?_
 refine aa (nwq [5,4] ?_)
 refine qt ?_
 have K:=os hF
 subst K
 exact Qe6 rfl (Qb8 (c:=Qg) (y:=q3.2) rfl .z lw isAgg49 sizeOf49 (.inl rfl)) (QeL rfl) wb
end Go.Proofs.YtahlbjmafceoeaaGreatDoor
namespace Go.Proofs.YtahlbjmafceoeaaGreatDoor
open E Go.RowKit _root_.Go.Proofs.Tryz
theorem infoF249_is:(Tryz.prog.info? 49).isSome=true:=by kernel_rfl
noncomputable def infoF249_v:TypeInfo:=(Tryz.prog.info? 49).get infoF249_is
theorem infoF249:Tryz.prog.info? 49=some infoF249_v:=(Option.some_get _).symm
def QaB.l0(x0:List Qd)(i4:List Qd)(i5:Int):Option (List Qd) :=
 if (decide (i5<(x0.length:Int)))=true then (if (0:Int)≤i5∧i5<(x0.length:Int) then Qad ((lget x0 i5).f_P)>>=fun t15=>if t15=true then (if (0:Int)≤i5∧i5<(x0.length:Int) then QaC i4 (lget x0 i5)>>=fun t21=>QaB.l0 x0 t21 (wr .i64 (i5+1)) else none) else (QaB.l0 x0 i4 (wr .i64 (i5+1))) else none) else (some i4)
 partial_fixpoint
def QaB(x0:List Qd):Option (List Qd) :=
 QaB.l0 x0 ([]:List Qd) 0>>=fun q3=>some q3
theorem Qgb(x0:List Qd)(p0_:Option Addr)(c0_:Nat)(r:List Qd)(hF:QaB x0=some r)(w:World)(hr0:Row Qg w p0_ c0_ x0) :
    Calls Tryz.prog 79 #[.slice p0_ x0.length c0_] w (fun e w'=>∃ p cap,e=.returned (.slice p r.length cap)∧Own Qg 49 w.heap.size w' p cap r∧Below w.heap.size w w'):=by
 unfold QaB at hF
 refine ce (l:=[.slice p0_ x0.length c0_]) func79 rfl rfl ?_
 refine QN ?_
 refine sr (aa (ns (aa (nt (qs (sr (aa (nwq [4,3,0] ?_))))))))
 refine qb ?_
 refine Qbd Qg 49 ?_
 obtain ⟨q3,hq3,hF⟩:=bM hF
 refine wq [4,3,0] ?_
 refine Q5 (B:=0) (A:=fun Y=>∀ (p8:Option Addr) (c9:Nat),At 24 [(3,.slice p8 q3.length c9)] (Wd w [rowE Qg 49 p8 c9 q3]) Y) ?_ ?_
 ·intro K
  refine QaB.l0.partial_correctness x0 (motive:=fun i4 i5 x=>KN (fun Y=>∀ (p8:Option Addr) (c9:Nat),At 24 [(3,.slice p8 x.length c9)] (Wd w [rowE Qg 49 p8 c9 x]) Y) _ 0→Round (fun Y=>∀ (p6:Option Addr) (c7:Nat),At 24 [(0,.slice p0_ x0.length c0_),(3,.slice p6 i4.length c7),(4,.int .i64 i5)] (Wd w [rowE Qg 49 p6 c7 i4]) Y) _ _ _) ?_ _ _ _ hq3 K none 0
  ·clear K hF
   intro g ih i4 i5 x hF K p6 c7
   refine QS ?_
   refine qs (sr (am (am ?_)))
   refine aw (Q6 underlying46 rfl) ?_
   refine aw xl (nwq [8,4,3,0] ?_)
   obtain ⟨h10,hF⟩|⟨h10,hF⟩:=oi hF
   ·refine ct h10 ?_
    refine sn (qs ?_)
    refine qb ?_
    refine sr (am (am ?_))
    obtain ⟨h11,hF⟩:=gd hF
    obtain ⟨b13,o14,hp12⟩:=QR hr0 h11
    refine aw (r_idx underlying46 sizeOf49 rfl rfl h11 hp12) ?_
    refine fa 0 underlying49 rfl sizeOf38 ?_
    refine aw (Qe (c:=Qa) (z:=(lget x0 i5).f_P) isAgg38 sizeOf38 rfl (QbH (y:=(lget x0 i5).f_P) (fun _ h=>h.below) hr0 h11 hp12 (Lens.comp lw (fun z=>{ (lget x0 i5) with f_P:=z }) (QQ (lget x0 i5))))) ?_
    obtain ⟨t15,ht15,hF⟩:=bM hF
    refine cB func40 rfl (fun w hw=>Qbx _ _ ht15 w) ?_
    refine nwq [16,4,3,0] ?_
    obtain ⟨h16,hF⟩|⟨h16,hF⟩:=oi hF
    ·refine ct h16 ?_
     refine qr (am (am (am ?_)))
     obtain ⟨h17,hF⟩:=gd hF
     obtain ⟨b19,o20,hp18⟩:=QR hr0 h17
     refine aw (r_idx underlying46 sizeOf49 rfl rfl h17 hp18) ?_
     refine aw (Qe (c:=Qg) (z:=lget x0 i5) isAgg49 sizeOf49 rfl (QaF (fun _ h=>h.below) hr0 h17 hp18)) ?_
     obtain ⟨t21,ht21,hF⟩:=bM hF
     refine Qca (c:=Qg) (e:=49) (ys:=t21) (V:=fun p cap=>.slice p t21.length cap) func15 rfl (by kernel_rfl) rfl rfl (fun w hw=>Qgc _ _ _ _ _ ht21 w (hw.own .z).row) ?_
     intro p22 c23
     refine aa (qn ?_)
     refine Qal (H:=_) (.s .z) ?_
     refine wq [4,3,0] ?_
     refine bm ?_
     refine qr (am (aw xa (aa (nwq [4,3,0] ?_))))
     exact Qm (ih _ _ _ hF K p22 c23) ⟨rfl,rfl,rfl,trivial⟩
    refine cf h16 ?_
    refine Qaz ?_
    refine bm ?_
    refine qr (am (aw xa (aa (nwq [4,3,0] ?_))))
    exact Qm (ih _ _ _ hF K p6 c7) ⟨rfl,rfl,rfl,trivial⟩
   refine cf h10 ?_
   refine Q1 ?_
   refine te (te ?_)
   obtain rfl:=os hF
   exact Qm (K p6 c7) ⟨rfl,trivial⟩
 skip
 intro p8 c9
 refine Qw ?_
 refine tn (sr (am (aa (nwq [2] ?_))))
 refine qt ?_
 have K:=os hF
 subst K
 exact r1 (fun w1 hw=>⟨p8,c9,rfl,hw.own .z,hw.below⟩)
def Qae.l0(x0:List Qd)(x1:Int)(i2:Int)(i3:Int):Option (Int) :=
 if (decide (i3<(x0.length:Int)))=true then (if (i3 != x1)=true then (if (0:Int)≤i3∧i3<(x0.length:Int) then if (0:Int)≤x1∧x1<(x0.length:Int) then Qbg ((lget x0 i3).f_P) ((lget x0 x1).f_P)>>=fun t14=>if t14=true then (if (decide (i2<0))=true then (Qae.l0 x0 x1 i3 (wr .i64 (i3+1))) else (if (0:Int)≤i3∧i3<(x0.length:Int) then if (0:Int)≤i2∧i2<(x0.length:Int) then if (decide (((lget x0 i3).f_P).f_Bits>((lget x0 i2).f_P).f_Bits))=true then (Qae.l0 x0 x1 i3 (wr .i64 (i3+1))) else (Qae.l0 x0 x1 i2 (wr .i64 (i3+1))) else none else none)) else (Qae.l0 x0 x1 i2 (wr .i64 (i3+1))) else none else none) else (Qae.l0 x0 x1 i2 (wr .i64 (i3+1)))) else (some i2)
 partial_fixpoint
def Qae(x0:List Qd)(x1:Int):Option (Bool) :=
 Qae.l0 x0 x1 (-1) 0>>=fun q1=>if (decide (q1≥0))=true then (if (0:Int)≤q1∧q1<(x0.length:Int) then if (0:Int)≤x1∧x1<(x0.length:Int) then some ((lget x0 q1).f_Owner==(lget x0 x1).f_Owner) else none else none) else (some false)
theorem Qfc(x0:List Qd)(p0_:Option Addr)(c0_:Nat)(x1:Int)(r:Bool)(hF:Qae x0 x1=some r)(w:World)(hr0:Row Qg w p0_ c0_ x0) :
    Calls Tryz.prog 80 #[.slice p0_ x0.length c0_,.int .i64 x1] w (fun e w'=>e=.returned (.bool r)∧Below w.heap.size w w'):=by
 unfold Qae at hF
 refine ce (l:=[.slice p0_ x0.length c0_,.int .i64 x1]) func80 rfl rfl ?_
 refine QN ?_
 refine sr (aa (ns (aa (nt (qs (sr (aa (nwq [6,5,1,0] ?_))))))))
 refine qb ?_
 obtain ⟨q1,hq1,hF⟩:=bM hF
 refine wq [6,5,1,0] ?_
 refine Q5 (B:=0) (A:=fun Y=>At 64 [(0,.slice p0_ x0.length c0_),(1,.int .i64 x1),(5,.int .i64 q1)] (Wd w []) Y) ?_ ?_
 ·intro K
  refine Qae.l0.partial_correctness x0 x1 (motive:=fun i2 i3 x=>KN (fun Y=>At 64 [(0,.slice p0_ x0.length c0_),(1,.int .i64 x1),(5,.int .i64 x)] (Wd w []) Y) _ 0→Round (fun Y=>At 64 [(0,.slice p0_ x0.length c0_),(1,.int .i64 x1),(5,.int .i64 i2),(6,.int .i64 i3)] (Wd w []) Y) _ _ _) ?_ _ _ _ hq1 K
  ·clear K hF
   intro g ih i2 i3 x hF K
   refine QS ?_
   refine qs (sr (am (am ?_)))
   refine aw (Q6 underlying46 rfl) ?_
   refine aw xl (nwq [10,6,5,1,0] ?_)
   obtain ⟨h4,hF⟩|⟨h4,hF⟩:=oi hF
   ·refine ct h4 ?_
    refine sn (qs ?_)
    refine qb ?_
    refine qs ?_
    refine Qb4 (by kernel_rfl) (by kernel_rfl) (fun _ h=>h.drew) ?_
    refine Qk rfl rfl rfl (Qaf rfl) ?_
    refine Qk rfl rfl rfl (Qaf rfl) ?_
    refine Qk rfl rfl rfl (r_ineq rfl rfl) ?_
    refine Qk rfl rfl rfl (Qaf rfl) ?_
    obtain ⟨h5,hF⟩|⟨h5,hF⟩:=oi hF
    ·refine Qa0 (g:=16) rfl h5 ?_
     refine Qi rfl rfl rfl ?_
     refine Qk rfl rfl rfl (Qaf rfl) ?_
     refine Qi rfl rfl rfl ?_
     refine Qk rfl rfl rfl (Qaf rfl) ?_
     refine Qi rfl rfl rfl ?_
     obtain ⟨h6,hF⟩:=gd hF
     obtain ⟨b8,o9,hp7⟩:=QR hr0 h6
     refine Qk rfl rfl rfl (r_idx underlying46 sizeOf49 rfl rfl h6 hp7) ?_
     refine Qi rfl rfl rfl ?_
     refine Qk rfl rfl rfl (QJ (fo:=0) underlying49 rfl rfl (fun w=>⟨_,sizeOf38 w⟩) rfl) ?_
     refine Qi rfl rfl rfl ?_
     refine Qk rfl rfl rfl (Qe (c:=Qa) (z:=(lget x0 i3).f_P) isAgg38 sizeOf38 rfl (QbH (y:=(lget x0 i3).f_P) (fun _ h=>h.below) hr0 h6 hp7 (Lens.comp lw (fun z=>{ (lget x0 i3) with f_P:=z }) (QQ (lget x0 i3))))) ?_
     refine Qi rfl rfl rfl ?_
     refine Qk rfl rfl rfl (Qaf rfl) ?_
     refine Qi rfl rfl rfl ?_
     refine Qk rfl rfl rfl (Qaf rfl) ?_
     refine Qi rfl rfl rfl ?_
     obtain ⟨h10,hF⟩:=gd hF
     obtain ⟨b12,o13,hp11⟩:=QR hr0 h10
     refine Qk rfl rfl rfl (r_idx underlying46 sizeOf49 rfl rfl h10 hp11) ?_
     refine Qi rfl rfl rfl ?_
     refine Qk rfl rfl rfl (QJ (fo:=0) underlying49 rfl rfl (fun w=>⟨_,sizeOf38 w⟩) rfl) ?_
     refine Qi rfl rfl rfl ?_
     refine Qk rfl rfl rfl (Qe (c:=Qa) (z:=(lget x0 x1).f_P) isAgg38 sizeOf38 rfl (QbH (y:=(lget x0 x1).f_P) (fun _ h=>h.below) hr0 h10 hp11 (Lens.comp lw (fun z=>{ (lget x0 x1) with f_P:=z }) (QQ (lget x0 x1))))) ?_
     refine Qi rfl rfl rfl ?_
     obtain ⟨t14,ht14,hF⟩:=bM hF
     refine Qbb func77 rfl (by kernel_rfl) rfl rfl (fun w hw=>(Qdi _ _ _ ht14 w).mono fun _ _ h=>⟨h.1,hw.call h.2⟩) ?_
     refine Qk rfl rfl rfl (Qa4 rfl rfl rfl) ?_
     refine Qk rfl rfl rfl (Qaf rfl) ?_
     obtain ⟨h15,hF⟩|⟨h15,hF⟩:=oi hF
     ·refine Qa0 (g:=29) rfl h15 ?_
      refine Qi rfl rfl rfl ?_
      refine Qk rfl rfl rfl (Qaf rfl) ?_
      refine Qi rfl rfl rfl ?_
      refine Qk rfl rfl rfl (r_ilss rfl rfl) ?_
      refine Qi rfl rfl rfl ?_
      refine Qk rfl rfl rfl (Qaf rfl) ?_
      obtain ⟨h16,hF⟩|⟨h16,hF⟩:=oi hF
      ·refine Qa0 (g:=32) rfl h16 ?_
       refine Qj rfl rfl rfl rfl rfl ?_
       refine Qj rfl rfl rfl rfl rfl ?_
       refine Qj rfl rfl rfl rfl rfl ?_
       refine Qj rfl rfl rfl rfl rfl ?_
       refine Qj rfl rfl rfl rfl rfl ?_
       refine Qj rfl rfl rfl rfl rfl ?_
       refine Qj rfl rfl rfl rfl rfl ?_
       refine Qj rfl rfl rfl rfl rfl ?_
       refine Qj rfl rfl rfl rfl rfl ?_
       refine Qj rfl rfl rfl rfl rfl ?_
       refine Qj rfl rfl rfl rfl rfl ?_
       refine Qj rfl rfl rfl rfl rfl ?_
       refine Qj rfl rfl rfl rfl rfl ?_
       refine Qi rfl rfl rfl ?_
       refine Qk rfl rfl rfl (Qa4 rfl rfl rfl) ?_
       refine Qk rfl rfl rfl (Qa4 rfl rfl rfl) ?_
       refine QaX ?_
       refine wq [47,6,5,1,0] ?_
       refine tn ?_
       refine ct rfl ?_
       refine qr (am (aa (qn (wq [6,5,1,0] ?_))))
       refine bm ?_
       refine qr (am (aw xa (aa (nwq [6,5,1,0] ?_))))
       exact Qm (ih _ _ _ hF K) ⟨rfl,rfl,rfl,rfl,trivial⟩
      refine Qa0 (g:=32) rfl h16 ?_
      refine Qi rfl rfl rfl ?_
      refine Qk rfl rfl rfl (Qaf rfl) ?_
      refine Qi rfl rfl rfl ?_
      refine Qk rfl rfl rfl (Qaf rfl) ?_
      refine Qi rfl rfl rfl ?_
      obtain ⟨h17,hF⟩:=gd hF
      obtain ⟨b19,o20,hp18⟩:=QR hr0 h17
      refine Qk rfl rfl rfl (r_idx underlying46 sizeOf49 rfl rfl h17 hp18) ?_
      refine Qi rfl rfl rfl ?_
      refine Qk rfl rfl rfl (QJ (fo:=0) underlying49 rfl rfl (fun w=>⟨_,sizeOf38 w⟩) rfl) ?_
      refine Qi rfl rfl rfl ?_
      refine Qk rfl rfl rfl (QJ (fo:=17) underlying38 rfl rfl (fun w=>⟨_,sizeOf3 w⟩) rfl) ?_
      refine Qi rfl rfl rfl ?_
      refine Qk rfl rfl rfl (Ql isAgg3 rfl (QbK (y:=((lget x0 i3).f_P).f_Bits) (fun _ h=>h.below) hr0 h17 hp18 (Lens.comp (Lens.comp lw (fun z=>{ (lget x0 i3) with f_P:=z }) (QQ (lget x0 i3))) (fun z=>{ (lget x0 i3).f_P with f_Bits:=z }) (QE ((lget x0 i3).f_P))) rfl)) ?_
      refine Qi rfl rfl rfl ?_
      refine Qk rfl rfl rfl (Qaf rfl) ?_
      refine Qi rfl rfl rfl ?_
      refine Qk rfl rfl rfl (Qaf rfl) ?_
      refine Qi rfl rfl rfl ?_
      obtain ⟨h21,hF⟩:=gd hF
      obtain ⟨b23,o24,hp22⟩:=QR hr0 h21
      refine Qk rfl rfl rfl (r_idx underlying46 sizeOf49 rfl rfl h21 hp22) ?_
      refine Qi rfl rfl rfl ?_
      refine Qk rfl rfl rfl (QJ (fo:=0) underlying49 rfl rfl (fun w=>⟨_,sizeOf38 w⟩) rfl) ?_
      refine Qi rfl rfl rfl ?_
      refine Qk rfl rfl rfl (QJ (fo:=17) underlying38 rfl rfl (fun w=>⟨_,sizeOf3 w⟩) rfl) ?_
      refine Qi rfl rfl rfl ?_
      refine Qk rfl rfl rfl (Ql isAgg3 rfl (QbK (y:=((lget x0 i2).f_P).f_Bits) (fun _ h=>h.below) hr0 h21 hp22 (Lens.comp (Lens.comp lw (fun z=>{ (lget x0 i2) with f_P:=z }) (QQ (lget x0 i2))) (fun z=>{ (lget x0 i2).f_P with f_Bits:=z }) (QE ((lget x0 i2).f_P))) rfl)) ?_
      refine Qi rfl rfl rfl ?_
      refine Qk rfl rfl rfl (QcK rfl rfl) ?_
      refine Qi rfl rfl rfl ?_
      refine Qk rfl rfl rfl (Qa4 rfl rfl rfl) ?_
      refine Qk rfl rfl rfl (Qa4 rfl rfl rfl) ?_
      refine QaX ?_
      refine wq [47,6,5,1,0] ?_
      refine tn ?_
      obtain ⟨h25,hF⟩|⟨h25,hF⟩:=oi hF
      ·refine ct h25 ?_
       refine qr (am (aa (qn (wq [6,5,1,0] ?_))))
       refine bm ?_
       refine qr (am (aw xa (aa (nwq [6,5,1,0] ?_))))
       exact Qm (ih _ _ _ hF K) ⟨rfl,rfl,rfl,rfl,trivial⟩
      refine cf h25 ?_
      refine Qaz ?_
      refine bm ?_
      refine qr (am (aw xa (aa (nwq [6,5,1,0] ?_))))
      exact Qm (ih _ _ _ hF K) ⟨rfl,rfl,rfl,rfl,trivial⟩
     refine Qa0 (g:=29) rfl h15 ?_
     refine Qj rfl rfl rfl rfl rfl ?_
     refine Qj rfl rfl rfl rfl rfl ?_
     refine Qj rfl rfl rfl rfl rfl ?_
     refine Qv rfl rfl rfl rfl ?_
     refine Qv rfl rfl rfl rfl ?_
     refine Qv rfl rfl rfl rfl ?_
     refine Qv rfl rfl rfl rfl ?_
     refine Qv rfl rfl rfl rfl ?_
     refine Qv rfl rfl rfl rfl ?_
     refine Qv rfl rfl rfl rfl ?_
     refine Qv rfl rfl rfl rfl ?_
     refine Qv rfl rfl rfl rfl ?_
     refine Qv rfl rfl rfl rfl ?_
     refine Qv rfl rfl rfl rfl ?_
     refine Qv rfl rfl rfl rfl ?_
     refine Qv rfl rfl rfl rfl ?_
     refine Qj rfl rfl rfl rfl rfl ?_
     refine Qk rfl rfl rfl (Qa4 rfl rfl rfl) ?_
     refine QaX ?_
     refine wq [47,6,5,1,0] ?_
     refine tn ?_
     refine cf rfl ?_
     refine Qaz ?_
     refine bm ?_
     refine qr (am (aw xa (aa (nwq [6,5,1,0] ?_))))
     exact Qm (ih _ _ _ hF K) ⟨rfl,rfl,rfl,rfl,trivial⟩
    refine Qa0 (g:=16) rfl h5 ?_
    refine Qj rfl rfl rfl rfl rfl ?_
    refine Qj rfl rfl rfl rfl rfl ?_
    refine Qj rfl rfl rfl rfl rfl ?_
    refine Qj rfl rfl rfl rfl rfl ?_
    refine Qj rfl rfl rfl rfl rfl ?_
    refine Qj rfl rfl rfl rfl rfl ?_
    refine Qj rfl rfl rfl rfl rfl ?_
    refine Qj rfl rfl rfl rfl rfl ?_
    refine Qj rfl rfl rfl rfl rfl ?_
    refine Qj rfl rfl rfl rfl rfl ?_
    refine Qj rfl rfl rfl rfl rfl ?_
    refine Qk rfl rfl rfl (Qa4 rfl rfl rfl) ?_
    refine Qk rfl rfl rfl (Qaf rfl) ?_
    refine Qj rfl rfl rfl rfl rfl ?_
    refine Qj rfl rfl rfl rfl rfl ?_
    refine Qj rfl rfl rfl rfl rfl ?_
    refine Qv rfl rfl rfl rfl ?_
    refine Qv rfl rfl rfl rfl ?_
    refine Qv rfl rfl rfl rfl ?_
    refine Qv rfl rfl rfl rfl ?_
    refine Qv rfl rfl rfl rfl ?_
    refine Qv rfl rfl rfl rfl ?_
    refine Qv rfl rfl rfl rfl ?_
    refine Qv rfl rfl rfl rfl ?_
    refine Qv rfl rfl rfl rfl ?_
    refine Qv rfl rfl rfl rfl ?_
    refine Qv rfl rfl rfl rfl ?_
    refine Qv rfl rfl rfl rfl ?_
    refine Qv rfl rfl rfl rfl ?_
    refine Qj rfl rfl rfl rfl rfl ?_
    refine Qk rfl rfl rfl (Qa4 rfl rfl rfl) ?_
    refine QaX ?_
    refine wq [47,6,5,1,0] ?_
    refine tn ?_
    refine cf rfl ?_
    refine Qaz ?_
    refine bm ?_
    refine qr (am (aw xa (aa (nwq [6,5,1,0] ?_))))
    exact Qm (ih _ _ _ hF K) ⟨rfl,rfl,rfl,rfl,trivial⟩
   refine cf h4 ?_
   refine Q1 ?_
   refine te (te ?_)
   obtain rfl:=os hF
   exact Qm K ⟨rfl,rfl,rfl,trivial⟩
 skip
 skip
 refine Qw ?_
 refine tn (qs ?_)
 refine Qb4 (by kernel_rfl) (by kernel_rfl) (fun _ h=>h.drew) ?_
 refine Qk rfl rfl rfl (Qaf rfl) ?_
 refine Qk rfl rfl rfl (Qei rfl rfl) ?_
 refine Qk rfl rfl rfl (Qaf rfl) ?_
 obtain ⟨h26,hF⟩|⟨h26,hF⟩:=oi hF
 ·refine Qa0 (g:=51) rfl h26 ?_
  refine Qi rfl rfl rfl ?_
  refine Qk rfl rfl rfl (Qaf rfl) ?_
  refine Qi rfl rfl rfl ?_
  refine Qk rfl rfl rfl (Qaf rfl) ?_
  refine Qi rfl rfl rfl ?_
  obtain ⟨h27,hF⟩:=gd hF
  obtain ⟨b29,o30,hp28⟩:=QR hr0 h27
  refine Qk rfl rfl rfl (r_idx underlying46 sizeOf49 rfl rfl h27 hp28) ?_
  refine Qi rfl rfl rfl ?_
  refine Qk rfl rfl rfl (QJ (fo:=18) underlying49 rfl rfl (fun w=>⟨_,sizeOf3 w⟩) rfl) ?_
  refine Qi rfl rfl rfl ?_
  refine Qk rfl rfl rfl (Ql isAgg3 rfl (QbK (y:=(lget x0 q1).f_Owner) (fun _ h=>h.below) hr0 h27 hp28 (Lens.comp lw (fun z=>{ (lget x0 q1) with f_Owner:=z }) (QbB (lget x0 q1))) rfl)) ?_
  refine Qi rfl rfl rfl ?_
  refine Qk rfl rfl rfl (Qaf rfl) ?_
  refine Qi rfl rfl rfl ?_
  refine Qk rfl rfl rfl (Qaf rfl) ?_
  refine Qi rfl rfl rfl ?_
  obtain ⟨h31,hF⟩:=gd hF
  obtain ⟨b33,o34,hp32⟩:=QR hr0 h31
  refine Qk rfl rfl rfl (r_idx underlying46 sizeOf49 rfl rfl h31 hp32) ?_
  refine Qi rfl rfl rfl ?_
  refine Qk rfl rfl rfl (QJ (fo:=18) underlying49 rfl rfl (fun w=>⟨_,sizeOf3 w⟩) rfl) ?_
  refine Qi rfl rfl rfl ?_
  refine Qk rfl rfl rfl (Ql isAgg3 rfl (QbK (y:=(lget x0 x1).f_Owner) (fun _ h=>h.below) hr0 h31 hp32 (Lens.comp lw (fun z=>{ (lget x0 x1) with f_Owner:=z }) (QbB (lget x0 x1))) rfl)) ?_
  refine Qi rfl rfl rfl ?_
  refine Qk rfl rfl rfl (r_ieql rfl rfl) ?_
  refine Qk rfl rfl rfl (Qa4 rfl rfl rfl) ?_
  refine Qk rfl rfl rfl (QbV rfl) ?_
  refine QaX ?_
  refine wq [4] ?_
  refine tn (qt ?_)
  have K:=os hF
  subst K
  exact r1 wb
 refine Qa0 (g:=51) rfl h26 ?_
 refine Qj rfl rfl rfl rfl rfl ?_
 refine Qj rfl rfl rfl rfl rfl ?_
 refine Qj rfl rfl rfl rfl rfl ?_
 refine Qj rfl rfl rfl rfl rfl ?_
 refine Qj rfl rfl rfl rfl rfl ?_
 refine Qj rfl rfl rfl rfl rfl ?_
 refine Qj rfl rfl rfl rfl rfl ?_
 refine Qj rfl rfl rfl rfl rfl ?_
 refine Qj rfl rfl rfl rfl rfl ?_
 refine Qj rfl rfl rfl rfl rfl ?_
 refine Qj rfl rfl rfl rfl rfl ?_
 refine Qk rfl rfl rfl (Qa4 rfl rfl rfl) ?_
 refine Qk rfl rfl rfl (QbV rfl) ?_
 refine QaX ?_
 refine wq [4] ?_
 refine tn (qt ?_)
 have K:=os hF
 subst K
 exact r1 wb
def Qau.l0(t1:List Qd)(i7:List Qd)(i9:Int):Option (List Qd) :=
 if (decide (i9<(t1.length:Int)))=true then (Qae t1 i9>>=fun t15=>if (!t15)=true then (if (0:Int)≤i9∧i9<(t1.length:Int) then if (i7.length+1)*40≤140737488355328 then Qau.l0 t1 (i7++[lget t1 i9]) (wr .i64 (i9+1)) else none else none) else (Qau.l0 t1 i7 (wr .i64 (i9+1)))) else (some i7)
 partial_fixpoint
def Qau(x0:List Qd):Option (List Qd) :=
 QaB x0>>=fun t1=>Qau.l0 t1 ([]:List Qd) 0>>=fun q6=>some q6
theorem QfD(x0:List Qd)(p0_:Option Addr)(c0_:Nat)(r:List Qd)(hF:Qau x0=some r)(w:World)(hr0:Row Qg w p0_ c0_ x0) :
    Calls Tryz.prog 53 #[.slice p0_ x0.length c0_] w (fun e w'=>∃ p cap,e=.returned (.slice p r.length cap)∧Own Qg 49 w.heap.size w' p cap r∧Below w.heap.size w w'):=by
 unfold Qau at hF
 refine ce (l:=[.slice p0_ x0.length c0_]) func53 rfl rfl ?_
 refine QN ?_
 refine sr (aa (ns (am ?_)))
 obtain ⟨t1,ht1,hF⟩:=bM hF
 refine Qca (c:=Qg) (e:=49) (ys:=t1) (V:=fun p cap=>.slice p t1.length cap) func79 rfl (by kernel_rfl) rfl rfl (fun w hw=>Qgb _ _ _ _ ht1 w (hr0.below hw.below)) ?_
 intro p2 c3
 refine aa (ns (aa (nt (qs (sr (aa (nwq [5,4,3] ?_)))))))
 refine qb ?_
 refine Qbd Qg 49 ?_
 obtain ⟨q6,hq6,hF⟩:=bM hF
 refine wq [5,4,3] ?_
 refine Q5 (B:=0) (A:=fun Y=>∀ (p12:Option Addr) (c13:Nat),At 26 [(4,.slice p12 q6.length c13)] (Wd w [rowE Qg 49 p12 c13 q6]) Y) ?_ ?_
 ·intro K
  refine Qau.l0.partial_correctness t1 (motive:=fun i7 i9 x=>KN (fun Y=>∀ (p12:Option Addr) (c13:Nat),At 26 [(4,.slice p12 x.length c13)] (Wd w [rowE Qg 49 p12 c13 x]) Y) _ 0→Round (fun Y=>∀ (p10:Option Addr) (c11:Nat),At 26 [(3,.slice p2 t1.length c3),(4,.slice p10 i7.length c11),(5,.int .i64 i9)] (Wd w [rowE Qg 49 p10 c11 i7,rowE Qg 49 p2 c3 t1]) Y) _ _ _) ?_ _ _ _ hq6 K none 0
  ·clear K hF
   intro g ih i7 i9 x hF K p10 c11
   refine QS ?_
   refine qs (sr (am (am ?_)))
   refine aw (Q6 underlying46 rfl) ?_
   refine aw xl (nwq [11,5,4,3] ?_)
   obtain ⟨h14,hF⟩|⟨h14,hF⟩:=oi hF
   ·refine ct h14 ?_
    refine sn (qs ?_)
    refine qb ?_
    refine sr (am (am ?_))
    obtain ⟨t15,ht15,hF⟩:=bM hF
    refine cB func80 rfl (fun w hw=>Qfc _ _ _ _ _ ht15 w (hw.own (.s .z)).row) ?_
    refine aw (r_not rfl) ?_
    refine nwq [17,5,4,3] ?_
    obtain ⟨h16,hF⟩|⟨h16,hF⟩:=oi hF
    ·refine ct h16 ?_
     refine qr (am (am (am ?_)))
     obtain ⟨h17,hF⟩:=gd hF
     refine QaU (φ:=∃ b o,p2=some ⟨b,o,none⟩) (fun _ hw=>QR (hw.own (.s .z)).row h17) ?_
     rintro ⟨b19,o20,hp18⟩
     refine aw (r_idx underlying46 sizeOf49 rfl rfl h17 hp18) ?_
     refine aw (Qe (c:=Qg) (z:=lget t1 i9) isAgg49 sizeOf49 rfl (fun w1 hw=>QaF (W:=fun w1=>w1=_) (fun w1 h=>by subst h;exact Below.refl _ _) (hw.own (.s .z)).row h17 hp18 _ rfl)) ?_
     refine Qbu (c:=Qg) ([zv13]:List Qd) ([lget t1 i9]:List Qd) underlying46 sizeOf49 zeroValue49 rfl rfl rfl (by kernel_rfl) (QI (c:=Qg) (z:=lget t1 i9) rfl (Lens.all Qg ([zv13]:List Qd) 0 (by first | decide | exact Nat.le_of_ble_eq_true rfl)) rfl rfl) rfl ?_
     intro b21
     obtain ⟨h22,hF⟩:=gd hF
     refine Qax (z:=.agg (Cd.cs Qg zv13).toArray) (c:=Qg) (ys:=([lget t1 i9]:List Qd)) (.s .z) underlying46 infoF249 (by kernel_rfl) (by kernel_rfl) rfl rfl rfl rfl (fun _ hw=>Qaw (hw.ok (Upd.mem .z))) (by kernel_rfl) h22 (Qaj h22) rfl ?_
     intro p23 c24
     refine aa (qn (dz (wq [5,4,3] ?_)))
     refine bm ?_
     refine qr (am (aw xa (aa (nwq [5,4,3] ?_))))
     exact Qm (ih _ _ _ hF K p23 c24) ⟨rfl,rfl,rfl,trivial⟩
    refine cf h16 ?_
    refine Qaz ?_
    refine bm ?_
    refine qr (am (aw xa (aa (nwq [5,4,3] ?_))))
    exact Qm (ih _ _ _ hF K p10 c11) ⟨rfl,rfl,rfl,trivial⟩
   refine cf h14 ?_
   refine Q1 ?_
   refine te (te ?_)
   refine Qal (H:=_) (.s .z) ?_
   obtain rfl:=os hF
   exact Qm (K p10 c11) ⟨rfl,trivial⟩
 skip
 intro p12 c13
 refine Qw ?_
 refine tn (sr (am (aa (nwq [2] ?_))))
 refine qt ?_
 have K:=os hF
 subst K
 exact r1 (fun w1 hw=>⟨p12,c13,rfl,hw.own .z,hw.below⟩)
end Go.Proofs.YtahlbjmafceoeaaGreatDoor
namespace Go.Proofs.YtahlbjmafceoeaaGreatDoor
open E Go.RowKit _root_.Go.Proofs.Tryz
def QeB(x0:Qd)(x1:Qd):Option (Int) :=
 Qc0 x0.f_P x1.f_P>>=fun t3=>if t3=true then (some (-1)) else (Qc0 x1.f_P x0.f_P>>=fun t5=>if t5=true then (some 1) else (some 0))
theorem flat_Own_2_ok(x0:Qd)(x1:Qd)(r:Int)(hF:QeB x0 x1=some r)(w:World) :
    Calls Tryz.prog 97 #[.agg (Cd.cs Qg x0).toArray,.agg (Cd.cs Qg x1).toArray] w (fun e w'=>e=.returned (.int .i64 r)∧Below w.heap.size w w'):=by
 unfold QeB at hF
 refine ce (l:=[.agg (Cd.cs Qg x0).toArray,.agg (Cd.cs Qg x1).toArray]) func97 rfl rfl ?_
 refine QN ?_
 refine sr ?_
 refine Qag (cs:=Cd.cs Qg x0) rfl rfl rfl ?_
 intro b1
 refine Qag (cs:=Cd.cs Qg x1) rfl rfl rfl ?_
 intro b2
 refine aa (nwq [3,2] ?_)
 refine qs ?_
 refine qb ?_
 refine sr (fa 0 underlying49 rfl sizeOf38 ?_)
 refine aw (Qe (c:=Qa) (z:=x0.f_P) isAgg38 sizeOf38 rfl (Qp (.s .z) (Lens.comp lw (fun z=>{ x0 with f_P:=z }) (QQ x0)))) ?_
 refine fa 0 underlying49 rfl sizeOf38 ?_
 refine aw (Qe (c:=Qa) (z:=x1.f_P) isAgg38 sizeOf38 rfl (Qp .z (Lens.comp lw (fun z=>{ x1 with f_P:=z }) (QQ x1)))) ?_
 obtain ⟨t3,ht3,hF⟩:=bM hF
 refine cB func70 rfl (fun w hw=>QdF _ _ _ ht3 w) ?_
 refine aa (nwq [5,3,2] ?_)
 obtain ⟨h4,hF⟩|⟨h4,hF⟩:=oi hF
 ·refine ct h4 ?_
  refine sr (aa (qn (dz (dz (wq [4] ?_)))))
  refine tn (qt ?_)
  refine br (tr ?_)
  have K:=os hF
  subst K
  exact r1 wb
 refine cf h4 ?_
 refine sr (fa 0 underlying49 rfl sizeOf38 ?_)
 refine aw (Qe (c:=Qa) (z:=x1.f_P) isAgg38 sizeOf38 rfl (Qp .z (Lens.comp lw (fun z=>{ x1 with f_P:=z }) (QQ x1)))) ?_
 refine fa 0 underlying49 rfl sizeOf38 ?_
 refine aw (Qe (c:=Qa) (z:=x0.f_P) isAgg38 sizeOf38 rfl (Qp (.s .z) (Lens.comp lw (fun z=>{ x0 with f_P:=z }) (QQ x0)))) ?_
 obtain ⟨t5,ht5,hF⟩:=bM hF
 refine cB func70 rfl (fun w hw=>QdF _ _ _ ht5 w) ?_
 refine aa (qn (dz (dz (wq [11] ?_))))
 refine tn ?_
 obtain ⟨h6,hF⟩|⟨h6,hF⟩:=oi hF
 ·refine ct h6 ?_
  refine sr (aa (nwq [4] ?_))
  refine qt ?_
  refine br (tr ?_)
  have K:=os hF
  subst K
  exact r1 wb
 refine cf h6 ?_
 refine Qaz ?_
 refine bm ?_
 refine sr (aa (nwq [4] ?_))
 refine qt ?_
 have K:=os hF
 subst K
 exact r1 wb
def QfZ(x0:Qd)(x1:Qd):Option (Bool) :=
 some (decide (x0.f_P=x1.f_P))
theorem flat_Own_1_ok(x0:Qd)(b1_:Nat)(x1:Qd)(r:Bool)(hF:QfZ x0 x1=some r)(w:World)(hc1:Row Qg w (some ⟨b1_,0,none⟩) 1 [x1]) :
    Calls Tryz.prog 95 #[.agg (Cd.cs Qg x0).toArray,.pointer (some ⟨b1_,0,none⟩)] w (fun e w'=>e=.returned (.bool r)∧Below w.heap.size w w'):=by
 unfold QfZ at hF
 refine ce (l:=[.agg (Cd.cs Qg x0).toArray,.pointer (some ⟨b1_,0,none⟩)]) func95 rfl rfl ?_
 refine QN ?_
 refine sr ?_
 refine Qag (cs:=Cd.cs Qg x0) rfl rfl rfl ?_
 intro b1
 refine aa (ns (fa 0 underlying49 rfl sizeOf38 ?_))
 refine aw (Qe (c:=Qa) (z:=x0.f_P) isAgg38 sizeOf38 rfl (Qp .z (Lens.comp lw (fun z=>{ x0 with f_P:=z }) (QQ x0)))) ?_
 refine fa 0 underlying49 rfl sizeOf38 ?_
 refine aw (Qe (c:=Qa) (z:=x1.f_P) isAgg38 sizeOf38 rfl (QbH (y:=x1.f_P) (fun _ h=>h.below) hc1 one_in rfl (Lens.comp lw (fun z=>{ x1 with f_P:=z }) (QQ x1)))) ?_
 refine aw (Qbz (c:=Qa) (a:=x0.f_P) (b:=x1.f_P) (Qap) rfl Tryz.eqGuardType38 rfl rfl (.inl rfl) rfl) ?_
 refine aa (qn (dz (wq [3] ?_)))
 refine tn (qt ?_)
 have K:=os hF
 subst K
 exact r1 wb
def QP.l0(x0:List Qd)(x1_0:Qd)(i2:Int):Option (Ctl (Int) (Unit)) :=
 if (decide (i2<(x0.length:Int)))=true then (if (0:Int)≤i2∧i2<(x0.length:Int) then QfZ (lget x0 i2) x1_0>>=fun t8=>if t8=true then (some (.ret i2)) else (QP.l0 x0 x1_0 (wr .i64 (i2+1))) else none) else (some (.nx ()))
 partial_fixpoint
def QP(x0:List Qd)(x1_0:Qd):Option (Int) :=
 QP.l0 x0 x1_0 0>>=fun q1=>match q1 with | .ret r'=>some r' | .nx sq1=>(some (-1))
theorem QcE(x0:List Qd)(p0_:Option Addr)(c0_:Nat)(b1_0:Nat)(x1_0:Qd)(r:Int)(hF:QP x0 x1_0=some r)(w:World)(hr0:Row Qg w p0_ c0_ x0)(hc1_0:Row Qg w (some ⟨b1_0,0,none⟩) 1 [x1_0]) :
    Calls Tryz.prog 125 #[.slice p0_ x0.length c0_,.func (.func 95) #[] #[.pointer (some ⟨b1_0,0,none⟩)]] w (fun e w'=>e=.returned (.int .i64 r)∧Below w.heap.size w w'):=by
 unfold QP at hF
 refine ce (l:=[.slice p0_ x0.length c0_,.func (.func 95) #[] #[.pointer (some ⟨b1_0,0,none⟩)]]) func125 rfl rfl ?_
 refine QN ?_
 refine sr (aa (nt (qs (sr (am ?_)))))
 refine aw (Q6 underlying46 rfl) ?_
 refine am (nwq [8,7,1,0] ?_)
 refine qb ?_
 obtain ⟨q1,hq1,hF⟩:=bM hF
 refine wq [8,7,1,0] ?_
 refine QbG (B:=0) (r:=r) (q:=q1) (A:=fun (_:Unit) Y=>At 19 [] (Wd w []) Y) ?_ ?_
 ·intro K
  refine QP.l0.partial_correctness x0 x1_0 (motive:=fun i2 x=>KR (fun (_:Unit) Y=>At 19 [] (Wd w []) Y) _ 0 r x→Round (fun Y=>At 19 [(0,.slice p0_ x0.length c0_),(1,.func (.func 95) #[] #[.pointer (some ⟨b1_0,0,none⟩)]),(7,.int .i64 (x0.length:Int)),(8,.int .i64 i2)] (Wd w []) Y) _ _ _) ?_ _ _ hq1 K
  ·clear K hF
   intro g ih i2 x hF K
   refine QS ?_
   refine sr (aw xl (nwq [9,8,7,1,0] ?_))
   refine qs ?_
   obtain ⟨h3,hF⟩|⟨h3,hF⟩:=oi hF
   ·refine ct h3 ?_
    refine sn (qs ?_)
    refine qb ?_
    refine sr (am (aa (nwx [8,7,5,1,0] ?_)))
    refine am (am (am ?_))
    obtain ⟨h4,hF⟩:=gd hF
    obtain ⟨b6,o7,hp5⟩:=QR hr0 h4
    refine aw (r_idx underlying46 sizeOf49 rfl rfl h4 hp5) ?_
    refine aw (Qe (c:=Qg) (z:=lget x0 i2) isAgg49 sizeOf49 rfl (QaF (fun _ h=>h.below) hr0 h4 hp5)) ?_
    refine at_calleeC (caps:=[.pointer (some ⟨b1_0,0,none⟩)]) rfl ?_
    obtain ⟨t8,ht8,hF⟩:=bM hF
    refine cB func95 rfl (fun w hw=>flat_Own_1_ok _ _ _ _ ht8 w (hc1_0.below hw.below)) ?_
    refine nwq [16,8,7,5,1,0] ?_
    obtain ⟨h9,hF⟩|⟨h9,hF⟩:=oi hF
    ·refine ct h9 ?_
     refine sr (am (aa (nwq [4] ?_)))
     refine qt ?_
     refine br (tr (tr (br (tr ?_))))
     obtain rfl:=os hF
     subst K
     exact r1 wb
    refine cf h9 ?_
    refine Qaz ?_
    refine bm ?_
    refine qr (aw xa (am (nwq [8,7,1,0] ?_)))
    exact Qm (ih _ _ hF K) ⟨rfl,rfl,rfl,rfl,trivial⟩
   refine cf h3 ?_
   refine Q1 ?_
   refine te (te ?_)
   obtain rfl:=os hF
   exact Qm K trivial
 cases q1 with
 | ret r'=>exact os hF
 | nx sq1 =>
  skip
  refine Qw ?_
  refine tn (sr (aa (nwq [4] ?_)))
  refine qt ?_
  have K:=os hF
  subst K
  exact r1 wb
def QaG(x0:List Qd)(x1_0:Qd):Option (Bool) :=
 QP x0 x1_0>>=fun t1=>some (decide (t1≥0))
theorem Qcu(x0:List Qd)(p0_:Option Addr)(c0_:Nat)(b1_0:Nat)(x1_0:Qd)(r:Bool)(hF:QaG x0 x1_0=some r)(w:World)(hr0:Row Qg w p0_ c0_ x0)(hc1_0:Row Qg w (some ⟨b1_0,0,none⟩) 1 [x1_0]) :
    Calls Tryz.prog 94 #[.slice p0_ x0.length c0_,.func (.func 95) #[] #[.pointer (some ⟨b1_0,0,none⟩)]] w (fun e w'=>e=.returned (.bool r)∧Below w.heap.size w w'):=by
 unfold QaG at hF
 refine ce (l:=[.slice p0_ x0.length c0_,.func (.func 95) #[] #[.pointer (some ⟨b1_0,0,none⟩)]]) func94 rfl rfl ?_
 refine QN ?_
 refine sr (aa (ns (am (am ?_))))
 obtain ⟨t1,ht1,hF⟩:=bM hF
 refine cB func125 rfl (fun w hw=>QcE _ _ _ _ _ _ ht1 w (hr0.below hw.below) (hc1_0.below hw.below)) ?_
 refine aw (Qei rfl rfl) ?_
 refine aa (nwq [4] ?_)
 refine qt ?_
 have K:=os hF
 subst K
 exact r1 wb
end Go.Proofs.YtahlbjmafceoeaaGreatDoor
namespace Go.Proofs.YtahlbjmafceoeaaGreatDoor
open E Go.RowKit
def ordE(x y:Qd):Int:=(QeB x y).getD 0
def lessE(x y:Qd):Bool:=lessP x.f_P y.f_P
theorem ordE_key(x y:Qd):QeB x y=some (if lessE x y=true then -1 else if lessE y x=true then 1 else 0):=by
 unfold QeB lessE
 rw [QfI,QfI]
 show (if lessP x.f_P y.f_P=true then some (-1) else (if lessP y.f_P x.f_P=true then some 1 else some 0))=_
 split
 ·rfl
 ·split<;>rfl
theorem ltOf_ordE:ltOf ordE=lessE:=by
 funext x y
 unfold ltOf ordE
 rw [ordE_key]
 show decide ((if lessE x y=true then (-1:Int) else if lessE y x=true then 1 else 0)<0)=_
 cases h:lessE x y
 ·rw [if_neg Bool.false_ne_true];split<;>rfl
 ·rfl
def okE(x:Qd):Prop:=okP x.f_P
theorem lessE_swo:SWOn okE lessE where
 irrefl x hx:=Qd8.irrefl _ hx
 trans x y z hx hy hz h1 h2:=Qd8.trans _ _ _ hx hy hz h1 h2
 ntrans x y z hx hy hz h1 h2:=Qd8.ntrans _ _ _ hx hy hz h1 h2
theorem nodup_on{α β:Type}{f:α→β}:∀ {l:List α},(l.map f).Nodup→∀ x∈l,∀ y∈l,f x=f y→x=y
 | [],_,x,hx,_,_,_=>by cases hx
 | a::l,h,x,hx,y,hy,e=>by
  rw [List.map_cons] at h
  obtain ⟨h1,h2⟩:=List.nodup_cons.1 h
  rcases List.mem_cons.1 hx with ex | hx
  ·rcases List.mem_cons.1 hy with ey | hy
   ·rw [ex,ey]
   ·rw [ex] at e
    exact absurd (List.mem_map.2 ⟨y,hy,e.symm⟩) h1
  ·rcases List.mem_cons.1 hy with ey | hy
   ·rw [ey] at e
    exact absurd (List.mem_map.2 ⟨x,hx,e⟩) h1
   ·exact nodup_on h2 x hx y hy e
def Qd1(xs:List Qd):Option (List Qd):=if (xs.all fun x=>okb x.f_P.f_A.f_B)=true∧(xs.map Qd.f_P).Nodup∧xs.length≤1000000 then some (isort lessE xs) else none
theorem Qgg{xs r:List Qd}(h:Qd1 xs=some r):r.length=xs.length:=by
 unfold Qd1 at h
 split at h
 ·cases h;exact Qdz _ _
 ·cases h
theorem sort_Entry_ok{xs r:List Qd}(h:Qd1 xs=some r){w0 w:World}{H G:List Ent}{f:Ent→List Ent}{p:Option Addr}{cap:Nat}(hu:Upd H (rowE Qg 49 p cap xs) f G)(hw:Wd w0 H w) :
  Calls Tryz.prog 96 #[.slice p xs.length cap,.func (.func 97) #[] #[]] w fun en w'=>en=.returned (.tuple #[])∧Wd w0 (f (rowE Qg 49 p cap r)) w':=by
 unfold Qd1 at h
 split at h
 ·next hh =>
  cases h
  have hK:∀ x∈xs,okE x:=fun x hx=>List.all_eq_true.1 hh.1 x hx
  have:=sort_calls Tryz.sortE Qg okE Tryz.isAgg49 Tryz.sizeOf49 ordE (by rw [ltOf_ordE];exact lessE_swo) 97 (enters_of Tryz.func97 (by kernel_rfl) rfl)
   (fun x y _ _ w=>flat_Own_2_ok _ _ _ (by unfold ordE;rw [ordE_key];rfl) w) hK (by rw [ltOf_ordE];exact fun x hx y hy h1 h2=>nodup_on hh.2.1 x hx y hy (lessP_anti (hK x hx) (hK y hy) h1 h2)) (by omega) hu hw
  rw [ltOf_ordE] at this
  exact this
 ·cases h
end Go.Proofs.YtahlbjmafceoeaaGreatDoor
namespace Go.Proofs.YtahlbjmafceoeaaGreatDoor
open E Go.RowKit _root_.Go.Proofs.Tryz
theorem infoF549_is:(Tryz.prog.info? 49).isSome=true:=by kernel_rfl
noncomputable def infoF549_v:TypeInfo:=(Tryz.prog.info? 49).get infoF549_is
theorem infoF549:Tryz.prog.info? 49=some infoF549_v:=(Option.some_get _).symm
def Qb9.l0(x0:List Qd)(i4:List Qd)(i5:Int):Option (List Qd) :=
 if (decide (i5<(x0.length:Int)))=true then (if (0:Int)≤i5∧i5<(x0.length:Int) then if (0:Int)≤wr .i64 (i5+1)∧wr .i64 (i5+1)≤(x0.length:Int)∧(x0.length:Int)≤(x0.length:Int) then QaG (lsub x0 (wr .i64 (i5+1)) (x0.length:Int)) (lget x0 i5)>>=fun t17=>QbM ((lget x0 i5).f_P)>>=fun t18=>if t18=true then (if (!t17)=true then (if (i4.length+1)*40≤140737488355328 then Qb9.l0 x0 (i4++[lget x0 i5]) (wr .i64 (i5+1)) else none) else (Qb9.l0 x0 i4 (wr .i64 (i5+1)))) else (Qb9.l0 x0 i4 (wr .i64 (i5+1))) else none else none) else (some i4)
 partial_fixpoint
def Qb9(x0:List Qd):Option (List Qd) :=
 Qb9.l0 x0 ([]:List Qd) 0>>=fun q3=>Qd1 q3>>=fun t25=>some t25
theorem flat_Own_ok(x0:List Qd)(p0_:Option Addr)(c0_:Nat)(r:List Qd)(hF:Qb9 x0=some r)(w:World)(hr0:Row Qg w p0_ c0_ x0) :
    Calls Tryz.prog 72 #[.slice p0_ x0.length c0_] w (fun e w'=>∃ p cap,e=.returned (.slice p r.length cap)∧Own Qg 49 w.heap.size w' p cap r∧Below w.heap.size w w'):=by
 unfold Qb9 at hF
 refine ce (l:=[.slice p0_ x0.length c0_]) func72 rfl rfl ?_
 refine QN ?_
 refine sr (aa (ns (aa (nt (qs (sr (am ?_)))))))
 refine aw (Q6 underlying46 rfl) ?_
 refine am (nwq [9,8,7,3,0] ?_)
 refine qb ?_
 refine Qbd Qg 49 ?_
 obtain ⟨q3,hq3,hF⟩:=bM hF
 refine wq [9,8,7,3,0] ?_
 refine Q5 (B:=0) (A:=fun Y=>∀ (p8:Option Addr) (c9:Nat),At 35 [(3,.slice p8 q3.length c9)] (Wd w [rowE Qg 49 p8 c9 q3]) Y) ?_ ?_
 ·intro K
  refine Qb9.l0.partial_correctness x0 (motive:=fun i4 i5 x=>KN (fun Y=>∀ (p8:Option Addr) (c9:Nat),At 35 [(3,.slice p8 x.length c9)] (Wd w [rowE Qg 49 p8 c9 x]) Y) _ 0→Round (fun Y=>∀ (p6:Option Addr) (c7:Nat),At 35 [(0,.slice p0_ x0.length c0_),(3,.slice p6 i4.length c7),(7,.slice p0_ x0.length c0_),(8,.int .i64 (x0.length:Int)),(9,.int .i64 i5)] (Wd w [rowE Qg 49 p6 c7 i4]) Y) _ _ _) ?_ _ _ _ hq3 K none 0
  ·clear K hF
   intro g ih i4 i5 x hF K p6 c7
   refine QS ?_
   refine sr (aw xl (nwq [10,9,8,7,3,0] ?_))
   refine qs ?_
   obtain ⟨h10,hF⟩|⟨h10,hF⟩:=oi hF
   ·refine ct h10 ?_
    refine sn (qs ?_)
    refine qb ?_
    refine sr (am ?_)
    obtain ⟨h11,hF⟩:=gd hF
    obtain ⟨b13,o14,hp12⟩:=QR hr0 h11
    refine aw (r_idx underlying46 sizeOf49 rfl rfl h11 hp12) ?_
    refine aw (Qe (c:=Qg) (z:=lget x0 i5) isAgg49 sizeOf49 rfl (QaF (fun _ h=>h.below) hr0 h11 hp12)) ?_
    refine al (cs:=Cd.cs Qg zv13) zeroValue49 ?_
    intro b15
    refine aa ?_
    refine QX (c:=Qg) (z:=lget x0 i5) .z lw sizeOf49 rfl rfl rfl ?_
    refine ns (am (am (aw xa ?_)))
    obtain ⟨h16,hF⟩:=gd hF
    refine aw (Qev (c:=Qg) underlying46 sizeOf49 rfl (Row.len hr0) ⟨_,rfl⟩ rfl h16) ?_
    refine aw (r_makeFunc rfl) ?_
    obtain ⟨t17,ht17,hF⟩:=bM hF
    refine cB func94 rfl (fun w hw=>Qcu _ _ _ _ _ _ ht17 w ((Row.sub hr0 h16).below hw.below) (cells_row1 (hw.ok (Upd.mem .z)))) ?_
    refine aa (nwx [9,8,7,6,5,3,0] ?_)
    refine fa 0 underlying49 rfl sizeOf38 ?_
    refine aw (Qe (c:=Qa) (z:=(lget x0 i5).f_P) isAgg38 sizeOf38 rfl (Qp .z (Lens.comp lw (fun z=>{ lget x0 i5 with f_P:=z }) (QQ (lget x0 i5))))) ?_
    obtain ⟨t18,ht18,hF⟩:=bM hF
    refine cB func61 rfl (fun w hw=>QcU _ _ ht18 w) ?_
    refine am ?_
    obtain ⟨h19,hF⟩|⟨h19,hF⟩:=oi hF
    ·refine fx 23 h19 ?_
     refine gy ?_
     refine am ?_
     refine gy ?_
     refine aw (r_not rfl) ?_
     refine aw xp (nwq [26,9,8,7,5,3,0] ?_)
     obtain ⟨h20,hF⟩|⟨h20,hF⟩:=oi hF
     ·refine ct h20 ?_
      refine qr (am ?_)
      refine aw (Qe (c:=Qg) (z:=lget x0 i5) isAgg49 sizeOf49 rfl (Qp .z lw)) ?_
      refine Qbu (c:=Qg) ([zv13]:List Qd) ([lget x0 i5]:List Qd) underlying46 sizeOf49 zeroValue49 rfl rfl rfl (by kernel_rfl) (QI (c:=Qg) (z:=lget x0 i5) rfl (Lens.all Qg ([zv13]:List Qd) 0 (by first | decide | exact Nat.le_of_ble_eq_true rfl)) rfl rfl) rfl ?_
      intro b21
      obtain ⟨h22,hF⟩:=gd hF
      refine Qax (z:=.agg (Cd.cs Qg zv13).toArray) (c:=Qg) (ys:=([lget x0 i5]:List Qd)) (.s (.s .z)) underlying46 infoF549 (by kernel_rfl) (by kernel_rfl) rfl rfl rfl rfl (fun _ hw=>Qaw (hw.ok (Upd.mem .z))) (by kernel_rfl) h22 (Qaj h22) rfl ?_
      intro p23 c24
      refine aa (qn (dz (dz (wq [9,8,7,3,0] ?_))))
      refine bm ?_
      refine qr (aw xa (am (nwq [9,8,7,3,0] ?_)))
      exact Qm (ih _ _ _ hF K p23 c24) ⟨rfl,rfl,rfl,rfl,rfl,trivial⟩
     refine cf h20 ?_
     refine Qaz ?_
     refine bm ?_
     refine qr (aw xa (am (qn (dz (wq [9,8,7,3,0] ?_)))))
     refine tn ?_
     exact Qm (ih _ _ _ hF K p6 c7) ⟨rfl,rfl,rfl,rfl,rfl,trivial⟩
    refine fx 23 h19 ?_
    refine gn ?_
    refine gn ?_
    refine aw xp (nwq [26,9,8,7,5,3,0] ?_)
    refine cf rfl ?_
    refine Qaz ?_
    refine bm ?_
    refine qr (aw xa (am (qn (dz (wq [9,8,7,3,0] ?_)))))
    refine tn ?_
    exact Qm (ih _ _ _ hF K p6 c7) ⟨rfl,rfl,rfl,rfl,rfl,trivial⟩
   refine cf h10 ?_
   refine Q1 ?_
   refine te (te ?_)
   obtain rfl:=os hF
   exact Qm (K p6 c7) ⟨rfl,trivial⟩
 skip
 intro p8 c9
 refine Qw ?_
 refine tn (sr (am ?_))
 obtain ⟨t25,ht25,hF⟩:=bM hF
 refine at_callN (v:=.tuple #[]) (T:=[rowE Qg 49 p8 c9 t25]) func96 rfl (by kernel_rfl) rfl rfl (fun w hw=>sort_Entry_ok ht25 .z hw) ?_
 refine at_ov (t:=3) rfl (show Value.slice p8 (List.length q3) c9=.slice p8 (List.length t25) c9 from congrArg (fun n_=>Value.slice p8 n_ c9) ((Qgg ht25).symm)) ?_
 refine at_ov (t:=32) rfl (show Value.slice p8 (List.length q3) c9=.slice p8 (List.length t25) c9 from congrArg (fun n_=>Value.slice p8 n_ c9) ((Qgg ht25).symm)) ?_
 refine ns (am (aa (nwq [2] ?_)))
 refine qt ?_
 have K:=os hF
 subst K
 exact r1 (fun w1 hw=>⟨p8,c9,rfl,hw.own .z,hw.below⟩)
end Go.Proofs.YtahlbjmafceoeaaGreatDoor
namespace Go.Proofs.YtahlbjmafceoeaaGreatDoor
open E Go.RowKit _root_.Go.Proofs.Tryz
theorem infoF849_is:(Tryz.prog.info? 49).isSome=true:=by kernel_rfl
noncomputable def infoF849_v:TypeInfo:=(Tryz.prog.info? 49).get infoF849_is
theorem infoF849:Tryz.prog.info? 49=some infoF849_v:=(Option.some_get _).symm
def Qbs.l0(t1:List Qd)(i7:List Qd)(i9:Int):Option (List Qd) :=
 if (decide (i9<(t1.length:Int)))=true then (if (0:Int)≤i9∧i9<(t1.length:Int) then QbD t1 (lget t1 i9)>>=fun t20=>if (!t20.2)=true then (if (i7.length+1)*40≤140737488355328 then Qbs.l0 t1 (i7++[lget t1 i9]) (wr .i64 (i9+1)) else none) else (if (t20.1.f_Owner != (lget t1 i9).f_Owner)=true then (if (i7.length+1)*40≤140737488355328 then Qbs.l0 t1 (i7++[lget t1 i9]) (wr .i64 (i9+1)) else none) else (Qbs.l0 t1 i7 (wr .i64 (i9+1)))) else none) else (some i7)
 partial_fixpoint
def Qbs(x0:List Qd):Option (List Qd) :=
 Qb9 x0>>=fun t1=>Qbs.l0 t1 ([]:List Qd) 0>>=fun q6=>some q6
theorem flat_Thin_ok(x0:List Qd)(p0_:Option Addr)(c0_:Nat)(r:List Qd)(hF:Qbs x0=some r)(w:World)(hr0:Row Qg w p0_ c0_ x0) :
    Calls Tryz.prog 47 #[.slice p0_ x0.length c0_] w (fun e w'=>∃ p cap,e=.returned (.slice p r.length cap)∧Own Qg 49 w.heap.size w' p cap r∧Below w.heap.size w w'):=by
 unfold Qbs at hF
 refine ce (l:=[.slice p0_ x0.length c0_]) func47 rfl rfl ?_
 refine QN ?_
 refine sr (aa (ns (am ?_)))
 obtain ⟨t1,ht1,hF⟩:=bM hF
 refine Qca (c:=Qg) (e:=49) (ys:=t1) (V:=fun p cap=>.slice p t1.length cap) func72 rfl (by kernel_rfl) rfl rfl (fun w hw=>flat_Own_ok _ _ _ _ ht1 w (hr0.below hw.below)) ?_
 intro p2 c3
 refine aa (ns (aa (nt (qs (sr (am ?_))))))
 refine aw (Q6 underlying46 rfl) ?_
 refine am (nwq [13,12,11,4,3] ?_)
 refine qb ?_
 refine Qbd Qg 49 ?_
 obtain ⟨q6,hq6,hF⟩:=bM hF
 refine wq [13,12,11,4,3] ?_
 refine Q5 (B:=0) (A:=fun Y=>∀ (p12:Option Addr) (c13:Nat),At 38 [(4,.slice p12 q6.length c13)] (Wd w [rowE Qg 49 p12 c13 q6]) Y) ?_ ?_
 ·intro K
  refine Qbs.l0.partial_correctness t1 (motive:=fun i7 i9 x=>KN (fun Y=>∀ (p12:Option Addr) (c13:Nat),At 38 [(4,.slice p12 x.length c13)] (Wd w [rowE Qg 49 p12 c13 x]) Y) _ 0→Round (fun Y=>∀ (p10:Option Addr) (c11:Nat),At 38 [(3,.slice p2 t1.length c3),(4,.slice p10 i7.length c11),(11,.slice p2 t1.length c3),(12,.int .i64 (t1.length:Int)),(13,.int .i64 i9)] (Wd w [rowE Qg 49 p10 c11 i7,rowE Qg 49 p2 c3 t1]) Y) _ _ _) ?_ _ _ _ hq6 K none 0
  ·clear K hF
   intro g ih i7 i9 x hF K p10 c11
   refine QS ?_
   refine sr (aw xl (nwq [14,13,12,11,4,3] ?_))
   refine qs ?_
   obtain ⟨h14,hF⟩|⟨h14,hF⟩:=oi hF
   ·refine ct h14 ?_
    refine sn (qs ?_)
    refine qb ?_
    refine sr ?_
    obtain ⟨h15,hF⟩:=gd hF
    refine QaU (φ:=∃ b o,p2=some ⟨b,o,none⟩) (fun _ hw=>QR (hw.own (.s .z)).row h15) ?_
    rintro ⟨b17,o18,hp16⟩
    refine aw (r_idx underlying46 sizeOf49 rfl rfl h15 hp16) ?_
    refine aw (Qe (c:=Qg) (z:=lget t1 i9) isAgg49 sizeOf49 rfl (fun w1 hw=>QaF (W:=fun w1=>w1=_) (fun w1 h=>by subst h;exact Below.refl _ _) (hw.own (.s .z)).row h15 hp16 _ rfl)) ?_
    refine al (cs:=Cd.cs Qg zv13) zeroValue49 ?_
    intro b19
    refine QX (c:=Qg) (z:=lget t1 i9) .z lw sizeOf49 rfl rfl rfl ?_
    refine ns (am ?_)
    refine aw (Qe (c:=Qg) (z:=lget t1 i9) isAgg49 sizeOf49 rfl (Qp .z lw)) ?_
    obtain ⟨t20,ht20,hF⟩:=bM hF
    refine cB func73 rfl (fun w hw=>flat_above_ok _ _ _ _ _ ht20 w (hw.own (.s (.s .z))).row) ?_
    refine am ?_
    refine aw xe (aw xe ?_)
    refine al (cs:=Cd.cs Qg zv13) zeroValue49 ?_
    intro b21
    refine QX (c:=Qg) (z:=t20.1) .z lw sizeOf49 rfl rfl rfl ?_
    refine aa (nwx [13,12,11,8,7,6,4,3] ?_)
    refine am ?_
    refine aw (r_not rfl) ?_
    refine am ?_
    obtain ⟨h22,hF⟩|⟨h22,hF⟩:=oi hF
    ·refine fx 25 h22 ?_
     refine gn ?_
     refine gn ?_
     refine gn ?_
     refine gn ?_
     refine gn ?_
     refine aw xp (qn (dz (wq [31,13,12,11,6,4,3] ?_)))
     refine tn ?_
     refine ct rfl ?_
     refine qr (am ?_)
     refine aw (Qe (c:=Qg) (z:=lget t1 i9) isAgg49 sizeOf49 rfl (Qp .z lw)) ?_
     refine Qbu (c:=Qg) ([zv13]:List Qd) ([lget t1 i9]:List Qd) underlying46 sizeOf49 zeroValue49 rfl rfl rfl (by kernel_rfl) (QI (c:=Qg) (z:=lget t1 i9) rfl (Lens.all Qg ([zv13]:List Qd) 0 (by first | decide | exact Nat.le_of_ble_eq_true rfl)) rfl rfl) rfl ?_
     intro b23
     obtain ⟨h24,hF⟩:=gd hF
     refine Qax (z:=.agg (Cd.cs Qg zv13).toArray) (c:=Qg) (ys:=([lget t1 i9]:List Qd)) (.s (.s .z)) underlying46 infoF849 (by kernel_rfl) (by kernel_rfl) rfl rfl rfl rfl (fun _ hw=>Qaw (hw.ok (Upd.mem .z))) (by kernel_rfl) h24 (Qaj h24) rfl ?_
     intro p25 c26
     refine aa (qn (dz (dz (wq [13,12,11,4,3] ?_))))
     refine bm ?_
     refine qr (aw xa (am (nwq [13,12,11,4,3] ?_)))
     exact Qm (ih _ _ _ hF K p25 c26) ⟨rfl,rfl,rfl,rfl,rfl,trivial⟩
    refine fx 25 h22 ?_
    refine gy ?_
    refine fa 18 underlying49 rfl sizeOf3 ?_
    refine gy ?_
    refine aw (Ql isAgg3 rfl (Qr (c:=(cInt .i64)) (y:=t20.1.f_Owner) .z (Lens.comp lw (fun z=>{ t20.1 with f_Owner:=z }) (QbB t20.1)) rfl)) ?_
    refine gy ?_
    refine fa 18 underlying49 rfl sizeOf3 ?_
    refine gy ?_
    refine aw (Ql isAgg3 rfl (Qr (c:=(cInt .i64)) (y:=(lget t1 i9).f_Owner) (.s .z) (Lens.comp lw (fun z=>{ lget t1 i9 with f_Owner:=z }) (QbB (lget t1 i9))) rfl)) ?_
    refine gy ?_
    refine aw xn (aw xp (qn (dz (wq [31,13,12,11,6,4,3] ?_))))
    refine tn ?_
    obtain ⟨h27,hF⟩|⟨h27,hF⟩:=oi hF
    ·refine ct h27 ?_
     refine qr (am ?_)
     refine aw (Qe (c:=Qg) (z:=lget t1 i9) isAgg49 sizeOf49 rfl (Qp .z lw)) ?_
     refine Qbu (c:=Qg) ([zv13]:List Qd) ([lget t1 i9]:List Qd) underlying46 sizeOf49 zeroValue49 rfl rfl rfl (by kernel_rfl) (QI (c:=Qg) (z:=lget t1 i9) rfl (Lens.all Qg ([zv13]:List Qd) 0 (by first | decide | exact Nat.le_of_ble_eq_true rfl)) rfl rfl) rfl ?_
     intro b28
     obtain ⟨h29,hF⟩:=gd hF
     refine Qax (z:=.agg (Cd.cs Qg zv13).toArray) (c:=Qg) (ys:=([lget t1 i9]:List Qd)) (.s (.s .z)) underlying46 infoF849 (by kernel_rfl) (by kernel_rfl) rfl rfl rfl rfl (fun _ hw=>Qaw (hw.ok (Upd.mem .z))) (by kernel_rfl) h29 (Qaj h29) rfl ?_
     intro p30 c31
     refine aa (qn (dz (dz (wq [13,12,11,4,3] ?_))))
     refine bm ?_
     refine qr (aw xa (am (nwq [13,12,11,4,3] ?_)))
     exact Qm (ih _ _ _ hF K p30 c31) ⟨rfl,rfl,rfl,rfl,rfl,trivial⟩
    refine cf h27 ?_
    refine Qaz ?_
    refine bm ?_
    refine qr (aw xa (am (qn (dz (wq [13,12,11,4,3] ?_)))))
    refine tn ?_
    exact Qm (ih _ _ _ hF K p10 c11) ⟨rfl,rfl,rfl,rfl,rfl,trivial⟩
   refine cf h14 ?_
   refine Q1 ?_
   refine te (te ?_)
   refine Qal (H:=_) (.s .z) ?_
   obtain rfl:=os hF
   exact Qm (K p10 c11) ⟨rfl,trivial⟩
 skip
 intro p12 c13
 refine Qw ?_
 refine tn (sr (am (aa (nwq [2] ?_))))
 refine qt ?_
 have K:=os hF
 subst K
 exact r1 (fun w1 hw=>⟨p12,c13,rfl,hw.own .z,hw.below⟩)
end Go.Proofs.YtahlbjmafceoeaaGreatDoor
namespace Go.Proofs.YtahlbjmafceoeaaGreatDoor
open E Go.RowKit _root_.Go.Proofs.Tryz
theorem infoV138_is:(Tryz.prog.info? 38).isSome=true:=by kernel_rfl
noncomputable def infoV138_v:TypeInfo:=(Tryz.prog.info? 38).get infoV138_is
theorem infoV138:Tryz.prog.info? 38=some infoV138_v:=(Option.some_get _).symm
def QaJ.l0(x0:S_api_Conf)(i4:Int):Option (Ctl (Bool) (Unit)) :=
 if (decide (i4<(x0.f_Peers.length:Int)))=true then (if (0:Int)≤i4∧i4<(x0.f_Peers.length:Int) then if (decide ((((lget x0.f_Peers i4).f_Allowed).length:Int)>80))=true then (some (.ret true)) else (QaJ.l0 x0 (wr .i64 (i4+1))) else none) else (some (.nx ()))
 partial_fixpoint
def QaJ(x0:S_api_Conf):Option (Bool) :=
 if (decide ((x0.f_Peers.length:Int)>20))=true then (some true) else (QaJ.l0 x0 0>>=fun q3=>match q3 with | .ret r'=>some r' | .nx sq3=>(some false))
theorem Qfg(g0_:G_api_Conf)(x0:S_api_Conf)(r:Bool)(hF:QaJ x0=some r)(w:World)(hn0:N_api_Conf w (g0_,x0)) :
    Calls Tryz.prog 6 #[.agg (Cd.cs c_api_Conf (g0_,x0)).toArray] w (fun e w'=>e=.returned (.bool r)∧Below w.heap.size w w'):=by
 unfold QaJ at hF
 refine ce (l:=[.agg (Cd.cs c_api_Conf (g0_,x0)).toArray]) func6 rfl rfl ?_
 refine QN ?_
 refine sr ?_
 refine Qag (cs:=Cd.cs c_api_Conf (g0_,x0)) rfl rfl rfl ?_
 intro b1
 refine aa (nt (qs (sr (fa 34 underlying27 rfl sizeOf25 ?_))))
 refine aw (Ql isAgg25 rfl (Qr (c:=cHd) (y:=⟨g0_.1,List.length x0.f_Peers,g0_.2⟩) .z (QD g0_ x0) rfl)) ?_
 refine aw (Q6 underlying25 rfl) ?_
 refine aw (QcK rfl rfl) ?_
 refine nwq [7,1] ?_
 obtain ⟨h2,hF⟩|⟨h2,hF⟩:=oi hF
 ·refine ct h2 ?_
  refine sr (aa (qn (dz (wq [2] ?_))))
  refine tn (rt ?_)
  have K:=os hF
  subst K
  exact r1 wb
 refine cf h2 ?_
 refine sn (qs (sr (aa (nwq [3,1] ?_))))
 refine qb ?_
 obtain ⟨q3,hq3,hF⟩:=bM hF
 refine wq [3,1] ?_
 refine QbG (B:=0) (r:=r) (q:=q3) (A:=fun (_:Unit) Y=>At 23 [] (Wd w []) Y) ?_ ?_
 ·intro K
  refine QaJ.l0.partial_correctness x0 (motive:=fun i4 x=>KR (fun (_:Unit) Y=>At 23 [] (Wd w []) Y) _ 0 r x→Round (fun Y=>At 23 [(1,.pointer (some ⟨b1,0,none⟩)),(3,.int .i64 i4)] (Wd w [Qs b1 (Cd.cs c_api_Conf (g0_,x0)) 27]) Y) _ _ _) ?_ _ _ hq3 K
  ·clear K hF
   intro g ih i4 x hF K
   refine QS ?_
   refine qs (sr (am (fa 34 underlying27 rfl sizeOf25 ?_)))
   refine aw (Ql isAgg25 rfl (Qr (c:=cHd) (y:=⟨g0_.1,List.length x0.f_Peers,g0_.2⟩) .z (QD g0_ x0) rfl)) ?_
   refine aw (Q6 underlying25 rfl) ?_
   refine aw xl (nwq [12,3,1] ?_)
   obtain ⟨h5,hF⟩|⟨h5,hF⟩:=oi hF
   ·refine ct h5 ?_
    refine sn (qs ?_)
    refine qb ?_
    refine sr (fa 34 underlying27 rfl sizeOf25 ?_)
    refine aw (Ql isAgg25 rfl (Qr (c:=cHd) (y:=⟨g0_.1,List.length x0.f_Peers,g0_.2⟩) .z (QD g0_ x0) rfl)) ?_
    refine am ?_
    obtain ⟨h6,hF⟩:=gd hF
    obtain ⟨zs10,hz11,hr12,hn13⟩:=id hn0
    obtain ⟨b8,o9,hp7⟩:=QR hr12 (zidx hz11 h6)
    obtain ⟨g14,hg15⟩:=zget hz11 i4
    refine aw (r_idx underlying25 sizeOf60 rfl rfl h6 hp7) ?_
    refine fa 85 underlying60 rfl sizeOf58 ?_
    refine aw (Ql isAgg58 rfl (nlens0 (c':=cHd) (y:=⟨g14.1,List.length ((lget x0.f_Peers i4).f_Allowed),g14.2⟩) (fun _ h=>h.below) hr12 (zidx hz11 h6) hp7 hg15 (QaE g14 (lget x0.f_Peers i4)) rfl)) ?_
    refine aw (Q6 underlying58 rfl) ?_
    refine aw (QcK rfl rfl) ?_
    refine nwq [22,3,1] ?_
    obtain ⟨h16,hF⟩|⟨h16,hF⟩:=oi hF
    ·refine ct h16 ?_
     refine sr (aa (qn (dz (wq [2] ?_))))
     refine tn (qt ?_)
     refine br (tr (tr (br (tr ?_))))
     obtain rfl:=os hF
     subst K
     exact r1 wb
    refine cf h16 ?_
    refine Qaz ?_
    refine bm ?_
    refine qr (am (aw xa (aa (nwq [3,1] ?_))))
    exact Qm (ih _ _ hF K) ⟨rfl,rfl,trivial⟩
   refine cf h5 ?_
   refine Q1 ?_
   refine te (te ?_)
   refine dz ?_
   obtain rfl:=os hF
   exact Qm K trivial
 cases q3 with
 | ret r'=>exact os hF
 | nx sq3 =>
  skip
  refine Qw ?_
  refine tn (sr (aa (nwq [2] ?_)))
  refine qt ?_
  have K:=os hF
  subst K
  exact r1 wb
def Qb0(x0:Int):Option (Bool) :=
 if (decide (x0≥0))=true then (some (decide (x0≤65535))) else (some false)
theorem QdB(x0:Int)(r:Bool)(hF:Qb0 x0=some r)(w:World) :
    Calls Tryz.prog 38 #[.int .i64 x0] w (fun e w'=>e=.returned (.bool r)∧w'=w):=by
 unfold Qb0 at hF
 refine ce (l:=[.int .i64 x0]) func38 rfl rfl ?_
 refine sr (aa (nwx [0] ?_))
 refine am ?_
 refine aw (Qei rfl rfl) ?_
 refine am ?_
 obtain ⟨h1,hF⟩|⟨h1,hF⟩:=oi hF
 ·refine fx 5 h1 ?_
  refine gy ?_
  refine am ?_
  refine gy ?_
  refine aw (Qgj rfl rfl) ?_
  refine aw xp (aa (nwq [2] ?_))
  refine qt ?_
  have K:=os hF
  subst K
  exact r1 (fun w1 hw=>⟨rfl,hw⟩)
 refine fx 5 h1 ?_
 refine gn ?_
 refine gn ?_
 refine aw xp (aa (nwq [2] ?_))
 refine qt ?_
 have K:=os hF
 subst K
 exact r1 (fun w1 hw=>⟨rfl,hw⟩)
def QC.l1(x0:S_api_Conf)(i11:Int)(i37:Int):Option (Ctl (Bool) (Unit)) :=
 if (decide (i37<i11))=true then (if (0:Int)≤i37∧i37<(x0.f_Peers.length:Int) then if (decide ((lget x0.f_Peers i37).f_Key=(lget x0.f_Peers i11).f_Key))=true then (some (.ret false)) else (QC.l1 x0 i11 (wr .i64 (i37+1))) else none) else (some (.nx ()))
 partial_fixpoint
def QC.l3(x0:S_api_Conf)(i11:Int)(i53:List Qc)(i54:Int)(i77:Int):Option (Ctl (Bool) (Unit)) :=
 if (decide (i77<(i53.length:Int)))=true then (if (0:Int)≤i77∧i77<(i53.length:Int) then if (decide (lget i53 i77=lget ((lget x0.f_Peers i11).f_Allowed) i54))=true then (some (.ret false)) else (QC.l3 x0 i11 i53 i54 (wr .i64 (i77+1))) else none) else (some (.nx ()))
 partial_fixpoint
def QC.l2(x0:S_api_Conf)(i11:Int)(i53:List Qc)(i54:Int):Option (Ctl (Bool) (List Qc)) :=
 if (decide (i54<(((lget x0.f_Peers i11).f_Allowed).length:Int)))=true then (if (0:Int)≤i54∧i54<(((lget x0.f_Peers i11).f_Allowed).length:Int) then (Qad (lget ((lget x0.f_Peers i11).f_Allowed) i54)>>=fun t67=>if (!t67)=true then (some (.ret false)) else (if (decide (i54>0))=true then (if (0:Int)≤wr .i64 (i54-1)∧wr .i64 (i54-1)<(((lget x0.f_Peers i11).f_Allowed).length:Int) then Qa1 (lget ((lget x0.f_Peers i11).f_Allowed) (wr .i64 (i54-1))) (lget ((lget x0.f_Peers i11).f_Allowed) i54)>>=fun t74=>if (!t74)=true then (some (.ret false)) else (some (.nx ())) else none) else (some (.nx ()))):Option (Ctl (Bool) (Unit)))>>=fun q65=>match q65 with | .ret r'=>some (.ret r') | .nx sq65=>(QC.l3 x0 i11 i53 i54 0>>=fun q76=>match q76 with | .ret r'=>some (.ret r') | .nx sq76=>(if (i53.length+1)*32≤140737488355328 then QC.l2 x0 i11 (i53++[lget ((lget x0.f_Peers i11).f_Allowed) i54]) (wr .i64 (i54+1)) else none)) else none) else (some (.nx i53))
 partial_fixpoint
def QC.l0(x0:S_api_Conf)(i10:List Qc)(i11:Int):Option (Ctl (Bool) (List Qc)) :=
 if (decide (i11<(x0.f_Peers.length:Int)))=true then (if (0:Int)≤i11∧i11<(x0.f_Peers.length:Int) then (if (decide ((lget x0.f_Peers i11).f_Key=(Vector.replicate 32 (0:Int):(Vector Int 32))))=true then (some (.ret false)) else (Qb0 ((lget x0.f_Peers i11).f_Keep)>>=fun t31=>if (!t31)=true then (some (.ret false)) else (if (!decide ((lget x0.f_Peers i11).f_End=({ f_A:=({ f_V:=(0:Int),f_B:=(Vector.replicate 16 (0:Int):(Vector Int 16)) }:Qh),f_Port:=(0:Int) }:Qav)))=true then (QbT ((lget x0.f_Peers i11).f_End)>>=fun t34=>if (!t34)=true then (some (.ret false)) else (some (.nx ()))) else (some (.nx ())))):Option (Ctl (Bool) (Unit)))>>=fun q28=>match q28 with | .ret r'=>some (.ret r') | .nx sq28=>(QC.l1 x0 i11 0>>=fun q36=>match q36 with | .ret r'=>some (.ret r') | .nx sq36=>(QC.l2 x0 i11 i10 0>>=fun q52=>match q52 with | .ret r'=>some (.ret r') | .nx sq52=>(QC.l0 x0 sq52 (wr .i64 (i11+1))))) else none) else (some (.nx i10))
 partial_fixpoint
def QC(x0:S_api_Conf):Option (Bool) :=
 (Qb0 x0.f_Port>>=fun t4=>if (!t4)=true then (some (.ret false)) else (if (decide ((x0.f_Peers.length:Int)>16))=true then (some (.ret false)) else (some (.nx ()))):Option (Ctl (Bool) (Unit)))>>=fun q2=>match q2 with | .ret r'=>some r' | .nx sq2=>(QC.l0 x0 ([]:List Qc) 0>>=fun q9=>match q9 with | .ret r'=>some r' | .nx sq9=>(some (decide ((sq9.length:Int)≤64))))
set_option maxHeartbeats 3200000 in
theorem Qff(g0_:G_api_Conf)(x0:S_api_Conf)(r:Bool)(hF:QC x0=some r)(w:World)(hn0:N_api_Conf w (g0_,x0)) :
    Calls Tryz.prog 13 #[.agg (Cd.cs c_api_Conf (g0_,x0)).toArray] w (fun e w'=>e=.returned (.bool r)∧Below w.heap.size w w'):=by
 unfold QC at hF
 refine ce (l:=[.agg (Cd.cs c_api_Conf (g0_,x0)).toArray]) func13 rfl rfl ?_
 refine QN ?_
 refine sr ?_
 refine Qag (cs:=Cd.cs c_api_Conf (g0_,x0)) rfl rfl rfl ?_
 intro b1
 refine aa (nwq [1] ?_)
 obtain ⟨q2,hq2,hF⟩:=bM hF
 refine at_join (q:=q2) (r:=r) (A:=fun (_:Unit) Y=>At 117 [(1,.pointer (some ⟨b1,0,none⟩))] (Wd w [Qs b1 (Cd.cs c_api_Conf (g0_,x0)) 27]) Y) ?_ ?_
 ·intro Y K
  replace hF:=hq2
  refine sr (fa 32 underlying27 rfl sizeOf3 ?_)
  refine aw (Ql isAgg3 rfl (Qr (c:=(cInt .i64)) (y:=x0.f_Port) .z (QeG g0_ x0) rfl)) ?_
  obtain ⟨t4,ht4,hF⟩:=bM hF
  refine Qdj func38 rfl (by kernel_rfl) rfl rfl (fun w=>QdB _ _ ht4 w) ?_
  refine aw (r_not rfl) ?_
  refine am ?_
  obtain ⟨h5,hF⟩|⟨h5,hF⟩:=oi hF
  ·refine fx 14 h5 ?_
   refine gn ?_
   refine gn ?_
   refine gn ?_
   refine gn ?_
   refine aw xp (nwq [19,1] ?_)
   refine ct rfl ?_
   refine sr (aa (qn (dz (wq [2] ?_))))
   refine tn (rt ?_)
   obtain rfl:=os hF
   subst K
   exact r1 wb
  refine fx 14 h5 ?_
  refine gy ?_
  refine fa 34 underlying27 rfl sizeOf25 ?_
  refine gy ?_
  refine aw (Ql isAgg25 rfl (Qr (c:=cHd) (y:=⟨g0_.1,List.length x0.f_Peers,g0_.2⟩) .z (QD g0_ x0) rfl)) ?_
  refine gy ?_
  refine aw (Q6 underlying25 rfl) ?_
  refine gy ?_
  refine aw (QcK rfl rfl) ?_
  refine aw xp (nwq [19,1] ?_)
  obtain ⟨h6,hF⟩|⟨h6,hF⟩:=oi hF
  ·refine ct h6 ?_
   refine sr (aa (qn (dz (wq [2] ?_))))
   refine tn (rt ?_)
   obtain rfl:=os hF
   subst K
   exact r1 wb
  refine cf h6 ?_
  refine sn ?_
  obtain rfl:=os hF
  exact Qm K ⟨rfl,trivial⟩
 cases q2 with
 | ret r' =>
  exact os hF
 | nx sq2 =>
  skip
  refine sr (aa (nt (qs (sr (aa (nwq [4,3,1] ?_))))))
  refine qb ?_
  refine Qbd Qa 38 ?_
  obtain ⟨q9,hq9,hF⟩:=bM hF
  refine wq [4,3,1] ?_
  refine QbG (B:=0) (r:=r) (q:=q9) (A:=fun sq9 Y=>∀ (p14:Option Addr) (c15:Nat),At 117 [(3,.slice p14 sq9.length c15)] (Wd w [rowE Qa 38 p14 c15 sq9]) Y) ?_ ?_
  ·intro K
   refine QC.l0.partial_correctness x0 (motive:=fun i10 i11 x=>KR (fun sq9 Y=>∀ (p14:Option Addr) (c15:Nat),At 117 [(3,.slice p14 sq9.length c15)] (Wd w [rowE Qa 38 p14 c15 sq9]) Y) _ 0 r x→Round (fun Y=>∀ (p12:Option Addr) (c13:Nat),At 117 [(1,.pointer (some ⟨b1,0,none⟩)),(3,.slice p12 i10.length c13),(4,.int .i64 i11)] (Wd w [rowE Qa 38 p12 c13 i10,Qs b1 (Cd.cs c_api_Conf (g0_,x0)) 27]) Y) _ _ _) ?_ _ _ _ hq9 K none 0
   ·clear K hF
    intro g ih i10 i11 x hF K p12 c13
    refine QS ?_
    refine qs (sr (am (fa 34 underlying27 rfl sizeOf25 ?_)))
    refine aw (Ql isAgg25 rfl (Qr (c:=cHd) (y:=⟨g0_.1,List.length x0.f_Peers,g0_.2⟩) (.s .z) (QD g0_ x0) rfl)) ?_
    refine aw (Q6 underlying25 rfl) ?_
    refine aw xl (nwq [24,4,3,1] ?_)
    obtain ⟨h16,hF⟩|⟨h16,hF⟩:=oi hF
    ·refine ct h16 ?_
     refine sn (qs ?_)
     refine qb ?_
     refine sr (fa 34 underlying27 rfl sizeOf25 ?_)
     refine aw (Ql isAgg25 rfl (Qr (c:=cHd) (y:=⟨g0_.1,List.length x0.f_Peers,g0_.2⟩) (.s .z) (QD g0_ x0) rfl)) ?_
     refine am ?_
     obtain ⟨h17,hF⟩:=gd hF
     obtain ⟨zs21,hz22,hr23,hn24⟩:=id hn0
     obtain ⟨b19,o20,hp18⟩:=QR hr23 (zidx hz22 h17)
     obtain ⟨g25,hg26⟩:=zget hz22 i11
     refine aw (r_idx underlying25 sizeOf60 rfl rfl h17 hp18) ?_
     refine aw (Qe (c:=QT) (z:=(g25,lget x0.f_Peers i11)) isAgg60 sizeOf60 rfl (ncell (fun _ h=>h.below) hr23 (zidx hz22 h17) hp18 hg26)) ?_
     refine al (cs:=Cd.cs QT zv14) zeroValue60 ?_
     intro b27
     refine QX (c:=QT) (z:=(g25,lget x0.f_Peers i11)) .z lw sizeOf60 rfl rfl rfl ?_
     refine nwq [5,4,3,1] ?_
     obtain ⟨q28,hq28,hF⟩:=bM hF
     refine at_join (q:=q28) (r:=r) (A:=fun (_:Unit) Y=>At 117 [(1,.pointer (some ⟨b1,0,none⟩)),(3,.slice p12 i10.length c13),(4,.int .i64 i11),(5,.pointer (some ⟨b27,0,none⟩))] (Wd w [Qs b27 (Cd.cs QT (g25,lget x0.f_Peers i11)) 60,rowE Qa 38 p12 c13 i10,Qs b1 (Cd.cs c_api_Conf (g0_,x0)) 27]) Y) ?_ ?_
     ·intro Y K
      replace hF:=hq28
      refine sr (fa 0 underlying60 rfl sizeOf23 ?_)
      refine aw (Qe (c:=(cVec (cInt .u8) 32 (by decide))) (z:=(lget x0.f_Peers i11).f_Key) isAgg23 sizeOf23 rfl (Qp .z (Qb2 g25 (lget x0.f_Peers i11)))) ?_
      refine aw (Qcw (zs:=Cd.cs (cVec (cInt .u8) 32 (by decide)) zv3) (cs:=Cd.cs (cVec (cInt .u8) 32 (by decide)) zv3) underlying23 zeroValue23 rfl sizeOf5 rfl rfl) ?_
      refine aw (Qbz (c:=(cVec (cInt .u8) 32 (by decide))) (a:=(lget x0.f_Peers i11).f_Key) (b:=zv3) (QeT underlying23 infoT5 sizeOf5 isAgg5 (.inr rfl) (QdM underlying5)) rfl Tryz.eqGuardType23 rfl rfl (.inl rfl) rfl) ?_
      refine am ?_
      obtain ⟨h30,hF⟩|⟨h30,hF⟩:=oi hF
      ·refine fx 36 h30 ?_
       refine gn ?_
       refine gn ?_
       refine gn ?_
       refine gn ?_
       refine aw xp (am ?_)
       refine gn ?_
       refine gn ?_
       refine gn ?_
       refine gn ?_
       refine gn ?_
       refine Q9 rfl rfl rfl rfl ?_
       refine Q9 rfl rfl rfl rfl ?_
       refine Q9 rfl rfl rfl rfl ?_
       refine Q9 rfl rfl rfl rfl ?_
       refine gn ?_
       refine aw xp (nwq [53,5,4,3,1] ?_)
       refine ct rfl ?_
       refine sr (aa (qn (dz (dz (dz (wq [2] ?_))))))
       refine tn (qt ?_)
       refine tr (br (tr (tr (br (tr ?_)))))
       obtain rfl:=os hF
       subst K
       exact r1 wb
      ·refine fx 36 h30 ?_
       refine gy ?_
       refine fa 82 underlying60 rfl sizeOf3 ?_
       refine gy ?_
       refine aw (Ql isAgg3 rfl (Qr (c:=(cInt .i64)) (y:=(lget x0.f_Peers i11).f_Keep) .z (QeF g25 (lget x0.f_Peers i11)) rfl)) ?_
       refine gy ?_
       obtain ⟨t31,ht31,hF⟩:=bM hF
       refine Qdj func38 rfl (by kernel_rfl) rfl rfl (fun w=>QdB _ _ ht31 w) ?_
       refine gy ?_
       refine aw (r_not rfl) ?_
       refine aw xp (am ?_)
       obtain ⟨h32,hF⟩|⟨h32,hF⟩:=oi hF
       ·refine fx 42 h32 ?_
        refine gn ?_
        refine gn ?_
        refine gn ?_
        refine gn ?_
        refine gn ?_
        refine Q9 rfl rfl rfl rfl ?_
        refine Q9 rfl rfl rfl rfl ?_
        refine Q9 rfl rfl rfl rfl ?_
        refine Q9 rfl rfl rfl rfl ?_
        refine gn ?_
        refine aw xp (nwq [53,5,4,3,1] ?_)
        refine ct rfl ?_
        refine sr (aa (qn (dz (dz (dz (wq [2] ?_))))))
        refine tn (qt ?_)
        refine tr (br (tr (tr (br (tr ?_)))))
        obtain rfl:=os hF
        subst K
        exact r1 wb
       ·refine fx 42 h32 ?_
        refine gy ?_
        refine fa 64 underlying60 rfl sizeOf56 ?_
        refine gy ?_
        refine aw (Qe (c:=QA) (z:=(lget x0.f_Peers i11).f_End) isAgg56 sizeOf56 rfl (Qp .z (Qbf g25 (lget x0.f_Peers i11)))) ?_
        refine gy ?_
        refine aw (QW (zs:=Cd.cs QA zv8) (cs:=Cd.cs QA zv8) underlying56 zeroValue56 rfl (QcF) rfl rfl) ?_
        refine gy ?_
        refine aw (Qbz (c:=QA) (a:=(lget x0.f_Peers i11).f_End) (b:=zv8) (QbY) rfl Tryz.eqGuardType56 rfl rfl (.inr rfl) rfl) ?_
        refine gy ?_
        refine am ?_
        obtain ⟨h33,hF⟩|⟨h33,hF⟩:=oi hF
        ·refine fx 47 h33 ?_
         refine gy ?_
         refine fa 64 underlying60 rfl sizeOf56 ?_
         refine gy ?_
         refine aw (Qe (c:=QA) (z:=(lget x0.f_Peers i11).f_End) isAgg56 sizeOf56 rfl (Qp .z (Qbf g25 (lget x0.f_Peers i11)))) ?_
         refine gy ?_
         obtain ⟨t34,ht34,hF⟩:=bM hF
         refine cB func39 rfl (fun w hw=>Qfi _ _ ht34 w) ?_
         refine gy ?_
         refine aw (r_not rfl) ?_
         refine gy ?_
         refine aw xp (aw xp (nwq [53,5,4,3,1] ?_))
         obtain ⟨h35,hF⟩|⟨h35,hF⟩:=oi hF
         ·refine ct h35 ?_
          refine sr (aa (qn (dz (dz (dz (wq [2] ?_))))))
          refine tn (qt ?_)
          refine tr (br (tr (tr (br (tr ?_)))))
          obtain rfl:=os hF
          subst K
          exact r1 wb
         ·refine cf h35 ?_
          refine sn ?_
          obtain rfl:=os hF
          exact Qm K ⟨rfl,rfl,rfl,rfl,trivial⟩
        ·refine fx 47 h33 ?_
         refine gn ?_
         refine gn ?_
         refine gn ?_
         refine gn ?_
         refine gy ?_
         refine aw xp (aw xp (nwq [53,5,4,3,1] ?_))
         refine cf rfl ?_
         refine sn ?_
         obtain rfl:=os hF
         exact Qm K ⟨rfl,rfl,rfl,rfl,trivial⟩
     ·cases q28 with
      | ret r' =>
       obtain rfl:=os hF;exact K
      | nx sq28 =>
       skip
       refine qs (sr (aa (nwq [6,5,4,3,1] ?_)))
       refine qb ?_
       obtain ⟨q36,hq36,hF⟩:=bM hF
       refine wq [6,5,4,3,1] ?_
       refine QbG (B:=2) (r:=r) (q:=q36) (A:=fun (_:Unit) Y=>At 117 [(1,.pointer (some ⟨b1,0,none⟩)),(3,.slice p12 i10.length c13),(4,.int .i64 i11),(5,.pointer (some ⟨b27,0,none⟩))] (Wd w [Qs b27 (Cd.cs QT (g25,lget x0.f_Peers i11)) 60,rowE Qa 38 p12 c13 i10,Qs b1 (Cd.cs c_api_Conf (g0_,x0)) 27]) Y) ?_ ?_
       ·intro K
        refine QC.l1.partial_correctness x0 i11 (motive:=fun i37 x=>KR (fun (_:Unit) Y=>At 117 [(1,.pointer (some ⟨b1,0,none⟩)),(3,.slice p12 i10.length c13),(4,.int .i64 i11),(5,.pointer (some ⟨b27,0,none⟩))] (Wd w [Qs b27 (Cd.cs QT (g25,lget x0.f_Peers i11)) 60,rowE Qa 38 p12 c13 i10,Qs b1 (Cd.cs c_api_Conf (g0_,x0)) 27]) Y) _ 2 r x→Round (fun Y=>At 117 [(1,.pointer (some ⟨b1,0,none⟩)),(3,.slice p12 i10.length c13),(4,.int .i64 i11),(5,.pointer (some ⟨b27,0,none⟩)),(6,.int .i64 i37)] (Wd w [Qs b27 (Cd.cs QT (g25,lget x0.f_Peers i11)) 60,rowE Qa 38 p12 c13 i10,Qs b1 (Cd.cs c_api_Conf (g0_,x0)) 27]) Y) _ _ _) ?_ _ _ hq36 K
        ·clear K hF
         intro g ih i37 x hF K
         refine QS ?_
         refine qs (sr (am (am (aw xl (nwq [56,6,5,4,3,1] ?_)))))
         obtain ⟨h38,hF⟩|⟨h38,hF⟩:=oi hF
         ·refine ct h38 ?_
          refine sn (qs ?_)
          refine qb ?_
          refine qs ?_
          refine Qb4 (by kernel_rfl) (by kernel_rfl) (fun _ h=>h.drew) ?_
          refine Qk rfl rfl rfl (QJ (fo:=34) underlying27 rfl rfl (fun w=>⟨_,sizeOf25 w⟩) rfl) ?_
          refine Qk rfl rfl rfl (Ql isAgg25 rfl (Qr (c:=cHd) (y:=⟨g0_.1,List.length x0.f_Peers,g0_.2⟩) (.s (.s .z)) (QD g0_ x0) rfl)) ?_
          refine Qk rfl rfl rfl (Qaf rfl) ?_
          obtain ⟨h39,hF⟩:=gd hF
          obtain ⟨zs43,hz44,hr45,hn46⟩:=id hn0
          obtain ⟨b41,o42,hp40⟩:=QR hr45 (zidx hz44 h39)
          obtain ⟨g47,hg48⟩:=zget hz44 i37
          refine Qk rfl rfl rfl (r_idx underlying25 sizeOf60 rfl rfl h39 hp40) ?_
          refine Qk rfl rfl rfl (QJ (fo:=0) underlying60 rfl rfl (fun w=>⟨_,sizeOf23 w⟩) rfl) ?_
          refine Qk rfl rfl rfl (Qe (c:=(cVec (cInt .u8) 32 (by decide))) (z:=(lget x0.f_Peers i37).f_Key) isAgg23 sizeOf23 rfl (nlens (y:=(lget x0.f_Peers i37).f_Key) (fun _ h=>h.below) hr45 (zidx hz44 h39) hp40 hg48 (Qb2 g47 (lget x0.f_Peers i37)))) ?_
          refine Qk rfl rfl rfl (QJ (fo:=0) underlying60 rfl rfl (fun w=>⟨_,sizeOf23 w⟩) rfl) ?_
          refine Qk rfl rfl rfl (Qe (c:=(cVec (cInt .u8) 32 (by decide))) (z:=(lget x0.f_Peers i11).f_Key) isAgg23 sizeOf23 rfl (Qp .z (Qb2 g25 (lget x0.f_Peers i11)))) ?_
          refine Qk rfl rfl rfl (Qbz (c:=(cVec (cInt .u8) 32 (by decide))) (a:=(lget x0.f_Peers i37).f_Key) (b:=(lget x0.f_Peers i11).f_Key) (QeT underlying23 infoT5 sizeOf5 isAgg5 (.inr rfl) (QdM underlying5)) rfl Tryz.eqGuardType23 rfl rfl (.inl rfl) rfl) ?_
          refine QaX ?_
          refine wq [67,6,5,4,3,1] ?_
          refine tn ?_
          obtain ⟨h49,hF⟩|⟨h49,hF⟩:=oi hF
          ·refine ct h49 ?_
           refine sr (aa (qn (dz (dz (dz (wq [2] ?_))))))
           refine tn (qt ?_)
           refine br (tr (tr (br (tr (br (tr (tr (br (tr ?_)))))))))
           obtain rfl:=os hF
           subst K
           exact r1 wb
          ·refine cf h49 ?_
           refine Qaz ?_
           refine bm ?_
           refine qr (am (aw xa (aa (nwq [6,5,4,3,1] ?_))))
           exact Qm (ih _ _ hF K) ⟨rfl,rfl,rfl,rfl,rfl,trivial⟩
         ·refine cf h38 ?_
          refine Q1 ?_
          refine te (te ?_)
          obtain rfl:=os hF
          exact Qm K ⟨rfl,rfl,rfl,rfl,trivial⟩
       ·cases q36 with
        | ret r'=>obtain rfl:=os hF;exact K
        | nx sq36 =>
         skip
         refine Qw ?_
         refine tn (sr (aa (nwq [7,5,4,3,1] ?_)))
         refine qb ?_
         obtain ⟨q52,hq52,hF⟩:=bM hF
         refine wq [7,5,4,3,1] ?_
         refine QbG (B:=4) (r:=r) (q:=q52) (A:=fun sq52 Y=>∀ (p57:Option Addr) (c58:Nat),At 117 [(1,.pointer (some ⟨b1,0,none⟩)),(3,.slice p57 sq52.length c58),(4,.int .i64 i11)] (Wd w [rowE Qa 38 p57 c58 sq52,Qs b1 (Cd.cs c_api_Conf (g0_,x0)) 27]) Y) ?_ ?_
         ·intro K
          refine QC.l2.partial_correctness x0 i11 (motive:=fun i53 i54 x=>KR (fun sq52 Y=>∀ (p57:Option Addr) (c58:Nat),At 117 [(1,.pointer (some ⟨b1,0,none⟩)),(3,.slice p57 sq52.length c58),(4,.int .i64 i11)] (Wd w [rowE Qa 38 p57 c58 sq52,Qs b1 (Cd.cs c_api_Conf (g0_,x0)) 27]) Y) _ 4 r x→Round (fun Y=>∀ (p55:Option Addr) (c56:Nat),At 117 [(1,.pointer (some ⟨b1,0,none⟩)),(3,.slice p55 i53.length c56),(4,.int .i64 i11),(5,.pointer (some ⟨b27,0,none⟩)),(7,.int .i64 i54)] (Wd w [Qs b27 (Cd.cs QT (g25,lget x0.f_Peers i11)) 60,rowE Qa 38 p55 c56 i53,Qs b1 (Cd.cs c_api_Conf (g0_,x0)) 27]) Y) _ _ _) ?_ _ _ _ hq52 K p12 c13
          ·clear K hF
           intro g ih i53 i54 x hF K p55 c56
           refine QS ?_
           refine qs (sr (am (fa 85 underlying60 rfl sizeOf58 ?_)))
           refine aw (Ql isAgg58 rfl (Qr (c:=cHd) (y:=⟨g25.1,List.length ((lget x0.f_Peers i11).f_Allowed),g25.2⟩) .z (QaE g25 (lget x0.f_Peers i11)) rfl)) ?_
           refine aw (Q6 underlying58 rfl) ?_
           refine aw xl (nwq [72,7,5,4,3,1] ?_)
           obtain ⟨h59,hF⟩|⟨h59,hF⟩:=oi hF
           ·refine ct h59 ?_
            refine sn (qs ?_)
            refine qb ?_
            refine sr (fa 85 underlying60 rfl sizeOf58 ?_)
            refine aw (Ql isAgg58 rfl (Qr (c:=cHd) (y:=⟨g25.1,List.length ((lget x0.f_Peers i11).f_Allowed),g25.2⟩) .z (QaE g25 (lget x0.f_Peers i11)) rfl)) ?_
            refine am ?_
            obtain ⟨h60,hF⟩:=gd hF
            obtain ⟨b62,o63,hp61⟩:=QR (nz hg26 hn24 (zidx hz22 h17)) h60
            refine aw (r_idx underlying58 sizeOf38 rfl rfl h60 hp61) ?_
            refine aw (Qe (c:=Qa) (z:=lget ((lget x0.f_Peers i11).f_Allowed) i54) isAgg38 sizeOf38 rfl (QaF (fun _ h=>h.below) (nz hg26 hn24 (zidx hz22 h17)) h60 hp61)) ?_
            refine al (cs:=Cd.cs Qa zv9) zeroValue38 ?_
            intro b64
            refine QX (c:=Qa) (z:=lget ((lget x0.f_Peers i11).f_Allowed) i54) .z lw sizeOf38 rfl rfl rfl ?_
            refine nwq [8,7,5,4,3,1] ?_
            obtain ⟨q65,hq65,hF⟩:=bM hF
            refine at_join (q:=q65) (r:=r) (A:=fun (_:Unit) Y=>At 117 [(1,.pointer (some ⟨b1,0,none⟩)),(3,.slice p55 i53.length c56),(4,.int .i64 i11),(5,.pointer (some ⟨b27,0,none⟩)),(7,.int .i64 i54),(8,.pointer (some ⟨b64,0,none⟩))] (Wd w [Qs b64 (Cd.cs Qa (lget ((lget x0.f_Peers i11).f_Allowed) i54)) 38,Qs b27 (Cd.cs QT (g25,lget x0.f_Peers i11)) 60,rowE Qa 38 p55 c56 i53,Qs b1 (Cd.cs c_api_Conf (g0_,x0)) 27]) Y) ?_ ?_
            ·intro Y K
             replace hF:=hq65
             refine qs ?_
             refine Qb4 (by kernel_rfl) (by kernel_rfl) (fun _ h=>h.drew) ?_
             refine Qk rfl rfl rfl (Qe (c:=Qa) (z:=lget ((lget x0.f_Peers i11).f_Allowed) i54) isAgg38 sizeOf38 rfl (Qp .z lw)) ?_
             obtain ⟨t67,ht67,hF⟩:=bM hF
             refine Qbb func40 rfl (by kernel_rfl) rfl rfl (fun w hw=>(Qbx _ _ ht67 w).mono fun _ _ h=>⟨h.1,hw.call h.2⟩) ?_
             refine Qk rfl rfl rfl (r_not rfl) ?_
             refine Qk rfl rfl rfl (Qaf rfl) ?_
             obtain ⟨h68,hF⟩|⟨h68,hF⟩:=oi hF
             ·refine Qa0 (g:=83) rfl h68 ?_
              refine Qj rfl rfl rfl rfl rfl ?_
              refine Qj rfl rfl rfl rfl rfl ?_
              refine Qj rfl rfl rfl rfl rfl ?_
              refine Qv rfl rfl rfl rfl ?_
              refine Qv rfl rfl rfl rfl ?_
              refine Qv rfl rfl rfl rfl ?_
              refine Qv rfl rfl rfl rfl ?_
              refine Qv rfl rfl rfl rfl ?_
              refine Qv rfl rfl rfl rfl ?_
              refine Qv rfl rfl rfl rfl ?_
              refine Qv rfl rfl rfl rfl ?_
              refine Qv rfl rfl rfl rfl ?_
              refine Qj rfl rfl rfl rfl rfl ?_
              refine Qk rfl rfl rfl (Qa4 rfl rfl rfl) ?_
              refine QaX ?_
              refine wq [97,8,7,5,4,3,1] ?_
              refine tn ?_
              refine ct rfl ?_
              refine sr (aa (qn (dz (dz (dz (dz (wq [2] ?_)))))))
              refine tn (qt ?_)
              refine tr (br (tr (tr (br (br (tr (tr (br (tr ?_)))))))))
              obtain rfl:=os hF
              subst K
              exact r1 wb
             ·refine Qa0 (g:=83) rfl h68 ?_
              refine Qi rfl rfl rfl ?_
              refine Qk rfl rfl rfl (Qaf rfl) ?_
              refine Qi rfl rfl rfl ?_
              refine Qk rfl rfl rfl (QcK rfl rfl) ?_
              refine Qi rfl rfl rfl ?_
              refine Qk rfl rfl rfl (Qaf rfl) ?_
              obtain ⟨h69,hF⟩|⟨h69,hF⟩:=oi hF
              ·refine Qa0 (g:=86) rfl h69 ?_
               refine Qi rfl rfl rfl ?_
               refine Qk rfl rfl rfl (QJ (fo:=85) underlying60 rfl rfl (fun w=>⟨_,sizeOf58 w⟩) rfl) ?_
               refine Qi rfl rfl rfl ?_
               refine Qk rfl rfl rfl (Ql isAgg58 rfl (Qr (c:=cHd) (y:=⟨g25.1,List.length ((lget x0.f_Peers i11).f_Allowed),g25.2⟩) (.s .z) (QaE g25 (lget x0.f_Peers i11)) rfl)) ?_
               refine Qi rfl rfl rfl ?_
               refine Qk rfl rfl rfl (Qaf rfl) ?_
               refine Qi rfl rfl rfl ?_
               refine Qk rfl rfl rfl (Qci rfl rfl) ?_
               refine Qi rfl rfl rfl ?_
               obtain ⟨h70,hF⟩:=gd hF
               obtain ⟨b72,o73,hp71⟩:=QR (nz hg26 hn24 (zidx hz22 h17)) h70
               refine Qk rfl rfl rfl (r_idx underlying58 sizeOf38 rfl rfl h70 hp71) ?_
               refine Qi rfl rfl rfl ?_
               refine Qk rfl rfl rfl (Qe (c:=Qa) (z:=lget ((lget x0.f_Peers i11).f_Allowed) (wr .i64 (i54-1))) isAgg38 sizeOf38 rfl (QaF (fun _ h=>h.below) (nz hg26 hn24 (zidx hz22 h17)) h70 hp71)) ?_
               refine Qi rfl rfl rfl ?_
               refine Qk rfl rfl rfl (Qe (c:=Qa) (z:=lget ((lget x0.f_Peers i11).f_Allowed) i54) isAgg38 sizeOf38 rfl (Qp .z lw)) ?_
               refine Qi rfl rfl rfl ?_
               obtain ⟨t74,ht74,hF⟩:=bM hF
               refine Qbb func41 rfl (by kernel_rfl) rfl rfl (fun w hw=>(QcP _ _ _ ht74 w).mono fun _ _ h=>⟨h.1,hw.call h.2⟩) ?_
               refine Qi rfl rfl rfl ?_
               refine Qk rfl rfl rfl (r_not rfl) ?_
               refine Qi rfl rfl rfl ?_
               refine Qk rfl rfl rfl (Qa4 rfl rfl rfl) ?_
               refine Qk rfl rfl rfl (Qa4 rfl rfl rfl) ?_
               refine QaX ?_
               refine wq [97,8,7,5,4,3,1] ?_
               refine tn ?_
               obtain ⟨h75,hF⟩|⟨h75,hF⟩:=oi hF
               ·refine ct h75 ?_
                refine sr (aa (qn (dz (dz (dz (dz (wq [2] ?_)))))))
                refine tn (qt ?_)
                refine tr (br (tr (tr (br (br (tr (tr (br (tr ?_)))))))))
                obtain rfl:=os hF
                subst K
                exact r1 wb
               ·refine cf h75 ?_
                refine sn ?_
                obtain rfl:=os hF
                exact Qm K ⟨rfl,rfl,rfl,rfl,rfl,rfl,trivial⟩
              ·refine Qa0 (g:=86) rfl h69 ?_
               refine Qj rfl rfl rfl rfl rfl ?_
               refine Qj rfl rfl rfl rfl rfl ?_
               refine Qj rfl rfl rfl rfl rfl ?_
               refine Qj rfl rfl rfl rfl rfl ?_
               refine Qj rfl rfl rfl rfl rfl ?_
               refine Qj rfl rfl rfl rfl rfl ?_
               refine Qj rfl rfl rfl rfl rfl ?_
               refine Qj rfl rfl rfl rfl rfl ?_
               refine Qj rfl rfl rfl rfl rfl ?_
               refine Qi rfl rfl rfl ?_
               refine Qk rfl rfl rfl (Qa4 rfl rfl rfl) ?_
               refine Qk rfl rfl rfl (Qa4 rfl rfl rfl) ?_
               refine QaX ?_
               refine wq [97,8,7,5,4,3,1] ?_
               refine tn ?_
               refine cf rfl ?_
               refine sn ?_
               obtain rfl:=os hF
               exact Qm K ⟨rfl,rfl,rfl,rfl,rfl,rfl,trivial⟩
            ·cases q65 with
             | ret r' =>
              obtain rfl:=os hF;exact K
             | nx sq65 =>
              skip
              refine qs (sr (aa (nwq [9,8,7,5,4,3,1] ?_)))
              refine qb ?_
              obtain ⟨q76,hq76,hF⟩:=bM hF
              refine wq [9,8,7,5,4,3,1] ?_
              refine QbG (B:=6) (r:=r) (q:=q76) (A:=fun (_:Unit) Y=>At 117 [(1,.pointer (some ⟨b1,0,none⟩)),(3,.slice p55 i53.length c56),(4,.int .i64 i11),(5,.pointer (some ⟨b27,0,none⟩)),(7,.int .i64 i54),(8,.pointer (some ⟨b64,0,none⟩))] (Wd w [Qs b64 (Cd.cs Qa (lget ((lget x0.f_Peers i11).f_Allowed) i54)) 38,Qs b27 (Cd.cs QT (g25,lget x0.f_Peers i11)) 60,rowE Qa 38 p55 c56 i53,Qs b1 (Cd.cs c_api_Conf (g0_,x0)) 27]) Y) ?_ ?_
              ·intro K
               refine QC.l3.partial_correctness x0 i11 i53 i54 (motive:=fun i77 x=>KR (fun (_:Unit) Y=>At 117 [(1,.pointer (some ⟨b1,0,none⟩)),(3,.slice p55 i53.length c56),(4,.int .i64 i11),(5,.pointer (some ⟨b27,0,none⟩)),(7,.int .i64 i54),(8,.pointer (some ⟨b64,0,none⟩))] (Wd w [Qs b64 (Cd.cs Qa (lget ((lget x0.f_Peers i11).f_Allowed) i54)) 38,Qs b27 (Cd.cs QT (g25,lget x0.f_Peers i11)) 60,rowE Qa 38 p55 c56 i53,Qs b1 (Cd.cs c_api_Conf (g0_,x0)) 27]) Y) _ 6 r x→Round (fun Y=>At 117 [(1,.pointer (some ⟨b1,0,none⟩)),(3,.slice p55 i53.length c56),(4,.int .i64 i11),(5,.pointer (some ⟨b27,0,none⟩)),(7,.int .i64 i54),(8,.pointer (some ⟨b64,0,none⟩)),(9,.int .i64 i77)] (Wd w [Qs b64 (Cd.cs Qa (lget ((lget x0.f_Peers i11).f_Allowed) i54)) 38,Qs b27 (Cd.cs QT (g25,lget x0.f_Peers i11)) 60,rowE Qa 38 p55 c56 i53,Qs b1 (Cd.cs c_api_Conf (g0_,x0)) 27]) Y) _ _ _) ?_ _ _ hq76 K
               ·clear K hF
                intro g ih i77 x hF K
                refine QS ?_
                refine qs (sr (am (am ?_)))
                refine aw (Q6 underlying58 rfl) ?_
                refine aw xl (nwq [101,9,8,7,5,4,3,1] ?_)
                obtain ⟨h78,hF⟩|⟨h78,hF⟩:=oi hF
                ·refine ct h78 ?_
                 refine sn (qs ?_)
                 refine qb ?_
                 refine qs (wq [9,8,7,5,4,3,1] ?_)
                 obtain ⟨h79,hF⟩:=gd hF
                 refine QaU (φ:=∃ b o,p55=some ⟨b,o,none⟩) (fun _ hw=>QR (hw.own (.s (.s .z))).row h79) ?_
                 rintro ⟨b81,o82,hp80⟩
                 refine Qcv [.q 104 (fun g83=>.slice p55 i53.length c56) [] 0 0,.q 105 (fun g83=>.int .i64 i77) [] 0 0,.q 106 (fun g83=>.pointer (some ⟨b81,o82+Int.toNat i77*18,none⟩)) [0,1] 0 0,.q 107 (fun g83=>.agg (Cd.cs Qa (lget i53 i77)).toArray) [2] 0 0,.q 108 (fun g83=>.agg (Cd.cs Qa (lget ((lget x0.f_Peers i11).f_Allowed) i54)).toArray) [] 0 0,.q 109 (fun g83=>.bool (decide (lget i53 i77=lget ((lget x0.f_Peers i11).f_Allowed) i54))) [3,4] 0 0] (fun g83 s=>match s with | _=>(Wd w [Qs b64 (Cd.cs Qa (lget ((lget x0.f_Peers i11).f_Allowed) i54)) 38,Qs b27 (Cd.cs QT (g25,lget x0.f_Peers i11)) 60,rowE Qa 38 p55 c56 i53,Qs b1 (Cd.cs c_api_Conf (g0_,x0)) 27])) 0 (by kernel_rfl) (by kernel_rfl) (by kernel_rfl) (by kernel_rfl) (by kernel_rfl) ⟨fun _ _ _=>rfl,fun _ _ _=>rfl,fun _ _ _=>rfl,fun _ _ _=>rfl,fun _ _ _=>rfl,fun _ _ _=>rfl,trivial⟩ (by kernel_rfl) (fun w_ h=>⟨fun _=>g3 0 none 0 none w_,h.drew⟩) ⟨?_,?_,?_,?_,?_,?_,trivial⟩ ?_
                 ·intro Lx g83 s K hl hh k
                  show At 117 ((1,_)::(3,_)::(4,_)::(5,_)::(7,_)::(8,_)::(9,_)::Lx) _ _
                  refine am ?_
                  exact Qn k
                 ·intro Lx g83 s K hl hh k
                  show At 117 ((1,_)::(3,_)::(4,_)::(5,_)::(7,_)::(8,_)::(9,_)::Lx) _ _
                  refine am ?_
                  exact Qn k
                 ·intro Lx g83 s K hl hh k
                  show At 117 ((104,_)::(105,_)::(1,_)::(3,_)::(4,_)::(5,_)::(7,_)::(8,_)::(9,_)::Lx) _ _
                  refine aw (r_idx underlying58 sizeOf38 rfl rfl h79 hp80) ?_
                  exact Qn k
                 ·intro Lx g83 s K hl hh k
                  show At 117 ((106,_)::(1,_)::(3,_)::(4,_)::(5,_)::(7,_)::(8,_)::(9,_)::Lx) _ _
                  obtain rfl:s=0:=by omega
                  refine aw (Qe (c:=Qa) (z:=lget i53 i77) isAgg38 sizeOf38 rfl (fun w1 hw=>QaF (W:=fun w1=>w1=_) (fun w1 h=>by subst h;exact Below.refl _ _) (hw.own (.s (.s .z))).row h79 hp80 _ rfl)) ?_
                  exact Qn k
                 ·intro Lx g83 s K hl hh k
                  show At 117 ((1,_)::(3,_)::(4,_)::(5,_)::(7,_)::(8,_)::(9,_)::Lx) _ _
                  obtain rfl:s=0:=by omega
                  refine aw (Qe (c:=Qa) (z:=lget ((lget x0.f_Peers i11).f_Allowed) i54) isAgg38 sizeOf38 rfl (Qp .z lw)) ?_
                  exact Qn k
                 ·intro Lx g83 s K hl hh k
                  show At 117 ((107,_)::(108,_)::(1,_)::(3,_)::(4,_)::(5,_)::(7,_)::(8,_)::(9,_)::Lx) _ _
                  refine aw (Qbz (c:=Qa) (a:=lget i53 i77) (b:=lget ((lget x0.f_Peers i11).f_Allowed) i54) (Qap) rfl Tryz.eqGuardType38 rfl rfl (.inl rfl) rfl) ?_
                  exact Qn k
                 intro g83
                 show At 117 [(104,_),(105,_),(106,_),(107,_),(108,_),(109,_),(1,_),(3,_),(4,_),(5,_),(7,_),(8,_),(9,_)] _ _
                 refine wq [109,9,8,7,5,4,3,1] ?_
                 refine tn ?_
                 obtain ⟨h84,hF⟩|⟨h84,hF⟩:=oi hF
                 ·refine ct h84 ?_
                  refine sr (aa (qn (dz (dz (dz (dz (wq [2] ?_)))))))
                  refine tn (qt ?_)
                  refine br (tr (tr (br (tr (br (tr (tr (br (br (tr (tr (br (tr ?_)))))))))))))
                  obtain rfl:=os hF
                  subst K
                  exact r1 wb
                 ·refine cf h84 ?_
                  refine Qaz ?_
                  refine bm ?_
                  refine qr (am (aw xa (aa (nwq [9,8,7,5,4,3,1] ?_))))
                  exact Qm (ih _ _ hF K) ⟨rfl,rfl,rfl,rfl,rfl,rfl,rfl,trivial⟩
                ·refine cf h78 ?_
                 refine Q1 ?_
                 refine te (te ?_)
                 obtain rfl:=os hF
                 exact Qm K ⟨rfl,rfl,rfl,rfl,rfl,rfl,trivial⟩
              ·cases q76 with
               | ret r'=>obtain rfl:=os hF;exact K
               | nx sq76 =>
                skip
                refine Qw ?_
                refine tn (qr (am ?_))
                refine aw (Qe (c:=Qa) (z:=lget ((lget x0.f_Peers i11).f_Allowed) i54) isAgg38 sizeOf38 rfl (Qp .z lw)) ?_
                refine Qbu (c:=Qa) ([zv9]:List Qc) ([lget ((lget x0.f_Peers i11).f_Allowed) i54]:List Qc) underlying58 sizeOf38 zeroValue38 rfl rfl rfl (by kernel_rfl) (QI (c:=Qa) (z:=lget ((lget x0.f_Peers i11).f_Allowed) i54) rfl (Lens.all Qa ([zv9]:List Qc) 0 (by first | decide | exact Nat.le_of_ble_eq_true rfl)) rfl rfl) rfl ?_
                intro b85
                obtain ⟨h86,hF⟩:=gd hF
                refine Qax (z:=.agg (Cd.cs Qa zv9).toArray) (c:=Qa) (ys:=([lget ((lget x0.f_Peers i11).f_Allowed) i54]:List Qc)) (.s (.s (.s .z))) underlying58 infoV138 (by kernel_rfl) (by kernel_rfl) rfl rfl rfl rfl (fun _ hw=>Qaw (hw.ok (Upd.mem .z))) (by kernel_rfl) h86 (Qaj h86) rfl ?_
                intro p87 c88
                refine aa (qn (dz (dz (wq [7,5,4,3,1] ?_))))
                refine bm ?_
                refine qr (am (aw xa (aa (nwq [7,5,4,3,1] ?_))))
                exact Qm (ih _ _ _ hF K p87 c88) ⟨rfl,rfl,rfl,rfl,rfl,trivial⟩
           ·refine cf h59 ?_
            refine Q1 ?_
            refine te (te ?_)
            refine dz ?_
            obtain rfl:=os hF
            exact Qm (K p55 c56) ⟨rfl,rfl,rfl,trivial⟩
         ·cases q52 with
          | ret r'=>obtain rfl:=os hF;exact K
          | nx sq52 =>
           intro p57 c58
           refine Qw ?_
           refine bm ?_
           refine qr (am (aw xa (aa (nwq [4,3,1] ?_))))
           exact Qm (ih _ _ _ hF K p57 c58) ⟨rfl,rfl,rfl,trivial⟩
    ·refine cf h16 ?_
     refine Q1 ?_
     refine te (te ?_)
     refine Qal (H:=_) (.s .z) ?_
     obtain rfl:=os hF
     exact Qm (K p12 c13) ⟨rfl,trivial⟩
  ·cases q9 with
   | ret r'=>exact os hF
   | nx sq9 =>
    intro p14 c15
    refine Qw ?_
    refine tn (sr (am ?_))
    refine aw (Q6 underlying58 rfl) ?_
    refine aw (Qgj rfl rfl) ?_
    refine aa (qn (dz (wq [2] ?_)))
    refine tn (qt ?_)
    have K:=os hF
    subst K
    exact r1 wb
def Qdr(x0:Int):Option (Bool) :=
 if (decide (x0≥0))=true then (some (decide (x0≤65535))) else (some false)
theorem view_short_ok(x0:Int)(r:Bool)(hF:Qdr x0=some r)(w:World) :
    Calls Tryz.prog 43 #[.int .i64 x0] w (fun e w'=>e=.returned (.bool r)∧w'=w):=by
 unfold Qdr at hF
 refine ce (l:=[.int .i64 x0]) func43 rfl rfl ?_
 refine sr (aa (nwx [0] ?_))
 refine am ?_
 refine aw (Qei rfl rfl) ?_
 refine am ?_
 obtain ⟨h1,hF⟩|⟨h1,hF⟩:=oi hF
 ·refine fx 5 h1 ?_
  refine gy ?_
  refine am ?_
  refine gy ?_
  refine aw (Qgj rfl rfl) ?_
  refine aw xp (aa (nwq [2] ?_))
  refine qt ?_
  have K:=os hF
  subst K
  exact r1 (fun w1 hw=>⟨rfl,hw⟩)
 refine fx 5 h1 ?_
 refine gn ?_
 refine gn ?_
 refine aw xp (aa (nwq [2] ?_))
 refine qt ?_
 have K:=os hF
 subst K
 exact r1 (fun w1 hw=>⟨rfl,hw⟩)
def QbR.l0(x0:List Qc)(i2:Int):Option (Ctl (Bool) (Unit)) :=
 if (decide (i2<(x0.length:Int)))=true then (if (0:Int)≤i2∧i2<(x0.length:Int) then QbM (lget x0 i2)>>=fun t9=>if (!t9)=true then (some (.ret false)) else (if (decide (i2>0))=true then (if (0:Int)≤wr .i64 (i2-1)∧wr .i64 (i2-1)<(x0.length:Int) then Qc0 (lget x0 (wr .i64 (i2-1))) (lget x0 i2)>>=fun t16=>if (!t16)=true then (some (.ret false)) else (QbR.l0 x0 (wr .i64 (i2+1))) else none) else (QbR.l0 x0 (wr .i64 (i2+1)))) else none) else (some (.nx ()))
 partial_fixpoint
def QbR(x0:List Qc):Option (Bool) :=
 QbR.l0 x0 0>>=fun q1=>match q1 with | .ret r'=>some r' | .nx sq1=>(some true)
theorem view_rising_ok(x0:List Qc)(p0_:Option Addr)(c0_:Nat)(r:Bool)(hF:QbR x0=some r)(w:World)(hr0:Row Qa w p0_ c0_ x0) :
    Calls Tryz.prog 44 #[.slice p0_ x0.length c0_] w (fun e w'=>e=.returned (.bool r)∧Below w.heap.size w w'):=by
 unfold QbR at hF
 refine ce (l:=[.slice p0_ x0.length c0_]) func44 rfl rfl ?_
 refine QN ?_
 refine sr (aa (nt (qs (sr (am ?_)))))
 refine aw (Q6 underlying58 rfl) ?_
 refine am (nwq [7,6,5,0] ?_)
 refine qb ?_
 obtain ⟨q1,hq1,hF⟩:=bM hF
 refine wq [7,6,5,0] ?_
 refine QbG (B:=0) (r:=r) (q:=q1) (A:=fun (_:Unit) Y=>At 30 [] (Wd w []) Y) ?_ ?_
 ·intro K
  refine QbR.l0.partial_correctness x0 (motive:=fun i2 x=>KR (fun (_:Unit) Y=>At 30 [] (Wd w []) Y) _ 0 r x→Round (fun Y=>At 30 [(0,.slice p0_ x0.length c0_),(5,.slice p0_ x0.length c0_),(6,.int .i64 (x0.length:Int)),(7,.int .i64 i2)] (Wd w []) Y) _ _ _) ?_ _ _ hq1 K
  ·clear K hF
   intro g ih i2 x hF K
   refine QS ?_
   refine sr (aw xl (nwq [8,7,6,5,0] ?_))
   refine qs ?_
   obtain ⟨h3,hF⟩|⟨h3,hF⟩:=oi hF
   ·refine ct h3 ?_
    refine sn (qs ?_)
    refine qb ?_
    refine sr (am ?_)
    obtain ⟨h4,hF⟩:=gd hF
    obtain ⟨b6,o7,hp5⟩:=QR hr0 h4
    refine aw (r_idx underlying58 sizeOf38 rfl rfl h4 hp5) ?_
    refine aw (Qe (c:=Qa) (z:=lget x0 i2) isAgg38 sizeOf38 rfl (QaF (fun _ h=>h.below) hr0 h4 hp5)) ?_
    refine al (cs:=Cd.cs Qa zv9) zeroValue38 ?_
    intro b8
    refine aa ?_
    refine QX (c:=Qa) (z:=lget x0 i2) .z lw sizeOf38 rfl rfl rfl ?_
    refine nwq [7,6,5,4,3,0] ?_
    refine qs ?_
    refine Qb4 (by kernel_rfl) (by kernel_rfl) (fun _ h=>h.drew) ?_
    refine Qk rfl rfl rfl (Qe (c:=Qa) (z:=lget x0 i2) isAgg38 sizeOf38 rfl (Qp .z lw)) ?_
    obtain ⟨t9,ht9,hF⟩:=bM hF
    refine Qbb func61 rfl (by kernel_rfl) rfl rfl (fun w hw=>(QcU _ _ ht9 w).mono fun _ _ h=>⟨h.1,hw.call h.2⟩) ?_
    refine Qk rfl rfl rfl (r_not rfl) ?_
    refine Qk rfl rfl rfl (Qaf rfl) ?_
    obtain ⟨h10,hF⟩|⟨h10,hF⟩:=oi hF
    ·refine Qa0 (g:=15) rfl h10 ?_
     refine Qj rfl rfl rfl rfl rfl ?_
     refine Qj rfl rfl rfl rfl rfl ?_
     refine Qj rfl rfl rfl rfl rfl ?_
     refine Qv rfl rfl rfl rfl ?_
     refine Qv rfl rfl rfl rfl ?_
     refine Qv rfl rfl rfl rfl ?_
     refine Qv rfl rfl rfl rfl ?_
     refine Qv rfl rfl rfl rfl ?_
     refine Qv rfl rfl rfl rfl ?_
     refine Qv rfl rfl rfl rfl ?_
     refine Qv rfl rfl rfl rfl ?_
     refine Qj rfl rfl rfl rfl rfl ?_
     refine Qk rfl rfl rfl (Qa4 rfl rfl rfl) ?_
     refine QaX ?_
     refine dz (wq [28,7,6,5,0] ?_)
     refine tn ?_
     refine ct rfl ?_
     refine sr (aa (nwq [2] ?_))
     refine qt ?_
     refine br (tr (tr (br (tr ?_))))
     obtain rfl:=os hF
     subst K
     exact r1 wb
    refine Qa0 (g:=15) rfl h10 ?_
    refine Qi rfl rfl rfl ?_
    refine Qk rfl rfl rfl (Qaf rfl) ?_
    refine Qi rfl rfl rfl ?_
    refine Qk rfl rfl rfl (QcK rfl rfl) ?_
    refine Qi rfl rfl rfl ?_
    refine Qk rfl rfl rfl (Qaf rfl) ?_
    obtain ⟨h11,hF⟩|⟨h11,hF⟩:=oi hF
    ·refine Qa0 (g:=18) rfl h11 ?_
     refine Qi rfl rfl rfl ?_
     refine Qk rfl rfl rfl (Qaf rfl) ?_
     refine Qi rfl rfl rfl ?_
     refine Qk rfl rfl rfl (Qaf rfl) ?_
     refine Qi rfl rfl rfl ?_
     refine Qk rfl rfl rfl (Qci rfl rfl) ?_
     refine Qi rfl rfl rfl ?_
     obtain ⟨h12,hF⟩:=gd hF
     obtain ⟨b14,o15,hp13⟩:=QR hr0 h12
     refine Qk rfl rfl rfl (r_idx underlying58 sizeOf38 rfl rfl h12 hp13) ?_
     refine Qi rfl rfl rfl ?_
     refine Qk rfl rfl rfl (Qe (c:=Qa) (z:=lget x0 (wr .i64 (i2-1))) isAgg38 sizeOf38 rfl (QaF (fun _ h=>h.below) hr0 h12 hp13)) ?_
     refine Qi rfl rfl rfl ?_
     refine Qk rfl rfl rfl (Qe (c:=Qa) (z:=lget x0 i2) isAgg38 sizeOf38 rfl (Qp .z lw)) ?_
     refine Qi rfl rfl rfl ?_
     obtain ⟨t16,ht16,hF⟩:=bM hF
     refine Qbb func70 rfl (by kernel_rfl) rfl rfl (fun w hw=>(QdF _ _ _ ht16 w).mono fun _ _ h=>⟨h.1,hw.call h.2⟩) ?_
     refine Qi rfl rfl rfl ?_
     refine Qk rfl rfl rfl (r_not rfl) ?_
     refine Qi rfl rfl rfl ?_
     refine Qk rfl rfl rfl (Qa4 rfl rfl rfl) ?_
     refine Qk rfl rfl rfl (Qa4 rfl rfl rfl) ?_
     refine QaX ?_
     refine dz (wq [28,7,6,5,0] ?_)
     refine tn ?_
     obtain ⟨h17,hF⟩|⟨h17,hF⟩:=oi hF
     ·refine ct h17 ?_
      refine sr (aa (nwq [2] ?_))
      refine qt ?_
      refine br (tr (tr (br (tr ?_))))
      obtain rfl:=os hF
      subst K
      exact r1 wb
     refine cf h17 ?_
     refine Qaz ?_
     refine bm ?_
     refine qr (aw xa (am (nwq [7,6,5,0] ?_)))
     exact Qm (ih _ _ hF K) ⟨rfl,rfl,rfl,rfl,trivial⟩
    refine Qa0 (g:=18) rfl h11 ?_
    refine Qj rfl rfl rfl rfl rfl ?_
    refine Qj rfl rfl rfl rfl rfl ?_
    refine Qj rfl rfl rfl rfl rfl ?_
    refine Qj rfl rfl rfl rfl rfl ?_
    refine Qj rfl rfl rfl rfl rfl ?_
    refine Qj rfl rfl rfl rfl rfl ?_
    refine Qj rfl rfl rfl rfl rfl ?_
    refine Qj rfl rfl rfl rfl rfl ?_
    refine Qi rfl rfl rfl ?_
    refine Qk rfl rfl rfl (Qa4 rfl rfl rfl) ?_
    refine Qk rfl rfl rfl (Qa4 rfl rfl rfl) ?_
    refine QaX ?_
    refine dz (wq [28,7,6,5,0] ?_)
    refine tn ?_
    refine cf rfl ?_
    refine Qaz ?_
    refine bm ?_
    refine qr (aw xa (am (nwq [7,6,5,0] ?_)))
    exact Qm (ih _ _ hF K) ⟨rfl,rfl,rfl,rfl,trivial⟩
   refine cf h3 ?_
   refine Q1 ?_
   refine te (te ?_)
   obtain rfl:=os hF
   exact Qm K trivial
 cases q1 with
 | ret r'=>exact os hF
 | nx sq1 =>
  skip
  refine Qw ?_
  refine tn (sr (aa (nwq [2] ?_)))
  refine qt ?_
  have K:=os hF
  subst K
  exact r1 wb
def Qa8.l1(x0:S_api_Conf)(i10:Int)(i39:Int)(i40:List (Qc×Bool)):Option (Ctl (Bool) (List (Qc×Bool))) :=
 if (decide (i39<(((lget x0.f_Peers i10).f_Allowed).length:Int)))=true then (if (0:Int)≤i39∧i39<(((lget x0.f_Peers i10).f_Allowed).length:Int) then if (mget i40 (lget ((lget x0.f_Peers i10).f_Allowed) i39) false)=true then (some (.ret false)) else (Qa8.l1 x0 i10 (wr .i64 (i39+1)) (mput i40 (lget ((lget x0.f_Peers i10).f_Allowed) i39) true)) else none) else (some (.nx i40))
 partial_fixpoint
def Qa8.l0(x0:S_api_Conf)(i10:Int)(i11:List (Qc×Bool))(i12:List ((Vector Int 32)×Bool)):Option (Ctl (Bool) (List (Qc×Bool))) :=
 if (decide (i10<(x0.f_Peers.length:Int)))=true then (if (0:Int)≤i10∧i10<(x0.f_Peers.length:Int) then (if (mget i12 ((lget x0.f_Peers i10).f_Key) false)=true then (some (.ret false)) else (Qdr ((lget x0.f_Peers i10).f_Keep)>>=fun t28=>if (!t28)=true then (some (.ret false)) else (QbR ((lget x0.f_Peers i10).f_Allowed)>>=fun t30=>if (!t30)=true then (some (.ret false)) else (some (.nx ())))):Option (Ctl (Bool) (Unit)))>>=fun q25=>match q25 with | .ret r'=>some (.ret r') | .nx sq25=>((Qdf ((lget x0.f_Peers i10).f_End)>>=fun t34=>if (!t34)=true then (Qcm ((lget x0.f_Peers i10).f_End)>>=fun t36=>if (!t36)=true then (some (.ret false)) else (some (.nx ()))) else (some (.nx ())):Option (Ctl (Bool) (Unit)))>>=fun q32=>match q32 with | .ret r'=>some (.ret r') | .nx sq32=>(Qa8.l1 x0 i10 0 i11>>=fun q38=>match q38 with | .ret r'=>some (.ret r') | .nx sq38=>(Qa8.l0 x0 (wr .i64 (i10+1)) sq38 (mput i12 ((lget x0.f_Peers i10).f_Key) true)))) else none) else (some (.nx i11))
 partial_fixpoint
def Qa8(x0:S_api_Conf):Option (Bool) :=
 (Qdr x0.f_Port>>=fun t4=>if (!t4)=true then (some (.ret false)) else (if (decide ((x0.f_Peers.length:Int)>16))=true then (some (.ret false)) else (some (.nx ()))):Option (Ctl (Bool) (Unit)))>>=fun q2=>match q2 with | .ret r'=>some r' | .nx sq2=>(Qa8.l0 x0 0 ([]:List (Qc×Bool)) (mput ([]:List ((Vector Int 32)×Bool)) (Vector.replicate 32 (0:Int):(Vector Int 32)) true)>>=fun q9=>match q9 with | .ret r'=>some r' | .nx sq9=>(some (decide ((List.length sq9:Int)≤64))))
theorem view_Right_ok(g0_:G_api_Conf)(x0:S_api_Conf)(r:Bool)(hF:Qa8 x0=some r)(w:World)(hn0:N_api_Conf w (g0_,x0)) :
    Calls Tryz.prog 18 #[.agg (Cd.cs c_api_Conf (g0_,x0)).toArray] w (fun e w'=>e=.returned (.bool r)∧Below w.heap.size w w'):=by
 unfold Qa8 at hF
 refine ce (l:=[.agg (Cd.cs c_api_Conf (g0_,x0)).toArray]) func18 rfl rfl ?_
 refine QN ?_
 refine sr ?_
 refine Qag (cs:=Cd.cs c_api_Conf (g0_,x0)) rfl rfl rfl ?_
 intro b1
 refine aa (nwq [1] ?_)
 obtain ⟨q2,hq2,hF⟩:=bM hF
 refine at_join (q:=q2) (r:=r) (A:=fun (_:Unit) Y=>At 76 [(1,.pointer (some ⟨b1,0,none⟩))] (Wd w [Qs b1 (Cd.cs c_api_Conf (g0_,x0)) 27]) Y) ?_ ?_
 ·intro Y K
  replace hF:=hq2
  refine sr (fa 32 underlying27 rfl sizeOf3 ?_)
  refine aw (Ql isAgg3 rfl (Qr (c:=(cInt .i64)) (y:=x0.f_Port) .z (QeG g0_ x0) rfl)) ?_
  obtain ⟨t4,ht4,hF⟩:=bM hF
  refine Qdj func43 rfl (by kernel_rfl) rfl rfl (fun w=>view_short_ok _ _ ht4 w) ?_
  refine aw (r_not rfl) ?_
  refine am ?_
  obtain ⟨h5,hF⟩|⟨h5,hF⟩:=oi hF
  ·refine fx 13 h5 ?_
   refine gn ?_
   refine gn ?_
   refine gn ?_
   refine gn ?_
   refine aw xp (nwq [18,1] ?_)
   refine ct rfl ?_
   refine sr (aa (qn (dz (wq [2] ?_))))
   refine tn (rt ?_)
   obtain rfl:=os hF
   subst K
   exact r1 wb
  refine fx 13 h5 ?_
  refine gy ?_
  refine fa 34 underlying27 rfl sizeOf25 ?_
  refine gy ?_
  refine aw (Ql isAgg25 rfl (Qr (c:=cHd) (y:=⟨g0_.1,List.length x0.f_Peers,g0_.2⟩) .z (QD g0_ x0) rfl)) ?_
  refine gy ?_
  refine aw (Q6 underlying25 rfl) ?_
  refine gy ?_
  refine aw (QcK rfl rfl) ?_
  refine aw xp (nwq [18,1] ?_)
  obtain ⟨h6,hF⟩|⟨h6,hF⟩:=oi hF
  ·refine ct h6 ?_
   refine sr (aa (qn (dz (wq [2] ?_))))
   refine tn (rt ?_)
   obtain rfl:=os hF
   subst K
   exact r1 wb
  refine cf h6 ?_
  refine sn ?_
  obtain rfl:=os hF
  exact Qm K ⟨rfl,trivial⟩
 cases q2 with
 | ret r' =>
  exact os hF
 | nx sq2 =>
  skip
  refine sr ?_
  refine at_makeMap (cVec (cInt .u8) 32 (by decide)) cBool false rfl ?_
  intro b7
  refine aw (Qcw (zs:=Cd.cs (cVec (cInt .u8) 32 (by decide)) zv3) (cs:=Cd.cs (cVec (cInt .u8) 32 (by decide)) zv3) underlying23 zeroValue23 rfl sizeOf5 rfl rfl) ?_
  refine at_insert (k:=zv3) (v:=true) .z underlying84 (keylaw_vec underlying23 underlying5 sizeOf5 isAgg5 (QeT underlying23 infoT5 sizeOf5 isAgg5 (.inr rfl) (QdM underlying5)) (by decide)) rfl rfl rfl rfl ?_
  refine am ?_
  refine at_makeMap Qa cBool false rfl ?_
  intro b8
  refine aa (aa (nt (qs (sr (fa 34 underlying27 rfl sizeOf25 ?_)))))
  refine aw (Ql isAgg25 rfl (Qr (c:=cHd) (y:=⟨g0_.1,List.length x0.f_Peers,g0_.2⟩) (.s (.s .z)) (QD g0_ x0) rfl)) ?_
  refine aw (Q6 underlying25 rfl) ?_
  refine am (qn ?_)
  refine Qal (H:=_) (.s (.s .z)) ?_
  refine wq [26,25,24,4,3] ?_
  refine tn ?_
  refine qb ?_
  obtain ⟨q9,hq9,hF⟩:=bM hF
  refine wq [26,25,24,4,3] ?_
  refine QbG (B:=0) (r:=r) (q:=q9) (A:=fun sq9 Y=>At 76 [(4,.map (some b8))] (Wd w [mapE b8 Qa cBool false sq9]) Y) ?_ ?_
  ·intro K
   refine Qa8.l0.partial_correctness x0 (motive:=fun i10 i11 i12 x=>KR (fun sq9 Y=>At 76 [(4,.map (some b8))] (Wd w [mapE b8 Qa cBool false sq9]) Y) _ 0 r x→Round (fun Y=>At 76 [(3,.map (some b7)),(4,.map (some b8)),(24,.slice g0_.1 x0.f_Peers.length g0_.2),(25,.int .i64 (x0.f_Peers.length:Int)),(26,.int .i64 i10)] (Wd w [mapE b8 Qa cBool false i11,mapE b7 (cVec (cInt .u8) 32 (by decide)) cBool false i12]) Y) _ _ _) ?_ _ _ _ _ hq9 K
   ·clear K hF
    intro g ih i10 i11 i12 x hF K
    refine QS ?_
    refine sr (aw xl (nwq [27,26,25,24,4,3] ?_))
    refine qs ?_
    obtain ⟨h13,hF⟩|⟨h13,hF⟩:=oi hF
    ·refine ct h13 ?_
     refine sn (qs ?_)
     refine qb ?_
     refine sr ?_
     obtain ⟨h14,hF⟩:=gd hF
     obtain ⟨zs18,hz19,hr20,hn21⟩:=id hn0
     obtain ⟨b16,o17,hp15⟩:=QR hr20 (zidx hz19 h14)
     obtain ⟨g22,hg23⟩:=zget hz19 i10
     refine aw (r_idx underlying25 sizeOf60 rfl rfl h14 hp15) ?_
     refine aw (Qe (c:=QT) (z:=(g22,lget x0.f_Peers i10)) isAgg60 sizeOf60 rfl (ncell (fun _ h=>h.below) hr20 (zidx hz19 h14) hp15 hg23)) ?_
     refine al (cs:=Cd.cs QT zv14) zeroValue60 ?_
     intro b24
     refine QX (c:=QT) (z:=(g22,lget x0.f_Peers i10)) .z lw sizeOf60 rfl rfl rfl ?_
     refine nwq [26,25,24,6,4,3] ?_
     obtain ⟨q25,hq25,hF⟩:=bM hF
     refine at_join (q:=q25) (r:=r) (A:=fun (_:Unit) Y=>At 76 [(3,.map (some b7)),(4,.map (some b8)),(6,.pointer (some ⟨b24,0,none⟩)),(24,.slice g0_.1 x0.f_Peers.length g0_.2),(25,.int .i64 (x0.f_Peers.length:Int)),(26,.int .i64 i10)] (Wd w [Qs b24 (Cd.cs QT (g22,lget x0.f_Peers i10)) 60,mapE b8 Qa cBool false i11,mapE b7 (cVec (cInt .u8) 32 (by decide)) cBool false i12]) Y) ?_ ?_
     ·intro Y K
      replace hF:=hq25
      refine sr (am (fa 0 underlying60 rfl sizeOf23 ?_))
      refine aw (Qe (c:=(cVec (cInt .u8) 32 (by decide))) (z:=(lget x0.f_Peers i10).f_Key) isAgg23 sizeOf23 rfl (Qp .z (Qb2 g22 (lget x0.f_Peers i10)))) ?_
      refine aw (r_lookup (d:=cBool) (va:=false) (k:=(lget x0.f_Peers i10).f_Key) (zv:=false) underlying84 (keylaw_vec underlying23 underlying5 sizeOf5 isAgg5 (QeT underlying23 infoT5 sizeOf5 isAgg5 (.inr rfl) (QdM underlying5)) (by decide)) zeroValue4 rfl rfl (fun w1 hw=>hw.ok (Upd.mem (.s (.s .z))))) ?_
      refine am ?_
      obtain ⟨h27,hF⟩|⟨h27,hF⟩:=oi hF
      ·refine fx 34 h27 ?_
       refine gn ?_
       refine gn ?_
       refine gn ?_
       refine gn ?_
       refine aw xp (am ?_)
       refine gn ?_
       refine gn ?_
       refine gn ?_
       refine gn ?_
       refine aw xp (nwq [45,26,25,24,6,4,3] ?_)
       refine ct rfl ?_
       refine sr (aa (qn (dz (dz (dz (wq [2] ?_))))))
       refine tn (qt ?_)
       refine tr (br (tr (tr (br (tr ?_)))))
       obtain rfl:=os hF
       subst K
       exact r1 wb
      ·refine fx 34 h27 ?_
       refine gy ?_
       refine fa 82 underlying60 rfl sizeOf3 ?_
       refine gy ?_
       refine aw (Ql isAgg3 rfl (Qr (c:=(cInt .i64)) (y:=(lget x0.f_Peers i10).f_Keep) .z (QeF g22 (lget x0.f_Peers i10)) rfl)) ?_
       refine gy ?_
       obtain ⟨t28,ht28,hF⟩:=bM hF
       refine Qdj func43 rfl (by kernel_rfl) rfl rfl (fun w=>view_short_ok _ _ ht28 w) ?_
       refine gy ?_
       refine aw (r_not rfl) ?_
       refine aw xp (am ?_)
       obtain ⟨h29,hF⟩|⟨h29,hF⟩:=oi hF
       ·refine fx 40 h29 ?_
        refine gn ?_
        refine gn ?_
        refine gn ?_
        refine gn ?_
        refine aw xp (nwq [45,26,25,24,6,4,3] ?_)
        refine ct rfl ?_
        refine sr (aa (qn (dz (dz (dz (wq [2] ?_))))))
        refine tn (qt ?_)
        refine tr (br (tr (tr (br (tr ?_)))))
        obtain rfl:=os hF
        subst K
        exact r1 wb
       ·refine fx 40 h29 ?_
        refine gy ?_
        refine fa 85 underlying60 rfl sizeOf58 ?_
        refine gy ?_
        refine aw (Ql isAgg58 rfl (Qr (c:=cHd) (y:=⟨g22.1,List.length ((lget x0.f_Peers i10).f_Allowed),g22.2⟩) .z (QaE g22 (lget x0.f_Peers i10)) rfl)) ?_
        refine gy ?_
        obtain ⟨t30,ht30,hF⟩:=bM hF
        refine cB func44 rfl (fun w hw=>view_rising_ok _ _ _ _ ht30 w ((nz hg23 hn21 (zidx hz19 h14)).below hw.below)) ?_
        refine gy ?_
        refine aw (r_not rfl) ?_
        refine aw xp (nwq [45,26,25,24,6,4,3] ?_)
        obtain ⟨h31,hF⟩|⟨h31,hF⟩:=oi hF
        ·refine ct h31 ?_
         refine sr (aa (qn (dz (dz (dz (wq [2] ?_))))))
         refine tn (qt ?_)
         refine tr (br (tr (tr (br (tr ?_)))))
         obtain rfl:=os hF
         subst K
         exact r1 wb
        ·refine cf h31 ?_
         refine sn ?_
         obtain rfl:=os hF
         exact Qm K ⟨rfl,rfl,rfl,rfl,rfl,rfl,trivial⟩
     ·cases q25 with
      | ret r' =>
       obtain rfl:=os hF;exact K
      | nx sq25 =>
       skip
       obtain ⟨q32,hq32,hF⟩:=bM hF
       refine at_join (q:=q32) (r:=r) (A:=fun (_:Unit) Y=>At 76 [(3,.map (some b7)),(4,.map (some b8)),(6,.pointer (some ⟨b24,0,none⟩)),(24,.slice g0_.1 x0.f_Peers.length g0_.2),(25,.int .i64 (x0.f_Peers.length:Int)),(26,.int .i64 i10)] (Wd w [Qs b24 (Cd.cs QT (g22,lget x0.f_Peers i10)) 60,mapE b8 Qa cBool false i11,mapE b7 (cVec (cInt .u8) 32 (by decide)) cBool false i12]) Y) ?_ ?_
       ·intro Y K
        replace hF:=hq32
        refine sr (fa 64 underlying60 rfl sizeOf56 ?_)
        refine aw (Qe (c:=QA) (z:=(lget x0.f_Peers i10).f_End) isAgg56 sizeOf56 rfl (Qp .z (Qbf g22 (lget x0.f_Peers i10)))) ?_
        obtain ⟨t34,ht34,hF⟩:=bM hF
        refine cB func45 rfl (fun w hw=>Qe9 _ _ ht34 w) ?_
        refine aw (r_not rfl) ?_
        refine am ?_
        obtain ⟨h35,hF⟩|⟨h35,hF⟩:=oi hF
        ·refine fx 50 h35 ?_
         refine gy ?_
         refine fa 64 underlying60 rfl sizeOf56 ?_
         refine gy ?_
         refine aw (Qe (c:=QA) (z:=(lget x0.f_Peers i10).f_End) isAgg56 sizeOf56 rfl (Qp .z (Qbf g22 (lget x0.f_Peers i10)))) ?_
         refine gy ?_
         obtain ⟨t36,ht36,hF⟩:=bM hF
         refine cB func46 rfl (fun w hw=>hostport_Right_ok _ _ ht36 w) ?_
         refine gy ?_
         refine aw (r_not rfl) ?_
         refine aw xp (nwq [55,26,25,24,6,4,3] ?_)
         obtain ⟨h37,hF⟩|⟨h37,hF⟩:=oi hF
         ·refine ct h37 ?_
          refine sr (aa (qn (dz (dz (dz (wq [2] ?_))))))
          refine tn (qt ?_)
          refine tr (br (tr (tr (br (tr ?_)))))
          obtain rfl:=os hF
          subst K
          exact r1 wb
         ·refine cf h37 ?_
          refine sn ?_
          obtain rfl:=os hF
          exact Qm K ⟨rfl,rfl,rfl,rfl,rfl,rfl,trivial⟩
        ·refine fx 50 h35 ?_
         refine gn ?_
         refine gn ?_
         refine gn ?_
         refine gn ?_
         refine aw xp (nwq [55,26,25,24,6,4,3] ?_)
         refine cf rfl ?_
         refine sn ?_
         obtain rfl:=os hF
         exact Qm K ⟨rfl,rfl,rfl,rfl,rfl,rfl,trivial⟩
       ·cases q32 with
        | ret r' =>
         obtain rfl:=os hF;exact K
        | nx sq32 =>
         skip
         refine sr (am (fa 0 underlying60 rfl sizeOf23 ?_))
         refine aw (Qe (c:=(cVec (cInt .u8) 32 (by decide))) (z:=(lget x0.f_Peers i10).f_Key) isAgg23 sizeOf23 rfl (Qp .z (Qb2 g22 (lget x0.f_Peers i10)))) ?_
         refine Qeo (k:=(lget x0.f_Peers i10).f_Key) (v:=true) (.s (.s .z)) underlying84 (keylaw_vec underlying23 underlying5 sizeOf5 isAgg5 (QeT underlying23 infoT5 sizeOf5 isAgg5 (.inr rfl) (QdM underlying5)) (by decide)) rfl rfl rfl rfl ?_
         refine ns (fa 85 underlying60 rfl sizeOf58 ?_)
         refine aw (Ql isAgg58 rfl (Qr (c:=cHd) (y:=⟨g22.1,List.length ((lget x0.f_Peers i10).f_Allowed),g22.2⟩) .z (QaE g22 (lget x0.f_Peers i10)) rfl)) ?_
         refine aw (Q6 underlying58 rfl) ?_
         refine am (qn (dz (wq [62,61,60,26,25,24,4,3] ?_)))
         refine tn ?_
         refine qb ?_
         obtain ⟨q38,hq38,hF⟩:=bM hF
         refine wq [62,61,60,26,25,24,4,3] ?_
         refine QbG (B:=2) (r:=r) (q:=q38) (A:=fun sq38 Y=>At 76 [(3,.map (some b7)),(4,.map (some b8)),(24,.slice g0_.1 x0.f_Peers.length g0_.2),(25,.int .i64 (x0.f_Peers.length:Int)),(26,.int .i64 i10)] (Wd w [mapE b8 Qa cBool false sq38,mapE b7 (cVec (cInt .u8) 32 (by decide)) cBool false (mput i12 ((lget x0.f_Peers i10).f_Key) true)]) Y) ?_ ?_
         ·intro K
          refine Qa8.l1.partial_correctness x0 i10 (motive:=fun i39 i40 x=>KR (fun sq38 Y=>At 76 [(3,.map (some b7)),(4,.map (some b8)),(24,.slice g0_.1 x0.f_Peers.length g0_.2),(25,.int .i64 (x0.f_Peers.length:Int)),(26,.int .i64 i10)] (Wd w [mapE b8 Qa cBool false sq38,mapE b7 (cVec (cInt .u8) 32 (by decide)) cBool false (mput i12 ((lget x0.f_Peers i10).f_Key) true)]) Y) _ 2 r x→Round (fun Y=>At 76 [(3,.map (some b7)),(4,.map (some b8)),(24,.slice g0_.1 x0.f_Peers.length g0_.2),(25,.int .i64 (x0.f_Peers.length:Int)),(26,.int .i64 i10),(60,.slice g22.1 ((lget x0.f_Peers i10).f_Allowed).length g22.2),(61,.int .i64 (((lget x0.f_Peers i10).f_Allowed).length:Int)),(62,.int .i64 i39)] (Wd w [mapE b8 Qa cBool false i40,mapE b7 (cVec (cInt .u8) 32 (by decide)) cBool false (mput i12 ((lget x0.f_Peers i10).f_Key) true)]) Y) _ _ _) ?_ _ _ _ hq38 K
          ·clear K hF
           intro g ih i39 i40 x hF K
           refine QS ?_
           refine sr (aw xl (nwq [63,62,61,60,26,25,24,4,3] ?_))
           refine qs ?_
           obtain ⟨h41,hF⟩|⟨h41,hF⟩:=oi hF
           ·refine ct h41 ?_
            refine sn (qs ?_)
            refine qb ?_
            refine sr ?_
            obtain ⟨h42,hF⟩:=gd hF
            obtain ⟨b44,o45,hp43⟩:=QR (nz hg23 hn21 (zidx hz19 h14)) h42
            refine aw (r_idx underlying58 sizeOf38 rfl rfl h42 hp43) ?_
            refine aw (Qe (c:=Qa) (z:=lget ((lget x0.f_Peers i10).f_Allowed) i39) isAgg38 sizeOf38 rfl (QaF (fun _ h=>h.below) (nz hg23 hn21 (zidx hz19 h14)) h42 hp43)) ?_
            refine al (cs:=Cd.cs Qa zv9) zeroValue38 ?_
            intro b46
            refine QX (c:=Qa) (z:=lget ((lget x0.f_Peers i10).f_Allowed) i39) .z lw sizeOf38 rfl rfl rfl ?_
            refine nt (qs (sr (am ?_)))
            refine aw (Qe (c:=Qa) (z:=lget ((lget x0.f_Peers i10).f_Allowed) i39) isAgg38 sizeOf38 rfl (Qp .z lw)) ?_
            refine aw (r_lookup (d:=cBool) (va:=false) (k:=lget ((lget x0.f_Peers i10).f_Allowed) i39) (zv:=false) underlying85 (keylaw_of underlying38 (Qdb (k:=2) underlying38 (fun n x hn=>(Qb6 (QG x) rfl rfl isAgg36 sizeOf36 (.inl rfl) (Qdb (k:=1) underlying36 (fun n x hn=>(Qb6 (QY x) rfl rfl isAgg3 sizeOf3 (.inr rfl) (QdN underlying3) (by omega) (Qb6 (QO x) rfl rfl isAgg34 sizeOf34 (.inl rfl) (chk_vec underlying34 sizeOf5 isAgg5 (.inr rfl) (QdN underlying5)) (by omega) Qen)))) (by omega) (Qb6 (QE x) rfl rfl isAgg3 sizeOf3 (.inr rfl) (QdN underlying3) (by omega) Qen)))) (by decide) (Qap) (by decide) Qc3) zeroValue4 rfl rfl (fun w1 hw=>hw.ok (Upd.mem (.s .z)))) ?_
            refine nwq [68,62,61,60,26,25,24,8,4,3] ?_
            obtain ⟨h47,hF⟩|⟨h47,hF⟩:=oi hF
            ·refine ct h47 ?_
             refine sr (aa (qn (dz (dz (dz (wq [2] ?_))))))
             refine tn (qt ?_)
             refine tr (br (tr (tr (br (br (tr (tr (br (tr ?_)))))))))
             obtain rfl:=os hF
             subst K
             exact r1 wb
            ·refine cf h47 ?_
             refine sn (qr (am ?_))
             refine aw (Qe (c:=Qa) (z:=lget ((lget x0.f_Peers i10).f_Allowed) i39) isAgg38 sizeOf38 rfl (Qp .z lw)) ?_
             refine Qeo (k:=lget ((lget x0.f_Peers i10).f_Allowed) i39) (v:=true) (.s .z) underlying85 (keylaw_of underlying38 (Qdb (k:=2) underlying38 (fun n x hn=>(Qb6 (QG x) rfl rfl isAgg36 sizeOf36 (.inl rfl) (Qdb (k:=1) underlying36 (fun n x hn=>(Qb6 (QY x) rfl rfl isAgg3 sizeOf3 (.inr rfl) (QdN underlying3) (by omega) (Qb6 (QO x) rfl rfl isAgg34 sizeOf34 (.inl rfl) (chk_vec underlying34 sizeOf5 isAgg5 (.inr rfl) (QdN underlying5)) (by omega) Qen)))) (by omega) (Qb6 (QE x) rfl rfl isAgg3 sizeOf3 (.inr rfl) (QdN underlying3) (by omega) Qen)))) (by decide) (Qap) (by decide) Qc3) rfl rfl rfl rfl ?_
             refine qn (dz (wq [62,61,60,26,25,24,4,3] ?_))
             refine bm ?_
             refine qr (aw xa (am (nwq [62,61,60,26,25,24,4,3] ?_)))
             exact Qm (ih _ _ _ hF K) ⟨rfl,rfl,rfl,rfl,rfl,rfl,rfl,rfl,trivial⟩
           ·refine cf h41 ?_
            refine Q1 ?_
            refine te (te ?_)
            obtain rfl:=os hF
            exact Qm K ⟨rfl,rfl,rfl,rfl,rfl,trivial⟩
         ·cases q38 with
          | ret r'=>obtain rfl:=os hF;exact K
          | nx sq38 =>
           skip
           refine Qw ?_
           refine bm ?_
           refine qr (aw xa (am (nwq [26,25,24,4,3] ?_)))
           exact Qm (ih _ _ _ _ hF K) ⟨rfl,rfl,rfl,rfl,rfl,trivial⟩
    ·refine cf h13 ?_
     refine Q1 ?_
     refine te (te ?_)
     refine Qal (H:=_) (.s .z) ?_
     obtain rfl:=os hF
     exact Qm K ⟨rfl,trivial⟩
  ·cases q9 with
   | ret r'=>exact os hF
   | nx sq9 =>
    skip
    refine Qw ?_
    refine tn (sr (am ?_))
    refine aw (r_len_map underlying85 rfl (fun w1 hw=>hw.ok (Upd.mem .z))) ?_
    refine aw (Qgj rfl rfl) ?_
    refine aa (qn (dz (wq [2] ?_)))
    refine tn (qt ?_)
    have K:=os hF
    subst K
    exact r1 wb
end Go.Proofs.YtahlbjmafceoeaaGreatDoor
