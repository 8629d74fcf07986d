/- Texts of this claim, those in one that belong together; printed by a program of this project. -/
import Derived.Test.YtahlbjmafceoeaaGreatDoorProg
import Derived.Test.YtahlbjmafceoeaaGreatDoorKLintTells3
set_option linter.unusedVariables false
set_option linter.unusedSimpArgs false
set_option maxRecDepth 20000
namespace Go.Proofs.YtahlbjmafceoeaaGreatDoor
open E Go.RowKit _root_.Go.Proofs.Tryz
theorem infoV29_is:(Tryz.prog.info? 9).isSome=true:=by kernel_rfl
noncomputable def infoV29_v:TypeInfo:=(Tryz.prog.info? 9).get infoV29_is
theorem infoV29:Tryz.prog.info? 9=some infoV29_v:=(Option.some_get _).symm
theorem infoV238_is:(Tryz.prog.info? 38).isSome=true:=by kernel_rfl
noncomputable def infoV238_v:TypeInfo:=(Tryz.prog.info? 38).get infoV238_is
theorem infoV238:Tryz.prog.info? 38=some infoV238_v:=(Option.some_get _).symm
theorem infoV249_is:(Tryz.prog.info? 49).isSome=true:=by kernel_rfl
noncomputable def infoV249_v:TypeInfo:=(Tryz.prog.info? 49).get infoV249_is
theorem infoV249:Tryz.prog.info? 49=some infoV249_v:=(Option.some_get _).symm
def QaV.l1(x0:S_api_Conf)(i6:Int)(i26:List Qd)(i27:Int):Option (List Qd) :=
 if (decide (i27<(((lget x0.f_Peers i6).f_Allowed).length:Int)))=true then (if (0:Int)≤i27∧i27<(((lget x0.f_Peers i6).f_Allowed).length:Int) then if (i26.length+1)*40≤140737488355328 then QaV.l1 x0 i6 (i26++[{ { ({ f_P:=({ f_A:=({ f_V:=(0:Int),f_B:=(Vector.replicate 16 (0:Int):(Vector Int 16)) }:Qh),f_Bits:=(0:Int) }:Qc),f_Owner:=(0:Int) }:Qd) with f_P:=lget ((lget x0.f_Peers i6).f_Allowed) i27 } with f_Owner:=i6 }]) (wr .i64 (i27+1)) else none else none) else (some i26)
 partial_fixpoint
def QaV.l0(x0:S_api_Conf)(i5:List Qd)(i6:Int):Option (List Qd) :=
 if (decide (i6<(x0.f_Peers.length:Int)))=true then (if (0:Int)≤i6∧i6<(x0.f_Peers.length:Int) then QaV.l1 x0 i6 i5 0>>=fun q25=>QaV.l0 x0 q25 (wr .i64 (i6+1)) else none) else (some i5)
 partial_fixpoint
def QaV(x0:S_api_Conf):Option (List Qd) :=
 QaV.l0 x0 ([]:List Qd) 0>>=fun q4=>some q4
theorem lint_entries_ok(g0_:G_api_Conf)(x0:S_api_Conf)(r:List Qd)(hF:QaV x0=some r)(w:World)(hn0:N_api_Conf w (g0_,x0)) :
    Calls Tryz.prog 19 #[.agg (Cd.cs c_api_Conf (g0_,x0)).toArray] w (fun e w'=>∃ p cap,e=.returned (.slice p r.length cap)∧Own Qg 49 w.heap.size w' p cap r∧Below w.heap.size w w'):=by
 unfold QaV at hF
 refine ce (l:=[.agg (Cd.cs c_api_Conf (g0_,x0)).toArray]) func19 rfl rfl ?_
 refine QN ?_
 refine sr ?_
 refine Qag (cs:=Cd.cs c_api_Conf (g0_,x0)) rfl rfl rfl ?_
 intro b1
 refine aa (ns (aa (nt (qs (sr (fa 34 underlying27 rfl sizeOf25 ?_))))))
 refine aw (Ql isAgg25 rfl (Qr (c:=cHd) (y:=⟨g0_.1,List.length x0.f_Peers,g0_.2⟩) .z (QD g0_ x0) rfl)) ?_
 refine aw (Q6 underlying25 rfl) ?_
 refine am (qn (dz (wq [11,10,9,3] ?_)))
 refine tn ?_
 refine qb ?_
 refine Qbd Qg 49 ?_
 obtain ⟨q4,hq4,hF⟩:=bM hF
 refine wq [11,10,9,3] ?_
 refine Q5 (B:=0) (A:=fun Y=>∀ (p9:Option Addr) (c10:Nat),At 32 [(3,.slice p9 q4.length c10)] (Wd w [rowE Qg 49 p9 c10 q4]) Y) ?_ ?_
 ·intro K
  refine QaV.l0.partial_correctness x0 (motive:=fun i5 i6 x=>KN (fun Y=>∀ (p9:Option Addr) (c10:Nat),At 32 [(3,.slice p9 x.length c10)] (Wd w [rowE Qg 49 p9 c10 x]) Y) _ 0→Round (fun Y=>∀ (p7:Option Addr) (c8:Nat),At 32 [(3,.slice p7 i5.length c8),(9,.slice g0_.1 x0.f_Peers.length g0_.2),(10,.int .i64 (x0.f_Peers.length:Int)),(11,.int .i64 i6)] (Wd w [rowE Qg 49 p7 c8 i5]) Y) _ _ _) ?_ _ _ _ hq4 K none 0
  ·clear K hF
   intro g ih i5 i6 x hF K p7 c8
   refine QS ?_
   refine sr (aw xl (nwq [12,11,10,9,3] ?_))
   refine qs ?_
   obtain ⟨h11,hF⟩|⟨h11,hF⟩:=oi hF
   ·refine ct h11 ?_
    refine sn (qs ?_)
    refine qb ?_
    refine sr (am ?_)
    obtain ⟨h12,hF⟩:=gd hF
    obtain ⟨zs16,hz17,hr18,hn19⟩:=id hn0
    obtain ⟨b14,o15,hp13⟩:=QR hr18 (zidx hz17 h12)
    obtain ⟨g20,hg21⟩:=zget hz17 i6
    refine aw (r_idx underlying25 sizeOf60 rfl rfl h12 hp13) ?_
    refine aw (Qe (c:=QT) (z:=(g20,lget x0.f_Peers i6)) isAgg60 sizeOf60 rfl (ncell (fun _ h=>h.below) hr18 (zidx hz17 h12) hp13 hg21)) ?_
    refine al (cs:=Cd.cs QT zv14) zeroValue60 ?_
    intro b22
    refine aa ?_
    refine QX (c:=QT) (z:=(g20,lget x0.f_Peers i6)) .z lw sizeOf60 rfl rfl rfl ?_
    refine ns (fa 85 underlying60 rfl sizeOf58 ?_)
    refine aw (Ql isAgg58 rfl (Qr (c:=cHd) (y:=⟨g20.1,List.length ((lget x0.f_Peers i6).f_Allowed),g20.2⟩) .z (QaE g20 (lget x0.f_Peers i6)) rfl)) ?_
    refine aw (Q6 underlying58 rfl) ?_
    refine am (qn (dz (wq [19,18,17,11,10,9,4,3] ?_)))
    refine tn ?_
    refine qb ?_
    obtain ⟨q25,hq25,hF⟩:=bM hF
    refine wq [19,18,17,11,10,9,4,3] ?_
    refine Q5 (B:=2) (A:=fun Y=>∀ (p30:Option Addr) (c31:Nat),At 32 [(3,.slice p30 q25.length c31),(9,.slice g0_.1 x0.f_Peers.length g0_.2),(10,.int .i64 (x0.f_Peers.length:Int)),(11,.int .i64 i6)] (Wd w [rowE Qg 49 p30 c31 q25]) Y) ?_ ?_
    ·intro K
     refine QaV.l1.partial_correctness x0 i6 (motive:=fun i26 i27 x=>KN (fun Y=>∀ (p30:Option Addr) (c31:Nat),At 32 [(3,.slice p30 x.length c31),(9,.slice g0_.1 x0.f_Peers.length g0_.2),(10,.int .i64 (x0.f_Peers.length:Int)),(11,.int .i64 i6)] (Wd w [rowE Qg 49 p30 c31 x]) Y) _ 2→Round (fun Y=>∀ (p28:Option Addr) (c29:Nat),At 32 [(3,.slice p28 i26.length c29),(4,.int .i64 i6),(9,.slice g0_.1 x0.f_Peers.length g0_.2),(10,.int .i64 (x0.f_Peers.length:Int)),(11,.int .i64 i6),(17,.slice g20.1 ((lget x0.f_Peers i6).f_Allowed).length g20.2),(18,.int .i64 (((lget x0.f_Peers i6).f_Allowed).length:Int)),(19,.int .i64 i27)] (Wd w [rowE Qg 49 p28 c29 i26]) Y) _ _ _) ?_ _ _ _ hq25 K p7 c8
     ·clear K hF
      intro g ih i26 i27 x hF K p28 c29
      refine QS ?_
      refine sr (aw xl (nwq [20,19,18,17,11,10,9,4,3] ?_))
      refine qs ?_
      obtain ⟨h32,hF⟩|⟨h32,hF⟩:=oi hF
      ·refine ct h32 ?_
       refine sn (qs ?_)
       refine qb ?_
       refine sr ?_
       obtain ⟨h33,hF⟩:=gd hF
       obtain ⟨b35,o36,hp34⟩:=QR (nz hg21 hn19 (zidx hz17 h12)) h33
       refine aw (r_idx underlying58 sizeOf38 rfl rfl h33 hp34) ?_
       refine aw (Qe (c:=Qa) (z:=lget ((lget x0.f_Peers i6).f_Allowed) i27) isAgg38 sizeOf38 rfl (QaF (fun _ h=>h.below) (nz hg21 hn19 (zidx hz17 h12)) h33 hp34)) ?_
       refine al (cs:=Cd.cs Qa zv9) zeroValue38 ?_
       intro b37
       refine QX (c:=Qa) (z:=lget ((lget x0.f_Peers i6).f_Allowed) i27) .z lw sizeOf38 rfl rfl rfl ?_
       refine nt (qr (am ?_))
       refine aw (Qe (c:=Qa) (z:=lget ((lget x0.f_Peers i6).f_Allowed) i27) isAgg38 sizeOf38 rfl (Qp .z lw)) ?_
       refine am ?_
       refine aw (QW (zs:=Cd.cs Qg zv13) (cs:=Cd.cs Qg ({ { zv13 with f_P:=lget ((lget x0.f_Peers i6).f_Allowed) i27 } with f_Owner:=i6 })) underlying49 zeroValue49 rfl (Qd6) rfl (QI (c:=Qa) (z:=lget ((lget x0.f_Peers i6).f_Allowed) i27) rfl (QQ zv13) rfl (QI (c:=(cInt .i64)) (z:=i6) rfl (QbB ({ zv13 with f_P:=lget ((lget x0.f_Peers i6).f_Allowed) i27 })) rfl rfl))) ?_
       refine Qbu (c:=Qg) ([zv13]:List Qd) ([{ { zv13 with f_P:=lget ((lget x0.f_Peers i6).f_Allowed) i27 } with f_Owner:=i6 }]:List Qd) underlying46 sizeOf49 zeroValue49 rfl rfl rfl (by kernel_rfl) (QI (c:=Qg) (z:={ { zv13 with f_P:=lget ((lget x0.f_Peers i6).f_Allowed) i27 } with f_Owner:=i6 }) rfl (Lens.all Qg ([zv13]:List Qd) 0 (by first | decide | exact Nat.le_of_ble_eq_true rfl)) rfl rfl) rfl ?_
       intro b38
       obtain ⟨h39,hF⟩:=gd hF
       refine Qax (z:=.agg (Cd.cs Qg zv13).toArray) (c:=Qg) (ys:=([{ { zv13 with f_P:=lget ((lget x0.f_Peers i6).f_Allowed) i27 } with f_Owner:=i6 }]:List Qd)) (.s (.s .z)) underlying46 infoV249 (by kernel_rfl) (by kernel_rfl) rfl rfl rfl rfl (fun _ hw=>Qaw (hw.ok (Upd.mem .z))) (by kernel_rfl) h39 (Qaj h39) rfl ?_
       intro p40 c41
       refine aa (qn (dz (dz (wq [19,18,17,11,10,9,4,3] ?_))))
       refine bm ?_
       refine qr (aw xa (am (nwq [19,18,17,11,10,9,4,3] ?_)))
       exact Qm (ih _ _ _ hF K p40 c41) ⟨rfl,rfl,rfl,rfl,rfl,rfl,rfl,rfl,trivial⟩
      refine cf h32 ?_
      refine Q1 ?_
      refine te (te ?_)
      obtain rfl:=os hF
      exact Qm (K p28 c29) ⟨rfl,rfl,rfl,rfl,trivial⟩
    skip
    intro p30 c31
    refine Qw ?_
    refine bm ?_
    refine qr (aw xa (am (nwq [11,10,9,3] ?_)))
    exact Qm (ih _ _ _ hF K p30 c31) ⟨rfl,rfl,rfl,rfl,trivial⟩
   refine cf h11 ?_
   refine Q1 ?_
   refine te (te ?_)
   obtain rfl:=os hF
   exact Qm (K p7 c8) ⟨rfl,trivial⟩
 skip
 intro p9 c10
 refine Qw ?_
 refine tn (sr (am (aa (nwq [2] ?_))))
 refine qt ?_
 have K:=os hF
 subst K
 exact r1 (fun w1 hw=>⟨p9,c10,rfl,hw.own .z,hw.below⟩)
def Q7.l1(x0:S_api_Conf)(i6:Int)(i15:List Qd)(i17:Int):Option (List Qd) :=
 if (0:Int)≤i6∧i6<(x0.f_Peers.length:Int) then if (decide (i17<(((lget x0.f_Peers i6).f_Allowed).length:Int)))=true then (if (0:Int)≤i6∧i6<(x0.f_Peers.length:Int) then if (0:Int)≤i17∧i17<(((lget x0.f_Peers i6).f_Allowed).length:Int) then if (i15.length+1)*40≤140737488355328 then Q7.l1 x0 i6 (i15++[{ { ({ f_P:=({ f_A:=({ f_V:=(0:Int),f_B:=(Vector.replicate 16 (0:Int):(Vector Int 16)) }:Qh),f_Bits:=(0:Int) }:Qc),f_Owner:=(0:Int) }:Qd) with f_P:=lget ((lget x0.f_Peers i6).f_Allowed) i17 } with f_Owner:=i6 }]) (wr .i64 (i17+1)) else none else none else none) else (some i15) else none
 partial_fixpoint
def Q7.l0(x0:S_api_Conf)(i5:List Qd)(i6:Int):Option (List Qd) :=
 if (decide (i6<(x0.f_Peers.length:Int)))=true then (Q7.l1 x0 i6 i5 0>>=fun q14=>Q7.l0 x0 q14 (wr .i64 (i6+1))) else (some i5)
 partial_fixpoint
def Q7(x0:S_api_Conf):Option (List Qd) :=
 Q7.l0 x0 ([]:List Qd) 0>>=fun q4=>some q4
theorem QeD(g0_:G_api_Conf)(x0:S_api_Conf)(r:List Qd)(hF:Q7 x0=some r)(w:World)(hn0:N_api_Conf w (g0_,x0)) :
    Calls Tryz.prog 14 #[.agg (Cd.cs c_api_Conf (g0_,x0)).toArray] w (fun e w'=>∃ p cap,e=.returned (.slice p r.length cap)∧Own Qg 49 w.heap.size w' p cap r∧Below w.heap.size w w'):=by
 unfold Q7 at hF
 refine ce (l:=[.agg (Cd.cs c_api_Conf (g0_,x0)).toArray]) func14 rfl rfl ?_
 refine QN ?_
 refine sr ?_
 refine Qag (cs:=Cd.cs c_api_Conf (g0_,x0)) rfl rfl rfl ?_
 intro b1
 refine aa (ns (aa (nt (qs (sr (aa (nwq [4,3,1] ?_)))))))
 refine qb ?_
 refine Qbd Qg 49 ?_
 obtain ⟨q4,hq4,hF⟩:=bM hF
 refine wq [4,3,1] ?_
 refine Q5 (B:=0) (A:=fun Y=>∀ (p9:Option Addr) (c10:Nat),At 39 [(3,.slice p9 q4.length c10)] (Wd w [rowE Qg 49 p9 c10 q4]) Y) ?_ ?_
 ·intro K
  refine Q7.l0.partial_correctness x0 (motive:=fun i5 i6 x=>KN (fun Y=>∀ (p9:Option Addr) (c10:Nat),At 39 [(3,.slice p9 x.length c10)] (Wd w [rowE Qg 49 p9 c10 x]) Y) _ 0→Round (fun Y=>∀ (p7:Option Addr) (c8:Nat),At 39 [(1,.pointer (some ⟨b1,0,none⟩)),(3,.slice p7 i5.length c8),(4,.int .i64 i6)] (Wd w [rowE Qg 49 p7 c8 i5,Qs b1 (Cd.cs c_api_Conf (g0_,x0)) 27]) Y) _ _ _) ?_ _ _ _ hq4 K none 0
  ·clear K hF
   intro g ih i5 i6 x hF K p7 c8
   refine QS ?_
   refine qs (sr (am (fa 34 underlying27 rfl sizeOf25 ?_)))
   refine aw (Ql isAgg25 rfl (Qr (c:=cHd) (y:=⟨g0_.1,List.length x0.f_Peers,g0_.2⟩) (.s .z) (QD g0_ x0) rfl)) ?_
   refine aw (Q6 underlying25 rfl) ?_
   refine aw xl (nwq [10,4,3,1] ?_)
   obtain ⟨h11,hF⟩|⟨h11,hF⟩:=oi hF
   ·refine ct h11 ?_
    refine sn (qs ?_)
    refine qb ?_
    refine sr (aa (nwq [5,4,3,1] ?_))
    refine qb ?_
    obtain ⟨q14,hq14,hF⟩:=bM hF
    refine wq [5,4,3,1] ?_
    refine Q5 (B:=2) (A:=fun Y=>∀ (p20:Option Addr) (c21:Nat),At 39 [(1,.pointer (some ⟨b1,0,none⟩)),(3,.slice p20 q14.length c21),(4,.int .i64 i6)] (Wd w [rowE Qg 49 p20 c21 q14,Qs b1 (Cd.cs c_api_Conf (g0_,x0)) 27]) Y) ?_ ?_
    ·intro K
     refine Q7.l1.partial_correctness x0 i6 (motive:=fun i15 i17 x=>KN (fun Y=>∀ (p20:Option Addr) (c21:Nat),At 39 [(1,.pointer (some ⟨b1,0,none⟩)),(3,.slice p20 x.length c21),(4,.int .i64 i6)] (Wd w [rowE Qg 49 p20 c21 x,Qs b1 (Cd.cs c_api_Conf (g0_,x0)) 27]) Y) _ 2→Round (fun Y=>∀ (p18:Option Addr) (c19:Nat),At 39 [(1,.pointer (some ⟨b1,0,none⟩)),(3,.slice p18 i15.length c19),(4,.int .i64 i6),(5,.int .i64 i17)] (Wd w [rowE Qg 49 p18 c19 i15,Qs b1 (Cd.cs c_api_Conf (g0_,x0)) 27]) Y) _ _ _) ?_ _ _ _ hq14 K p7 c8
     ·clear K hF
      intro g ih i15 i17 x hF K p18 c19
      refine QS ?_
      refine qs (sr (am (fa 34 underlying27 rfl sizeOf25 ?_)))
      refine aw (Ql isAgg25 rfl (Qr (c:=cHd) (y:=⟨g0_.1,List.length x0.f_Peers,g0_.2⟩) (.s .z) (QD g0_ x0) rfl)) ?_
      refine am ?_
      obtain ⟨h22,hF⟩:=gd hF
      obtain ⟨zs26,hz27,hr28,hn29⟩:=id hn0
      obtain ⟨b24,o25,hp23⟩:=QR hr28 (zidx hz27 h22)
      obtain ⟨g30,hg31⟩:=zget hz27 i6
      refine aw (r_idx underlying25 sizeOf60 rfl rfl h22 hp23) ?_
      refine fa 85 underlying60 rfl sizeOf58 ?_
      refine aw (Ql isAgg58 rfl (nlens0 (c':=cHd) (y:=⟨g30.1,List.length ((lget x0.f_Peers i6).f_Allowed),g30.2⟩) (fun _ h=>h.below) hr28 (zidx hz27 h22) hp23 hg31 (QaE g30 (lget x0.f_Peers i6)) rfl)) ?_
      refine aw (Q6 underlying58 rfl) ?_
      refine aw xl (nwq [21,5,4,3,1] ?_)
      obtain ⟨h32,hF⟩|⟨h32,hF⟩:=oi hF
      ·refine ct h32 ?_
       refine sn (qs ?_)
       refine qb ?_
       refine qr (am (fa 34 underlying27 rfl sizeOf25 ?_))
       refine aw (Ql isAgg25 rfl (Qr (c:=cHd) (y:=⟨g0_.1,List.length x0.f_Peers,g0_.2⟩) (.s .z) (QD g0_ x0) rfl)) ?_
       refine am ?_
       obtain ⟨h33,hF⟩:=gd hF
       obtain ⟨zs37,hz38,hr39,hn40⟩:=id hn0
       obtain ⟨b35,o36,hp34⟩:=QR hr39 (zidx hz38 h33)
       obtain ⟨g41,hg42⟩:=zget hz38 i6
       refine aw (r_idx underlying25 sizeOf60 rfl rfl h33 hp34) ?_
       refine fa 85 underlying60 rfl sizeOf58 ?_
       refine aw (Ql isAgg58 rfl (nlens0 (c':=cHd) (y:=⟨g41.1,List.length ((lget x0.f_Peers i6).f_Allowed),g41.2⟩) (fun _ h=>h.below) hr39 (zidx hz38 h33) hp34 hg42 (QaE g41 (lget x0.f_Peers i6)) rfl)) ?_
       refine am ?_
       obtain ⟨h43,hF⟩:=gd hF
       obtain ⟨b45,o46,hp44⟩:=QR (nz hg42 hn40 (zidx hz38 h33)) h43
       refine aw (r_idx underlying58 sizeOf38 rfl rfl h43 hp44) ?_
       refine aw (Qe (c:=Qa) (z:=lget ((lget x0.f_Peers i6).f_Allowed) i17) isAgg38 sizeOf38 rfl (QaF (fun _ h=>h.below) (nz hg42 hn40 (zidx hz38 h33)) h43 hp44)) ?_
       refine am ?_
       refine aw (QW (zs:=Cd.cs Qg zv13) (cs:=Cd.cs Qg ({ { zv13 with f_P:=lget ((lget x0.f_Peers i6).f_Allowed) i17 } with f_Owner:=i6 })) underlying49 zeroValue49 rfl (Qd6) rfl (QI (c:=Qa) (z:=lget ((lget x0.f_Peers i6).f_Allowed) i17) rfl (QQ zv13) rfl (QI (c:=(cInt .i64)) (z:=i6) rfl (QbB ({ zv13 with f_P:=lget ((lget x0.f_Peers i6).f_Allowed) i17 })) rfl rfl))) ?_
       refine Qbu (c:=Qg) ([zv13]:List Qd) ([{ { zv13 with f_P:=lget ((lget x0.f_Peers i6).f_Allowed) i17 } with f_Owner:=i6 }]:List Qd) underlying46 sizeOf49 zeroValue49 rfl rfl rfl (by kernel_rfl) (QI (c:=Qg) (z:={ { zv13 with f_P:=lget ((lget x0.f_Peers i6).f_Allowed) i17 } with f_Owner:=i6 }) rfl (Lens.all Qg ([zv13]:List Qd) 0 (by first | decide | exact Nat.le_of_ble_eq_true rfl)) rfl rfl) rfl ?_
       intro b47
       obtain ⟨h48,hF⟩:=gd hF
       refine Qax (z:=.agg (Cd.cs Qg zv13).toArray) (c:=Qg) (ys:=([{ { zv13 with f_P:=lget ((lget x0.f_Peers i6).f_Allowed) i17 } with f_Owner:=i6 }]:List Qd)) (.s .z) underlying46 infoV249 (by kernel_rfl) (by kernel_rfl) rfl rfl rfl rfl (fun _ hw=>Qaw (hw.ok (Upd.mem .z))) (by kernel_rfl) h48 (Qaj h48) rfl ?_
       intro p49 c50
       refine aa (qn (dz (wq [5,4,3,1] ?_)))
       refine bm ?_
       refine qr (am (aw xa (aa (nwq [5,4,3,1] ?_))))
       exact Qm (ih _ _ _ hF K p49 c50) ⟨rfl,rfl,rfl,rfl,trivial⟩
      refine cf h32 ?_
      refine Q1 ?_
      refine te (te ?_)
      obtain rfl:=os hF
      exact Qm (K p18 c19) ⟨rfl,rfl,rfl,trivial⟩
    skip
    intro p20 c21
    refine Qw ?_
    refine bm ?_
    refine qr (am (aw xa (aa (nwq [4,3,1] ?_))))
    exact Qm (ih _ _ _ hF K p20 c21) ⟨rfl,rfl,rfl,trivial⟩
   refine cf h11 ?_
   refine Q1 ?_
   refine te (te ?_)
   refine Qal (H:=_) (.s .z) ?_
   obtain rfl:=os hF
   exact Qm (K p7 c8) ⟨rfl,trivial⟩
 skip
 intro p9 c10
 refine Qw ?_
 refine tn (sr (am (aa (nwq [2] ?_))))
 refine qt ?_
 have K:=os hF
 subst K
 exact r1 (fun w1 hw=>⟨p9,c10,rfl,hw.own .z,hw.below⟩)
def Q8.l0(x0:S_api_Conf)(x1:Int)(x2:Bool)(i3:Int):Option (Ctl (Bool) (Unit)) :=
 if (decide (i3<x1))=true then (if x2=true then (if (0:Int)≤i3∧i3<(x0.f_Peers.length:Int) then if (0:Int)≤x1∧x1<(x0.f_Peers.length:Int) then if (decide ((lget x0.f_Peers i3).f_Psk=(lget x0.f_Peers x1).f_Psk))=true then (some (.ret true)) else (if (!x2)=true then (if (0:Int)≤i3∧i3<(x0.f_Peers.length:Int) then if (0:Int)≤x1∧x1<(x0.f_Peers.length:Int) then if (decide ((lget x0.f_Peers i3).f_End=(lget x0.f_Peers x1).f_End))=true then (some (.ret true)) else (Q8.l0 x0 x1 x2 (wr .i64 (i3+1))) else none else none) else (Q8.l0 x0 x1 x2 (wr .i64 (i3+1)))) else none else none) else (if (!x2)=true then (if (0:Int)≤i3∧i3<(x0.f_Peers.length:Int) then if (0:Int)≤x1∧x1<(x0.f_Peers.length:Int) then if (decide ((lget x0.f_Peers i3).f_End=(lget x0.f_Peers x1).f_End))=true then (some (.ret true)) else (Q8.l0 x0 x1 x2 (wr .i64 (i3+1))) else none else none) else (Q8.l0 x0 x1 x2 (wr .i64 (i3+1))))) else (some (.nx ()))
 partial_fixpoint
def Q8(x0:S_api_Conf)(x1:Int)(x2:Bool):Option (Bool) :=
 Q8.l0 x0 x1 x2 0>>=fun q2=>match q2 with | .ret r'=>some r' | .nx sq2=>(some false)
theorem Qdh(g0_:G_api_Conf)(x0:S_api_Conf)(x1:Int)(x2:Bool)(r:Bool)(hF:Q8 x0 x1 x2=some r)(w:World)(hn0:N_api_Conf w (g0_,x0)) :
    Calls Tryz.prog 29 #[.agg (Cd.cs c_api_Conf (g0_,x0)).toArray,.int .i64 x1,.bool x2] w (fun e w'=>e=.returned (.bool r)∧Below w.heap.size w w'):=by
 unfold Q8 at hF
 refine ce (l:=[.agg (Cd.cs c_api_Conf (g0_,x0)).toArray,.int .i64 x1,.bool x2]) func29 rfl rfl ?_
 refine QN ?_
 refine sr ?_
 refine Qag (cs:=Cd.cs c_api_Conf (g0_,x0)) rfl rfl rfl ?_
 intro b1
 refine aa (nt (qs (sr (aa (nwq [7,3,2,1] ?_)))))
 refine qb ?_
 obtain ⟨q2,hq2,hF⟩:=bM hF
 refine wq [7,3,2,1] ?_
 refine QbG (B:=0) (r:=r) (q:=q2) (A:=fun (_:Unit) Y=>At 48 [] (Wd w []) Y) ?_ ?_
 ·intro K
  refine Q8.l0.partial_correctness x0 x1 x2 (motive:=fun i3 x=>KR (fun (_:Unit) Y=>At 48 [] (Wd w []) Y) _ 0 r x→Round (fun Y=>At 48 [(1,.int .i64 x1),(2,.bool x2),(3,.pointer (some ⟨b1,0,none⟩)),(7,.int .i64 i3)] (Wd w [Qs b1 (Cd.cs c_api_Conf (g0_,x0)) 27]) Y) _ _ _) ?_ _ _ hq2 K
  ·clear K hF
   intro g ih i3 x hF K
   refine QS ?_
   refine qs (sr (am (am (aw xl (nwq [10,7,3,2,1] ?_)))))
   obtain ⟨h4,hF⟩|⟨h4,hF⟩:=oi hF
   ·refine ct h4 ?_
    refine sn (qs ?_)
    refine qb ?_
    refine qs ?_
    refine Qb4 (by kernel_rfl) (by kernel_rfl) (fun _ h=>h.drew) ?_
    refine Qk rfl rfl rfl (Qaf rfl) ?_
    refine Qk rfl rfl rfl (Qaf rfl) ?_
    obtain ⟨h5,hF⟩|⟨h5,hF⟩:=oi hF
    ·refine Qa0 (g:=14) rfl h5 ?_
     refine Qi rfl rfl rfl ?_
     refine Qk rfl rfl rfl (QJ (fo:=34) underlying27 rfl rfl (fun w=>⟨_,sizeOf25 w⟩) rfl) ?_
     refine Qi rfl rfl rfl ?_
     refine Qk rfl rfl rfl (Ql isAgg25 rfl (Qr (c:=cHd) (y:=⟨g0_.1,List.length x0.f_Peers,g0_.2⟩) .z (QD g0_ x0) rfl)) ?_
     refine Qi rfl rfl rfl ?_
     refine Qk rfl rfl rfl (Qaf rfl) ?_
     refine Qi rfl rfl rfl ?_
     obtain ⟨h6,hF⟩:=gd hF
     obtain ⟨zs10,hz11,hr12,hn13⟩:=id hn0
     obtain ⟨b8,o9,hp7⟩:=QR hr12 (zidx hz11 h6)
     obtain ⟨g14,hg15⟩:=zget hz11 i3
     refine Qk rfl rfl rfl (r_idx underlying25 sizeOf60 rfl rfl h6 hp7) ?_
     refine Qi rfl rfl rfl ?_
     refine Qk rfl rfl rfl (QJ (fo:=32) underlying60 rfl rfl (fun w=>⟨_,sizeOf23 w⟩) rfl) ?_
     refine Qi rfl rfl rfl ?_
     refine Qk rfl rfl rfl (Qe (c:=(cVec (cInt .u8) 32 (by decide))) (z:=(lget x0.f_Peers i3).f_Psk) isAgg23 sizeOf23 rfl (nlens (y:=(lget x0.f_Peers i3).f_Psk) (fun _ h=>h.below) hr12 (zidx hz11 h6) hp7 hg15 (QcB g14 (lget x0.f_Peers i3)))) ?_
     refine Qi rfl rfl rfl ?_
     refine Qk rfl rfl rfl (QJ (fo:=34) underlying27 rfl rfl (fun w=>⟨_,sizeOf25 w⟩) rfl) ?_
     refine Qi rfl rfl rfl ?_
     refine Qk rfl rfl rfl (Ql isAgg25 rfl (Qr (c:=cHd) (y:=⟨g0_.1,List.length x0.f_Peers,g0_.2⟩) .z (QD g0_ x0) rfl)) ?_
     refine Qi rfl rfl rfl ?_
     refine Qk rfl rfl rfl (Qaf rfl) ?_
     refine Qi rfl rfl rfl ?_
     obtain ⟨h16,hF⟩:=gd hF
     obtain ⟨zs20,hz21,hr22,hn23⟩:=id hn0
     obtain ⟨b18,o19,hp17⟩:=QR hr22 (zidx hz21 h16)
     obtain ⟨g24,hg25⟩:=zget hz21 x1
     refine Qk rfl rfl rfl (r_idx underlying25 sizeOf60 rfl rfl h16 hp17) ?_
     refine Qi rfl rfl rfl ?_
     refine Qk rfl rfl rfl (QJ (fo:=32) underlying60 rfl rfl (fun w=>⟨_,sizeOf23 w⟩) rfl) ?_
     refine Qi rfl rfl rfl ?_
     refine Qk rfl rfl rfl (Qe (c:=(cVec (cInt .u8) 32 (by decide))) (z:=(lget x0.f_Peers x1).f_Psk) isAgg23 sizeOf23 rfl (nlens (y:=(lget x0.f_Peers x1).f_Psk) (fun _ h=>h.below) hr22 (zidx hz21 h16) hp17 hg25 (QcB g24 (lget x0.f_Peers x1)))) ?_
     refine Qi rfl rfl rfl ?_
     refine Qk rfl rfl rfl (Qbz (c:=(cVec (cInt .u8) 32 (by decide))) (a:=(lget x0.f_Peers i3).f_Psk) (b:=(lget x0.f_Peers x1).f_Psk) (QeT underlying23 infoT5 sizeOf5 isAgg5 (.inr rfl) (QdM underlying5)) rfl Tryz.eqGuardType23 rfl rfl (.inl rfl) rfl) ?_
     refine Qk rfl rfl rfl (Qa4 rfl rfl rfl) ?_
     refine Qk rfl rfl rfl (Qaf rfl) ?_
     obtain ⟨h26,hF⟩|⟨h26,hF⟩:=oi hF
     ·refine Qa0 (g:=29) rfl h26 ?_
      refine Qj rfl rfl rfl rfl rfl ?_
      refine Qj rfl rfl rfl rfl rfl ?_
      refine Qj rfl rfl rfl rfl rfl ?_
      refine Qv rfl rfl rfl rfl ?_
      refine Qv rfl rfl rfl rfl ?_
      refine Qv rfl rfl rfl rfl ?_
      refine Qv rfl rfl rfl rfl ?_
      refine Qv rfl rfl rfl rfl ?_
      refine Qv rfl rfl rfl rfl ?_
      refine Qv rfl rfl rfl rfl ?_
      refine Qv rfl rfl rfl rfl ?_
      refine Qv rfl rfl rfl rfl ?_
      refine Qv rfl rfl rfl rfl ?_
      refine Qv rfl rfl rfl rfl ?_
      refine Qv rfl rfl rfl rfl ?_
      refine Qv rfl rfl rfl rfl ?_
      refine Qj rfl rfl rfl rfl rfl ?_
      refine Qk rfl rfl rfl (Qa4 rfl rfl rfl) ?_
      refine QaX ?_
      refine wq [47,7,3,2,1] ?_
      refine tn ?_
      refine ct rfl ?_
      refine sr (aa (qn (dz (wq [6] ?_))))
      refine tn (qt ?_)
      refine br (tr (tr (br (tr ?_))))
      obtain rfl:=os hF
      subst K
      exact r1 wb
     refine Qa0 (g:=29) rfl h26 ?_
     refine Qi rfl rfl rfl ?_
     refine Qk rfl rfl rfl (Qaf rfl) ?_
     refine Qi rfl rfl rfl ?_
     refine Qk rfl rfl rfl (r_not rfl) ?_
     refine Qi rfl rfl rfl ?_
     refine Qk rfl rfl rfl (Qaf rfl) ?_
     obtain ⟨h27,hF⟩|⟨h27,hF⟩:=oi hF
     ·refine Qa0 (g:=32) rfl h27 ?_
      refine Qi rfl rfl rfl ?_
      refine Qk rfl rfl rfl (QJ (fo:=34) underlying27 rfl rfl (fun w=>⟨_,sizeOf25 w⟩) rfl) ?_
      refine Qi rfl rfl rfl ?_
      refine Qk rfl rfl rfl (Ql isAgg25 rfl (Qr (c:=cHd) (y:=⟨g0_.1,List.length x0.f_Peers,g0_.2⟩) .z (QD g0_ x0) rfl)) ?_
      refine Qi rfl rfl rfl ?_
      refine Qk rfl rfl rfl (Qaf rfl) ?_
      refine Qi rfl rfl rfl ?_
      obtain ⟨h28,hF⟩:=gd hF
      obtain ⟨zs32,hz33,hr34,hn35⟩:=id hn0
      obtain ⟨b30,o31,hp29⟩:=QR hr34 (zidx hz33 h28)
      obtain ⟨g36,hg37⟩:=zget hz33 i3
      refine Qk rfl rfl rfl (r_idx underlying25 sizeOf60 rfl rfl h28 hp29) ?_
      refine Qi rfl rfl rfl ?_
      refine Qk rfl rfl rfl (QJ (fo:=64) underlying60 rfl rfl (fun w=>⟨_,sizeOf56 w⟩) rfl) ?_
      refine Qi rfl rfl rfl ?_
      refine Qk rfl rfl rfl (Qe (c:=QA) (z:=(lget x0.f_Peers i3).f_End) isAgg56 sizeOf56 rfl (nlens (y:=(lget x0.f_Peers i3).f_End) (fun _ h=>h.below) hr34 (zidx hz33 h28) hp29 hg37 (Qbf g36 (lget x0.f_Peers i3)))) ?_
      refine Qi rfl rfl rfl ?_
      refine Qk rfl rfl rfl (QJ (fo:=34) underlying27 rfl rfl (fun w=>⟨_,sizeOf25 w⟩) rfl) ?_
      refine Qi rfl rfl rfl ?_
      refine Qk rfl rfl rfl (Ql isAgg25 rfl (Qr (c:=cHd) (y:=⟨g0_.1,List.length x0.f_Peers,g0_.2⟩) .z (QD g0_ x0) rfl)) ?_
      refine Qi rfl rfl rfl ?_
      refine Qk rfl rfl rfl (Qaf rfl) ?_
      refine Qi rfl rfl rfl ?_
      obtain ⟨h38,hF⟩:=gd hF
      obtain ⟨zs42,hz43,hr44,hn45⟩:=id hn0
      obtain ⟨b40,o41,hp39⟩:=QR hr44 (zidx hz43 h38)
      obtain ⟨g46,hg47⟩:=zget hz43 x1
      refine Qk rfl rfl rfl (r_idx underlying25 sizeOf60 rfl rfl h38 hp39) ?_
      refine Qi rfl rfl rfl ?_
      refine Qk rfl rfl rfl (QJ (fo:=64) underlying60 rfl rfl (fun w=>⟨_,sizeOf56 w⟩) rfl) ?_
      refine Qi rfl rfl rfl ?_
      refine Qk rfl rfl rfl (Qe (c:=QA) (z:=(lget x0.f_Peers x1).f_End) isAgg56 sizeOf56 rfl (nlens (y:=(lget x0.f_Peers x1).f_End) (fun _ h=>h.below) hr44 (zidx hz43 h38) hp39 hg47 (Qbf g46 (lget x0.f_Peers x1)))) ?_
      refine Qi rfl rfl rfl ?_
      refine Qk rfl rfl rfl (Qbz (c:=QA) (a:=(lget x0.f_Peers i3).f_End) (b:=(lget x0.f_Peers x1).f_End) (QbY) rfl Tryz.eqGuardType56 rfl rfl (.inl rfl) rfl) ?_
      refine Qi rfl rfl rfl ?_
      refine Qk rfl rfl rfl (Qa4 rfl rfl rfl) ?_
      refine Qk rfl rfl rfl (Qa4 rfl rfl rfl) ?_
      refine QaX ?_
      refine wq [47,7,3,2,1] ?_
      refine tn ?_
      obtain ⟨h48,hF⟩|⟨h48,hF⟩:=oi hF
      ·refine ct h48 ?_
       refine sr (aa (qn (dz (wq [6] ?_))))
       refine tn (qt ?_)
       refine br (tr (tr (br (tr ?_))))
       obtain rfl:=os hF
       subst K
       exact r1 wb
      refine cf h48 ?_
      refine Qaz ?_
      refine bm ?_
      refine qr (am (aw xa (aa (nwq [7,3,2,1] ?_))))
      exact Qm (ih _ _ hF K) ⟨rfl,rfl,rfl,rfl,trivial⟩
     refine Qa0 (g:=32) rfl h27 ?_
     refine Qj rfl rfl rfl rfl rfl ?_
     refine Qj rfl rfl rfl rfl rfl ?_
     refine Qj rfl rfl rfl rfl rfl ?_
     refine Qj rfl rfl rfl rfl rfl ?_
     refine Qj rfl rfl rfl rfl rfl ?_
     refine Qj rfl rfl rfl rfl rfl ?_
     refine Qj rfl rfl rfl rfl rfl ?_
     refine Qj rfl rfl rfl rfl rfl ?_
     refine Qj rfl rfl rfl rfl rfl ?_
     refine Qj rfl rfl rfl rfl rfl ?_
     refine Qj rfl rfl rfl rfl rfl ?_
     refine Qj rfl rfl rfl rfl rfl ?_
     refine Qj rfl rfl rfl rfl rfl ?_
     refine Qi rfl rfl rfl ?_
     refine Qk rfl rfl rfl (Qa4 rfl rfl rfl) ?_
     refine Qk rfl rfl rfl (Qa4 rfl rfl rfl) ?_
     refine QaX ?_
     refine wq [47,7,3,2,1] ?_
     refine tn ?_
     refine cf rfl ?_
     refine Qaz ?_
     refine bm ?_
     refine qr (am (aw xa (aa (nwq [7,3,2,1] ?_))))
     exact Qm (ih _ _ hF K) ⟨rfl,rfl,rfl,rfl,trivial⟩
    refine Qa0 (g:=14) rfl h5 ?_
    refine Qj rfl rfl rfl rfl rfl ?_
    refine Qj rfl rfl rfl rfl rfl ?_
    refine Qj rfl rfl rfl rfl rfl ?_
    refine Qj rfl rfl rfl rfl rfl ?_
    refine Qj rfl rfl rfl rfl rfl ?_
    refine Qj rfl rfl rfl rfl rfl ?_
    refine Qj rfl rfl rfl rfl rfl ?_
    refine Qj rfl rfl rfl rfl rfl ?_
    refine Qj rfl rfl rfl rfl rfl ?_
    refine Qj rfl rfl rfl rfl rfl ?_
    refine Qj rfl rfl rfl rfl rfl ?_
    refine Qj rfl rfl rfl rfl rfl ?_
    refine Qj rfl rfl rfl rfl rfl ?_
    refine Qk rfl rfl rfl (Qa4 rfl rfl rfl) ?_
    refine Qk rfl rfl rfl (Qaf rfl) ?_
    refine Qi rfl rfl rfl ?_
    refine Qk rfl rfl rfl (Qaf rfl) ?_
    refine Qi rfl rfl rfl ?_
    refine Qk rfl rfl rfl (r_not rfl) ?_
    refine Qi rfl rfl rfl ?_
    refine Qk rfl rfl rfl (Qaf rfl) ?_
    obtain ⟨h49,hF⟩|⟨h49,hF⟩:=oi hF
    ·refine Qa0 (g:=32) rfl h49 ?_
     refine Qi rfl rfl rfl ?_
     refine Qk rfl rfl rfl (QJ (fo:=34) underlying27 rfl rfl (fun w=>⟨_,sizeOf25 w⟩) rfl) ?_
     refine Qi rfl rfl rfl ?_
     refine Qk rfl rfl rfl (Ql isAgg25 rfl (Qr (c:=cHd) (y:=⟨g0_.1,List.length x0.f_Peers,g0_.2⟩) .z (QD g0_ x0) rfl)) ?_
     refine Qi rfl rfl rfl ?_
     refine Qk rfl rfl rfl (Qaf rfl) ?_
     refine Qi rfl rfl rfl ?_
     obtain ⟨h50,hF⟩:=gd hF
     obtain ⟨zs54,hz55,hr56,hn57⟩:=id hn0
     obtain ⟨b52,o53,hp51⟩:=QR hr56 (zidx hz55 h50)
     obtain ⟨g58,hg59⟩:=zget hz55 i3
     refine Qk rfl rfl rfl (r_idx underlying25 sizeOf60 rfl rfl h50 hp51) ?_
     refine Qi rfl rfl rfl ?_
     refine Qk rfl rfl rfl (QJ (fo:=64) underlying60 rfl rfl (fun w=>⟨_,sizeOf56 w⟩) rfl) ?_
     refine Qi rfl rfl rfl ?_
     refine Qk rfl rfl rfl (Qe (c:=QA) (z:=(lget x0.f_Peers i3).f_End) isAgg56 sizeOf56 rfl (nlens (y:=(lget x0.f_Peers i3).f_End) (fun _ h=>h.below) hr56 (zidx hz55 h50) hp51 hg59 (Qbf g58 (lget x0.f_Peers i3)))) ?_
     refine Qi rfl rfl rfl ?_
     refine Qk rfl rfl rfl (QJ (fo:=34) underlying27 rfl rfl (fun w=>⟨_,sizeOf25 w⟩) rfl) ?_
     refine Qi rfl rfl rfl ?_
     refine Qk rfl rfl rfl (Ql isAgg25 rfl (Qr (c:=cHd) (y:=⟨g0_.1,List.length x0.f_Peers,g0_.2⟩) .z (QD g0_ x0) rfl)) ?_
     refine Qi rfl rfl rfl ?_
     refine Qk rfl rfl rfl (Qaf rfl) ?_
     refine Qi rfl rfl rfl ?_
     obtain ⟨h60,hF⟩:=gd hF
     obtain ⟨zs64,hz65,hr66,hn67⟩:=id hn0
     obtain ⟨b62,o63,hp61⟩:=QR hr66 (zidx hz65 h60)
     obtain ⟨g68,hg69⟩:=zget hz65 x1
     refine Qk rfl rfl rfl (r_idx underlying25 sizeOf60 rfl rfl h60 hp61) ?_
     refine Qi rfl rfl rfl ?_
     refine Qk rfl rfl rfl (QJ (fo:=64) underlying60 rfl rfl (fun w=>⟨_,sizeOf56 w⟩) rfl) ?_
     refine Qi rfl rfl rfl ?_
     refine Qk rfl rfl rfl (Qe (c:=QA) (z:=(lget x0.f_Peers x1).f_End) isAgg56 sizeOf56 rfl (nlens (y:=(lget x0.f_Peers x1).f_End) (fun _ h=>h.below) hr66 (zidx hz65 h60) hp61 hg69 (Qbf g68 (lget x0.f_Peers x1)))) ?_
     refine Qi rfl rfl rfl ?_
     refine Qk rfl rfl rfl (Qbz (c:=QA) (a:=(lget x0.f_Peers i3).f_End) (b:=(lget x0.f_Peers x1).f_End) (QbY) rfl Tryz.eqGuardType56 rfl rfl (.inl rfl) rfl) ?_
     refine Qi rfl rfl rfl ?_
     refine Qk rfl rfl rfl (Qa4 rfl rfl rfl) ?_
     refine Qk rfl rfl rfl (Qa4 rfl rfl rfl) ?_
     refine QaX ?_
     refine wq [47,7,3,2,1] ?_
     refine tn ?_
     obtain ⟨h70,hF⟩|⟨h70,hF⟩:=oi hF
     ·refine ct h70 ?_
      refine sr (aa (qn (dz (wq [6] ?_))))
      refine tn (qt ?_)
      refine br (tr (tr (br (tr ?_))))
      obtain rfl:=os hF
      subst K
      exact r1 wb
     refine cf h70 ?_
     refine Qaz ?_
     refine bm ?_
     refine qr (am (aw xa (aa (nwq [7,3,2,1] ?_))))
     exact Qm (ih _ _ hF K) ⟨rfl,rfl,rfl,rfl,trivial⟩
    refine Qa0 (g:=32) rfl h49 ?_
    refine Qj rfl rfl rfl rfl rfl ?_
    refine Qj rfl rfl rfl rfl rfl ?_
    refine Qj rfl rfl rfl rfl rfl ?_
    refine Qj rfl rfl rfl rfl rfl ?_
    refine Qj rfl rfl rfl rfl rfl ?_
    refine Qj rfl rfl rfl rfl rfl ?_
    refine Qj rfl rfl rfl rfl rfl ?_
    refine Qj rfl rfl rfl rfl rfl ?_
    refine Qj rfl rfl rfl rfl rfl ?_
    refine Qj rfl rfl rfl rfl rfl ?_
    refine Qj rfl rfl rfl rfl rfl ?_
    refine Qj rfl rfl rfl rfl rfl ?_
    refine Qj rfl rfl rfl rfl rfl ?_
    refine Qi rfl rfl rfl ?_
    refine Qk rfl rfl rfl (Qa4 rfl rfl rfl) ?_
    refine Qk rfl rfl rfl (Qa4 rfl rfl rfl) ?_
    refine QaX ?_
    refine wq [47,7,3,2,1] ?_
    refine tn ?_
    refine cf rfl ?_
    refine Qaz ?_
    refine bm ?_
    refine qr (am (aw xa (aa (nwq [7,3,2,1] ?_))))
    exact Qm (ih _ _ hF K) ⟨rfl,rfl,rfl,rfl,trivial⟩
   refine cf h4 ?_
   refine Q1 ?_
   refine te (te ?_)
   refine dz ?_
   obtain rfl:=os hF
   exact Qm K trivial
 cases q2 with
 | ret r'=>exact os hF
 | nx sq2 =>
  skip
  refine Qw ?_
  refine tn (sr (aa (nwq [6] ?_)))
  refine qt ?_
  have K:=os hF
  subst K
  exact r1 wb
def Qat.l0(x0:List Qd)(x1:Qc)(i5:List Qc)(i6:Int):Option (List Qc) :=
 if (decide (i6<(x0.length:Int)))=true then (if (0:Int)≤i6∧i6<(x0.length:Int) then if (decide (((lget x0 i6).f_P).f_Bits>x1.f_Bits))=true then (if (0:Int)≤i6∧i6<(x0.length:Int) then Qbg x1 ((lget x0 i6).f_P)>>=fun t21=>if t21=true then (if (0:Int)≤i6∧i6<(x0.length:Int) then if (i5.length+1)*32≤140737488355328 then Qat.l0 x0 x1 (i5++[(lget x0 i6).f_P]) (wr .i64 (i6+1)) else none else none) else (Qat.l0 x0 x1 i5 (wr .i64 (i6+1))) else none) else (Qat.l0 x0 x1 i5 (wr .i64 (i6+1))) else none) else (some i5)
 partial_fixpoint
def Qat(x0:List Qd)(x1:Qc):Option (Bool) :=
 Qat.l0 x0 x1 ([]:List Qc) 0>>=fun q4=>QaA q4>>=fun t31=>if ((t31.length:Int)==1)=true then (if (0:Int)≤0∧0<(t31.length:Int) then some (decide (lget t31 0=x1)) else none) else (some false)
set_option maxHeartbeats 3200000 in
theorem QeU(x0:List Qd)(p0_:Option Addr)(c0_:Nat)(x1:Qc)(r:Bool)(hF:Qat x0 x1=some r)(w:World)(hr0:Row Qg w p0_ c0_ x0) :
    Calls Tryz.prog 51 #[.slice p0_ x0.length c0_,.agg (Cd.cs Qa x1).toArray] w (fun e w'=>e=.returned (.bool r)∧Below w.heap.size w w'):=by
 unfold Qat at hF
 refine ce (l:=[.slice p0_ x0.length c0_,.agg (Cd.cs Qa x1).toArray]) func51 rfl rfl ?_
 refine QN ?_
 refine sr ?_
 refine Qag (cs:=Cd.cs Qa x1) rfl rfl rfl ?_
 intro b1
 refine aa (ns (aa (nt (qs (sr (aa (nwq [6,5,3,0] ?_)))))))
 refine qb ?_
 refine Qbd Qa 38 ?_
 obtain ⟨q4,hq4,hF⟩:=bM hF
 refine wq [6,5,3,0] ?_
 refine Q5 (B:=0) (A:=fun Y=>∀ (p9:Option Addr) (c10:Nat),At 52 [(3,.pointer (some ⟨b1,0,none⟩)),(5,.slice p9 q4.length c10)] (Wd w [rowE Qa 38 p9 c10 q4,Qs b1 (Cd.cs Qa x1) 38]) Y) ?_ ?_
 ·intro K
  refine Qat.l0.partial_correctness x0 x1 (motive:=fun i5 i6 x=>KN (fun Y=>∀ (p9:Option Addr) (c10:Nat),At 52 [(3,.pointer (some ⟨b1,0,none⟩)),(5,.slice p9 x.length c10)] (Wd w [rowE Qa 38 p9 c10 x,Qs b1 (Cd.cs Qa x1) 38]) Y) _ 0→Round (fun Y=>∀ (p7:Option Addr) (c8:Nat),At 52 [(0,.slice p0_ x0.length c0_),(3,.pointer (some ⟨b1,0,none⟩)),(5,.slice p7 i5.length c8),(6,.int .i64 i6)] (Wd w [rowE Qa 38 p7 c8 i5,Qs b1 (Cd.cs Qa x1) 38]) Y) _ _ _) ?_ _ _ _ hq4 K none 0
  ·clear K hF
   intro g ih i5 i6 x hF K p7 c8
   refine QS ?_
   refine qs (sr (am (am ?_)))
   refine aw (Q6 underlying46 rfl) ?_
   refine aw xl (nwq [11,6,5,3,0] ?_)
   obtain ⟨h11,hF⟩|⟨h11,hF⟩:=oi hF
   ·refine ct h11 ?_
    refine sn (qs ?_)
    refine qb ?_
    refine qs ?_
    refine Qb4 (by kernel_rfl) (by kernel_rfl) (fun _ h=>h.drew) ?_
    refine Qk rfl rfl rfl (Qaf rfl) ?_
    refine Qk rfl rfl rfl (Qaf rfl) ?_
    obtain ⟨h12,hF⟩:=gd hF
    obtain ⟨b14,o15,hp13⟩:=QR hr0 h12
    refine Qk rfl rfl rfl (r_idx underlying46 sizeOf49 rfl rfl h12 hp13) ?_
    refine Qk rfl rfl rfl (QJ (fo:=0) underlying49 rfl rfl (fun w=>⟨_,sizeOf38 w⟩) rfl) ?_
    refine Qk rfl rfl rfl (QJ (fo:=17) underlying38 rfl rfl (fun w=>⟨_,sizeOf3 w⟩) rfl) ?_
    refine Qk rfl rfl rfl (Ql isAgg3 rfl (QbK (y:=((lget x0 i6).f_P).f_Bits) (fun _ h=>h.below) hr0 h12 hp13 (Lens.comp (Lens.comp lw (fun z=>{ (lget x0 i6) with f_P:=z }) (QQ (lget x0 i6))) (fun z=>{ (lget x0 i6).f_P with f_Bits:=z }) (QE ((lget x0 i6).f_P))) rfl)) ?_
    refine Qk rfl rfl rfl (QJ (fo:=17) underlying38 rfl rfl (fun w=>⟨_,sizeOf3 w⟩) rfl) ?_
    refine Qk rfl rfl rfl (Ql isAgg3 rfl (Qr (c:=(cInt .i64)) (y:=x1.f_Bits) (.s .z) (Lens.comp lw (fun z=>{ x1 with f_Bits:=z }) (QE x1)) rfl)) ?_
    refine Qk rfl rfl rfl (QcK rfl rfl) ?_
    refine Qk rfl rfl rfl (Qaf rfl) ?_
    obtain ⟨h16,hF⟩|⟨h16,hF⟩:=oi hF
    ·refine Qa0 (g:=23) rfl h16 ?_
     refine Qi rfl rfl rfl ?_
     refine Qk rfl rfl rfl (Qe (c:=Qa) (z:=x1) isAgg38 sizeOf38 rfl (Qp (.s .z) lw)) ?_
     refine Qi rfl rfl rfl ?_
     refine Qk rfl rfl rfl (Qaf rfl) ?_
     refine Qi rfl rfl rfl ?_
     refine Qk rfl rfl rfl (Qaf rfl) ?_
     refine Qi rfl rfl rfl ?_
     obtain ⟨h17,hF⟩:=gd hF
     obtain ⟨b19,o20,hp18⟩:=QR hr0 h17
     refine Qk rfl rfl rfl (r_idx underlying46 sizeOf49 rfl rfl h17 hp18) ?_
     refine Qi rfl rfl rfl ?_
     refine Qk rfl rfl rfl (QJ (fo:=0) underlying49 rfl rfl (fun w=>⟨_,sizeOf38 w⟩) rfl) ?_
     refine Qi rfl rfl rfl ?_
     refine Qk rfl rfl rfl (Qe (c:=Qa) (z:=(lget x0 i6).f_P) isAgg38 sizeOf38 rfl (QbH (y:=(lget x0 i6).f_P) (fun _ h=>h.below) hr0 h17 hp18 (Lens.comp lw (fun z=>{ (lget x0 i6) with f_P:=z }) (QQ (lget x0 i6))))) ?_
     refine Qi rfl rfl rfl ?_
     obtain ⟨t21,ht21,hF⟩:=bM hF
     refine Qbb func77 rfl (by kernel_rfl) rfl rfl (fun w hw=>(Qdi _ _ _ ht21 w).mono fun _ _ h=>⟨h.1,hw.call h.2⟩) ?_
     refine Qk rfl rfl rfl (Qa4 rfl rfl rfl) ?_
     refine QaX ?_
     refine wq [31,6,5,3,0] ?_
     refine tn ?_
     obtain ⟨h22,hF⟩|⟨h22,hF⟩:=oi hF
     ·refine ct h22 ?_
      refine qr (am (am (am ?_)))
      obtain ⟨h23,hF⟩:=gd hF
      obtain ⟨b25,o26,hp24⟩:=QR hr0 h23
      refine aw (r_idx underlying46 sizeOf49 rfl rfl h23 hp24) ?_
      refine fa 0 underlying49 rfl sizeOf38 ?_
      refine aw (Qe (c:=Qa) (z:=(lget x0 i6).f_P) isAgg38 sizeOf38 rfl (QbH (y:=(lget x0 i6).f_P) (fun _ h=>h.below) hr0 h23 hp24 (Lens.comp lw (fun z=>{ (lget x0 i6) with f_P:=z }) (QQ (lget x0 i6))))) ?_
      refine Qbu (c:=Qa) ([zv9]:List Qc) ([(lget x0 i6).f_P]:List Qc) underlying58 sizeOf38 zeroValue38 rfl rfl rfl (by kernel_rfl) (QI (c:=Qa) (z:=(lget x0 i6).f_P) rfl (Lens.all Qa ([zv9]:List Qc) 0 (by first | decide | exact Nat.le_of_ble_eq_true rfl)) rfl rfl) rfl ?_
      intro b27
      obtain ⟨h28,hF⟩:=gd hF
      refine Qax (z:=.agg (Cd.cs Qa zv9).toArray) (c:=Qa) (ys:=([(lget x0 i6).f_P]:List Qc)) (.s .z) underlying58 infoV238 (by kernel_rfl) (by kernel_rfl) rfl rfl rfl rfl (fun _ hw=>Qaw (hw.ok (Upd.mem .z))) (by kernel_rfl) h28 (Qaj h28) rfl ?_
      intro p29 c30
      refine aa (qn (dz (wq [6,5,3,0] ?_)))
      refine bm ?_
      refine qr (am (aw xa (aa (nwq [6,5,3,0] ?_))))
      exact Qm (ih _ _ _ hF K p29 c30) ⟨rfl,rfl,rfl,rfl,trivial⟩
     refine cf h22 ?_
     refine Qaz ?_
     refine bm ?_
     refine qr (am (aw xa (aa (nwq [6,5,3,0] ?_))))
     exact Qm (ih _ _ _ hF K p7 c8) ⟨rfl,rfl,rfl,rfl,trivial⟩
    refine Qa0 (g:=23) rfl h16 ?_
    refine Qj rfl rfl rfl rfl rfl ?_
    refine Qj rfl rfl rfl rfl rfl ?_
    refine Qj rfl rfl rfl rfl rfl ?_
    refine Qj rfl rfl rfl rfl rfl ?_
    refine Qj rfl rfl rfl rfl rfl ?_
    refine Qj rfl rfl rfl rfl rfl ?_
    refine Qj rfl rfl rfl rfl rfl ?_
    refine Qk rfl rfl rfl (Qa4 rfl rfl rfl) ?_
    refine QaX ?_
    refine wq [31,6,5,3,0] ?_
    refine tn ?_
    refine cf rfl ?_
    refine Qaz ?_
    refine bm ?_
    refine qr (am (aw xa (aa (nwq [6,5,3,0] ?_))))
    exact Qm (ih _ _ _ hF K p7 c8) ⟨rfl,rfl,rfl,rfl,trivial⟩
   refine cf h11 ?_
   refine Q1 ?_
   refine te (te ?_)
   obtain rfl:=os hF
   exact Qm (K p7 c8) ⟨rfl,rfl,trivial⟩
 skip
 intro p9 c10
 refine Qw ?_
 refine tn (sr (am ?_))
 obtain ⟨t31,ht31,hF⟩:=bM hF
 refine Qca (c:=Qa) (e:=38) (ys:=t31) (V:=fun p cap=>.slice p t31.length cap) func78 rfl (by kernel_rfl) rfl rfl (fun w hw=>Qfe _ _ _ _ ht31 w (hw.own .z).row) ?_
 intro p32 c33
 refine aa (qn ?_)
 refine Qal (H:=_) (.s .z) ?_
 refine tn (qs (wq [7,3] ?_))
 obtain ⟨h34,hF⟩|⟨h34,hF⟩:=oi hF
 ·skip
  obtain ⟨h35,hF⟩:=gd hF
  refine QaU (φ:=∃ b o,p32=some ⟨b,o,none⟩) (fun _ hw=>QR (hw.own .z).row h35) ?_
  rintro ⟨b37,o38,hp36⟩
  refine Qcv [.q 42 (fun g39=>.slice p32 t31.length c33) [] 0 0,.q 43 (fun g39=>.int .i64 (t31.length:Int)) [0] 0 0,.q 44 (fun g39=>.bool ((t31.length:Int)==1)) [1] 0 0,.q 45 (fun g39=>.bool true) [2] 0 0,.q 46 (fun g39=>.slice p32 t31.length c33) [3] 0 0,.q 47 (fun g39=>.pointer (some ⟨b37,o38+Int.toNat 0*18,none⟩)) [3,4] 0 0,.q 48 (fun g39=>.agg (Cd.cs Qa (lget t31 0)).toArray) [3,5] 0 0,.q 49 (fun g39=>.agg (Cd.cs Qa x1).toArray) [3] 0 0,.q 50 (fun g39=>.bool (decide (lget t31 0=x1))) [3,6,7] 0 0,.q 51 (fun g39=>.bool (decide (lget t31 0=x1))) [3,8] 0 0,.q 4 (fun g39=>.bool (decide (lget t31 0=x1))) [9] 0 0] (fun g39 s=>match s with | _=>(Wd w [rowE Qa 38 p32 c33 t31,Qs b1 (Cd.cs Qa x1) 38])) 0 (by kernel_rfl) (by kernel_rfl) (by kernel_rfl) (by kernel_rfl) (by kernel_rfl) ⟨fun _ _ _=>rfl,fun _ _ _=>rfl,fun _ _ _=>rfl,fun _ _ _=>rfl,fun _ _ _=>rfl,fun _ _ _=>rfl,fun _ _ _=>rfl,fun _ _ _=>rfl,fun _ _ _=>rfl,fun _ _ _=>rfl,fun _ _ _=>rfl,trivial⟩ (by kernel_rfl) (fun w_ h=>⟨fun _=>g3 0 none 0 none w_,h.drew⟩) ⟨?_,?_,?_,?_,?_,?_,?_,?_,?_,?_,?_,trivial⟩ ?_
  ·intro Lx g39 s K hl hh k
   show At 52 ((3,_)::(7,_)::Lx) _ _
   refine am ?_
   exact Qn k
  ·intro Lx g39 s K hl hh k
   show At 52 ((42,_)::(3,_)::(7,_)::Lx) _ _
   obtain rfl:s=0:=by omega
   refine aw (Q6 underlying58 rfl) ?_
   exact Qn k
  ·intro Lx g39 s K hl hh k
   show At 52 ((43,_)::(3,_)::(7,_)::Lx) _ _
   refine aw xq ?_
   exact Qn k
  ·intro Lx g39 s K hl hh k
   show At 52 ((44,_)::(3,_)::(7,_)::Lx) _ _
   refine am ?_
   exact Qn (QcH h34 k)
  ·intro Lx g39 s K hl hh k
   show At 52 ((45,_)::(3,_)::(7,_)::Lx) _ _
   refine gy ?_
   refine am ?_
   exact Qn k
  ·intro Lx g39 s K hl hh k
   show At 52 ((45,_)::(46,_)::(3,_)::(7,_)::Lx) _ _
   refine gy ?_
   refine aw (r_idx underlying58 sizeOf38 rfl rfl h35 hp36) ?_
   exact Qn k
  ·intro Lx g39 s K hl hh k
   show At 52 ((45,_)::(47,_)::(3,_)::(7,_)::Lx) _ _
   refine gy ?_
   obtain rfl:s=0:=by omega
   refine aw (Qe (c:=Qa) (z:=lget t31 0) isAgg38 sizeOf38 rfl (fun w1 hw=>QaF (W:=fun w1=>w1=_) (fun w1 h=>by subst h;exact Below.refl _ _) (hw.own .z).row h35 hp36 _ rfl)) ?_
   exact Qn k
  ·intro Lx g39 s K hl hh k
   show At 52 ((45,_)::(3,_)::(7,_)::Lx) _ _
   refine gy ?_
   obtain rfl:s=0:=by omega
   refine aw (Qe (c:=Qa) (z:=x1) isAgg38 sizeOf38 rfl (Qp (.s .z) lw)) ?_
   exact Qn k
  ·intro Lx g39 s K hl hh k
   show At 52 ((45,_)::(48,_)::(49,_)::(3,_)::(7,_)::Lx) _ _
   refine gy ?_
   refine aw (Qbz (c:=Qa) (a:=lget t31 0) (b:=x1) (Qap) rfl Tryz.eqGuardType38 rfl rfl (.inl rfl) rfl) ?_
   exact Qn k
  ·intro Lx g39 s K hl hh k
   show At 52 ((45,_)::(50,_)::(3,_)::(7,_)::Lx) _ _
   refine aw xp ?_
   exact Qn k
  ·intro Lx g39 s K hl hh k
   show At 52 ((51,_)::(3,_)::(7,_)::Lx) _ _
   refine aa ?_
   exact Qn k
  intro g39
  show At 52 [(42,_),(43,_),(44,_),(45,_),(46,_),(47,_),(48,_),(49,_),(50,_),(51,_),(4,_),(3,_),(7,_)] _ _
  refine dz (dz (wq [4] ?_))
  refine tn (qt ?_)
  have K:=os hF
  subst K
  exact r1 wb
 skip
 refine Qcv [.q 42 (fun g40=>.slice p32 t31.length c33) [] 0 0,.q 43 (fun g40=>.int .i64 (t31.length:Int)) [0] 0 0,.q 44 (fun g40=>.bool ((t31.length:Int)==1)) [1] 0 0,.q 45 (fun g40=>.bool false) [2] 0 0,.q 46 (fun g40=>undef) [3] 0 0,.q 47 (fun g40=>undef) [3,4] 0 0,.q 48 (fun g40=>undef) [3,5] 0 0,.q 49 (fun g40=>undef) [3] 0 0,.q 50 (fun g40=>undef) [3,6,7] 0 0,.q 51 (fun g40=>.bool false) [3,8] 0 0,.q 4 (fun g40=>.bool false) [9] 0 0] (fun g40 s=>match s with | _=>(Wd w [rowE Qa 38 p32 c33 t31,Qs b1 (Cd.cs Qa x1) 38])) 0 (by kernel_rfl) (by kernel_rfl) (by kernel_rfl) (by kernel_rfl) (by kernel_rfl) ⟨fun _ _ _=>rfl,fun _ _ _=>rfl,fun _ _ _=>rfl,fun _ _ _=>rfl,fun _ _ _=>rfl,fun _ _ _=>rfl,fun _ _ _=>rfl,fun _ _ _=>rfl,fun _ _ _=>rfl,fun _ _ _=>rfl,fun _ _ _=>rfl,trivial⟩ (by kernel_rfl) (fun w_ h=>⟨fun _=>g3 0 none 0 none w_,h.drew⟩) ⟨?_,?_,?_,?_,?_,?_,?_,?_,?_,?_,?_,trivial⟩ ?_
 ·intro Lx g40 s K hl hh k
  show At 52 ((3,_)::(7,_)::Lx) _ _
  refine am ?_
  exact Qn k
 ·intro Lx g40 s K hl hh k
  show At 52 ((42,_)::(3,_)::(7,_)::Lx) _ _
  obtain rfl:s=0:=by omega
  refine aw (Q6 underlying58 rfl) ?_
  exact Qn k
 ·intro Lx g40 s K hl hh k
  show At 52 ((43,_)::(3,_)::(7,_)::Lx) _ _
  refine aw xq ?_
  exact Qn k
 ·intro Lx g40 s K hl hh k
  show At 52 ((44,_)::(3,_)::(7,_)::Lx) _ _
  refine am ?_
  exact Qn (QcH h34 k)
 ·intro Lx g40 s K hl hh k
  show At 52 ((45,_)::(3,_)::(7,_)::Lx) _ _
  refine gn ?_
  exact Qn k
 ·intro Lx g40 s K hl hh k
  show At 52 ((45,_)::(46,_)::(3,_)::(7,_)::Lx) _ _
  refine gn ?_
  exact Qn k
 ·intro Lx g40 s K hl hh k
  show At 52 ((45,_)::(47,_)::(3,_)::(7,_)::Lx) _ _
  obtain rfl:s=0:=by omega
  refine gn ?_
  exact Qn k
 ·intro Lx g40 s K hl hh k
  show At 52 ((45,_)::(3,_)::(7,_)::Lx) _ _
  obtain rfl:s=0:=by omega
  refine gn ?_
  exact Qn k
 ·intro Lx g40 s K hl hh k
  show At 52 ((45,_)::(48,_)::(49,_)::(3,_)::(7,_)::Lx) _ _
  refine gn ?_
  exact Qn k
 ·intro Lx g40 s K hl hh k
  show At 52 ((45,_)::(50,_)::(3,_)::(7,_)::Lx) _ _
  refine aw xp ?_
  exact Qn k
 ·intro Lx g40 s K hl hh k
  show At 52 ((51,_)::(3,_)::(7,_)::Lx) _ _
  refine aa ?_
  exact Qn k
 intro g40
 show At 52 [(42,_),(43,_),(44,_),(45,_),(46,_),(47,_),(48,_),(49,_),(50,_),(51,_),(4,_),(3,_),(7,_)] _ _
 refine dz (dz (wq [4] ?_))
 refine tn (qt ?_)
 have K:=os hF
 subst K
 exact r1 wb
def Qbp(x0:List Qd)(x1:Int)(x2:Qd):Option (Bool) :=
 if (x1==6)=true then (Qat x0 x2.f_P>>=fun t3=>some t3) else (Qau x0>>=fun t4=>QaT t4 x2.f_P>>=fun t7=>some (decide (t7<0)))
set_option maxHeartbeats 3200000 in
theorem QgA(x0:List Qd)(p0_:Option Addr)(c0_:Nat)(x1:Int)(x2:Qd)(r:Bool)(hF:Qbp x0 x1 x2=some r)(w:World)(hr0:Row Qg w p0_ c0_ x0) :
    Calls Tryz.prog 30 #[.slice p0_ x0.length c0_,.int .i64 x1,.agg (Cd.cs Qg x2).toArray] w (fun e w'=>e=.returned (.bool r)∧Below w.heap.size w w'):=by
 unfold Qbp at hF
 refine ce (l:=[.slice p0_ x0.length c0_,.int .i64 x1,.agg (Cd.cs Qg x2).toArray]) func30 rfl rfl ?_
 refine QN ?_
 refine sr ?_
 refine Qag (cs:=Cd.cs Qg x2) rfl rfl rfl ?_
 intro b1
 refine aa (nt (qs (sr (am (aw xq (nwq [8,5,0] ?_))))))
 obtain ⟨h2,hF⟩|⟨h2,hF⟩:=oi hF
 ·refine ct h2 ?_
  refine sr (am (fa 0 underlying49 rfl sizeOf38 ?_))
  refine aw (Qe (c:=Qa) (z:=x2.f_P) isAgg38 sizeOf38 rfl (Qp .z (Lens.comp lw (fun z=>{ x2 with f_P:=z }) (QQ x2)))) ?_
  obtain ⟨t3,ht3,hF⟩:=bM hF
  refine cB func51 rfl (fun w hw=>QeU _ _ _ _ _ ht3 w (hr0.below hw.below)) ?_
  refine aa (qn (dz (wq [6] ?_)))
  refine tn (rt ?_)
  have K:=os hF
  subst K
  exact r1 wb
 refine cf h2 ?_
 refine sn (qs (wq [5,0] ?_))
 obtain ⟨t4,ht4,hF⟩:=bM hF
 obtain ⟨t7,ht7,hF⟩:=bM hF
 refine Qcv [.q 13 (fun g8=>.slice p0_ x0.length c0_) [] 0 0,.al 0 14 (fun g8=>.slice ((g8 0).2.1) t4.length ((g8 0).2.2.1)) [0],.q 15 (fun g8=>.pointer (some ⟨b1,0+0,none⟩)) [] 0 1,.q 16 (fun g8=>.agg (Cd.cs Qa x2.f_P).toArray) [2] 0 1,.q 17 (fun g8=>.int .i64 t7) [1,3] 1 1,.q 18 (fun g8=>.bool (decide (t7<0))) [4] 1 1,.q 6 (fun g8=>.bool (decide (t7<0))) [5] 1 1] (fun g8 s=>match s with | 0=>(Wd w [Qs b1 (Cd.cs Qg x2) 49]) | _=>(Wd w [rowE Qg 49 ((g8 0).2.1) ((g8 0).2.2.1) t4,Qs b1 (Cd.cs Qg x2) 49])) 1 (by kernel_rfl) (by kernel_rfl) (by kernel_rfl) (by kernel_rfl) (by kernel_rfl) ⟨fun _ _ _=>rfl,fun g8 g2 h=>by show (.slice ((g8 0).2.1) t4.length ((g8 0).2.2.1):Value)=.slice ((g2 0).2.1) t4.length ((g2 0).2.2.1);rw [h 0 (show 0<1 by decide)],fun _ _ _=>rfl,fun _ _ _=>rfl,fun _ _ _=>rfl,fun _ _ _=>rfl,fun _ _ _=>rfl,trivial⟩ (by kernel_rfl) (fun w_ h=>⟨fun _=>g3 0 none 0 none w_,h.drew⟩) ⟨?_,?_,?_,?_,?_,?_,?_,trivial⟩ ?_
 ·intro Lx g8 s K hl hh k
  show At 19 ((0,_)::(5,_)::Lx) _ _
  refine am ?_
  exact Qn k
 ·intro Lx g8 K k
  show At 19 ((13,_)::(0,_)::(5,_)::Lx) _ _
  refine Qca (c:=Qg) (e:=49) (ys:=t4) (V:=fun p cap=>.slice p t4.length cap) func53 rfl (by kernel_rfl) rfl rfl (fun w hw=>QfD _ _ _ _ ht4 w (hr0.below hw.below)) ?_
  intro p5 c6
  exact Qn (k (g3 0 p5 c6 none w))
 ·intro Lx g8 s K hl hh k
  show At 19 ((0,_)::(5,_)::Lx) _ _
  refine fa 0 underlying49 rfl sizeOf38 ?_
  exact Qn k
 ·intro Lx g8 s K hl hh k
  show At 19 ((15,_)::(0,_)::(5,_)::Lx) _ _
  rcases (by omega:s=0∨s=1) with rfl | rfl
  ·skip
   refine aw (Qe (c:=Qa) (z:=x2.f_P) isAgg38 sizeOf38 rfl (Qp .z (Lens.comp lw (fun z=>{ x2 with f_P:=z }) (QQ x2)))) ?_
   exact Qn k
  skip
  refine aw (Qe (c:=Qa) (z:=x2.f_P) isAgg38 sizeOf38 rfl (Qp (.s .z) (Lens.comp lw (fun z=>{ x2 with f_P:=z }) (QQ x2)))) ?_
  exact Qn k
 ·intro Lx g8 s K hl hh k
  show At 19 ((14,_)::(16,_)::(0,_)::(5,_)::Lx) _ _
  obtain rfl:s=1:=by omega
  refine cB func52 rfl (fun w hw=>Qfh _ _ _ _ _ ht7 w (hw.own .z).row) ?_
  exact Qn k
 ·intro Lx g8 s K hl hh k
  show At 19 ((17,_)::(0,_)::(5,_)::Lx) _ _
  refine aw xl ?_
  exact Qn k
 ·intro Lx g8 s K hl hh k
  show At 19 ((18,_)::(0,_)::(5,_)::Lx) _ _
  refine aa ?_
  exact Qn k
 intro g8
 show At 19 [(13,_),(14,_),(15,_),(16,_),(17,_),(18,_),(6,_),(0,_),(5,_)] _ _
 refine dz (dz (wq [6] ?_))
 refine tn (qt ?_)
 have K:=os hF
 subst K
 exact r1 wb
def QbZ(x0:S_api_Conf)(x1:Qq):Option (ByteArray) :=
 if (decide (x1.f_Kind<1))=true then (some (⟨#[]⟩)) else (if (decide (x1.f_Kind>6))=true then (some (⟨#[]⟩)) else (if (0:Int)≤x1.f_Kind∧x1.f_Kind<(([⟨#[]⟩,⟨#[107,101,121,108,101,115,115]⟩,⟨#[105,100,108,101]⟩,⟨#[100,111,117,98,108,101]⟩,⟨#[115,104,97,114,101,100]⟩,⟨#[115,112,97,114,101]⟩,⟨#[104,105,100,100,101,110]⟩]:List ByteArray).length:Int) then if (decide (x1.f_Peer≥0))=true then (if (decide (x1.f_Peer<(x0.f_Peers.length:Int)))=true then (if (lget ([⟨#[]⟩,⟨#[107,101,121,108,101,115,115]⟩,⟨#[105,100,108,101]⟩,⟨#[100,111,117,98,108,101]⟩,⟨#[115,104,97,114,101,100]⟩,⟨#[115,112,97,114,101]⟩,⟨#[104,105,100,100,101,110]⟩]:List ByteArray) x1.f_Kind).size+(⟨#[32]⟩:ByteArray).size≤140737488355328 then if (0:Int)≤x1.f_Peer∧x1.f_Peer<(x0.f_Peers.length:Int) then QaL ((lget x0.f_Peers x1.f_Peer).f_Key)>>=fun t20=>QH t20>>=fun t23=>if ((lget ([⟨#[]⟩,⟨#[107,101,121,108,101,115,115]⟩,⟨#[105,100,108,101]⟩,⟨#[100,111,117,98,108,101]⟩,⟨#[115,104,97,114,101,100]⟩,⟨#[115,112,97,114,101]⟩,⟨#[104,105,100,100,101,110]⟩]:List ByteArray) x1.f_Kind)++(⟨#[32]⟩:ByteArray)).size+t23.size≤140737488355328 then if (!decide (x1.f_P=({ f_A:=({ f_V:=(0:Int),f_B:=(Vector.replicate 16 (0:Int):(Vector Int 16)) }:Qh),f_Bits:=(0:Int) }:Qc)))=true then (if (((lget ([⟨#[]⟩,⟨#[107,101,121,108,101,115,115]⟩,⟨#[105,100,108,101]⟩,⟨#[100,111,117,98,108,101]⟩,⟨#[115,104,97,114,101,100]⟩,⟨#[115,112,97,114,101]⟩,⟨#[104,105,100,100,101,110]⟩]:List ByteArray) x1.f_Kind)++(⟨#[32]⟩:ByteArray))++t23).size+(⟨#[32]⟩:ByteArray).size≤140737488355328 then Qbv x1.f_P>>=fun t27=>if ((((lget ([⟨#[]⟩,⟨#[107,101,121,108,101,115,115]⟩,⟨#[105,100,108,101]⟩,⟨#[100,111,117,98,108,101]⟩,⟨#[115,104,97,114,101,100]⟩,⟨#[115,112,97,114,101]⟩,⟨#[104,105,100,100,101,110]⟩]:List ByteArray) x1.f_Kind)++(⟨#[32]⟩:ByteArray))++t23)++(⟨#[32]⟩:ByteArray)).size+t27.size≤140737488355328 then some (((((lget ([⟨#[]⟩,⟨#[107,101,121,108,101,115,115]⟩,⟨#[105,100,108,101]⟩,⟨#[100,111,117,98,108,101]⟩,⟨#[115,104,97,114,101,100]⟩,⟨#[115,112,97,114,101]⟩,⟨#[104,105,100,100,101,110]⟩]:List ByteArray) x1.f_Kind)++(⟨#[32]⟩:ByteArray))++t23)++(⟨#[32]⟩:ByteArray))++t27) else none else none) else (some (((lget ([⟨#[]⟩,⟨#[107,101,121,108,101,115,115]⟩,⟨#[105,100,108,101]⟩,⟨#[100,111,117,98,108,101]⟩,⟨#[115,104,97,114,101,100]⟩,⟨#[115,112,97,114,101]⟩,⟨#[104,105,100,100,101,110]⟩]:List ByteArray) x1.f_Kind)++(⟨#[32]⟩:ByteArray))++t23)) else none else none else none) else (if (!decide (x1.f_P=({ f_A:=({ f_V:=(0:Int),f_B:=(Vector.replicate 16 (0:Int):(Vector Int 16)) }:Qh),f_Bits:=(0:Int) }:Qc)))=true then (if (lget ([⟨#[]⟩,⟨#[107,101,121,108,101,115,115]⟩,⟨#[105,100,108,101]⟩,⟨#[100,111,117,98,108,101]⟩,⟨#[115,104,97,114,101,100]⟩,⟨#[115,112,97,114,101]⟩,⟨#[104,105,100,100,101,110]⟩]:List ByteArray) x1.f_Kind).size+(⟨#[32]⟩:ByteArray).size≤140737488355328 then Qbv x1.f_P>>=fun t31=>if ((lget ([⟨#[]⟩,⟨#[107,101,121,108,101,115,115]⟩,⟨#[105,100,108,101]⟩,⟨#[100,111,117,98,108,101]⟩,⟨#[115,104,97,114,101,100]⟩,⟨#[115,112,97,114,101]⟩,⟨#[104,105,100,100,101,110]⟩]:List ByteArray) x1.f_Kind)++(⟨#[32]⟩:ByteArray)).size+t31.size≤140737488355328 then some (((lget ([⟨#[]⟩,⟨#[107,101,121,108,101,115,115]⟩,⟨#[105,100,108,101]⟩,⟨#[100,111,117,98,108,101]⟩,⟨#[115,104,97,114,101,100]⟩,⟨#[115,112,97,114,101]⟩,⟨#[104,105,100,100,101,110]⟩]:List ByteArray) x1.f_Kind)++(⟨#[32]⟩:ByteArray))++t31) else none else none) else (some (lget ([⟨#[]⟩,⟨#[107,101,121,108,101,115,115]⟩,⟨#[105,100,108,101]⟩,⟨#[100,111,117,98,108,101]⟩,⟨#[115,104,97,114,101,100]⟩,⟨#[115,112,97,114,101]⟩,⟨#[104,105,100,100,101,110]⟩]:List ByteArray) x1.f_Kind)))) else (if (!decide (x1.f_P=({ f_A:=({ f_V:=(0:Int),f_B:=(Vector.replicate 16 (0:Int):(Vector Int 16)) }:Qh),f_Bits:=(0:Int) }:Qc)))=true then (if (lget ([⟨#[]⟩,⟨#[107,101,121,108,101,115,115]⟩,⟨#[105,100,108,101]⟩,⟨#[100,111,117,98,108,101]⟩,⟨#[115,104,97,114,101,100]⟩,⟨#[115,112,97,114,101]⟩,⟨#[104,105,100,100,101,110]⟩]:List ByteArray) x1.f_Kind).size+(⟨#[32]⟩:ByteArray).size≤140737488355328 then Qbv x1.f_P>>=fun t35=>if ((lget ([⟨#[]⟩,⟨#[107,101,121,108,101,115,115]⟩,⟨#[105,100,108,101]⟩,⟨#[100,111,117,98,108,101]⟩,⟨#[115,104,97,114,101,100]⟩,⟨#[115,112,97,114,101]⟩,⟨#[104,105,100,100,101,110]⟩]:List ByteArray) x1.f_Kind)++(⟨#[32]⟩:ByteArray)).size+t35.size≤140737488355328 then some (((lget ([⟨#[]⟩,⟨#[107,101,121,108,101,115,115]⟩,⟨#[105,100,108,101]⟩,⟨#[100,111,117,98,108,101]⟩,⟨#[115,104,97,114,101,100]⟩,⟨#[115,112,97,114,101]⟩,⟨#[104,105,100,100,101,110]⟩]:List ByteArray) x1.f_Kind)++(⟨#[32]⟩:ByteArray))++t35) else none else none) else (some (lget ([⟨#[]⟩,⟨#[107,101,121,108,101,115,115]⟩,⟨#[105,100,108,101]⟩,⟨#[100,111,117,98,108,101]⟩,⟨#[115,104,97,114,101,100]⟩,⟨#[115,112,97,114,101]⟩,⟨#[104,105,100,100,101,110]⟩]:List ByteArray) x1.f_Kind))) else none))
theorem QfC(g0_:G_api_Conf)(x0:S_api_Conf)(x1:Qq)(r:ByteArray)(hF:QbZ x0 x1=some r)(w:World)(hn0:N_api_Conf w (g0_,x0)) :
    Calls Tryz.prog 10 #[.agg (Cd.cs c_api_Conf (g0_,x0)).toArray,.agg (Cd.cs Qo x1).toArray] w (fun e w'=>e=.returned (.string r)∧Below w.heap.size w w'):=by
 unfold QbZ at hF
 refine ce (l:=[.agg (Cd.cs c_api_Conf (g0_,x0)).toArray,.agg (Cd.cs Qo x1).toArray]) func10 rfl rfl ?_
 refine QN ?_
 refine sr ?_
 refine Qag (cs:=Cd.cs c_api_Conf (g0_,x0)) rfl rfl rfl ?_
 intro b1
 refine Qag (cs:=Cd.cs Qo x1) rfl rfl rfl ?_
 intro b2
 refine aa (ns ?_)
 refine Qgn (cs:=cStr.all ([⟨#[]⟩,⟨#[107,101,121,108,101,115,115]⟩,⟨#[105,100,108,101]⟩,⟨#[100,111,117,98,108,101]⟩,⟨#[115,104,97,114,101,100]⟩,⟨#[115,112,97,114,101]⟩,⟨#[104,105,100,100,101,110]⟩]:List ByteArray)) underlying72 sizeOf9 zeroValue9 rfl rfl rfl (by kernel_rfl) rfl ?_
 intro b3
 refine aa (nwq [5,3,2] ?_)
 refine qs (sr (fa 0 underlying41 rfl sizeOf3 ?_))
 refine aw (Ql isAgg3 rfl (Qr (c:=(cInt .i64)) (y:=x1.f_Kind) (.s .z) (Lens.comp lw (fun z=>{ x1 with f_Kind:=z }) (Qaa x1)) rfl)) ?_
 refine aw xl (am ?_)
 obtain ⟨h4,hF⟩|⟨h4,hF⟩:=oi hF
 ·refine fx 11 h4 ?_
  refine gn ?_
  refine gn ?_
  refine gn ?_
  refine aw xp (nwq [15,5,3,2] ?_)
  refine ct rfl ?_
  refine sr (aa (qn (dz (dz (dz (wq [4] ?_))))))
  refine tn (rt ?_)
  have K:=os hF
  subst K
  exact r1 wb
 refine fx 11 h4 ?_
 refine gy ?_
 refine fa 0 underlying41 rfl sizeOf3 ?_
 refine gy ?_
 refine aw (Ql isAgg3 rfl (Qr (c:=(cInt .i64)) (y:=x1.f_Kind) (.s .z) (Lens.comp lw (fun z=>{ x1 with f_Kind:=z }) (Qaa x1)) rfl)) ?_
 refine gy ?_
 refine aw (QcK rfl rfl) ?_
 refine aw xp (nwq [15,5,3,2] ?_)
 obtain ⟨h5,hF⟩|⟨h5,hF⟩:=oi hF
 ·refine ct h5 ?_
  refine sr (aa (qn (dz (dz (dz (wq [4] ?_))))))
  refine tn (rt ?_)
  have K:=os hF
  subst K
  exact r1 wb
 refine cf h5 ?_
 refine sns (am (fa 0 underlying41 rfl sizeOf3 ?_))
 refine aw (Ql isAgg3 rfl (Qr (c:=(cInt .i64)) (y:=x1.f_Kind) (.s .z) (Lens.comp lw (fun z=>{ x1 with f_Kind:=z }) (Qaa x1)) rfl)) ?_
 obtain ⟨h6,hF⟩:=gd hF
 refine aw (r_idx underlying72 sizeOf9 rfl rfl h6 rfl) ?_
 refine aw (Ql isAgg9 rfl (fun _ hw=>Qet (W:=fun w1=>w1=_) (fun w1 h=>by subst h;exact Below.refl _ _) (QeE (hw.ok (Upd.mem .z))) h6 rfl rfl _ rfl)) ?_
 refine aa (qn (dz (wq [6,3,2] ?_)))
 refine tn (qs (sr (fa 1 underlying41 rfl sizeOf3 ?_)))
 refine aw (Ql isAgg3 rfl (Qr (c:=(cInt .i64)) (y:=x1.f_Peer) .z (Lens.comp lw (fun z=>{ x1 with f_Peer:=z }) (Qac x1)) rfl)) ?_
 refine aw (Qei rfl rfl) ?_
 refine am ?_
 obtain ⟨h7,hF⟩|⟨h7,hF⟩:=oi hF
 ·refine fx 24 h7 ?_
  refine gy ?_
  refine fa 1 underlying41 rfl sizeOf3 ?_
  refine gy ?_
  refine aw (Ql isAgg3 rfl (Qr (c:=(cInt .i64)) (y:=x1.f_Peer) .z (Lens.comp lw (fun z=>{ x1 with f_Peer:=z }) (Qac x1)) rfl)) ?_
  refine gy ?_
  refine fa 34 underlying27 rfl sizeOf25 ?_
  refine gy ?_
  refine aw (Ql isAgg25 rfl (Qr (c:=cHd) (y:=⟨g0_.1,List.length x0.f_Peers,g0_.2⟩) (.s .z) (QD g0_ x0) rfl)) ?_
  refine gy ?_
  refine aw (Q6 underlying25 rfl) ?_
  refine gy ?_
  refine aw xl (aw xp (nwq [31,6,3,2] ?_))
  obtain ⟨h8,hF⟩|⟨h8,hF⟩:=oi hF
  ·refine ct h8 ?_
   refine qr (am ?_)
   obtain ⟨h9,hF⟩:=gd hF
   refine aw (Qbm rfl rfl h9) ?_
   refine fa 34 underlying27 rfl sizeOf25 ?_
   refine aw (Ql isAgg25 rfl (Qr (c:=cHd) (y:=⟨g0_.1,List.length x0.f_Peers,g0_.2⟩) (.s .z) (QD g0_ x0) rfl)) ?_
   refine fa 1 underlying41 rfl sizeOf3 ?_
   refine aw (Ql isAgg3 rfl (Qr (c:=(cInt .i64)) (y:=x1.f_Peer) .z (Lens.comp lw (fun z=>{ x1 with f_Peer:=z }) (Qac x1)) rfl)) ?_
   obtain ⟨h10,hF⟩:=gd hF
   obtain ⟨zs14,hz15,hr16,hn17⟩:=id hn0
   obtain ⟨b12,o13,hp11⟩:=QR hr16 (zidx hz15 h10)
   obtain ⟨g18,hg19⟩:=zget hz15 x1.f_Peer
   refine aw (r_idx underlying25 sizeOf60 rfl rfl h10 hp11) ?_
   refine fa 0 underlying60 rfl sizeOf23 ?_
   refine aw (Qe (c:=(cVec (cInt .u8) 32 (by decide))) (z:=(lget x0.f_Peers x1.f_Peer).f_Key) isAgg23 sizeOf23 rfl (nlens (y:=(lget x0.f_Peers x1.f_Peer).f_Key) (fun _ h=>h.below) hr16 (zidx hz15 h10) hp11 hg19 (Qb2 g18 (lget x0.f_Peers x1.f_Peer)))) ?_
   obtain ⟨t20,ht20,hF⟩:=bM hF
   refine Qca (c:=(cInt .u8)) (e:=5) (ys:=t20) (V:=fun p cap=>.slice p t20.length cap) func32 rfl (by kernel_rfl) rfl rfl (fun w hw=>Qfj _ _ ht20 w) ?_
   intro p21 c22
   obtain ⟨t23,ht23,hF⟩:=bM hF
   refine cB func31 rfl (fun w hw=>Qgm (QeZ _ _ _ _ ht23 w (hw.own .z).row)) ?_
   obtain ⟨h24,hF⟩:=gd hF
   refine aw (Qbm rfl rfl h24) ?_
   refine aa (qn (dz ?_))
   refine Qal (H:=_) (.s .z) ?_
   refine tn (qs (sr (fa 2 underlying41 rfl sizeOf38 ?_)))
   refine aw (Qe (c:=Qa) (z:=x1.f_P) isAgg38 sizeOf38 rfl (Qp .z (Lens.comp lw (fun z=>{ x1 with f_P:=z }) (QaY x1)))) ?_
   refine aw (QW (zs:=Cd.cs Qa zv9) (cs:=Cd.cs Qa zv9) underlying38 zeroValue38 rfl (QaM) rfl rfl) ?_
   refine aw (Qbz (c:=Qa) (a:=x1.f_P) (b:=zv9) (Qap) rfl Tryz.eqGuardType38 rfl rfl (.inr rfl) rfl) ?_
   refine nwq [47,6,3] ?_
   obtain ⟨h25,hF⟩|⟨h25,hF⟩:=oi hF
   ·refine ct h25 ?_
    refine qr (am ?_)
    obtain ⟨h26,hF⟩:=gd hF
    refine aw (Qbm rfl rfl h26) ?_
    refine fa 2 underlying41 rfl sizeOf38 ?_
    refine aw (Qe (c:=Qa) (z:=x1.f_P) isAgg38 sizeOf38 rfl (Qp .z (Lens.comp lw (fun z=>{ x1 with f_P:=z }) (QaY x1)))) ?_
    obtain ⟨t27,ht27,hF⟩:=bM hF
    refine cB func33 rfl (fun w hw=>QcO _ _ ht27 w) ?_
    obtain ⟨h28,hF⟩:=gd hF
    refine aw (Qbm rfl rfl h28) ?_
    refine aa (qn (dz (tn (sr (am (aa (nwq [4] ?_)))))))
    refine qt ?_
    have K:=os hF
    subst K
    exact r1 wb
   refine cf h25 ?_
   refine sns (am (aa (qn (dz (wq [4] ?_)))))
   refine tn (qt ?_)
   have K:=os hF
   subst K
   exact r1 wb
  refine cf h8 ?_
  refine sn (qs (sr (fa 2 underlying41 rfl sizeOf38 ?_)))
  refine aw (Qe (c:=Qa) (z:=x1.f_P) isAgg38 sizeOf38 rfl (Qp .z (Lens.comp lw (fun z=>{ x1 with f_P:=z }) (QaY x1)))) ?_
  refine aw (QW (zs:=Cd.cs Qa zv9) (cs:=Cd.cs Qa zv9) underlying38 zeroValue38 rfl (QaM) rfl rfl) ?_
  refine aw (Qbz (c:=Qa) (a:=x1.f_P) (b:=zv9) (Qap) rfl Tryz.eqGuardType38 rfl rfl (.inr rfl) rfl) ?_
  refine qn ?_
  refine Qal (H:=_) (.s .z) ?_
  refine wq [47,6,3] ?_
  refine tn ?_
  obtain ⟨h29,hF⟩|⟨h29,hF⟩:=oi hF
  ·refine ct h29 ?_
   refine qr (am ?_)
   obtain ⟨h30,hF⟩:=gd hF
   refine aw (Qbm rfl rfl h30) ?_
   refine fa 2 underlying41 rfl sizeOf38 ?_
   refine aw (Qe (c:=Qa) (z:=x1.f_P) isAgg38 sizeOf38 rfl (Qp .z (Lens.comp lw (fun z=>{ x1 with f_P:=z }) (QaY x1)))) ?_
   obtain ⟨t31,ht31,hF⟩:=bM hF
   refine cB func33 rfl (fun w hw=>QcO _ _ ht31 w) ?_
   obtain ⟨h32,hF⟩:=gd hF
   refine aw (Qbm rfl rfl h32) ?_
   refine aa (qn (dz (tn (sr (am (aa (nwq [4] ?_)))))))
   refine qt ?_
   have K:=os hF
   subst K
   exact r1 wb
  refine cf h29 ?_
  refine sns (am (aa (qn (dz (wq [4] ?_)))))
  refine tn (qt ?_)
  have K:=os hF
  subst K
  exact r1 wb
 refine fx 24 h7 ?_
 refine gn ?_
 refine gn ?_
 refine gn ?_
 refine gn ?_
 refine gn ?_
 refine gn ?_
 refine aw xp (nwq [31,6,3,2] ?_)
 refine cf rfl ?_
 refine sn (qs (sr (fa 2 underlying41 rfl sizeOf38 ?_)))
 refine aw (Qe (c:=Qa) (z:=x1.f_P) isAgg38 sizeOf38 rfl (Qp .z (Lens.comp lw (fun z=>{ x1 with f_P:=z }) (QaY x1)))) ?_
 refine aw (QW (zs:=Cd.cs Qa zv9) (cs:=Cd.cs Qa zv9) underlying38 zeroValue38 rfl (QaM) rfl rfl) ?_
 refine aw (Qbz (c:=Qa) (a:=x1.f_P) (b:=zv9) (Qap) rfl Tryz.eqGuardType38 rfl rfl (.inr rfl) rfl) ?_
 refine qn ?_
 refine Qal (H:=_) (.s .z) ?_
 refine wq [47,6,3] ?_
 refine tn ?_
 obtain ⟨h33,hF⟩|⟨h33,hF⟩:=oi hF
 ·refine ct h33 ?_
  refine qr (am ?_)
  obtain ⟨h34,hF⟩:=gd hF
  refine aw (Qbm rfl rfl h34) ?_
  refine fa 2 underlying41 rfl sizeOf38 ?_
  refine aw (Qe (c:=Qa) (z:=x1.f_P) isAgg38 sizeOf38 rfl (Qp .z (Lens.comp lw (fun z=>{ x1 with f_P:=z }) (QaY x1)))) ?_
  obtain ⟨t35,ht35,hF⟩:=bM hF
  refine cB func33 rfl (fun w hw=>QcO _ _ ht35 w) ?_
  obtain ⟨h36,hF⟩:=gd hF
  refine aw (Qbm rfl rfl h36) ?_
  refine aa (qn (dz (tn (sr (am (aa (nwq [4] ?_)))))))
  refine qt ?_
  have K:=os hF
  subst K
  exact r1 wb
 refine cf h33 ?_
 refine sns (am (aa (qn (dz (wq [4] ?_)))))
 refine tn (qt ?_)
 have K:=os hF
 subst K
 exact r1 wb
def QcZ(x0:S_api_Conf)(x1:Qq):Option (ByteArray) :=
 if (decide (x1.f_Kind<1))=true then (some (⟨#[]⟩)) else (if (decide (x1.f_Kind>6))=true then (some (⟨#[]⟩)) else (if (0:Int)≤x1.f_Kind∧x1.f_Kind<7 then if (decide (x1.f_Peer≥0))=true then (if (decide (x1.f_Peer<(x0.f_Peers.length:Int)))=true then (if (0:Int)≤x1.f_Peer∧x1.f_Peer<(x0.f_Peers.length:Int) then Qfu ((lget x0.f_Peers x1.f_Peer).f_Key)>>=fun t19=>if (([vget QU x1.f_Kind]:List ByteArray).length+1)*16≤140737488355328 then if (!decide (x1.f_P=({ f_A:=({ f_V:=(0:Int),f_B:=(Vector.replicate 16 (0:Int):(Vector Int 16)) }:Qh),f_Bits:=(0:Int) }:Qc)))=true then (QdE x1.f_P>>=fun t25=>if ((([vget QU x1.f_Kind]:List ByteArray)++[t19]).length+1)*16≤140737488355328 then if List.length ((([vget QU x1.f_Kind]:List ByteArray)++[t19])++[t25])≤140737488355328 then if (bjoin ((([vget QU x1.f_Kind]:List ByteArray)++[t19])++[t25]) (⟨#[32]⟩:ByteArray)).size≤140737488355328 then some (bjoin ((([vget QU x1.f_Kind]:List ByteArray)++[t19])++[t25]) (⟨#[32]⟩:ByteArray)) else none else none else none) else (if List.length (([vget QU x1.f_Kind]:List ByteArray)++[t19])≤140737488355328 then if (bjoin (([vget QU x1.f_Kind]:List ByteArray)++[t19]) (⟨#[32]⟩:ByteArray)).size≤140737488355328 then some (bjoin (([vget QU x1.f_Kind]:List ByteArray)++[t19]) (⟨#[32]⟩:ByteArray)) else none else none) else none else none) else (if (!decide (x1.f_P=({ f_A:=({ f_V:=(0:Int),f_B:=(Vector.replicate 16 (0:Int):(Vector Int 16)) }:Qh),f_Bits:=(0:Int) }:Qc)))=true then (QdE x1.f_P>>=fun t35=>if (([vget QU x1.f_Kind]:List ByteArray).length+1)*16≤140737488355328 then if List.length (([vget QU x1.f_Kind]:List ByteArray)++[t35])≤140737488355328 then if (bjoin (([vget QU x1.f_Kind]:List ByteArray)++[t35]) (⟨#[32]⟩:ByteArray)).size≤140737488355328 then some (bjoin (([vget QU x1.f_Kind]:List ByteArray)++[t35]) (⟨#[32]⟩:ByteArray)) else none else none else none) else (if List.length ([vget QU x1.f_Kind]:List ByteArray)≤140737488355328 then if (bjoin ([vget QU x1.f_Kind]:List ByteArray) (⟨#[32]⟩:ByteArray)).size≤140737488355328 then some (bjoin ([vget QU x1.f_Kind]:List ByteArray) (⟨#[32]⟩:ByteArray)) else none else none))) else (if (!decide (x1.f_P=({ f_A:=({ f_V:=(0:Int),f_B:=(Vector.replicate 16 (0:Int):(Vector Int 16)) }:Qh),f_Bits:=(0:Int) }:Qc)))=true then (QdE x1.f_P>>=fun t45=>if (([vget QU x1.f_Kind]:List ByteArray).length+1)*16≤140737488355328 then if List.length (([vget QU x1.f_Kind]:List ByteArray)++[t45])≤140737488355328 then if (bjoin (([vget QU x1.f_Kind]:List ByteArray)++[t45]) (⟨#[32]⟩:ByteArray)).size≤140737488355328 then some (bjoin (([vget QU x1.f_Kind]:List ByteArray)++[t45]) (⟨#[32]⟩:ByteArray)) else none else none else none) else (if List.length ([vget QU x1.f_Kind]:List ByteArray)≤140737488355328 then if (bjoin ([vget QU x1.f_Kind]:List ByteArray) (⟨#[32]⟩:ByteArray)).size≤140737488355328 then some (bjoin ([vget QU x1.f_Kind]:List ByteArray) (⟨#[32]⟩:ByteArray)) else none else none)) else none))
theorem lint_Text_ok(g0_:G_api_Conf)(x0:S_api_Conf)(x1:Qq)(r:ByteArray)(hF:QcZ x0 x1=some r)(w:World)(hn0:N_api_Conf w (g0_,x0))(hg_lint_words:GV_lint_words w)(hg_strconv_uint64pow10:GV_strconv_uint64pow10 w) :
    Calls Tryz.prog 12 #[.agg (Cd.cs c_api_Conf (g0_,x0)).toArray,.agg (Cd.cs Qo x1).toArray] w (fun e w'=>e=.returned (.string r)∧Below w.heap.size w w'):=by
 unfold QcZ at hF
 refine ce (l:=[.agg (Cd.cs c_api_Conf (g0_,x0)).toArray,.agg (Cd.cs Qo x1).toArray]) func12 rfl rfl ?_
 refine QN ?_
 refine sr ?_
 refine Qag (cs:=Cd.cs c_api_Conf (g0_,x0)) rfl rfl rfl ?_
 intro b1
 refine Qag (cs:=Cd.cs Qo x1) rfl rfl rfl ?_
 intro b2
 refine aa (nwq [3,2] ?_)
 refine qs (sr (fa 0 underlying40 rfl sizeOf3 ?_))
 refine aw (Ql isAgg3 rfl (Qr (c:=(cInt .i64)) (y:=x1.f_Kind) .z (Lens.comp lw (fun z=>{ x1 with f_Kind:=z }) (Qaa x1)) rfl)) ?_
 refine aw xl (am ?_)
 obtain ⟨h3,hF⟩|⟨h3,hF⟩:=oi hF
 ·refine fx 9 h3 ?_
  refine gn ?_
  refine gn ?_
  refine gn ?_
  refine aw xp (nwq [13,3,2] ?_)
  refine ct rfl ?_
  refine sr (aa (qn (dz (dz (wq [4] ?_)))))
  refine tn (rt ?_)
  have K:=os hF
  subst K
  exact r1 wb
 refine fx 9 h3 ?_
 refine gy ?_
 refine fa 0 underlying40 rfl sizeOf3 ?_
 refine gy ?_
 refine aw (Ql isAgg3 rfl (Qr (c:=(cInt .i64)) (y:=x1.f_Kind) .z (Lens.comp lw (fun z=>{ x1 with f_Kind:=z }) (Qaa x1)) rfl)) ?_
 refine gy ?_
 refine aw (QcK rfl rfl) ?_
 refine aw xp (nwq [13,3,2] ?_)
 obtain ⟨h4,hF⟩|⟨h4,hF⟩:=oi hF
 ·refine ct h4 ?_
  refine sr (aa (qn (dz (dz (wq [4] ?_)))))
  refine tn (rt ?_)
  have K:=os hF
  subst K
  exact r1 wb
 refine cf h4 ?_
 refine sns (fa 0 underlying40 rfl sizeOf3 ?_)
 refine aw (Ql isAgg3 rfl (Qr (c:=(cInt .i64)) (y:=x1.f_Kind) .z (Lens.comp lw (fun z=>{ x1 with f_Kind:=z }) (Qaa x1)) rfl)) ?_
 obtain ⟨h5,hF⟩:=gd hF
 refine aw (Qay underlying78 sizeOf9 rfl rfl h5) ?_
 refine aw (Ql isAgg9 rfl (glob_cell0 (c':=cStr) (y:=vget QU x1.f_Kind) (fun _ h=>h.below) hg_lint_words g_lint_words (Lens.comp lw (fun z=>vset QU x1.f_Kind z) (Lens.vec cStr (by decide) QU x1.f_Kind h5)) rfl)) ?_
 refine Qgn (cs:=cStr.all ([vget QU x1.f_Kind]:List ByteArray)) underlying72 sizeOf9 zeroValue9 rfl rfl rfl (by kernel_rfl) rfl ?_
 intro b6
 refine aa (nwq [5,3,2] ?_)
 refine qs (sr (fa 1 underlying40 rfl sizeOf3 ?_))
 refine aw (Ql isAgg3 rfl (Qr (c:=(cInt .i64)) (y:=x1.f_Peer) (.s .z) (Lens.comp lw (fun z=>{ x1 with f_Peer:=z }) (Qac x1)) rfl)) ?_
 refine aw (Qei rfl rfl) ?_
 refine am ?_
 obtain ⟨h7,hF⟩|⟨h7,hF⟩:=oi hF
 ·refine fx 22 h7 ?_
  refine gy ?_
  refine fa 1 underlying40 rfl sizeOf3 ?_
  refine gy ?_
  refine aw (Ql isAgg3 rfl (Qr (c:=(cInt .i64)) (y:=x1.f_Peer) (.s .z) (Lens.comp lw (fun z=>{ x1 with f_Peer:=z }) (Qac x1)) rfl)) ?_
  refine gy ?_
  refine fa 34 underlying27 rfl sizeOf25 ?_
  refine gy ?_
  refine aw (Ql isAgg25 rfl (Qr (c:=cHd) (y:=⟨g0_.1,List.length x0.f_Peers,g0_.2⟩) (.s (.s .z)) (QD g0_ x0) rfl)) ?_
  refine gy ?_
  refine aw (Q6 underlying25 rfl) ?_
  refine gy ?_
  refine aw xl (aw xp (nwq [29,5,3,2] ?_))
  obtain ⟨h8,hF⟩|⟨h8,hF⟩:=oi hF
  ·refine ct h8 ?_
   refine qr (am (fa 34 underlying27 rfl sizeOf25 ?_))
   refine aw (Ql isAgg25 rfl (Qr (c:=cHd) (y:=⟨g0_.1,List.length x0.f_Peers,g0_.2⟩) (.s (.s .z)) (QD g0_ x0) rfl)) ?_
   refine fa 1 underlying40 rfl sizeOf3 ?_
   refine aw (Ql isAgg3 rfl (Qr (c:=(cInt .i64)) (y:=x1.f_Peer) (.s .z) (Lens.comp lw (fun z=>{ x1 with f_Peer:=z }) (Qac x1)) rfl)) ?_
   obtain ⟨h9,hF⟩:=gd hF
   obtain ⟨zs13,hz14,hr15,hn16⟩:=id hn0
   obtain ⟨b11,o12,hp10⟩:=QR hr15 (zidx hz14 h9)
   obtain ⟨g17,hg18⟩:=zget hz14 x1.f_Peer
   refine aw (r_idx underlying25 sizeOf60 rfl rfl h9 hp10) ?_
   refine fa 0 underlying60 rfl sizeOf23 ?_
   refine aw (Qe (c:=(cVec (cInt .u8) 32 (by decide))) (z:=(lget x0.f_Peers x1.f_Peer).f_Key) isAgg23 sizeOf23 rfl (nlens (y:=(lget x0.f_Peers x1.f_Peer).f_Key) (fun _ h=>h.below) hr15 (zidx hz14 h9) hp10 hg18 (Qb2 g17 (lget x0.f_Peers x1.f_Peer)))) ?_
   obtain ⟨t19,ht19,hF⟩:=bM hF
   refine cB func35 rfl (fun w hw=>keys_Text_ok _ _ ht19 w) ?_
   refine Qgn (cs:=cStr.all ([t19]:List ByteArray)) underlying72 sizeOf9 zeroValue9 rfl rfl rfl (by kernel_rfl) rfl ?_
   intro b20
   refine at_lit_row (c:=cStr) (xs:=([vget QU x1.f_Kind]:List ByteArray)) (m:=1) (.s .z) rfl rfl ?_
   obtain ⟨h21,hF⟩:=gd hF
   refine Qax (z:=.string ⟨#[]⟩) (c:=cStr) (ys:=([t19]:List ByteArray)) (.s .z) underlying72 infoV29 (by kernel_rfl) (by kernel_rfl) rfl rfl rfl rfl (fun _ hw=>Qaw (hw.ok (Upd.mem .z))) (by kernel_rfl) h21 (Qaj h21) rfl ?_
   intro p22 c23
   refine aa (qn (dz ?_))
   refine Qal (H:=_) (.s (.s .z)) ?_
   refine tn (qs (sr (fa 2 underlying40 rfl sizeOf38 ?_)))
   refine aw (Qe (c:=Qa) (z:=x1.f_P) isAgg38 sizeOf38 rfl (Qp (.s .z) (Lens.comp lw (fun z=>{ x1 with f_P:=z }) (QaY x1)))) ?_
   refine aw (QW (zs:=Cd.cs Qa zv9) (cs:=Cd.cs Qa zv9) underlying38 zeroValue38 rfl (QaM) rfl rfl) ?_
   refine aw (Qbz (c:=Qa) (a:=x1.f_P) (b:=zv9) (Qap) rfl Tryz.eqGuardType38 rfl rfl (.inr rfl) rfl) ?_
   refine nwq [44,5,3] ?_
   obtain ⟨h24,hF⟩|⟨h24,hF⟩:=oi hF
   ·refine ct h24 ?_
    refine qr (am (fa 2 underlying40 rfl sizeOf38 ?_))
    refine aw (Qe (c:=Qa) (z:=x1.f_P) isAgg38 sizeOf38 rfl (Qp (.s .z) (Lens.comp lw (fun z=>{ x1 with f_P:=z }) (QaY x1)))) ?_
    obtain ⟨t25,ht25,hF⟩:=bM hF
    refine cB func36 rfl (fun w hw=>QfJ _ _ ht25 w (hg_strconv_uint64pow10.on hw.below)) ?_
    refine Qgn (cs:=cStr.all ([t25]:List ByteArray)) underlying72 sizeOf9 zeroValue9 rfl rfl rfl (by kernel_rfl) rfl ?_
    intro b26
    obtain ⟨h27,hF⟩:=gd hF
    refine Qax (z:=.string ⟨#[]⟩) (c:=cStr) (ys:=([t25]:List ByteArray)) (.s .z) underlying72 infoV29 (by kernel_rfl) (by kernel_rfl) rfl rfl rfl rfl (fun _ hw=>Qaw (hw.ok (Upd.mem .z))) (by kernel_rfl) h27 (Qaj h27) rfl ?_
    intro p28 c29
    refine aa (qn (dz ?_))
    refine Qal (H:=_) (.s .z) ?_
    refine tn (sr (am ?_))
    obtain ⟨h30,hF⟩:=gd hF
    obtain ⟨h31,hF⟩:=gd hF
    refine cB func37 rfl (fun w1 hw=>Qfv _ _ h30 h31 _ _ w1 (hw.own .z).row) ?_
    refine aa (qn (dz (wq [4] ?_)))
    refine tn (qt ?_)
    have K:=os hF
    subst K
    exact r1 wb
   refine cf h24 ?_
   refine sns (am ?_)
   obtain ⟨h32,hF⟩:=gd hF
   obtain ⟨h33,hF⟩:=gd hF
   refine cB func37 rfl (fun w1 hw=>Qfv _ _ h32 h33 _ _ w1 (hw.own .z).row) ?_
   refine aa (qn (dz (dz (wq [4] ?_))))
   refine tn (qt ?_)
   have K:=os hF
   subst K
   exact r1 wb
  refine cf h8 ?_
  refine sn (qs (sr (fa 2 underlying40 rfl sizeOf38 ?_)))
  refine aw (Qe (c:=Qa) (z:=x1.f_P) isAgg38 sizeOf38 rfl (Qp (.s .z) (Lens.comp lw (fun z=>{ x1 with f_P:=z }) (QaY x1)))) ?_
  refine aw (QW (zs:=Cd.cs Qa zv9) (cs:=Cd.cs Qa zv9) underlying38 zeroValue38 rfl (QaM) rfl rfl) ?_
  refine aw (Qbz (c:=Qa) (a:=x1.f_P) (b:=zv9) (Qap) rfl Tryz.eqGuardType38 rfl rfl (.inr rfl) rfl) ?_
  refine qn ?_
  refine Qal (H:=_) (.s (.s .z)) ?_
  refine wq [44,5,3] ?_
  refine tn ?_
  obtain ⟨h34,hF⟩|⟨h34,hF⟩:=oi hF
  ·refine ct h34 ?_
   refine qr (am (fa 2 underlying40 rfl sizeOf38 ?_))
   refine aw (Qe (c:=Qa) (z:=x1.f_P) isAgg38 sizeOf38 rfl (Qp (.s .z) (Lens.comp lw (fun z=>{ x1 with f_P:=z }) (QaY x1)))) ?_
   obtain ⟨t35,ht35,hF⟩:=bM hF
   refine cB func36 rfl (fun w hw=>QfJ _ _ ht35 w (hg_strconv_uint64pow10.on hw.below)) ?_
   refine Qgn (cs:=cStr.all ([t35]:List ByteArray)) underlying72 sizeOf9 zeroValue9 rfl rfl rfl (by kernel_rfl) rfl ?_
   intro b36
   refine at_lit_row (c:=cStr) (xs:=([vget QU x1.f_Kind]:List ByteArray)) (m:=1) (.s .z) rfl rfl ?_
   obtain ⟨h37,hF⟩:=gd hF
   refine Qax (z:=.string ⟨#[]⟩) (c:=cStr) (ys:=([t35]:List ByteArray)) (.s .z) underlying72 infoV29 (by kernel_rfl) (by kernel_rfl) rfl rfl rfl rfl (fun _ hw=>Qaw (hw.ok (Upd.mem .z))) (by kernel_rfl) h37 (Qaj h37) rfl ?_
   intro p38 c39
   refine aa (qn (dz ?_))
   refine Qal (H:=_) (.s .z) ?_
   refine tn (sr (am ?_))
   obtain ⟨h40,hF⟩:=gd hF
   obtain ⟨h41,hF⟩:=gd hF
   refine cB func37 rfl (fun w1 hw=>Qfv _ _ h40 h41 _ _ w1 (hw.own .z).row) ?_
   refine aa (qn (dz (wq [4] ?_)))
   refine tn (qt ?_)
   have K:=os hF
   subst K
   exact r1 wb
  refine cf h34 ?_
  refine sns (am ?_)
  obtain ⟨h42,hF⟩:=gd hF
  obtain ⟨h43,hF⟩:=gd hF
  refine cB func37 rfl (fun w1 hw=>Qfv _ _ h42 h43 _ _ w1 (QeE (hw.ok (Upd.mem .z)))) ?_
  refine aa (qn (dz (dz (wq [4] ?_))))
  refine tn (qt ?_)
  have K:=os hF
  subst K
  exact r1 wb
 refine fx 22 h7 ?_
 refine gn ?_
 refine gn ?_
 refine gn ?_
 refine gn ?_
 refine gn ?_
 refine gn ?_
 refine aw xp (nwq [29,5,3,2] ?_)
 refine cf rfl ?_
 refine sn (qs (sr (fa 2 underlying40 rfl sizeOf38 ?_)))
 refine aw (Qe (c:=Qa) (z:=x1.f_P) isAgg38 sizeOf38 rfl (Qp (.s .z) (Lens.comp lw (fun z=>{ x1 with f_P:=z }) (QaY x1)))) ?_
 refine aw (QW (zs:=Cd.cs Qa zv9) (cs:=Cd.cs Qa zv9) underlying38 zeroValue38 rfl (QaM) rfl rfl) ?_
 refine aw (Qbz (c:=Qa) (a:=x1.f_P) (b:=zv9) (Qap) rfl Tryz.eqGuardType38 rfl rfl (.inr rfl) rfl) ?_
 refine qn ?_
 refine Qal (H:=_) (.s (.s .z)) ?_
 refine wq [44,5,3] ?_
 refine tn ?_
 obtain ⟨h44,hF⟩|⟨h44,hF⟩:=oi hF
 ·refine ct h44 ?_
  refine qr (am (fa 2 underlying40 rfl sizeOf38 ?_))
  refine aw (Qe (c:=Qa) (z:=x1.f_P) isAgg38 sizeOf38 rfl (Qp (.s .z) (Lens.comp lw (fun z=>{ x1 with f_P:=z }) (QaY x1)))) ?_
  obtain ⟨t45,ht45,hF⟩:=bM hF
  refine cB func36 rfl (fun w hw=>QfJ _ _ ht45 w (hg_strconv_uint64pow10.on hw.below)) ?_
  refine Qgn (cs:=cStr.all ([t45]:List ByteArray)) underlying72 sizeOf9 zeroValue9 rfl rfl rfl (by kernel_rfl) rfl ?_
  intro b46
  refine at_lit_row (c:=cStr) (xs:=([vget QU x1.f_Kind]:List ByteArray)) (m:=1) (.s .z) rfl rfl ?_
  obtain ⟨h47,hF⟩:=gd hF
  refine Qax (z:=.string ⟨#[]⟩) (c:=cStr) (ys:=([t45]:List ByteArray)) (.s .z) underlying72 infoV29 (by kernel_rfl) (by kernel_rfl) rfl rfl rfl rfl (fun _ hw=>Qaw (hw.ok (Upd.mem .z))) (by kernel_rfl) h47 (Qaj h47) rfl ?_
  intro p48 c49
  refine aa (qn (dz ?_))
  refine Qal (H:=_) (.s .z) ?_
  refine tn (sr (am ?_))
  obtain ⟨h50,hF⟩:=gd hF
  obtain ⟨h51,hF⟩:=gd hF
  refine cB func37 rfl (fun w1 hw=>Qfv _ _ h50 h51 _ _ w1 (hw.own .z).row) ?_
  refine aa (qn (dz (wq [4] ?_)))
  refine tn (qt ?_)
  have K:=os hF
  subst K
  exact r1 wb
 refine cf h44 ?_
 refine sns (am ?_)
 obtain ⟨h52,hF⟩:=gd hF
 obtain ⟨h53,hF⟩:=gd hF
 refine cB func37 rfl (fun w1 hw=>Qfv _ _ h52 h53 _ _ w1 (QeE (hw.ok (Upd.mem .z)))) ?_
 refine aa (qn (dz (dz (wq [4] ?_))))
 refine tn (qt ?_)
 have K:=os hF
 subst K
 exact r1 wb
def QbS.l0(x0:List ByteArray)(i4:Int)(i5:ByteArray):Option (ByteArray) :=
 if (decide (i4<(x0.length:Int)))=true then (if (0:Int)≤i4∧i4<(x0.length:Int) then if i5.size+(lget x0 i4).size≤140737488355328 then if (i5++(lget x0 i4)).size+(⟨#[10]⟩:ByteArray).size≤140737488355328 then QbS.l0 x0 (wr .i64 (i4+1)) ((i5++(lget x0 i4))++(⟨#[10]⟩:ByteArray)) else none else none else none) else (some i5)
 partial_fixpoint
def QbS(x0:List ByteArray):Option (ByteArray) :=
 QbS.l0 x0 0 ByteArray.empty>>=fun q3=>some q3
theorem lines_Join_ok(x0:List ByteArray)(p0_:Option Addr)(c0_:Nat)(r:ByteArray)(hF:QbS x0=some r)(w:World)(hr0:Row cStr w p0_ c0_ x0) :
    Calls Tryz.prog 34 #[.slice p0_ x0.length c0_] w (fun e w'=>e=.returned (.string r)∧Below w.heap.size w w'):=by
 unfold QbS at hF
 refine ce (l:=[.slice p0_ x0.length c0_]) func34 rfl rfl ?_
 refine QN ?_
 refine sr (aa (ns ?_))
 refine at_alloc_bld (e:=5) zeroValue97 rfl ?_
 intro b1
 refine nt (qs (sr (am ?_)))
 refine aw (Q6 underlying72 rfl) ?_
 refine am (nwq [8,7,6,3] ?_)
 refine qb ?_
 obtain ⟨q3,hq3,hF⟩:=bM hF
 refine wq [8,7,6,3] ?_
 refine Q5 (B:=0) (A:=fun Y=>∀ (g7:Option Nat),At 17 [(3,.pointer (some ⟨b1,0,none⟩))] (Wd w [bldE 97 5 b1 g7 q3]) Y) ?_ ?_
 ·intro K
  refine QbS.l0.partial_correctness x0 (motive:=fun i4 i5 x=>KN (fun Y=>∀ (g7:Option Nat),At 17 [(3,.pointer (some ⟨b1,0,none⟩))] (Wd w [bldE 97 5 b1 g7 x]) Y) _ 0→Round (fun Y=>∀ (g6:Option Nat),At 17 [(3,.pointer (some ⟨b1,0,none⟩)),(6,.slice p0_ x0.length c0_),(7,.int .i64 (x0.length:Int)),(8,.int .i64 i4)] (Wd w [bldE 97 5 b1 g6 i5]) Y) _ _ _) ?_ _ _ _ hq3 K none
  ·clear K hF
   intro g ih i4 i5 x hF K g6
   refine QS ?_
   refine sr (aw xl (nwq [9,8,7,6,3] ?_))
   refine qs ?_
   obtain ⟨h8,hF⟩|⟨h8,hF⟩:=oi hF
   ·refine ct h8 ?_
    refine sn (qs ?_)
    refine qb ?_
    refine sr ?_
    obtain ⟨h9,hF⟩:=gd hF
    obtain ⟨b11,o12,hp10⟩:=QR hr0 h9
    refine aw (r_idx underlying72 sizeOf9 rfl rfl h9 hp10) ?_
    refine aw (Ql isAgg9 rfl (Qet (fun _ h=>h.below) hr0 h9 hp10 rfl)) ?_
    refine aa (nwx [8,7,6,5,3] ?_)
    refine am ?_
    obtain ⟨h14,hF⟩:=gd hF
    refine at_bld_str (s:=(lget x0 i4)) .z trivial func58 rfl (by kernel_rfl) rfl rfl h14 Tryz.Builder_WriteString_k ?_
    intro g13
    refine nwq [8,7,6,3] ?_
    refine qr ?_
    obtain ⟨h16,hF⟩:=gd hF
    refine at_bld_str (s:=(⟨#[10]⟩:ByteArray)) .z trivial func58 rfl (by kernel_rfl) rfl rfl h16 Tryz.Builder_WriteString_k ?_
    intro g15
    refine qn (wq [8,7,6,3] ?_)
    refine bm ?_
    refine qr (aw xa (am (nwq [8,7,6,3] ?_)))
    exact Qm (ih _ _ _ hF K g15) ⟨rfl,rfl,rfl,rfl,trivial⟩
   refine cf h8 ?_
   refine Q1 ?_
   refine te (te ?_)
   obtain rfl:=os hF
   exact Qm (K g6) ⟨rfl,trivial⟩
 skip
 intro g7
 refine Qw ?_
 refine tn (sr ?_)
 refine at_bld_string .z trivial func59 rfl (by kernel_rfl) rfl rfl Tryz.Builder_String_any_k ?_
 intro g17
 refine aa (qn (dz (wq [2] ?_)))
 refine tn (qt ?_)
 have K:=os hF
 subst K
 exact r1 wb
end Go.Proofs.YtahlbjmafceoeaaGreatDoor
namespace Go.Proofs.YtahlbjmafceoeaaGreatDoor
open E Go.RowKit _root_.Go.Proofs.Tryz
theorem infoV341_is:(Tryz.prog.info? 41).isSome=true:=by kernel_rfl
noncomputable def infoV341_v:TypeInfo:=(Tryz.prog.info? 41).get infoV341_is
theorem infoV341:Tryz.prog.info? 41=some infoV341_v:=(Option.some_get _).symm
abbrev Qt.e0:Qq:={ { ({ f_Kind:=(0:Int),f_Peer:=(0:Int),f_P:=({ f_A:=({ f_V:=(0:Int),f_B:=(Vector.replicate 16 (0:Int):(Vector Int 16)) }:Qh),f_Bits:=(0:Int) }:Qc) }:Qq) with f_Kind:=1 } with f_Peer:=(-1) }
def Qt.l0(x0:S_api_Conf)(i18:List Qq)(i19:Int):Option (List Qq) :=
 if (decide (i19<(x0.f_Peers.length:Int)))=true then (if (0:Int)≤i19∧i19<(x0.f_Peers.length:Int) then if ((((lget x0.f_Peers i19).f_Allowed).length:Int)==0)=true then (if (i18.length+1)*48≤140737488355328 then Qt.l0 x0 (i18++[{ { ({ f_Kind:=(0:Int),f_Peer:=(0:Int),f_P:=({ f_A:=({ f_V:=(0:Int),f_B:=(Vector.replicate 16 (0:Int):(Vector Int 16)) }:Qh),f_Bits:=(0:Int) }:Qc) }:Qq) with f_Kind:=2 } with f_Peer:=i19 }]) (wr .i64 (i19+1)) else none) else (Qt.l0 x0 i18 (wr .i64 (i19+1))) else none) else (some i18)
 partial_fixpoint
def Qt.l1(x0:S_api_Conf)(i43:List Qq)(i44:Int):Option (List Qq) :=
 if (decide (i44<(x0.f_Peers.length:Int)))=true then (if (0:Int)≤i44∧i44<(x0.f_Peers.length:Int) then if (!decide ((lget x0.f_Peers i44).f_End=({ f_A:=({ f_V:=(0:Int),f_B:=(Vector.replicate 16 (0:Int):(Vector Int 16)) }:Qh),f_Port:=(0:Int) }:Qav)))=true then (Q8 x0 i44 false>>=fun t61=>if t61=true then (if (i43.length+1)*48≤140737488355328 then Qt.l1 x0 (i43++[{ { ({ f_Kind:=(0:Int),f_Peer:=(0:Int),f_P:=({ f_A:=({ f_V:=(0:Int),f_B:=(Vector.replicate 16 (0:Int):(Vector Int 16)) }:Qh),f_Bits:=(0:Int) }:Qc) }:Qq) with f_Kind:=3 } with f_Peer:=i44 }]) (wr .i64 (i44+1)) else none) else (Qt.l1 x0 i43 (wr .i64 (i44+1)))) else (Qt.l1 x0 i43 (wr .i64 (i44+1))) else none) else (some i43)
 partial_fixpoint
def Qt.l2(x0:S_api_Conf)(i70:List Qq)(i71:Int):Option (List Qq) :=
 if (decide (i71<(x0.f_Peers.length:Int)))=true then (if (0:Int)≤i71∧i71<(x0.f_Peers.length:Int) then QaQ ((lget x0.f_Peers i71).f_Psk)>>=fun t87=>if (!t87)=true then (Q8 x0 i71 true>>=fun t89=>if t89=true then (if (i70.length+1)*48≤140737488355328 then Qt.l2 x0 (i70++[{ { ({ f_Kind:=(0:Int),f_Peer:=(0:Int),f_P:=({ f_A:=({ f_V:=(0:Int),f_B:=(Vector.replicate 16 (0:Int):(Vector Int 16)) }:Qh),f_Bits:=(0:Int) }:Qc) }:Qq) with f_Kind:=4 } with f_Peer:=i71 }]) (wr .i64 (i71+1)) else none) else (Qt.l2 x0 i70 (wr .i64 (i71+1)))) else (Qt.l2 x0 i70 (wr .i64 (i71+1))) else none) else (some i70)
 partial_fixpoint
def Qt.l4(t95:List Qd)(i102:Int)(i111:List Qq)(i112:Int):Option (List Qq) :=
 if (decide (i112<(t95.length:Int)))=true then (if (0:Int)≤i112∧i112<(t95.length:Int) then Qbp t95 i102 (lget t95 i112)>>=fun t122=>if t122=true then (if (0:Int)≤i112∧i112<(t95.length:Int) then if (0:Int)≤i112∧i112<(t95.length:Int) then if (i111.length+1)*48≤140737488355328 then Qt.l4 t95 i102 (i111++[{ { { ({ f_Kind:=(0:Int),f_Peer:=(0:Int),f_P:=({ f_A:=({ f_V:=(0:Int),f_B:=(Vector.replicate 16 (0:Int):(Vector Int 16)) }:Qh),f_Bits:=(0:Int) }:Qc) }:Qq) with f_Kind:=i102 } with f_Peer:=(lget t95 i112).f_Owner } with f_P:=(lget t95 i112).f_P }]) (wr .i64 (i112+1)) else none else none else none) else (Qt.l4 t95 i102 i111 (wr .i64 (i112+1))) else none) else (some i111)
 partial_fixpoint
def Qt.l3(t95:List Qd)(i101:List Qq)(i102:Int):Option (List Qq) :=
 if (decide (i102≤6))=true then (Qt.l4 t95 i102 i101 0>>=fun q110=>Qt.l3 t95 q110 (wr .i64 (i102+1))) else (some i101)
 partial_fixpoint
def Qt(x0:S_api_Conf):Option (List Qq) :=
 QC x0>>=fun t2=>if (!t2)=true then (some ([])) else ((QaQ x0.f_Private>>=fun t9=>if t9=true then (if (([]:List Qq).length+1)*48≤140737488355328 then some (([]:List Qq)++[Qt.e0]) else none) else (some ([]:List Qq)))>>=fun q5=>Qt.l0 x0 q5 0>>=fun q17=>Qt.l1 x0 q17 0>>=fun q42=>Qt.l2 x0 q42 0>>=fun q69=>Q7 x0>>=fun t95=>Qt.l3 t95 q69 5>>=fun q100=>some q100)
set_option maxHeartbeats 3200000 in
theorem Qga(g0_:G_api_Conf)(x0:S_api_Conf)(r:List Qq)(hF:Qt x0=some r)(w:World)(hn0:N_api_Conf w (g0_,x0)) :
    Calls Tryz.prog 9 #[.agg (Cd.cs c_api_Conf (g0_,x0)).toArray] w (fun e w'=>∃ p cap,e=.returned (.slice p r.length cap)∧Own Qo 41 w.heap.size w' p cap r∧Below w.heap.size w w'):=by
 unfold Qt at hF
 refine ce (l:=[.agg (Cd.cs c_api_Conf (g0_,x0)).toArray]) func9 rfl rfl ?_
 refine QN ?_
 refine sr ?_
 refine Qag (cs:=Cd.cs c_api_Conf (g0_,x0)) rfl rfl rfl ?_
 intro b1
 refine aa (ns (aa (nt (qs (sr ?_)))))
 refine aw (Qe (c:=c_api_Conf) (z:=(g0_,x0)) isAgg27 sizeOf27 rfl (Qp .z lw)) ?_
 obtain ⟨t2,ht2,hF⟩:=bM hF
 refine cB func13 rfl (fun w hw=>Qff _ _ _ ht2 w (N_api_Conf.below hn0 hw.below)) ?_
 refine aw (r_not rfl) ?_
 refine nwq [12,3,1] ?_
 obtain ⟨h3,hF⟩|⟨h3,hF⟩:=oi hF
 ·refine ct h3 ?_
  refine sr (am (aa (qn (dz (wq [2] ?_)))))
  refine tn (rt ?_)
  have K:=os hF
  subst K
  exact r1 (fun w1 hw=>⟨none,0,rfl,Own.nil _ _ _ _,hw.below⟩)
 refine cf h3 ?_
 refine sn ?_
 refine Qbd Qo 41 ?_
 refine at_weak [(1,_),(3,.slice none ([]:List Qq).length 0),(12,_)] ⟨rfl,rfl,rfl,trivial⟩ ?_
 obtain ⟨q5,hq5,hF⟩:=bM hF
 refine at_joinp (A:=fun Y=>∀ (p7:Option Addr) (c8:Nat),At 126 [(1,.pointer (some ⟨b1,0,none⟩)),(3,.slice p7 q5.length c8)] (Wd w [rowE Qo 41 p7 c8 q5,Qs b1 (Cd.cs c_api_Conf (g0_,x0)) 27]) Y) ?_ ?_
 ·intro Y K
  replace hF:=hq5
  refine sr (fa 0 underlying27 rfl sizeOf23 ?_)
  refine aw (Qe (c:=(cVec (cInt .u8) 32 (by decide))) (z:=x0.f_Private) isAgg23 sizeOf23 rfl (Qp (.s .z) (QdQ g0_ x0))) ?_
  obtain ⟨t9,ht9,hF⟩:=bM hF
  refine cB func28 rfl (fun w hw=>QdD _ _ ht9 w) ?_
  refine nwq [16,3,1] ?_
  obtain ⟨h10,hF⟩|⟨h10,hF⟩:=oi hF
  ·refine ct h10 ?_
   refine qr (am ?_)
   refine aw (QW (zs:=Cd.cs Qo zv12) (cs:=Cd.cs Qo ({ { zv12 with f_Kind:=1 } with f_Peer:=(-1) })) underlying41 zeroValue41 rfl (Qck) rfl (QI (c:=(cInt .i64)) (z:=1) rfl (Qaa zv12) rfl (QI (c:=(cInt .i64)) (z:=(-1)) rfl (Qac ({ zv12 with f_Kind:=1 })) rfl rfl))) ?_
   refine Qbu (c:=Qo) ([zv12]:List Qq) ([Qt.e0]:List Qq) underlying32 sizeOf41 zeroValue41 rfl rfl rfl (by kernel_rfl) (QI (c:=Qo) (z:=Qt.e0) rfl (Lens.all Qo ([zv12]:List Qq) 0 (by first | decide | exact Nat.le_of_ble_eq_true rfl)) rfl rfl) rfl ?_
   intro b11
   obtain ⟨h12,hF⟩:=gd hF
   refine Qax (z:=.agg (Cd.cs Qo zv12).toArray) (c:=Qo) (ys:=([Qt.e0]:List Qq)) (.s .z) underlying32 infoV341 (by kernel_rfl) (by kernel_rfl) rfl rfl rfl rfl (fun _ hw=>Qaw (hw.ok (Upd.mem .z))) (by kernel_rfl) h12 (Qaj h12) rfl ?_
   intro p13 c14
   refine aa (qn (dz (wq [3,1] ?_)))
   refine tn ?_
   obtain rfl:=os hF
   exact Qm (K p13 c14) ⟨rfl,rfl,trivial⟩
  refine cf h10 ?_
  refine sn ?_
  obtain rfl:=os hF
  exact Qm (K none 0) ⟨rfl,rfl,trivial⟩
 skip
 intro p7 c8
 refine qs (sr (aa (nwq [4,3,1] ?_)))
 refine qb ?_
 obtain ⟨q17,hq17,hF⟩:=bM hF
 refine wq [4,3,1] ?_
 refine Q5 (B:=0) (A:=fun Y=>∀ (p22:Option Addr) (c23:Nat),At 126 [(1,.pointer (some ⟨b1,0,none⟩)),(3,.slice p22 q17.length c23)] (Wd w [rowE Qo 41 p22 c23 q17,Qs b1 (Cd.cs c_api_Conf (g0_,x0)) 27]) Y) ?_ ?_
 ·intro K
  refine Qt.l0.partial_correctness x0 (motive:=fun i18 i19 x=>KN (fun Y=>∀ (p22:Option Addr) (c23:Nat),At 126 [(1,.pointer (some ⟨b1,0,none⟩)),(3,.slice p22 x.length c23)] (Wd w [rowE Qo 41 p22 c23 x,Qs b1 (Cd.cs c_api_Conf (g0_,x0)) 27]) Y) _ 0→Round (fun Y=>∀ (p20:Option Addr) (c21:Nat),At 126 [(1,.pointer (some ⟨b1,0,none⟩)),(3,.slice p20 i18.length c21),(4,.int .i64 i19)] (Wd w [rowE Qo 41 p20 c21 i18,Qs b1 (Cd.cs c_api_Conf (g0_,x0)) 27]) Y) _ _ _) ?_ _ _ _ hq17 K p7 c8
  ·clear K hF
   intro g ih i18 i19 x hF K p20 c21
   refine QS ?_
   refine qs (sr (am (fa 34 underlying27 rfl sizeOf25 ?_)))
   refine aw (Ql isAgg25 rfl (Qr (c:=cHd) (y:=⟨g0_.1,List.length x0.f_Peers,g0_.2⟩) (.s .z) (QD g0_ x0) rfl)) ?_
   refine aw (Q6 underlying25 rfl) ?_
   refine aw xl (nwq [25,4,3,1] ?_)
   obtain ⟨h24,hF⟩|⟨h24,hF⟩:=oi hF
   ·refine ct h24 ?_
    refine sn (qs ?_)
    refine qb ?_
    refine sr (fa 34 underlying27 rfl sizeOf25 ?_)
    refine aw (Ql isAgg25 rfl (Qr (c:=cHd) (y:=⟨g0_.1,List.length x0.f_Peers,g0_.2⟩) (.s .z) (QD g0_ x0) rfl)) ?_
    refine am ?_
    obtain ⟨h25,hF⟩:=gd hF
    obtain ⟨zs29,hz30,hr31,hn32⟩:=id hn0
    obtain ⟨b27,o28,hp26⟩:=QR hr31 (zidx hz30 h25)
    obtain ⟨g33,hg34⟩:=zget hz30 i19
    refine aw (r_idx underlying25 sizeOf60 rfl rfl h25 hp26) ?_
    refine fa 85 underlying60 rfl sizeOf58 ?_
    refine aw (Ql isAgg58 rfl (nlens0 (c':=cHd) (y:=⟨g33.1,List.length ((lget x0.f_Peers i19).f_Allowed),g33.2⟩) (fun _ h=>h.below) hr31 (zidx hz30 h25) hp26 hg34 (QaE g33 (lget x0.f_Peers i19)) rfl)) ?_
    refine aw (Q6 underlying58 rfl) ?_
    refine aw xq (nwq [35,4,3,1] ?_)
    obtain ⟨h35,hF⟩|⟨h35,hF⟩:=oi hF
    ·refine ct h35 ?_
     refine qr (am (am ?_))
     refine aw (QW (zs:=Cd.cs Qo zv12) (cs:=Cd.cs Qo ({ { zv12 with f_Kind:=2 } with f_Peer:=i19 })) underlying41 zeroValue41 rfl (Qck) rfl (QI (c:=(cInt .i64)) (z:=2) rfl (Qaa zv12) rfl (QI (c:=(cInt .i64)) (z:=i19) rfl (Qac ({ zv12 with f_Kind:=2 })) rfl rfl))) ?_
     refine Qbu (c:=Qo) ([zv12]:List Qq) ([{ { zv12 with f_Kind:=2 } with f_Peer:=i19 }]:List Qq) underlying32 sizeOf41 zeroValue41 rfl rfl rfl (by kernel_rfl) (QI (c:=Qo) (z:={ { zv12 with f_Kind:=2 } with f_Peer:=i19 }) rfl (Lens.all Qo ([zv12]:List Qq) 0 (by first | decide | exact Nat.le_of_ble_eq_true rfl)) rfl rfl) rfl ?_
     intro b36
     obtain ⟨h37,hF⟩:=gd hF
     refine Qax (z:=.agg (Cd.cs Qo zv12).toArray) (c:=Qo) (ys:=([{ { zv12 with f_Kind:=2 } with f_Peer:=i19 }]:List Qq)) (.s .z) underlying32 infoV341 (by kernel_rfl) (by kernel_rfl) rfl rfl rfl rfl (fun _ hw=>Qaw (hw.ok (Upd.mem .z))) (by kernel_rfl) h37 (Qaj h37) rfl ?_
     intro p38 c39
     refine aa (qn (dz (wq [4,3,1] ?_)))
     refine bm ?_
     refine qr (am (aw xa (aa (nwq [4,3,1] ?_))))
     exact Qm (ih _ _ _ hF K p38 c39) ⟨rfl,rfl,rfl,trivial⟩
    refine cf h35 ?_
    refine Qaz ?_
    refine bm ?_
    refine qr (am (aw xa (aa (nwq [4,3,1] ?_))))
    exact Qm (ih _ _ _ hF K p20 c21) ⟨rfl,rfl,rfl,trivial⟩
   refine cf h24 ?_
   refine Q1 ?_
   refine te (te ?_)
   obtain rfl:=os hF
   exact Qm (K p20 c21) ⟨rfl,rfl,trivial⟩
 skip
 intro p22 c23
 refine Qw ?_
 refine tn (qs (sr (aa (nwq [5,3,1] ?_))))
 refine qb ?_
 obtain ⟨q42,hq42,hF⟩:=bM hF
 refine wq [5,3,1] ?_
 refine Q5 (B:=2) (A:=fun Y=>∀ (p47:Option Addr) (c48:Nat),At 126 [(1,.pointer (some ⟨b1,0,none⟩)),(3,.slice p47 q42.length c48)] (Wd w [rowE Qo 41 p47 c48 q42,Qs b1 (Cd.cs c_api_Conf (g0_,x0)) 27]) Y) ?_ ?_
 ·intro K
  refine Qt.l1.partial_correctness x0 (motive:=fun i43 i44 x=>KN (fun Y=>∀ (p47:Option Addr) (c48:Nat),At 126 [(1,.pointer (some ⟨b1,0,none⟩)),(3,.slice p47 x.length c48)] (Wd w [rowE Qo 41 p47 c48 x,Qs b1 (Cd.cs c_api_Conf (g0_,x0)) 27]) Y) _ 2→Round (fun Y=>∀ (p45:Option Addr) (c46:Nat),At 126 [(1,.pointer (some ⟨b1,0,none⟩)),(3,.slice p45 i43.length c46),(5,.int .i64 i44)] (Wd w [rowE Qo 41 p45 c46 i43,Qs b1 (Cd.cs c_api_Conf (g0_,x0)) 27]) Y) _ _ _) ?_ _ _ _ hq42 K p22 c23
  ·clear K hF
   intro g ih i43 i44 x hF K p45 c46
   refine QS ?_
   refine qs (sr (am (fa 34 underlying27 rfl sizeOf25 ?_)))
   refine aw (Ql isAgg25 rfl (Qr (c:=cHd) (y:=⟨g0_.1,List.length x0.f_Peers,g0_.2⟩) (.s .z) (QD g0_ x0) rfl)) ?_
   refine aw (Q6 underlying25 rfl) ?_
   refine aw xl (nwq [45,5,3,1] ?_)
   obtain ⟨h49,hF⟩|⟨h49,hF⟩:=oi hF
   ·refine ct h49 ?_
    refine sn (qs ?_)
    refine qb ?_
    refine sr (fa 34 underlying27 rfl sizeOf25 ?_)
    refine aw (Ql isAgg25 rfl (Qr (c:=cHd) (y:=⟨g0_.1,List.length x0.f_Peers,g0_.2⟩) (.s .z) (QD g0_ x0) rfl)) ?_
    refine am ?_
    obtain ⟨h50,hF⟩:=gd hF
    obtain ⟨zs54,hz55,hr56,hn57⟩:=id hn0
    obtain ⟨b52,o53,hp51⟩:=QR hr56 (zidx hz55 h50)
    obtain ⟨g58,hg59⟩:=zget hz55 i44
    refine aw (r_idx underlying25 sizeOf60 rfl rfl h50 hp51) ?_
    refine fa 64 underlying60 rfl sizeOf56 ?_
    refine aw (Qe (c:=QA) (z:=(lget x0.f_Peers i44).f_End) isAgg56 sizeOf56 rfl (nlens (y:=(lget x0.f_Peers i44).f_End) (fun _ h=>h.below) hr56 (zidx hz55 h50) hp51 hg59 (Qbf g58 (lget x0.f_Peers i44)))) ?_
    refine aw (QW (zs:=Cd.cs QA zv8) (cs:=Cd.cs QA zv8) underlying56 zeroValue56 rfl (QcF) rfl rfl) ?_
    refine aw (Qbz (c:=QA) (a:=(lget x0.f_Peers i44).f_End) (b:=zv8) (QbY) rfl Tryz.eqGuardType56 rfl rfl (.inr rfl) rfl) ?_
    refine am ?_
    obtain ⟨h60,hF⟩|⟨h60,hF⟩:=oi hF
    ·refine fx 56 h60 ?_
     refine gy ?_
     refine aw (Qe (c:=c_api_Conf) (z:=(g0_,x0)) isAgg27 sizeOf27 rfl (Qp (.s .z) lw)) ?_
     refine gy ?_
     refine am ?_
     refine gy ?_
     obtain ⟨t61,ht61,hF⟩:=bM hF
     refine cB func29 rfl (fun w hw=>Qdh _ _ _ _ _ ht61 w (N_api_Conf.below hn0 hw.below)) ?_
     refine aw xp (nwq [60,5,3,1] ?_)
     obtain ⟨h62,hF⟩|⟨h62,hF⟩:=oi hF
     ·refine ct h62 ?_
      refine qr (am (am ?_))
      refine aw (QW (zs:=Cd.cs Qo zv12) (cs:=Cd.cs Qo ({ { zv12 with f_Kind:=3 } with f_Peer:=i44 })) underlying41 zeroValue41 rfl (Qck) rfl (QI (c:=(cInt .i64)) (z:=3) rfl (Qaa zv12) rfl (QI (c:=(cInt .i64)) (z:=i44) rfl (Qac ({ zv12 with f_Kind:=3 })) rfl rfl))) ?_
      refine Qbu (c:=Qo) ([zv12]:List Qq) ([{ { zv12 with f_Kind:=3 } with f_Peer:=i44 }]:List Qq) underlying32 sizeOf41 zeroValue41 rfl rfl rfl (by kernel_rfl) (QI (c:=Qo) (z:={ { zv12 with f_Kind:=3 } with f_Peer:=i44 }) rfl (Lens.all Qo ([zv12]:List Qq) 0 (by first | decide | exact Nat.le_of_ble_eq_true rfl)) rfl rfl) rfl ?_
      intro b63
      obtain ⟨h64,hF⟩:=gd hF
      refine Qax (z:=.agg (Cd.cs Qo zv12).toArray) (c:=Qo) (ys:=([{ { zv12 with f_Kind:=3 } with f_Peer:=i44 }]:List Qq)) (.s .z) underlying32 infoV341 (by kernel_rfl) (by kernel_rfl) rfl rfl rfl rfl (fun _ hw=>Qaw (hw.ok (Upd.mem .z))) (by kernel_rfl) h64 (Qaj h64) rfl ?_
      intro p65 c66
      refine aa (qn (dz (wq [5,3,1] ?_)))
      refine bm ?_
      refine qr (am (aw xa (aa (nwq [5,3,1] ?_))))
      exact Qm (ih _ _ _ hF K p65 c66) ⟨rfl,rfl,rfl,trivial⟩
     refine cf h62 ?_
     refine Qaz ?_
     refine bm ?_
     refine qr (am (aw xa (aa (nwq [5,3,1] ?_))))
     exact Qm (ih _ _ _ hF K p45 c46) ⟨rfl,rfl,rfl,trivial⟩
    refine fx 56 h60 ?_
    refine gn ?_
    refine gn ?_
    refine gn ?_
    refine aw xp (nwq [60,5,3,1] ?_)
    refine cf rfl ?_
    refine Qaz ?_
    refine bm ?_
    refine qr (am (aw xa (aa (nwq [5,3,1] ?_))))
    exact Qm (ih _ _ _ hF K p45 c46) ⟨rfl,rfl,rfl,trivial⟩
   refine cf h49 ?_
   refine Q1 ?_
   refine te (te ?_)
   obtain rfl:=os hF
   exact Qm (K p45 c46) ⟨rfl,rfl,trivial⟩
 skip
 intro p47 c48
 refine Qw ?_
 refine tn (qs (sr (aa (nwq [6,3,1] ?_))))
 refine qb ?_
 obtain ⟨q69,hq69,hF⟩:=bM hF
 refine wq [6,3,1] ?_
 refine Q5 (B:=4) (A:=fun Y=>∀ (p74:Option Addr) (c75:Nat),At 126 [(1,.pointer (some ⟨b1,0,none⟩)),(3,.slice p74 q69.length c75)] (Wd w [rowE Qo 41 p74 c75 q69,Qs b1 (Cd.cs c_api_Conf (g0_,x0)) 27]) Y) ?_ ?_
 ·intro K
  refine Qt.l2.partial_correctness x0 (motive:=fun i70 i71 x=>KN (fun Y=>∀ (p74:Option Addr) (c75:Nat),At 126 [(1,.pointer (some ⟨b1,0,none⟩)),(3,.slice p74 x.length c75)] (Wd w [rowE Qo 41 p74 c75 x,Qs b1 (Cd.cs c_api_Conf (g0_,x0)) 27]) Y) _ 4→Round (fun Y=>∀ (p72:Option Addr) (c73:Nat),At 126 [(1,.pointer (some ⟨b1,0,none⟩)),(3,.slice p72 i70.length c73),(6,.int .i64 i71)] (Wd w [rowE Qo 41 p72 c73 i70,Qs b1 (Cd.cs c_api_Conf (g0_,x0)) 27]) Y) _ _ _) ?_ _ _ _ hq69 K p47 c48
  ·clear K hF
   intro g ih i70 i71 x hF K p72 c73
   refine QS ?_
   refine qs (sr (am (fa 34 underlying27 rfl sizeOf25 ?_)))
   refine aw (Ql isAgg25 rfl (Qr (c:=cHd) (y:=⟨g0_.1,List.length x0.f_Peers,g0_.2⟩) (.s .z) (QD g0_ x0) rfl)) ?_
   refine aw (Q6 underlying25 rfl) ?_
   refine aw xl (nwq [70,6,3,1] ?_)
   obtain ⟨h76,hF⟩|⟨h76,hF⟩:=oi hF
   ·refine ct h76 ?_
    refine sn (qs ?_)
    refine qb ?_
    refine sr (fa 34 underlying27 rfl sizeOf25 ?_)
    refine aw (Ql isAgg25 rfl (Qr (c:=cHd) (y:=⟨g0_.1,List.length x0.f_Peers,g0_.2⟩) (.s .z) (QD g0_ x0) rfl)) ?_
    refine am ?_
    obtain ⟨h77,hF⟩:=gd hF
    obtain ⟨zs81,hz82,hr83,hn84⟩:=id hn0
    obtain ⟨b79,o80,hp78⟩:=QR hr83 (zidx hz82 h77)
    obtain ⟨g85,hg86⟩:=zget hz82 i71
    refine aw (r_idx underlying25 sizeOf60 rfl rfl h77 hp78) ?_
    refine fa 32 underlying60 rfl sizeOf23 ?_
    refine aw (Qe (c:=(cVec (cInt .u8) 32 (by decide))) (z:=(lget x0.f_Peers i71).f_Psk) isAgg23 sizeOf23 rfl (nlens (y:=(lget x0.f_Peers i71).f_Psk) (fun _ h=>h.below) hr83 (zidx hz82 h77) hp78 hg86 (QcB g85 (lget x0.f_Peers i71)))) ?_
    obtain ⟨t87,ht87,hF⟩:=bM hF
    refine cB func28 rfl (fun w hw=>QdD _ _ ht87 w) ?_
    refine aw (r_not rfl) ?_
    refine am ?_
    obtain ⟨h88,hF⟩|⟨h88,hF⟩:=oi hF
    ·refine fx 81 h88 ?_
     refine gy ?_
     refine aw (Qe (c:=c_api_Conf) (z:=(g0_,x0)) isAgg27 sizeOf27 rfl (Qp (.s .z) lw)) ?_
     refine gy ?_
     refine am ?_
     refine gy ?_
     obtain ⟨t89,ht89,hF⟩:=bM hF
     refine cB func29 rfl (fun w hw=>Qdh _ _ _ _ _ ht89 w (N_api_Conf.below hn0 hw.below)) ?_
     refine aw xp (nwq [85,6,3,1] ?_)
     obtain ⟨h90,hF⟩|⟨h90,hF⟩:=oi hF
     ·refine ct h90 ?_
      refine qr (am (am ?_))
      refine aw (QW (zs:=Cd.cs Qo zv12) (cs:=Cd.cs Qo ({ { zv12 with f_Kind:=4 } with f_Peer:=i71 })) underlying41 zeroValue41 rfl (Qck) rfl (QI (c:=(cInt .i64)) (z:=4) rfl (Qaa zv12) rfl (QI (c:=(cInt .i64)) (z:=i71) rfl (Qac ({ zv12 with f_Kind:=4 })) rfl rfl))) ?_
      refine Qbu (c:=Qo) ([zv12]:List Qq) ([{ { zv12 with f_Kind:=4 } with f_Peer:=i71 }]:List Qq) underlying32 sizeOf41 zeroValue41 rfl rfl rfl (by kernel_rfl) (QI (c:=Qo) (z:={ { zv12 with f_Kind:=4 } with f_Peer:=i71 }) rfl (Lens.all Qo ([zv12]:List Qq) 0 (by first | decide | exact Nat.le_of_ble_eq_true rfl)) rfl rfl) rfl ?_
      intro b91
      obtain ⟨h92,hF⟩:=gd hF
      refine Qax (z:=.agg (Cd.cs Qo zv12).toArray) (c:=Qo) (ys:=([{ { zv12 with f_Kind:=4 } with f_Peer:=i71 }]:List Qq)) (.s .z) underlying32 infoV341 (by kernel_rfl) (by kernel_rfl) rfl rfl rfl rfl (fun _ hw=>Qaw (hw.ok (Upd.mem .z))) (by kernel_rfl) h92 (Qaj h92) rfl ?_
      intro p93 c94
      refine aa (qn (dz (wq [6,3,1] ?_)))
      refine bm ?_
      refine qr (am (aw xa (aa (nwq [6,3,1] ?_))))
      exact Qm (ih _ _ _ hF K p93 c94) ⟨rfl,rfl,rfl,trivial⟩
     refine cf h90 ?_
     refine Qaz ?_
     refine bm ?_
     refine qr (am (aw xa (aa (nwq [6,3,1] ?_))))
     exact Qm (ih _ _ _ hF K p72 c73) ⟨rfl,rfl,rfl,trivial⟩
    refine fx 81 h88 ?_
    refine gn ?_
    refine gn ?_
    refine gn ?_
    refine aw xp (nwq [85,6,3,1] ?_)
    refine cf rfl ?_
    refine Qaz ?_
    refine bm ?_
    refine qr (am (aw xa (aa (nwq [6,3,1] ?_))))
    exact Qm (ih _ _ _ hF K p72 c73) ⟨rfl,rfl,rfl,trivial⟩
   refine cf h76 ?_
   refine Q1 ?_
   refine te (te ?_)
   obtain rfl:=os hF
   exact Qm (K p72 c73) ⟨rfl,rfl,trivial⟩
 skip
 intro p74 c75
 refine Qw ?_
 refine tn (sr ?_)
 refine aw (Qe (c:=c_api_Conf) (z:=(g0_,x0)) isAgg27 sizeOf27 rfl (Qp (.s .z) lw)) ?_
 obtain ⟨t95,ht95,hF⟩:=bM hF
 refine Qca (c:=Qg) (e:=49) (ys:=t95) (V:=fun p cap=>.slice p t95.length cap) func14 rfl (by kernel_rfl) rfl rfl (fun w hw=>QeD _ _ _ ht95 w (N_api_Conf.below hn0 hw.below)) ?_
 intro p96 c97
 refine aa (qn ?_)
 refine Qal (H:=_) (.s (.s .z)) ?_
 refine tn (qs (sr (aa (nwq [8,7,3] ?_))))
 refine qb ?_
 obtain ⟨q100,hq100,hF⟩:=bM hF
 refine wq [8,7,3] ?_
 refine Q5 (B:=6) (A:=fun Y=>∀ (p105:Option Addr) (c106:Nat),At 126 [(3,.slice p105 q100.length c106)] (Wd w [rowE Qo 41 p105 c106 q100]) Y) ?_ ?_
 ·intro K
  refine Qt.l3.partial_correctness t95 (motive:=fun i101 i102 x=>KN (fun Y=>∀ (p105:Option Addr) (c106:Nat),At 126 [(3,.slice p105 x.length c106)] (Wd w [rowE Qo 41 p105 c106 x]) Y) _ 6→Round (fun Y=>∀ (p103:Option Addr) (c104:Nat),At 126 [(3,.slice p103 i101.length c104),(7,.slice p96 t95.length c97),(8,.int .i64 i102)] (Wd w [rowE Qg 49 p96 c97 t95,rowE Qo 41 p103 c104 i101]) Y) _ _ _) ?_ _ _ _ hq100 K p74 c75
  ·clear K hF
   intro g ih i101 i102 x hF K p103 c104
   refine QS ?_
   refine qs (sr (am ?_))
   refine aw (Qgj rfl rfl) ?_
   refine nwq [94,8,7,3] ?_
   obtain ⟨h107,hF⟩|⟨h107,hF⟩:=oi hF
   ·refine ct h107 ?_
    refine sn (qs ?_)
    refine qb ?_
    refine sr (aa (nwq [9,8,7,3] ?_))
    refine qb ?_
    obtain ⟨q110,hq110,hF⟩:=bM hF
    refine wq [9,8,7,3] ?_
    refine Q5 (B:=8) (A:=fun Y=>∀ (p115:Option Addr) (c116:Nat),At 126 [(3,.slice p115 q110.length c116),(7,.slice p96 t95.length c97),(8,.int .i64 i102)] (Wd w [rowE Qg 49 p96 c97 t95,rowE Qo 41 p115 c116 q110]) Y) ?_ ?_
    ·intro K
     refine Qt.l4.partial_correctness t95 i102 (motive:=fun i111 i112 x=>KN (fun Y=>∀ (p115:Option Addr) (c116:Nat),At 126 [(3,.slice p115 x.length c116),(7,.slice p96 t95.length c97),(8,.int .i64 i102)] (Wd w [rowE Qg 49 p96 c97 t95,rowE Qo 41 p115 c116 x]) Y) _ 8→Round (fun Y=>∀ (p113:Option Addr) (c114:Nat),At 126 [(3,.slice p113 i111.length c114),(7,.slice p96 t95.length c97),(8,.int .i64 i102),(9,.int .i64 i112)] (Wd w [rowE Qg 49 p96 c97 t95,rowE Qo 41 p113 c114 i111]) Y) _ _ _) ?_ _ _ _ hq110 K p103 c104
     ·clear K hF
      intro g ih i111 i112 x hF K p113 c114
      refine QS ?_
      refine qs (sr (am (am ?_)))
      refine aw (Q6 underlying46 rfl) ?_
      refine aw xl (nwq [100,9,8,7,3] ?_)
      obtain ⟨h117,hF⟩|⟨h117,hF⟩:=oi hF
      ·refine ct h117 ?_
       refine sn (qs ?_)
       refine qb ?_
       refine sr (am (am (am (am ?_))))
       obtain ⟨h118,hF⟩:=gd hF
       refine QaU (φ:=∃ b o,p96=some ⟨b,o,none⟩) (fun _ hw=>QR (hw.own .z).row h118) ?_
       rintro ⟨b120,o121,hp119⟩
       refine aw (r_idx underlying46 sizeOf49 rfl rfl h118 hp119) ?_
       refine aw (Qe (c:=Qg) (z:=lget t95 i112) isAgg49 sizeOf49 rfl (fun w1 hw=>QaF (W:=fun w1=>w1=_) (fun w1 h=>by subst h;exact Below.refl _ _) (hw.own .z).row h118 hp119 _ rfl)) ?_
       obtain ⟨t122,ht122,hF⟩:=bM hF
       refine cB func30 rfl (fun w hw=>QgA _ _ _ _ _ _ ht122 w (hw.own .z).row) ?_
       refine nwq [109,9,8,7,3] ?_
       obtain ⟨h123,hF⟩|⟨h123,hF⟩:=oi hF
       ·refine ct h123 ?_
        refine wq [9,8,7,3] ?_
        obtain ⟨h124,hF⟩:=gd hF
        refine QaU (φ:=∃ b o,p96=some ⟨b,o,none⟩) (fun _ hw=>QR (hw.own .z).row h124) ?_
        rintro ⟨b126,o127,hp125⟩
        obtain ⟨h128,hF⟩:=gd hF
        refine QaU (φ:=∃ b o,p96=some ⟨b,o,none⟩) (fun _ hw=>QR (hw.own .z).row h128) ?_
        rintro ⟨b130,o131,hp129⟩
        refine QfM [.q 110 (fun g133=>.slice p113 i111.length c114) [] 0 1,.q 111 (fun g133=>.int .i64 i102) [] 0 0,.q 112 (fun g133=>.slice p96 t95.length c97) [] 0 0,.q 113 (fun g133=>.int .i64 i112) [] 0 0,.q 114 (fun g133=>.pointer (some ⟨b126,o127+Int.toNat i112*19,none⟩)) [2,3] 0 0,.q 115 (fun g133=>.pointer (some ⟨b126,o127+Int.toNat i112*19+18,none⟩)) [4] 0 0,.q 116 (fun g133=>.int .i64 ((lget t95 i112).f_Owner)) [5] 0 0,.q 117 (fun g133=>.slice p96 t95.length c97) [] 0 0,.q 118 (fun g133=>.int .i64 i112) [] 0 0,.q 119 (fun g133=>.pointer (some ⟨b130,o131+Int.toNat i112*19,none⟩)) [7,8] 0 0,.q 120 (fun g133=>.pointer (some ⟨b130,o131+Int.toNat i112*19+0,none⟩)) [9] 0 0,.q 121 (fun g133=>.agg (Cd.cs Qa ((lget t95 i112).f_P)).toArray) [10] 0 0,.q 122 (fun g133=>.agg (Cd.cs Qo ({ { { zv12 with f_Kind:=i102 } with f_Peer:=(lget t95 i112).f_Owner } with f_P:=(lget t95 i112).f_P })).toArray) [1,6,11] 0 0,.al 0 123 (fun g133=>.slice (some ⟨((g133 0).1),0,none⟩) ([{ { { zv12 with f_Kind:=i102 } with f_Peer:=(lget t95 i112).f_Owner } with f_P:=(lget t95 i112).f_P }]:List Qq).length 1) [12]] (fun g133 s=>match s with | 0=>(Wd w [rowE Qg 49 p96 c97 t95,rowE Qo 41 p113 c114 i111]) | _=>(Wd w [Qs ((g133 0).1) (Qo.all ([{ { { zv12 with f_Kind:=i102 } with f_Peer:=(lget t95 i112).f_Owner } with f_P:=(lget t95 i112).f_P }]:List Qq)) 41,rowE Qg 49 p96 c97 t95,rowE Qo 41 p113 c114 i111])) 1 14 (by kernel_rfl) (by kernel_rfl) (by kernel_rfl) (by kernel_rfl) (by kernel_rfl) (by kernel_rfl) ⟨fun _ _ _=>rfl,fun _ _ _=>rfl,fun _ _ _=>rfl,fun _ _ _=>rfl,fun _ _ _=>rfl,fun _ _ _=>rfl,fun _ _ _=>rfl,fun _ _ _=>rfl,fun _ _ _=>rfl,fun _ _ _=>rfl,fun _ _ _=>rfl,fun _ _ _=>rfl,fun _ _ _=>rfl,fun g133 g2 h=>by show (.slice (some ⟨((g133 0).1),0,none⟩) ([{ { { zv12 with f_Kind:=i102 } with f_Peer:=(lget t95 i112).f_Owner } with f_P:=(lget t95 i112).f_P }]:List Qq).length 1:Value)=.slice (some ⟨((g2 0).1),0,none⟩) ([{ { { zv12 with f_Kind:=i102 } with f_Peer:=(lget t95 i112).f_Owner } with f_P:=(lget t95 i112).f_P }]:List Qq).length 1;rw [h 0 (show 0<1 by decide)],trivial⟩ (by kernel_rfl) (fun w_ h=>⟨fun _=>g3 0 none 0 none w_,h.drew⟩) ⟨?_,?_,?_,?_,?_,?_,?_,?_,?_,?_,?_,?_,?_,?_,trivial⟩ ?_
        ·intro Lx g133 s K hl hh k
         show At 126 ((3,_)::(7,_)::(8,_)::(9,_)::Lx) _ _
         refine am ?_
         exact Qn k
        ·intro Lx g133 s K hl hh k
         show At 126 ((3,_)::(7,_)::(8,_)::(9,_)::Lx) _ _
         refine am ?_
         exact Qn k
        ·intro Lx g133 s K hl hh k
         show At 126 ((3,_)::(7,_)::(8,_)::(9,_)::Lx) _ _
         refine am ?_
         exact Qn k
        ·intro Lx g133 s K hl hh k
         show At 126 ((3,_)::(7,_)::(8,_)::(9,_)::Lx) _ _
         refine am ?_
         exact Qn k
        ·intro Lx g133 s K hl hh k
         show At 126 ((112,_)::(113,_)::(3,_)::(7,_)::(8,_)::(9,_)::Lx) _ _
         refine aw (r_idx underlying46 sizeOf49 rfl rfl h124 hp125) ?_
         exact Qn k
        ·intro Lx g133 s K hl hh k
         show At 126 ((114,_)::(3,_)::(7,_)::(8,_)::(9,_)::Lx) _ _
         refine fa 18 underlying49 rfl sizeOf3 ?_
         exact Qn k
        ·intro Lx g133 s K hl hh k
         show At 126 ((115,_)::(3,_)::(7,_)::(8,_)::(9,_)::Lx) _ _
         obtain rfl:s=0:=by omega
         refine aw (Ql isAgg3 rfl (fun w1 hw=>QbK (y:=(lget t95 i112).f_Owner) (W:=fun w1=>w1=_) (fun w1 h=>by subst h;exact Below.refl _ _) (hw.own .z).row h124 hp125 (Lens.comp lw (fun z=>{ (lget t95 i112) with f_Owner:=z }) (QbB (lget t95 i112))) rfl _ rfl)) ?_
         exact Qn k
        ·intro Lx g133 s K hl hh k
         show At 126 ((3,_)::(7,_)::(8,_)::(9,_)::Lx) _ _
         refine am ?_
         exact Qn k
        ·intro Lx g133 s K hl hh k
         show At 126 ((3,_)::(7,_)::(8,_)::(9,_)::Lx) _ _
         refine am ?_
         exact Qn k
        ·intro Lx g133 s K hl hh k
         show At 126 ((117,_)::(118,_)::(3,_)::(7,_)::(8,_)::(9,_)::Lx) _ _
         refine aw (r_idx underlying46 sizeOf49 rfl rfl h128 hp129) ?_
         exact Qn k
        ·intro Lx g133 s K hl hh k
         show At 126 ((119,_)::(3,_)::(7,_)::(8,_)::(9,_)::Lx) _ _
         refine fa 0 underlying49 rfl sizeOf38 ?_
         exact Qn k
        ·intro Lx g133 s K hl hh k
         show At 126 ((120,_)::(3,_)::(7,_)::(8,_)::(9,_)::Lx) _ _
         obtain rfl:s=0:=by omega
         refine aw (Qe (c:=Qa) (z:=(lget t95 i112).f_P) isAgg38 sizeOf38 rfl (fun w1 hw=>QbH (y:=(lget t95 i112).f_P) (W:=fun w1=>w1=_) (fun w1 h=>by subst h;exact Below.refl _ _) (hw.own .z).row h128 hp129 (Lens.comp lw (fun z=>{ (lget t95 i112) with f_P:=z }) (QQ (lget t95 i112))) _ rfl)) ?_
         exact Qn k
        ·intro Lx g133 s K hl hh k
         show At 126 ((111,_)::(116,_)::(121,_)::(3,_)::(7,_)::(8,_)::(9,_)::Lx) _ _
         obtain rfl:s=0:=by omega
         refine aw (QW (zs:=Cd.cs Qo zv12) (cs:=Cd.cs Qo ({ { { zv12 with f_Kind:=i102 } with f_Peer:=(lget t95 i112).f_Owner } with f_P:=(lget t95 i112).f_P })) underlying41 zeroValue41 rfl (Qck) rfl (QI (c:=(cInt .i64)) (z:=i102) rfl (Qaa zv12) rfl (QI (c:=(cInt .i64)) (z:=(lget t95 i112).f_Owner) rfl (Qac ({ zv12 with f_Kind:=i102 })) rfl (QI (c:=Qa) (z:=(lget t95 i112).f_P) rfl (QaY ({ { zv12 with f_Kind:=i102 } with f_Peer:=(lget t95 i112).f_Owner })) rfl rfl)))) ?_
         exact Qn k
        ·intro Lx g133 K k
         show At 126 ((122,_)::(3,_)::(7,_)::(8,_)::(9,_)::Lx) _ _
         refine Qbu (c:=Qo) ([zv12]:List Qq) ([{ { { zv12 with f_Kind:=i102 } with f_Peer:=(lget t95 i112).f_Owner } with f_P:=(lget t95 i112).f_P }]:List Qq) underlying32 sizeOf41 zeroValue41 rfl rfl rfl (by kernel_rfl) (QI (c:=Qo) (z:={ { { zv12 with f_Kind:=i102 } with f_Peer:=(lget t95 i112).f_Owner } with f_P:=(lget t95 i112).f_P }) rfl (Lens.all Qo ([zv12]:List Qq) 0 (by first | decide | exact Nat.le_of_ble_eq_true rfl)) rfl rfl) rfl ?_
         intro b132
         exact Qn (k (g3 b132 none 0 none w))
        intro g133
        show At 126 [(110,_),(111,_),(112,_),(113,_),(114,_),(115,_),(116,_),(117,_),(118,_),(119,_),(120,_),(121,_),(122,_),(123,_),(3,_),(7,_),(8,_),(9,_)] _ _
        obtain ⟨h134,hF⟩:=gd hF
        refine Qax (z:=.agg (Cd.cs Qo zv12).toArray) (c:=Qo) (ys:=([{ { { zv12 with f_Kind:=i102 } with f_Peer:=(lget t95 i112).f_Owner } with f_P:=(lget t95 i112).f_P }]:List Qq)) (.s (.s .z)) underlying32 infoV341 (by kernel_rfl) (by kernel_rfl) rfl rfl rfl rfl (fun _ hw=>Qaw (hw.ok (Upd.mem .z))) (by kernel_rfl) h134 (Qaj h134) rfl ?_
        intro p135 c136
        refine aa (qn (dz (wq [9,8,7,3] ?_)))
        refine bm ?_
        refine qr (am (aw xa (aa (nwq [9,8,7,3] ?_))))
        exact Qm (ih _ _ _ hF K p135 c136) ⟨rfl,rfl,rfl,rfl,trivial⟩
       refine cf h123 ?_
       refine Qaz ?_
       refine bm ?_
       refine qr (am (aw xa (aa (nwq [9,8,7,3] ?_))))
       exact Qm (ih _ _ _ hF K p113 c114) ⟨rfl,rfl,rfl,rfl,trivial⟩
      refine cf h117 ?_
      refine Q1 ?_
      refine te (te ?_)
      obtain rfl:=os hF
      exact Qm (K p113 c114) ⟨rfl,rfl,rfl,trivial⟩
    skip
    intro p115 c116
    refine Qw ?_
    refine bm ?_
    refine qr (am (aw xa (aa (nwq [8,7,3] ?_))))
    exact Qm (ih _ _ _ hF K p115 c116) ⟨rfl,rfl,rfl,trivial⟩
   refine cf h107 ?_
   refine Q1 ?_
   refine te (te ?_)
   refine dz ?_
   obtain rfl:=os hF
   exact Qm (K p103 c104) ⟨rfl,trivial⟩
 skip
 intro p105 c106
 refine Qw ?_
 refine tn (sr (am (aa (nwq [2] ?_))))
 refine qt ?_
 have K:=os hF
 subst K
 exact r1 (fun w1 hw=>⟨p105,c106,rfl,hw.own .z,hw.below⟩)
end Go.Proofs.YtahlbjmafceoeaaGreatDoor
namespace Go.Proofs.YtahlbjmafceoeaaGreatDoor
open E Go.RowKit _root_.Go.Proofs.Tryz
def Qas.l0(x0:QL)(x1:Int)(i14:Int):Option (Ctl (Bool) (Unit)) :=
 if (decide (i14<((lsub x0.f_c.f_Peers 0 x1).length:Int)))=true then (if (0:Int)≤i14∧i14<((lsub x0.f_c.f_Peers 0 x1).length:Int) then if (decide ((lget (lsub x0.f_c.f_Peers 0 x1) i14).f_End=(lget x0.f_c.f_Peers x1).f_End))=true then (Qdf ((lget x0.f_c.f_Peers x1).f_End)>>=fun t28=>if (!t28)=true then (some (.ret true)) else (Qas.l0 x0 x1 (wr .i64 (i14+1)))) else (Qas.l0 x0 x1 (wr .i64 (i14+1))) else none) else (some (.nx ()))
 partial_fixpoint
def Qas(x0:QL)(x1:Int):Option (Bool) :=
 if (0:Int)≤x1∧x1<(x0.f_c.f_Peers.length:Int) then if (0:Int)≤0∧0≤x1∧x1≤(x0.f_c.f_Peers.length:Int) then Qas.l0 x0 x1 0>>=fun q13=>match q13 with | .ret r'=>some r' | .nx sq13=>(some false) else none else none
theorem Qft{x0:QL}{x1:Int}{r:Bool}(hF:Qas x0 x1=some r):∀ {w0 w:World} {G_:List Ent} {b0_:Nat} {g0f_c_:G_api_Conf} {p0f_own_:Option Addr} {c0f_own_:Nat} {p0f_out_:Option Addr} {c0f_out_:Nat} (hw_:Wd w0 (Qs b0_ (Cd.cs Qx ((g0f_c_,(p0f_own_,c0f_own_),(p0f_out_,c0f_out_)),x0)) 63::rowE Qg 49 p0f_own_ c0f_own_ x0.f_own::rowE Qo 40 p0f_out_ c0f_out_ x0.f_out::G_) w) (hn0f_c_:N_api_Conf w0 (g0f_c_,x0.f_c)),
    Calls Tryz.prog 23 #[.pointer (some ⟨b0_,0,none⟩),.int .i64 x1] w (fun e w'=>e=.returned (.bool r)∧Wd w0 (Qs b0_ (Cd.cs Qx ((g0f_c_,(p0f_own_,c0f_own_),(p0f_out_,c0f_out_)),x0)) 63::rowE Qg 49 p0f_own_ c0f_own_ x0.f_own::rowE Qo 40 p0f_out_ c0f_out_ x0.f_out::G_) w'):=by
 intro w0 w G_ b0_ g0f_c_ p0f_own_ c0f_own_ p0f_out_ c0f_out_ hw_ hn0f_c_
 unfold Qas at hF
 refine ce (l:=[.pointer (some ⟨b0_,0,none⟩),.int .i64 x1]) func23 rfl rfl ?_
 refine at_enterF hw_ ?_
 refine sr (aa (ns (am ?_)))
 refine aw (Qa5 rfl) ?_
 refine fa 0 underlying63 rfl sizeOf27 (fa 34 underlying27 rfl sizeOf25 ?_)
 refine aw (Ql isAgg25 rfl (Qr (c:=cHd) (y:=⟨g0f_c_.1,List.length x0.f_c.f_Peers,g0f_c_.2⟩) .z (Lens.comp0 (Qa9 (g0f_c_,(p0f_own_,c0f_own_),(p0f_out_,c0f_out_)) x0) (QD g0f_c_ x0.f_c)) rfl)) ?_
 refine am ?_
 obtain ⟨h1,hF⟩:=gd hF
 obtain ⟨zs5,hz6,hr7,hn8⟩:=id hn0f_c_
 obtain ⟨b3,o4,hp2⟩:=QR hr7 (zidx hz6 h1)
 obtain ⟨g9,hg10⟩:=zget hz6 x1
 refine aw (r_idx underlying25 sizeOf60 rfl rfl h1 hp2) ?_
 refine fa 64 underlying60 rfl sizeOf56 ?_
 refine aw (Qe (c:=QA) (z:=(lget x0.f_c.f_Peers x1).f_End) isAgg56 sizeOf56 rfl (nlens (y:=(lget x0.f_c.f_Peers x1).f_End) (fun _ h=>h.below) hr7 (zidx hz6 h1) hp2 hg10 (Qbf g9 (lget x0.f_c.f_Peers x1)))) ?_
 refine al (cs:=Cd.cs QA zv8) zeroValue56 ?_
 intro b11
 refine QX (c:=QA) (z:=(lget x0.f_c.f_Peers x1).f_End) .z lw sizeOf56 rfl rfl rfl ?_
 refine nt (qs (sr (am ?_)))
 refine aw (Qa5 rfl) ?_
 refine fa 0 underlying63 rfl sizeOf27 (fa 34 underlying27 rfl sizeOf25 ?_)
 refine aw (Ql isAgg25 rfl (Qr (c:=cHd) (y:=⟨g0f_c_.1,List.length x0.f_c.f_Peers,g0f_c_.2⟩) (.s .z) (Lens.comp0 (Qa9 (g0f_c_,(p0f_own_,c0f_own_),(p0f_out_,c0f_out_)) x0) (QD g0f_c_ x0.f_c)) rfl)) ?_
 refine am ?_
 obtain ⟨h12,hF⟩:=gd hF
 refine aw (r_resliceN (c:=QT) underlying25 sizeOf60 rfl (NRow.len hn0f_c_) rfl ⟨_,rfl⟩ h12) ?_
 refine aw (Q6 underlying25 rfl) ?_
 refine am (nwq [25,24,23,5] ?_)
 refine qb ?_
 obtain ⟨q13,hq13,hF⟩:=bM hF
 refine wq [25,24,23,5] ?_
 refine QbG (B:=0) (r:=r) (q:=q13) (A:=fun (_:Unit) Y=>At 39 [] (Wd w0 (Qs b0_ (Cd.cs Qx ((g0f_c_,(p0f_own_,c0f_own_),(p0f_out_,c0f_out_)),x0)) 63::rowE Qg 49 p0f_own_ c0f_own_ x0.f_own::rowE Qo 40 p0f_out_ c0f_out_ x0.f_out::G_)) Y) ?_ ?_
 ·intro K
  refine Qas.l0.partial_correctness x0 x1 (motive:=fun i14 x=>KR (fun (_:Unit) Y=>At 39 [] (Wd w0 (Qs b0_ (Cd.cs Qx ((g0f_c_,(p0f_own_,c0f_own_),(p0f_out_,c0f_out_)),x0)) 63::rowE Qg 49 p0f_own_ c0f_own_ x0.f_own::rowE Qo 40 p0f_out_ c0f_out_ x0.f_out::G_)) Y) _ 0 r x→Round (fun Y=>At 39 [(5,.pointer (some ⟨b11,0,none⟩)),(23,.slice (rsp g0f_c_.1 g0f_c_.2 0 (Cd.sz QT)) (lsub x0.f_c.f_Peers 0 x1).length (g0f_c_.2-Int.toNat 0)),(24,.int .i64 ((lsub x0.f_c.f_Peers 0 x1).length:Int)),(25,.int .i64 i14)] (Wd w0 (Qs b11 (Cd.cs QA ((lget x0.f_c.f_Peers x1).f_End)) 56::Qs b0_ (Cd.cs Qx ((g0f_c_,(p0f_own_,c0f_own_),(p0f_out_,c0f_out_)),x0)) 63::rowE Qg 49 p0f_own_ c0f_own_ x0.f_own::rowE Qo 40 p0f_out_ c0f_out_ x0.f_out::G_)) Y) _ _ _) ?_ _ _ hq13 K
  ·clear K hF
   intro g ih i14 x hF K
   refine QS ?_
   refine sr (aw xl (nwq [26,25,24,23,5] ?_))
   refine qs ?_
   obtain ⟨h15,hF⟩|⟨h15,hF⟩:=oi hF
   ·refine ct h15 ?_
    refine sn (qs ?_)
    refine qb ?_
    refine sr ?_
    obtain ⟨h16,hF⟩:=gd hF
    obtain ⟨zs20,hz21,hr22,hn23⟩:=id (NRow.sub hn0f_c_ h12)
    obtain ⟨b18,o19,hp17⟩:=QR hr22 (zidx hz21 h16)
    obtain ⟨g24,hg25⟩:=zget hz21 i14
    refine aw (r_idx underlying25 sizeOf60 rfl rfl h16 hp17) ?_
    refine aw (Qe (c:=QT) (z:=(g24,lget (lsub x0.f_c.f_Peers 0 x1) i14)) isAgg60 sizeOf60 rfl (ncell (fun _ h=>h.below) hr22 (zidx hz21 h16) hp17 hg25)) ?_
    refine al (cs:=Cd.cs QT zv14) zeroValue60 ?_
    intro b26
    refine QX (c:=QT) (z:=(g24,lget (lsub x0.f_c.f_Peers 0 x1) i14)) .z lw sizeOf60 rfl rfl rfl ?_
    refine nwx [25,24,23,7,5] ?_
    refine fa 64 underlying60 rfl sizeOf56 ?_
    refine aw (Qe (c:=QA) (z:=(lget (lsub x0.f_c.f_Peers 0 x1) i14).f_End) isAgg56 sizeOf56 rfl (Qp .z (Qbf g24 (lget (lsub x0.f_c.f_Peers 0 x1) i14)))) ?_
    refine aw (Qe (c:=QA) (z:=(lget x0.f_c.f_Peers x1).f_End) isAgg56 sizeOf56 rfl (Qp (.s .z) lw)) ?_
    refine aw (Qbz (c:=QA) (a:=(lget (lsub x0.f_c.f_Peers 0 x1) i14).f_End) (b:=(lget x0.f_c.f_Peers x1).f_End) (QbY) rfl Tryz.eqGuardType56 rfl rfl (.inl rfl) rfl) ?_
    refine am ?_
    obtain ⟨h27,hF⟩|⟨h27,hF⟩:=oi hF
    ·refine fx 33 h27 ?_
     refine gy ?_
     refine aw (Qe (c:=QA) (z:=(lget x0.f_c.f_Peers x1).f_End) isAgg56 sizeOf56 rfl (Qp (.s .z) lw)) ?_
     refine gy ?_
     obtain ⟨t28,ht28,hF⟩:=bM hF
     refine cB func45 rfl (fun w hw=>Qe9 _ _ ht28 w) ?_
     refine gy ?_
     refine aw (r_not rfl) ?_
     refine aw xp (qn (dz (wq [37,25,24,23,5] ?_)))
     refine tn ?_
     obtain ⟨h29,hF⟩|⟨h29,hF⟩:=oi hF
     ·refine ct h29 ?_
      refine sr (aa (qn (dz (wq [4] ?_))))
      refine tn (qt ?_)
      refine br (tr (tr (br (tr ?_))))
      obtain rfl:=os hF
      subst K
      exact r1 (fun w1 hw=>⟨rfl,hw⟩)
     refine cf h29 ?_
     refine Qaz ?_
     refine bm ?_
     refine qr (aw xa (am (nwq [25,24,23,5] ?_)))
     exact Qm (ih _ _ hF K) ⟨rfl,rfl,rfl,rfl,trivial⟩
    refine fx 33 h27 ?_
    refine gn ?_
    refine gn ?_
    refine gn ?_
    refine aw xp (qn (dz (wq [37,25,24,23,5] ?_)))
    refine tn ?_
    refine cf rfl ?_
    refine Qaz ?_
    refine bm ?_
    refine qr (aw xa (am (nwq [25,24,23,5] ?_)))
    exact Qm (ih _ _ hF K) ⟨rfl,rfl,rfl,rfl,trivial⟩
   refine cf h15 ?_
   refine Q1 ?_
   refine te (te ?_)
   refine dz ?_
   obtain rfl:=os hF
   exact Qm K trivial
 cases q13 with
 | ret r'=>exact os hF
 | nx sq13 =>
  skip
  refine Qw ?_
  refine tn (sr (aa (nwq [4] ?_)))
  refine qt ?_
  have K:=os hF
  subst K
  exact r1 (fun w1 hw=>⟨rfl,hw⟩)
def Qar.l0(x0:QL)(x1:Int)(i14:Int):Option (Ctl (Bool) (Unit)) :=
 if (decide (i14<((lsub x0.f_c.f_Peers 0 x1).length:Int)))=true then (if (0:Int)≤i14∧i14<((lsub x0.f_c.f_Peers 0 x1).length:Int) then if (decide ((lget (lsub x0.f_c.f_Peers 0 x1) i14).f_Psk=(lget x0.f_c.f_Peers x1).f_Psk))=true then (Qd9 ((lget x0.f_c.f_Peers x1).f_Psk)>>=fun t28=>if (!t28)=true then (some (.ret true)) else (Qar.l0 x0 x1 (wr .i64 (i14+1)))) else (Qar.l0 x0 x1 (wr .i64 (i14+1))) else none) else (some (.nx ()))
 partial_fixpoint
def Qar(x0:QL)(x1:Int):Option (Bool) :=
 if (0:Int)≤x1∧x1<(x0.f_c.f_Peers.length:Int) then if (0:Int)≤0∧0≤x1∧x1≤(x0.f_c.f_Peers.length:Int) then Qar.l0 x0 x1 0>>=fun q13=>match q13 with | .ret r'=>some r' | .nx sq13=>(some false) else none else none
theorem Qfs{x0:QL}{x1:Int}{r:Bool}(hF:Qar x0 x1=some r):∀ {w0 w:World} {G_:List Ent} {b0_:Nat} {g0f_c_:G_api_Conf} {p0f_own_:Option Addr} {c0f_own_:Nat} {p0f_out_:Option Addr} {c0f_out_:Nat} (hw_:Wd w0 (Qs b0_ (Cd.cs Qx ((g0f_c_,(p0f_own_,c0f_own_),(p0f_out_,c0f_out_)),x0)) 63::rowE Qg 49 p0f_own_ c0f_own_ x0.f_own::rowE Qo 40 p0f_out_ c0f_out_ x0.f_out::G_) w) (hn0f_c_:N_api_Conf w0 (g0f_c_,x0.f_c)),
    Calls Tryz.prog 24 #[.pointer (some ⟨b0_,0,none⟩),.int .i64 x1] w (fun e w'=>e=.returned (.bool r)∧Wd w0 (Qs b0_ (Cd.cs Qx ((g0f_c_,(p0f_own_,c0f_own_),(p0f_out_,c0f_out_)),x0)) 63::rowE Qg 49 p0f_own_ c0f_own_ x0.f_own::rowE Qo 40 p0f_out_ c0f_out_ x0.f_out::G_) w'):=by
 intro w0 w G_ b0_ g0f_c_ p0f_own_ c0f_own_ p0f_out_ c0f_out_ hw_ hn0f_c_
 unfold Qar at hF
 refine ce (l:=[.pointer (some ⟨b0_,0,none⟩),.int .i64 x1]) func24 rfl rfl ?_
 refine at_enterF hw_ ?_
 refine sr (aa (ns (am ?_)))
 refine aw (Qa5 rfl) ?_
 refine fa 0 underlying63 rfl sizeOf27 (fa 34 underlying27 rfl sizeOf25 ?_)
 refine aw (Ql isAgg25 rfl (Qr (c:=cHd) (y:=⟨g0f_c_.1,List.length x0.f_c.f_Peers,g0f_c_.2⟩) .z (Lens.comp0 (Qa9 (g0f_c_,(p0f_own_,c0f_own_),(p0f_out_,c0f_out_)) x0) (QD g0f_c_ x0.f_c)) rfl)) ?_
 refine am ?_
 obtain ⟨h1,hF⟩:=gd hF
 obtain ⟨zs5,hz6,hr7,hn8⟩:=id hn0f_c_
 obtain ⟨b3,o4,hp2⟩:=QR hr7 (zidx hz6 h1)
 obtain ⟨g9,hg10⟩:=zget hz6 x1
 refine aw (r_idx underlying25 sizeOf60 rfl rfl h1 hp2) ?_
 refine fa 32 underlying60 rfl sizeOf23 ?_
 refine aw (Qe (c:=(cVec (cInt .u8) 32 (by decide))) (z:=(lget x0.f_c.f_Peers x1).f_Psk) isAgg23 sizeOf23 rfl (nlens (y:=(lget x0.f_c.f_Peers x1).f_Psk) (fun _ h=>h.below) hr7 (zidx hz6 h1) hp2 hg10 (QcB g9 (lget x0.f_c.f_Peers x1)))) ?_
 refine al (cs:=Cd.cs (cVec (cInt .u8) 32 (by decide)) zv3) zeroValue23 ?_
 intro b11
 refine QX (c:=(cVec (cInt .u8) 32 (by decide))) (z:=(lget x0.f_c.f_Peers x1).f_Psk) .z lw sizeOf23 rfl rfl rfl ?_
 refine nt (qs (sr (am ?_)))
 refine aw (Qa5 rfl) ?_
 refine fa 0 underlying63 rfl sizeOf27 (fa 34 underlying27 rfl sizeOf25 ?_)
 refine aw (Ql isAgg25 rfl (Qr (c:=cHd) (y:=⟨g0f_c_.1,List.length x0.f_c.f_Peers,g0f_c_.2⟩) (.s .z) (Lens.comp0 (Qa9 (g0f_c_,(p0f_own_,c0f_own_),(p0f_out_,c0f_out_)) x0) (QD g0f_c_ x0.f_c)) rfl)) ?_
 refine am ?_
 obtain ⟨h12,hF⟩:=gd hF
 refine aw (r_resliceN (c:=QT) underlying25 sizeOf60 rfl (NRow.len hn0f_c_) rfl ⟨_,rfl⟩ h12) ?_
 refine aw (Q6 underlying25 rfl) ?_
 refine am (nwq [25,24,23,5] ?_)
 refine qb ?_
 obtain ⟨q13,hq13,hF⟩:=bM hF
 refine wq [25,24,23,5] ?_
 refine QbG (B:=0) (r:=r) (q:=q13) (A:=fun (_:Unit) Y=>At 39 [] (Wd w0 (Qs b0_ (Cd.cs Qx ((g0f_c_,(p0f_own_,c0f_own_),(p0f_out_,c0f_out_)),x0)) 63::rowE Qg 49 p0f_own_ c0f_own_ x0.f_own::rowE Qo 40 p0f_out_ c0f_out_ x0.f_out::G_)) Y) ?_ ?_
 ·intro K
  refine Qar.l0.partial_correctness x0 x1 (motive:=fun i14 x=>KR (fun (_:Unit) Y=>At 39 [] (Wd w0 (Qs b0_ (Cd.cs Qx ((g0f_c_,(p0f_own_,c0f_own_),(p0f_out_,c0f_out_)),x0)) 63::rowE Qg 49 p0f_own_ c0f_own_ x0.f_own::rowE Qo 40 p0f_out_ c0f_out_ x0.f_out::G_)) Y) _ 0 r x→Round (fun Y=>At 39 [(5,.pointer (some ⟨b11,0,none⟩)),(23,.slice (rsp g0f_c_.1 g0f_c_.2 0 (Cd.sz QT)) (lsub x0.f_c.f_Peers 0 x1).length (g0f_c_.2-Int.toNat 0)),(24,.int .i64 ((lsub x0.f_c.f_Peers 0 x1).length:Int)),(25,.int .i64 i14)] (Wd w0 (Qs b11 (Cd.cs (cVec (cInt .u8) 32 (by decide)) ((lget x0.f_c.f_Peers x1).f_Psk)) 23::Qs b0_ (Cd.cs Qx ((g0f_c_,(p0f_own_,c0f_own_),(p0f_out_,c0f_out_)),x0)) 63::rowE Qg 49 p0f_own_ c0f_own_ x0.f_own::rowE Qo 40 p0f_out_ c0f_out_ x0.f_out::G_)) Y) _ _ _) ?_ _ _ hq13 K
  ·clear K hF
   intro g ih i14 x hF K
   refine QS ?_
   refine sr (aw xl (nwq [26,25,24,23,5] ?_))
   refine qs ?_
   obtain ⟨h15,hF⟩|⟨h15,hF⟩:=oi hF
   ·refine ct h15 ?_
    refine sn (qs ?_)
    refine qb ?_
    refine sr ?_
    obtain ⟨h16,hF⟩:=gd hF
    obtain ⟨zs20,hz21,hr22,hn23⟩:=id (NRow.sub hn0f_c_ h12)
    obtain ⟨b18,o19,hp17⟩:=QR hr22 (zidx hz21 h16)
    obtain ⟨g24,hg25⟩:=zget hz21 i14
    refine aw (r_idx underlying25 sizeOf60 rfl rfl h16 hp17) ?_
    refine aw (Qe (c:=QT) (z:=(g24,lget (lsub x0.f_c.f_Peers 0 x1) i14)) isAgg60 sizeOf60 rfl (ncell (fun _ h=>h.below) hr22 (zidx hz21 h16) hp17 hg25)) ?_
    refine al (cs:=Cd.cs QT zv14) zeroValue60 ?_
    intro b26
    refine QX (c:=QT) (z:=(g24,lget (lsub x0.f_c.f_Peers 0 x1) i14)) .z lw sizeOf60 rfl rfl rfl ?_
    refine nwx [25,24,23,7,5] ?_
    refine fa 32 underlying60 rfl sizeOf23 ?_
    refine aw (Qe (c:=(cVec (cInt .u8) 32 (by decide))) (z:=(lget (lsub x0.f_c.f_Peers 0 x1) i14).f_Psk) isAgg23 sizeOf23 rfl (Qp .z (QcB g24 (lget (lsub x0.f_c.f_Peers 0 x1) i14)))) ?_
    refine aw (Qe (c:=(cVec (cInt .u8) 32 (by decide))) (z:=(lget x0.f_c.f_Peers x1).f_Psk) isAgg23 sizeOf23 rfl (Qp (.s .z) lw)) ?_
    refine aw (Qbz (c:=(cVec (cInt .u8) 32 (by decide))) (a:=(lget (lsub x0.f_c.f_Peers 0 x1) i14).f_Psk) (b:=(lget x0.f_c.f_Peers x1).f_Psk) (QeT underlying23 infoT5 sizeOf5 isAgg5 (.inr rfl) (QdM underlying5)) rfl Tryz.eqGuardType23 rfl rfl (.inl rfl) rfl) ?_
    refine am ?_
    obtain ⟨h27,hF⟩|⟨h27,hF⟩:=oi hF
    ·refine fx 33 h27 ?_
     refine gy ?_
     refine aw (Qe (c:=(cVec (cInt .u8) 32 (by decide))) (z:=(lget x0.f_c.f_Peers x1).f_Psk) isAgg23 sizeOf23 rfl (Qp (.s .z) lw)) ?_
     refine gy ?_
     obtain ⟨t28,ht28,hF⟩:=bM hF
     refine cB func20 rfl (fun w hw=>keys_Zero_ok _ _ ht28 w) ?_
     refine gy ?_
     refine aw (r_not rfl) ?_
     refine aw xp (qn (dz (wq [37,25,24,23,5] ?_)))
     refine tn ?_
     obtain ⟨h29,hF⟩|⟨h29,hF⟩:=oi hF
     ·refine ct h29 ?_
      refine sr (aa (qn (dz (wq [4] ?_))))
      refine tn (qt ?_)
      refine br (tr (tr (br (tr ?_))))
      obtain rfl:=os hF
      subst K
      exact r1 (fun w1 hw=>⟨rfl,hw⟩)
     refine cf h29 ?_
     refine Qaz ?_
     refine bm ?_
     refine qr (aw xa (am (nwq [25,24,23,5] ?_)))
     exact Qm (ih _ _ hF K) ⟨rfl,rfl,rfl,rfl,trivial⟩
    refine fx 33 h27 ?_
    refine gn ?_
    refine gn ?_
    refine gn ?_
    refine aw xp (qn (dz (wq [37,25,24,23,5] ?_)))
    refine tn ?_
    refine cf rfl ?_
    refine Qaz ?_
    refine bm ?_
    refine qr (aw xa (am (nwq [25,24,23,5] ?_)))
    exact Qm (ih _ _ hF K) ⟨rfl,rfl,rfl,rfl,trivial⟩
   refine cf h15 ?_
   refine Q1 ?_
   refine te (te ?_)
   refine dz ?_
   obtain rfl:=os hF
   exact Qm K trivial
 cases q13 with
 | ret r'=>exact os hF
 | nx sq13 =>
  skip
  refine Qw ?_
  refine tn (sr (aa (nwq [4] ?_)))
  refine qt ?_
  have K:=os hF
  subst K
  exact r1 (fun w1 hw=>⟨rfl,hw⟩)
end Go.Proofs.YtahlbjmafceoeaaGreatDoor
namespace Go.Proofs.YtahlbjmafceoeaaGreatDoor
open E Go.RowKit _root_.Go.Proofs.Tryz
theorem infoV538_is:(Tryz.prog.info? 38).isSome=true:=by kernel_rfl
noncomputable def infoV538_v:TypeInfo:=(Tryz.prog.info? 38).get infoV538_is
theorem infoV538:Tryz.prog.info? 38=some infoV538_v:=(Option.some_get _).symm
theorem infoV540_is:(Tryz.prog.info? 40).isSome=true:=by kernel_rfl
noncomputable def infoV540_v:TypeInfo:=(Tryz.prog.info? 40).get infoV540_is
theorem QfY:Tryz.prog.info? 40=some infoV540_v:=(Option.some_get _).symm
abbrev QB.e0:Qq:={ { ({ f_Kind:=(0:Int),f_Peer:=(0:Int),f_P:=({ f_A:=({ f_V:=(0:Int),f_B:=(Vector.replicate 16 (0:Int):(Vector Int 16)) }:Qh),f_Bits:=(0:Int) }:Qc) }:Qq) with f_Kind:=1 } with f_Peer:=(-1) }
def QB.l0(q11:QL)(i33:Int)(i34:QL):Option (QL) :=
 if (decide (i33<(q11.f_c.f_Peers.length:Int)))=true then (if (0:Int)≤i33∧i33<(i34.f_c.f_Peers.length:Int) then if ((((lget i34.f_c.f_Peers i33).f_Allowed).length:Int)==0)=true then (if (i34.f_out.length+1)*48≤140737488355328 then QB.l0 q11 (wr .i64 (i33+1)) ({ i34 with f_out:=i34.f_out++[{ { ({ f_Kind:=(0:Int),f_Peer:=(0:Int),f_P:=({ f_A:=({ f_V:=(0:Int),f_B:=(Vector.replicate 16 (0:Int):(Vector Int 16)) }:Qh),f_Bits:=(0:Int) }:Qc) }:Qq) with f_Kind:=2 } with f_Peer:=i33 }] }) else none) else (QB.l0 q11 (wr .i64 (i33+1)) i34) else none) else (some i34)
 partial_fixpoint
def QB.l1(q31:QL)(i70:Int)(i71:QL):Option (QL) :=
 if (decide (i70<(q31.f_c.f_Peers.length:Int)))=true then (Qas i71 i70>>=fun t85=>if t85=true then (if (i71.f_out.length+1)*48≤140737488355328 then QB.l1 q31 (wr .i64 (i70+1)) ({ i71 with f_out:=i71.f_out++[{ { ({ f_Kind:=(0:Int),f_Peer:=(0:Int),f_P:=({ f_A:=({ f_V:=(0:Int),f_B:=(Vector.replicate 16 (0:Int):(Vector Int 16)) }:Qh),f_Bits:=(0:Int) }:Qc) }:Qq) with f_Kind:=3 } with f_Peer:=i70 }] }) else none) else (QB.l1 q31 (wr .i64 (i70+1)) i71)) else (some i71)
 partial_fixpoint
def QB.l2(q69:QL)(i98:Int)(i99:QL):Option (QL) :=
 if (decide (i98<(q69.f_c.f_Peers.length:Int)))=true then (Qar i99 i98>>=fun t113=>if t113=true then (if (i99.f_out.length+1)*48≤140737488355328 then QB.l2 q69 (wr .i64 (i98+1)) ({ i99 with f_out:=i99.f_out++[{ { ({ f_Kind:=(0:Int),f_Peer:=(0:Int),f_P:=({ f_A:=({ f_V:=(0:Int),f_B:=(Vector.replicate 16 (0:Int):(Vector Int 16)) }:Qh),f_Bits:=(0:Int) }:Qc) }:Qq) with f_Kind:=4 } with f_Peer:=i98 }] }) else none) else (QB.l2 q69 (wr .i64 (i98+1)) i99)) else (some i99)
 partial_fixpoint
def QB.l3(t121:List Qd)(i125:Int)(i126:List (Qc×Bool)):Option (List (Qc×Bool)) :=
 if (decide (i125<(t121.length:Int)))=true then (if (0:Int)≤i125∧i125<(t121.length:Int) then QB.l3 t121 (wr .i64 (i125+1)) (mput i126 ((lget t121 i125).f_P) true) else none) else (some i126)
 partial_fixpoint
def QB.l5(q97:QL)(q124:List (Qc×Bool))(i140:Int)(i173:Int)(i174:QL):Option (QL) :=
 if (decide (i173<(((lget q97.f_c.f_Peers i140).f_Allowed).length:Int)))=true then (if (0:Int)≤i173∧i173<(((lget q97.f_c.f_Peers i140).f_Allowed).length:Int) then if (!(mget q124 (lget ((lget q97.f_c.f_Peers i140).f_Allowed) i173) false))=true then (if (i174.f_out.length+1)*48≤140737488355328 then QB.l5 q97 q124 i140 (wr .i64 (i173+1)) ({ i174 with f_out:=i174.f_out++[{ { { ({ f_Kind:=(0:Int),f_Peer:=(0:Int),f_P:=({ f_A:=({ f_V:=(0:Int),f_B:=(Vector.replicate 16 (0:Int):(Vector Int 16)) }:Qh),f_Bits:=(0:Int) }:Qc) }:Qq) with f_Kind:=5 } with f_Peer:=i140 } with f_P:=lget ((lget q97.f_c.f_Peers i140).f_Allowed) i173 }] }) else none) else (QB.l5 q97 q124 i140 (wr .i64 (i173+1)) i174) else none) else (some i174)
 partial_fixpoint
def QB.l4(q97:QL)(q124:List (Qc×Bool))(i140:Int)(i141:QL):Option (QL) :=
 if (decide (i140<(q97.f_c.f_Peers.length:Int)))=true then (if (0:Int)≤i140∧i140<(q97.f_c.f_Peers.length:Int) then QB.l5 q97 q124 i140 0 i141>>=fun q172=>QB.l4 q97 q124 (wr .i64 (i140+1)) q172 else none) else (some i141)
 partial_fixpoint
def QB.l8(q139:QL)(i207:Int)(i240:Int)(i241:QL)(i264:List Qc)(i265:Int):Option (List Qc) :=
 if (decide (i265<(i241.f_own.length:Int)))=true then (if (0:Int)≤i265∧i265<(i241.f_own.length:Int) then if (decide (((lget i241.f_own i265).f_P).f_Bits>(lget ((lget q139.f_c.f_Peers i207).f_Allowed) i240).f_Bits))=true then (Qco (lget ((lget q139.f_c.f_Peers i207).f_Allowed) i240) ((lget i241.f_own i265).f_P)>>=fun t277=>if t277=true then (if (i264.length+1)*32≤140737488355328 then QB.l8 q139 i207 i240 i241 (i264++[(lget i241.f_own i265).f_P]) (wr .i64 (i265+1)) else none) else (QB.l8 q139 i207 i240 i241 i264 (wr .i64 (i265+1)))) else (QB.l8 q139 i207 i240 i241 i264 (wr .i64 (i265+1))) else none) else (some i264)
 partial_fixpoint
def QB.l7(q139:QL)(i207:Int)(i240:Int)(i241:QL):Option (QL) :=
 if (decide (i240<(((lget q139.f_c.f_Peers i207).f_Allowed).length:Int)))=true then (if (0:Int)≤i240∧i240<(((lget q139.f_c.f_Peers i207).f_Allowed).length:Int) then QB.l8 q139 i207 i240 i241 ([]:List Qc) 0>>=fun q263=>QaW q263>>=fun t283=>if ((t283.length:Int)==1)=true then (if (0:Int)≤0∧0<(t283.length:Int) then if (decide (lget t283 0=lget ((lget q139.f_c.f_Peers i207).f_Allowed) i240))=true then (if (i241.f_out.length+1)*48≤140737488355328 then QB.l7 q139 i207 (wr .i64 (i240+1)) ({ i241 with f_out:=i241.f_out++[{ { { ({ f_Kind:=(0:Int),f_Peer:=(0:Int),f_P:=({ f_A:=({ f_V:=(0:Int),f_B:=(Vector.replicate 16 (0:Int):(Vector Int 16)) }:Qh),f_Bits:=(0:Int) }:Qc) }:Qq) with f_Kind:=6 } with f_Peer:=i207 } with f_P:=lget ((lget q139.f_c.f_Peers i207).f_Allowed) i240 }] }) else none) else (QB.l7 q139 i207 (wr .i64 (i240+1)) i241) else none) else (QB.l7 q139 i207 (wr .i64 (i240+1)) i241) else none) else (some i241)
 partial_fixpoint
def QB.l6(q139:QL)(i207:Int)(i208:QL):Option (QL) :=
 if (decide (i207<(q139.f_c.f_Peers.length:Int)))=true then (if (0:Int)≤i207∧i207<(q139.f_c.f_Peers.length:Int) then QB.l7 q139 i207 0 i208>>=fun q239=>QB.l6 q139 (wr .i64 (i207+1)) q239 else none) else (some i208)
 partial_fixpoint
def QB(x0:S_api_Conf):Option (List Qq) :=
 Qa8 x0>>=fun t2=>if (!t2)=true then (some ([])) else (QaV x0>>=fun t4=>(Qd9 x0.f_Private>>=fun t19=>if t19=true then (if (([]:List Qq).length+1)*48≤140737488355328 then some ({ { { ({ f_c:=({ f_Private:=(Vector.replicate 32 (0:Int):(Vector Int 32)),f_Port:=(0:Int),f_Mark:=(0:Int),f_Peers:=([]:List Qao) }:S_api_Conf),f_own:=([]:List Qd),f_out:=([]:List Qq) }:QL) with f_c:=x0 } with f_own:=t4 } with f_out:=([]:List Qq)++[QB.e0] }) else none) else (some ({ { ({ f_c:=({ f_Private:=(Vector.replicate 32 (0:Int):(Vector Int 32)),f_Port:=(0:Int),f_Mark:=(0:Int),f_Peers:=([]:List Qao) }:S_api_Conf),f_own:=([]:List Qd),f_out:=([]:List Qq) }:QL) with f_c:=x0 } with f_own:=t4 })))>>=fun q11=>QB.l0 q11 0 q11>>=fun q31=>QB.l1 q31 0 q31>>=fun q69=>QB.l2 q69 0 q69>>=fun q97=>Qbs q97.f_own>>=fun t121=>QB.l3 t121 0 ([]:List (Qc×Bool))>>=fun q124=>QB.l4 q97 q124 0 q97>>=fun q139=>QB.l6 q139 0 q139>>=fun q206=>some q206.f_out)
set_option maxRecDepth 20000 in
set_option maxHeartbeats 3200000 in
theorem lint_All_ok(g0_:G_api_Conf)(x0:S_api_Conf)(r:List Qq)(hF:QB x0=some r)(w:World)(hn0:N_api_Conf w (g0_,x0)) :
    Calls Tryz.prog 8 #[.agg (Cd.cs c_api_Conf (g0_,x0)).toArray] w (fun e w'=>∃ p cap,e=.returned (.slice p r.length cap)∧Own Qo 40 w.heap.size w' p cap r∧Below w.heap.size w w'):=by
 unfold QB at hF
 refine ce (l:=[.agg (Cd.cs c_api_Conf (g0_,x0)).toArray]) func8 rfl rfl ?_
 refine QN ?_
 refine sr ?_
 refine Qag (cs:=Cd.cs c_api_Conf (g0_,x0)) rfl rfl rfl ?_
 intro b1
 refine aa (nt (qs (sr ?_)))
 refine aw (Qe (c:=c_api_Conf) (z:=(g0_,x0)) isAgg27 sizeOf27 rfl (Qp .z lw)) ?_
 obtain ⟨t2,ht2,hF⟩:=bM hF
 refine cB func18 rfl (fun w hw=>view_Right_ok _ _ _ ht2 w (N_api_Conf.below hn0 hw.below)) ?_
 refine aw (r_not rfl) ?_
 refine nwq [6,1] ?_
 obtain ⟨h3,hF⟩|⟨h3,hF⟩:=oi hF
 ·refine ct h3 ?_
  refine sr (aa (qn (dz (wq [2] ?_))))
  refine tn (rt ?_)
  have K:=os hF
  subst K
  exact r1 (fun w1 hw=>⟨none,0,rfl,Own.nil _ _ _ _,hw.below⟩)
 refine cf h3 ?_
 refine sn (qs (wq [1] ?_))
 obtain ⟨t4,ht4,hF⟩:=bM hF
 refine Qcv [.q 7 (fun g8=>.agg (Cd.cs c_api_Conf (g0_,x0)).toArray) [] 0 1,.q 8 (fun g8=>.agg (Cd.cs c_api_Conf (g0_,x0)).toArray) [] 0 0,.al 0 9 (fun g8=>.slice ((g8 0).2.1) t4.length ((g8 0).2.2.1)) [1],.q 10 (fun g8=>.agg (Cd.cs Qx ((g0_,(((g8 0).2.1),((g8 0).2.2.1)),zv6),{ { zv7 with f_c:=x0 } with f_own:=t4 })).toArray) [0,2] 1 1,.al 1 11 (fun g8=>.pointer (some ⟨((g8 1).1),0,none⟩)) [3],.q 3 (fun g8=>.pointer (some ⟨((g8 1).1),0,none⟩)) [4] 2 2] (fun g8 s=>match s with | 0=>(Wd w [Qs b1 (Cd.cs c_api_Conf (g0_,x0)) 27]) | 1=>(Wd w [rowE Qg 49 ((g8 0).2.1) ((g8 0).2.2.1) t4,Qs b1 (Cd.cs c_api_Conf (g0_,x0)) 27]) | _=>(Wd w [Qs ((g8 1).1) (Cd.cs Qx ((g0_,(((g8 0).2.1),((g8 0).2.2.1)),zv6),{ { zv7 with f_c:=x0 } with f_own:=t4 })) 63,rowE Qg 49 ((g8 0).2.1) ((g8 0).2.2.1) t4,Qs b1 (Cd.cs c_api_Conf (g0_,x0)) 27])) 2 (by kernel_rfl) (by kernel_rfl) (by kernel_rfl) (by kernel_rfl) (by kernel_rfl) ⟨fun _ _ _=>rfl,fun _ _ _=>rfl,fun g8 g2 h=>by show (.slice ((g8 0).2.1) t4.length ((g8 0).2.2.1):Value)=.slice ((g2 0).2.1) t4.length ((g2 0).2.2.1);rw [h 0 (show 0<1 by decide)],fun g8 g2 h=>by show (.agg (Cd.cs Qx ((g0_,(((g8 0).2.1),((g8 0).2.2.1)),zv6),{ { zv7 with f_c:=x0 } with f_own:=t4 })).toArray:Value)=.agg (Cd.cs Qx ((g0_,(((g2 0).2.1),((g2 0).2.2.1)),zv6),{ { zv7 with f_c:=x0 } with f_own:=t4 })).toArray;rw [h 0 (show 0<1 by decide)],fun g8 g2 h=>by show (.pointer (some ⟨((g8 1).1),0,none⟩):Value)=.pointer (some ⟨((g2 1).1),0,none⟩);rw [h 1 (show 1<2 by decide)],fun g8 g2 h=>by show (.pointer (some ⟨((g8 1).1),0,none⟩):Value)=.pointer (some ⟨((g2 1).1),0,none⟩);rw [h 1 (show 1<2 by decide)],trivial⟩ (by kernel_rfl) (fun w_ h=>⟨fun _=>g3 0 none 0 none w_,h.drew⟩) ⟨?_,?_,?_,?_,?_,?_,trivial⟩ ?_
 ·intro Lx g8 s K hl hh k
  show At 49 ((1,_)::Lx) _ _
  rcases (by omega:s=0∨s=1) with rfl | rfl
  ·skip
   refine aw (Qe (c:=c_api_Conf) (z:=(g0_,x0)) isAgg27 sizeOf27 rfl (Qp .z lw)) ?_
   exact Qn k
  skip
  refine aw (Qe (c:=c_api_Conf) (z:=(g0_,x0)) isAgg27 sizeOf27 rfl (Qp (.s .z) lw)) ?_
  exact Qn k
 ·intro Lx g8 s K hl hh k
  show At 49 ((1,_)::Lx) _ _
  obtain rfl:s=0:=by omega
  refine aw (Qe (c:=c_api_Conf) (z:=(g0_,x0)) isAgg27 sizeOf27 rfl (Qp .z lw)) ?_
  exact Qn k
 ·intro Lx g8 K k
  show At 49 ((8,_)::(1,_)::Lx) _ _
  refine Qca (c:=Qg) (e:=49) (ys:=t4) (V:=fun p cap=>.slice p t4.length cap) func19 rfl (by kernel_rfl) rfl rfl (fun w hw=>lint_entries_ok _ _ _ ht4 w (N_api_Conf.below hn0 hw.below)) ?_
  intro p5 c6
  exact Qn (k (g3 0 p5 c6 none w))
 ·intro Lx g8 s K hl hh k
  show At 49 ((7,_)::(9,_)::(1,_)::Lx) _ _
  obtain rfl:s=1:=by omega
  refine aw (QW (zs:=Cd.cs Qx ((zv6,zv6,zv6),zv7)) (cs:=Cd.cs Qx ((g0_,(((g8 0).2.1),((g8 0).2.2.1)),zv6),{ { zv7 with f_c:=x0 } with f_own:=t4 })) underlying63 zeroValue63 rfl (Qfq) rfl (QI (c:=c_api_Conf) (z:=(g0_,x0)) rfl (Qa9 (zv6,zv6,zv6) zv7) rfl (QI (c:=cHd) (z:=⟨((g8 0).2.1),List.length t4,((g8 0).2.2.1)⟩) rfl (Qc5 (g0_,zv6,zv6) ({ zv7 with f_c:=x0 })) rfl rfl))) ?_
  exact Qn k
 ·intro Lx g8 K k
  show At 49 ((10,_)::(1,_)::Lx) _ _
  refine Qag (cs:=Cd.cs Qx ((g0_,(((g8 0).2.1),((g8 0).2.2.1)),zv6),{ { zv7 with f_c:=x0 } with f_own:=t4 })) rfl rfl rfl ?_
  intro b7
  exact Qn (k (g3 b7 none 0 none w))
 ·intro Lx g8 s K hl hh k
  show At 49 ((11,_)::(1,_)::Lx) _ _
  refine aa ?_
  exact Qn k
 intro g8
 show At 49 [(7,_),(8,_),(9,_),(10,_),(11,_),(3,_),(1,_)] _ _
 refine wq [3,1] ?_
 refine tn ?_
 refine Qbd Qo 40 ?_
 obtain ⟨q11,hq11,hF⟩:=bM hF
 refine at_joinp (A:=fun Y=>∀ (gq13:G_api_Conf) (hk14:N_api_Conf w (gq13,q11.f_c)) (p15:Option Addr) (c16:Nat) (p17:Option Addr) (c18:Nat),At 49 [(3,.pointer (some ⟨(g8 1).1,0,none⟩))] (Wd w [Qs (g8 1).1 (Cd.cs Qx ((gq13,(p15,c16),(p17,c18)),q11)) 63,rowE Qg 49 p15 c16 q11.f_own,rowE Qo 40 p17 c18 q11.f_out]) Y) ?_ ?_
 ·intro Y K
  replace hF:=hq11
  refine sr (fa 0 underlying27 rfl sizeOf23 ?_)
  refine aw (Qe (c:=(cVec (cInt .u8) 32 (by decide))) (z:=x0.f_Private) isAgg23 sizeOf23 rfl (Qp (.s (.s (.s .z))) (QdQ g0_ x0))) ?_
  obtain ⟨t19,ht19,hF⟩:=bM hF
  refine cB func20 rfl (fun w hw=>keys_Zero_ok _ _ ht19 w) ?_
  refine qn ?_
  refine Qal (H:=_) (.s (.s (.s .z))) ?_
  refine wq [14,3] ?_
  refine tn ?_
  obtain ⟨h20,hF⟩|⟨h20,hF⟩:=oi hF
  ·refine ct h20 ?_
   refine qr (am (am ?_))
   refine aw (Qa5 rfl) ?_
   refine fa 36 underlying63 rfl sizeOf30 ?_
   refine aw (Ql isAgg30 rfl (Qr (c:=cHd) (y:=⟨((g0_,((g8 0).2.1,(g8 0).2.2.1),((nn 10),(0:Nat))).2.2).1,List.length (({ { zv7 with f_c:=x0 } with f_own:=t4 }).f_out),((g0_,((g8 0).2.1,(g8 0).2.2.1),((nn 10),(0:Nat))).2.2).2⟩) (.s .z) (Qbe (g0_,((g8 0).2.1,(g8 0).2.2.1),((nn 10),(0:Nat))) ({ { zv7 with f_c:=x0 } with f_own:=t4 })) rfl)) ?_
   refine aw (QW (zs:=Cd.cs Qo zv12) (cs:=Cd.cs Qo ({ { zv12 with f_Kind:=1 } with f_Peer:=(-1) })) underlying40 zeroValue40 rfl (QbW) rfl (QI (c:=(cInt .i64)) (z:=1) rfl (Qaa zv12) rfl (QI (c:=(cInt .i64)) (z:=(-1)) rfl (Qac ({ zv12 with f_Kind:=1 })) rfl rfl))) ?_
   refine Qbu (c:=Qo) ([zv12]:List Qq) ([QB.e0]:List Qq) underlying30 sizeOf40 zeroValue40 rfl rfl rfl (by kernel_rfl) (QI (c:=Qo) (z:=QB.e0) rfl (Lens.all Qo ([zv12]:List Qq) 0 (by first | decide | exact Nat.le_of_ble_eq_true rfl)) rfl rfl) rfl ?_
   intro b21
   obtain ⟨h22,hF⟩:=gd hF
   refine Qax (z:=.agg (Cd.cs Qo zv12).toArray) (c:=Qo) (ys:=([QB.e0]:List Qq)) (.s .z) underlying30 QfY (by kernel_rfl) (by kernel_rfl) rfl rfl rfl rfl (fun _ hw=>Qaw (hw.ok (Upd.mem .z))) (by kernel_rfl) h22 (Qaj h22) rfl ?_
   intro p23 c24
   refine aw (Qa5 rfl) ?_
   refine fa 36 underlying63 rfl sizeOf30 ?_
   refine QX (c:=cSv Qq) (z:=((p23,c24),([]:List Qq)++[QB.e0])) (.s (.s .z)) (Qby (g0_,((g8 0).2.1,(g8 0).2.2.1),((nn 10),(0:Nat))) ({ { zv7 with f_c:=x0 } with f_own:=t4 })) sizeOf30 rfl rfl rfl ?_
   refine qn (dz (wq [3] ?_))
   refine tn ?_
   obtain rfl:=os hF
   refine at_front (.s (.s .z)) ?_
   refine at_front (.s (.s .z)) ?_
   exact Qm (K g0_ hn0 (g8 0).2.1 (g8 0).2.2.1 p23 c24) ⟨rfl,trivial⟩
  refine cf h20 ?_
  refine sn ?_
  obtain rfl:=os hF
  refine at_front (.s (.s .z)) ?_
  refine at_front (.s (.s .z)) ?_
  exact Qm (K g0_ hn0 (g8 0).2.1 (g8 0).2.2.1 (nn 10) 0) ⟨rfl,trivial⟩
 skip
 intro gq13 hk14 p15 c16 p17 c18
 refine sr (am (am ?_))
 refine aw (QeO rfl) ?_
 refine QdZ func21 rfl (by kernel_rfl) rfl rfl rfl rfl ?_
 refine sr (am ?_)
 refine aw (Qa5 rfl) ?_
 refine fa 0 underlying63 rfl sizeOf27 (fa 34 underlying27 rfl sizeOf25 ?_)
 refine aw (Ql isAgg25 rfl (Qr (c:=cHd) (y:=⟨gq13.1,List.length q11.f_c.f_Peers,gq13.2⟩) .z (Lens.comp0 (Qa9 (gq13,(p15,c16),(p17,c18)) q11) (QD gq13 q11.f_c)) rfl)) ?_
 refine aw (Q6 underlying25 rfl) ?_
 refine am (nwq [13,12,2,1,0] ?_)
 refine qb ?_
 obtain ⟨q31,hq31,hF⟩:=bM hF
 refine wq [13,12,2,1,0] ?_
 refine Q5 (B:=0) (A:=fun Y=>∀ (gq41:G_api_Conf) (hk42:N_api_Conf w (gq41,q31.f_c)) (p43:Option Addr) (c44:Nat) (p45:Option Addr) (c46:Nat),At 32 [] (Wd w [Qs (g8 1).1 (Cd.cs Qx ((gq41,(p43,c44),(p45,c46)),q31)) 63,rowE Qg 49 p43 c44 q31.f_own,rowE Qo 40 p45 c46 q31.f_out]) Y) ?_ ?_
 ·intro K
  refine QB.l0.partial_correctness q11 (motive:=fun i33 i34 x=>KN (fun Y=>∀ (gq41:G_api_Conf) (hk42:N_api_Conf w (gq41,x.f_c)) (p43:Option Addr) (c44:Nat) (p45:Option Addr) (c46:Nat),At 32 [] (Wd w [Qs (g8 1).1 (Cd.cs Qx ((gq41,(p43,c44),(p45,c46)),x)) 63,rowE Qg 49 p43 c44 x.f_own,rowE Qo 40 p45 c46 x.f_out]) Y) _ 0→Round (fun Y=>∀ (gq35:G_api_Conf) (hk36:N_api_Conf w (gq35,i34.f_c)) (p37:Option Addr) (c38:Nat) (p39:Option Addr) (c40:Nat),At 32 [(0,.pointer (some ⟨(g8 1).1,0,none⟩)),(1,.int .i64 2),(2,.func (.func 22) #[.pointer (some ⟨(g8 1).1,0,none⟩)] #[]),(12,.int .i64 (q11.f_c.f_Peers.length:Int)),(13,.int .i64 i33)] (Wd w [Qs (g8 1).1 (Cd.cs Qx ((gq35,(p37,c38),(p39,c40)),i34)) 63,rowE Qg 49 p37 c38 i34.f_own,rowE Qo 40 p39 c40 i34.f_out]) Y) _ _ _) ?_ _ _ _ hq31 K gq13 hk14 p15 c16 p17 c18
  ·clear K hF
   intro g ih i33 i34 x hF K gq35 hk36 p37 c38 p39 c40
   refine QS ?_
   refine sr (aw xl (nwq [14,13,12,2,1,0] ?_))
   refine qs ?_
   obtain ⟨h47,hF⟩|⟨h47,hF⟩:=oi hF
   ·refine ct h47 ?_
    refine sn (qs ?_)
    refine qb ?_
    refine sr (am (aa (nwx [13,12,6,2,1,0] ?_)))
    refine am (am ?_)
    refine Qf6 (bnds:=[.pointer (some ⟨(g8 1).1,0,none⟩)]) rfl ?_
    refine QdZ func22 rfl (by kernel_rfl) rfl rfl rfl rfl ?_
    refine sr (aa (ns (am ?_)))
    refine aw (Qa5 rfl) ?_
    refine fa 0 underlying63 rfl sizeOf27 (fa 34 underlying27 rfl sizeOf25 ?_)
    refine aw (Ql isAgg25 rfl (Qr (c:=cHd) (y:=⟨gq35.1,List.length i34.f_c.f_Peers,gq35.2⟩) .z (Lens.comp0 (Qa9 (gq35,(p37,c38),(p39,c40)) i34) (QD gq35 i34.f_c)) rfl)) ?_
    refine am ?_
    obtain ⟨h48,hF⟩:=gd hF
    obtain ⟨zs52,hz53,hr54,hn55⟩:=id hk36
    obtain ⟨b50,o51,hp49⟩:=QR hr54 (zidx hz53 h48)
    obtain ⟨g56,hg57⟩:=zget hz53 i33
    refine aw (r_idx underlying25 sizeOf60 rfl rfl h48 hp49) ?_
    refine fa 85 underlying60 rfl sizeOf58 ?_
    refine aw (Ql isAgg58 rfl (nlens0 (c':=cHd) (y:=⟨g56.1,List.length ((lget i34.f_c.f_Peers i33).f_Allowed),g56.2⟩) (fun _ h=>h.below) hr54 (zidx hz53 h48) hp49 hg57 (QaE g56 (lget i34.f_c.f_Peers i33)) rfl)) ?_
    refine aw (Q6 underlying58 rfl) ?_
    refine aw xq (aa (nwq [4] ?_))
    refine qt ?_
    refine at_retI1 rfl rfl ?_
    refine nwq [18,13,12,6,2,1,0] ?_
    obtain ⟨h58,hF⟩|⟨h58,hF⟩:=oi hF
    ·refine ct h58 ?_
     refine qr (am (am ?_))
     refine aw (Qa5 rfl) ?_
     refine fa 36 underlying63 rfl sizeOf30 ?_
     refine aw (Ql isAgg30 rfl (Qr (c:=cHd) (y:=⟨((gq35,(p37,c38),(p39,c40)).2.2).1,List.length i34.f_out,((gq35,(p37,c38),(p39,c40)).2.2).2⟩) .z (Qbe (gq35,(p37,c38),(p39,c40)) i34) rfl)) ?_
     refine am (am ?_)
     refine aw (QW (zs:=Cd.cs Qo zv12) (cs:=Cd.cs Qo ({ { zv12 with f_Kind:=2 } with f_Peer:=i33 })) underlying40 zeroValue40 rfl (QbW) rfl (QI (c:=(cInt .i64)) (z:=2) rfl (Qaa zv12) rfl (QI (c:=(cInt .i64)) (z:=i33) rfl (Qac ({ zv12 with f_Kind:=2 })) rfl rfl))) ?_
     refine Qbu (c:=Qo) ([zv12]:List Qq) ([{ { zv12 with f_Kind:=2 } with f_Peer:=i33 }]:List Qq) underlying30 sizeOf40 zeroValue40 rfl rfl rfl (by kernel_rfl) (QI (c:=Qo) (z:={ { zv12 with f_Kind:=2 } with f_Peer:=i33 }) rfl (Lens.all Qo ([zv12]:List Qq) 0 (by first | decide | exact Nat.le_of_ble_eq_true rfl)) rfl rfl) rfl ?_
     intro b59
     obtain ⟨h60,hF⟩:=gd hF
     refine Qax (z:=.agg (Cd.cs Qo zv12).toArray) (c:=Qo) (ys:=([{ { zv12 with f_Kind:=2 } with f_Peer:=i33 }]:List Qq)) (.s (.s (.s .z))) underlying30 QfY (by kernel_rfl) (by kernel_rfl) rfl rfl rfl rfl (fun _ hw=>Qaw (hw.ok (Upd.mem .z))) (by kernel_rfl) h60 (Qaj h60) rfl ?_
     intro p61 c62
     refine aw (Qa5 rfl) ?_
     refine fa 36 underlying63 rfl sizeOf30 ?_
     refine QX (c:=cSv Qq) (z:=((p61,c62),i34.f_out++[{ { zv12 with f_Kind:=2 } with f_Peer:=i33 }])) (.s .z) (Qby (gq35,(p37,c38),(p39,c40)) i34) sizeOf30 rfl rfl rfl ?_
     refine qn (dz (wq [13,12,2,1,0] ?_))
     refine bm ?_
     refine qr (aw xa (am (nwq [13,12,2,1,0] ?_)))
     exact Qm (ih _ _ _ hF K gq35 hk36 p37 c38 p61 c62) ⟨rfl,rfl,rfl,rfl,rfl,trivial⟩
    refine cf h58 ?_
    refine Qaz ?_
    refine bm ?_
    refine qr (aw xa (am (nwq [13,12,2,1,0] ?_)))
    exact Qm (ih _ _ _ hF K gq35 hk36 p37 c38 p39 c40) ⟨rfl,rfl,rfl,rfl,rfl,trivial⟩
   refine cf h47 ?_
   refine Q1 ?_
   refine te (te ?_)
   obtain rfl:=os hF
   exact Qm (K gq35 hk36 p37 c38 p39 c40) trivial
 skip
 intro gq41 hk42 p43 c44 p45 c46
 refine Qw ?_
 refine at_retI0 rfl ?_
 refine nwx [3] ?_
 refine am (am ?_)
 refine aw (QeO rfl) ?_
 refine QdZ func21 rfl (by kernel_rfl) rfl rfl rfl rfl ?_
 refine sr (am ?_)
 refine aw (Qa5 rfl) ?_
 refine fa 0 underlying63 rfl sizeOf27 (fa 34 underlying27 rfl sizeOf25 ?_)
 refine aw (Ql isAgg25 rfl (Qr (c:=cHd) (y:=⟨gq41.1,List.length q31.f_c.f_Peers,gq41.2⟩) .z (Lens.comp0 (Qa9 (gq41,(p43,c44),(p45,c46)) q31) (QD gq41 q31.f_c)) rfl)) ?_
 refine aw (Q6 underlying25 rfl) ?_
 refine am (nwq [13,12,2,1,0] ?_)
 refine qb ?_
 obtain ⟨q69,hq69,hF⟩:=bM hF
 refine wq [13,12,2,1,0] ?_
 refine Q5 (B:=0) (A:=fun Y=>∀ (gq78:G_api_Conf) (hk79:N_api_Conf w (gq78,q69.f_c)) (p80:Option Addr) (c81:Nat) (p82:Option Addr) (c83:Nat),At 32 [] (Wd w [Qs (g8 1).1 (Cd.cs Qx ((gq78,(p80,c81),(p82,c83)),q69)) 63,rowE Qg 49 p80 c81 q69.f_own,rowE Qo 40 p82 c83 q69.f_out]) Y) ?_ ?_
 ·intro K
  refine QB.l1.partial_correctness q31 (motive:=fun i70 i71 x=>KN (fun Y=>∀ (gq78:G_api_Conf) (hk79:N_api_Conf w (gq78,x.f_c)) (p80:Option Addr) (c81:Nat) (p82:Option Addr) (c83:Nat),At 32 [] (Wd w [Qs (g8 1).1 (Cd.cs Qx ((gq78,(p80,c81),(p82,c83)),x)) 63,rowE Qg 49 p80 c81 x.f_own,rowE Qo 40 p82 c83 x.f_out]) Y) _ 0→Round (fun Y=>∀ (gq72:G_api_Conf) (hk73:N_api_Conf w (gq72,i71.f_c)) (p74:Option Addr) (c75:Nat) (p76:Option Addr) (c77:Nat),At 32 [(0,.pointer (some ⟨(g8 1).1,0,none⟩)),(1,.int .i64 3),(2,.func (.func 23) #[.pointer (some ⟨(g8 1).1,0,none⟩)] #[]),(12,.int .i64 (q31.f_c.f_Peers.length:Int)),(13,.int .i64 i70)] (Wd w [Qs (g8 1).1 (Cd.cs Qx ((gq72,(p74,c75),(p76,c77)),i71)) 63,rowE Qg 49 p74 c75 i71.f_own,rowE Qo 40 p76 c77 i71.f_out]) Y) _ _ _) ?_ _ _ _ hq69 K gq41 hk42 p43 c44 p45 c46
  ·clear K hF
   intro g ih i70 i71 x hF K gq72 hk73 p74 c75 p76 c77
   refine QS ?_
   refine sr (aw xl (nwq [14,13,12,2,1,0] ?_))
   refine qs ?_
   obtain ⟨h84,hF⟩|⟨h84,hF⟩:=oi hF
   ·refine ct h84 ?_
    refine sn (qs ?_)
    refine qb ?_
    refine sr (am (aa (nwx [13,12,6,2,1,0] ?_)))
    refine am (am ?_)
    refine Qf6 (bnds:=[.pointer (some ⟨(g8 1).1,0,none⟩)]) rfl ?_
    obtain ⟨t85,ht85,hF⟩:=bM hF
    refine at_callN (v:=.bool t85) (T:=[Qs (g8 1).1 (Cd.cs Qx ((gq72,(p74,c75),(p76,c77)),i71)) 63,rowE Qg 49 p74 c75 i71.f_own,rowE Qo 40 p76 c77 i71.f_out]) func23 rfl (by kernel_rfl) rfl rfl (fun w hw=>Qft ht85 hw hk73) ?_
    refine nwq [18,13,12,6,2,1,0] ?_
    obtain ⟨h86,hF⟩|⟨h86,hF⟩:=oi hF
    ·refine ct h86 ?_
     refine qr (am (am ?_))
     refine aw (Qa5 rfl) ?_
     refine fa 36 underlying63 rfl sizeOf30 ?_
     refine aw (Ql isAgg30 rfl (Qr (c:=cHd) (y:=⟨((gq72,(p74,c75),(p76,c77)).2.2).1,List.length i71.f_out,((gq72,(p74,c75),(p76,c77)).2.2).2⟩) .z (Qbe (gq72,(p74,c75),(p76,c77)) i71) rfl)) ?_
     refine am (am ?_)
     refine aw (QW (zs:=Cd.cs Qo zv12) (cs:=Cd.cs Qo ({ { zv12 with f_Kind:=3 } with f_Peer:=i70 })) underlying40 zeroValue40 rfl (QbW) rfl (QI (c:=(cInt .i64)) (z:=3) rfl (Qaa zv12) rfl (QI (c:=(cInt .i64)) (z:=i70) rfl (Qac ({ zv12 with f_Kind:=3 })) rfl rfl))) ?_
     refine Qbu (c:=Qo) ([zv12]:List Qq) ([{ { zv12 with f_Kind:=3 } with f_Peer:=i70 }]:List Qq) underlying30 sizeOf40 zeroValue40 rfl rfl rfl (by kernel_rfl) (QI (c:=Qo) (z:={ { zv12 with f_Kind:=3 } with f_Peer:=i70 }) rfl (Lens.all Qo ([zv12]:List Qq) 0 (by first | decide | exact Nat.le_of_ble_eq_true rfl)) rfl rfl) rfl ?_
     intro b87
     obtain ⟨h88,hF⟩:=gd hF
     refine Qax (z:=.agg (Cd.cs Qo zv12).toArray) (c:=Qo) (ys:=([{ { zv12 with f_Kind:=3 } with f_Peer:=i70 }]:List Qq)) (.s (.s (.s .z))) underlying30 QfY (by kernel_rfl) (by kernel_rfl) rfl rfl rfl rfl (fun _ hw=>Qaw (hw.ok (Upd.mem .z))) (by kernel_rfl) h88 (Qaj h88) rfl ?_
     intro p89 c90
     refine aw (Qa5 rfl) ?_
     refine fa 36 underlying63 rfl sizeOf30 ?_
     refine QX (c:=cSv Qq) (z:=((p89,c90),i71.f_out++[{ { zv12 with f_Kind:=3 } with f_Peer:=i70 }])) (.s .z) (Qby (gq72,(p74,c75),(p76,c77)) i71) sizeOf30 rfl rfl rfl ?_
     refine qn (dz (wq [13,12,2,1,0] ?_))
     refine bm ?_
     refine qr (aw xa (am (nwq [13,12,2,1,0] ?_)))
     exact Qm (ih _ _ _ hF K gq72 hk73 p74 c75 p89 c90) ⟨rfl,rfl,rfl,rfl,rfl,trivial⟩
    refine cf h86 ?_
    refine Qaz ?_
    refine bm ?_
    refine qr (aw xa (am (nwq [13,12,2,1,0] ?_)))
    exact Qm (ih _ _ _ hF K gq72 hk73 p74 c75 p76 c77) ⟨rfl,rfl,rfl,rfl,rfl,trivial⟩
   refine cf h84 ?_
   refine Q1 ?_
   refine te (te ?_)
   obtain rfl:=os hF
   exact Qm (K gq72 hk73 p74 c75 p76 c77) trivial
 skip
 intro gq78 hk79 p80 c81 p82 c83
 refine Qw ?_
 refine at_retI0 rfl ?_
 refine nwx [3] ?_
 refine am (am ?_)
 refine aw (QeO rfl) ?_
 refine QdZ func21 rfl (by kernel_rfl) rfl rfl rfl rfl ?_
 refine sr (am ?_)
 refine aw (Qa5 rfl) ?_
 refine fa 0 underlying63 rfl sizeOf27 (fa 34 underlying27 rfl sizeOf25 ?_)
 refine aw (Ql isAgg25 rfl (Qr (c:=cHd) (y:=⟨gq78.1,List.length q69.f_c.f_Peers,gq78.2⟩) .z (Lens.comp0 (Qa9 (gq78,(p80,c81),(p82,c83)) q69) (QD gq78 q69.f_c)) rfl)) ?_
 refine aw (Q6 underlying25 rfl) ?_
 refine am (nwq [13,12,2,1,0] ?_)
 refine qb ?_
 obtain ⟨q97,hq97,hF⟩:=bM hF
 refine wq [13,12,2,1,0] ?_
 refine Q5 (B:=0) (A:=fun Y=>∀ (gq106:G_api_Conf) (hk107:N_api_Conf w (gq106,q97.f_c)) (p108:Option Addr) (c109:Nat) (p110:Option Addr) (c111:Nat),At 32 [] (Wd w [Qs (g8 1).1 (Cd.cs Qx ((gq106,(p108,c109),(p110,c111)),q97)) 63,rowE Qg 49 p108 c109 q97.f_own,rowE Qo 40 p110 c111 q97.f_out]) Y) ?_ ?_
 ·intro K
  refine QB.l2.partial_correctness q69 (motive:=fun i98 i99 x=>KN (fun Y=>∀ (gq106:G_api_Conf) (hk107:N_api_Conf w (gq106,x.f_c)) (p108:Option Addr) (c109:Nat) (p110:Option Addr) (c111:Nat),At 32 [] (Wd w [Qs (g8 1).1 (Cd.cs Qx ((gq106,(p108,c109),(p110,c111)),x)) 63,rowE Qg 49 p108 c109 x.f_own,rowE Qo 40 p110 c111 x.f_out]) Y) _ 0→Round (fun Y=>∀ (gq100:G_api_Conf) (hk101:N_api_Conf w (gq100,i99.f_c)) (p102:Option Addr) (c103:Nat) (p104:Option Addr) (c105:Nat),At 32 [(0,.pointer (some ⟨(g8 1).1,0,none⟩)),(1,.int .i64 4),(2,.func (.func 24) #[.pointer (some ⟨(g8 1).1,0,none⟩)] #[]),(12,.int .i64 (q69.f_c.f_Peers.length:Int)),(13,.int .i64 i98)] (Wd w [Qs (g8 1).1 (Cd.cs Qx ((gq100,(p102,c103),(p104,c105)),i99)) 63,rowE Qg 49 p102 c103 i99.f_own,rowE Qo 40 p104 c105 i99.f_out]) Y) _ _ _) ?_ _ _ _ hq97 K gq78 hk79 p80 c81 p82 c83
  ·clear K hF
   intro g ih i98 i99 x hF K gq100 hk101 p102 c103 p104 c105
   refine QS ?_
   refine sr (aw xl (nwq [14,13,12,2,1,0] ?_))
   refine qs ?_
   obtain ⟨h112,hF⟩|⟨h112,hF⟩:=oi hF
   ·refine ct h112 ?_
    refine sn (qs ?_)
    refine qb ?_
    refine sr (am (aa (nwx [13,12,6,2,1,0] ?_)))
    refine am (am ?_)
    refine Qf6 (bnds:=[.pointer (some ⟨(g8 1).1,0,none⟩)]) rfl ?_
    obtain ⟨t113,ht113,hF⟩:=bM hF
    refine at_callN (v:=.bool t113) (T:=[Qs (g8 1).1 (Cd.cs Qx ((gq100,(p102,c103),(p104,c105)),i99)) 63,rowE Qg 49 p102 c103 i99.f_own,rowE Qo 40 p104 c105 i99.f_out]) func24 rfl (by kernel_rfl) rfl rfl (fun w hw=>Qfs ht113 hw hk101) ?_
    refine nwq [18,13,12,6,2,1,0] ?_
    obtain ⟨h114,hF⟩|⟨h114,hF⟩:=oi hF
    ·refine ct h114 ?_
     refine qr (am (am ?_))
     refine aw (Qa5 rfl) ?_
     refine fa 36 underlying63 rfl sizeOf30 ?_
     refine aw (Ql isAgg30 rfl (Qr (c:=cHd) (y:=⟨((gq100,(p102,c103),(p104,c105)).2.2).1,List.length i99.f_out,((gq100,(p102,c103),(p104,c105)).2.2).2⟩) .z (Qbe (gq100,(p102,c103),(p104,c105)) i99) rfl)) ?_
     refine am (am ?_)
     refine aw (QW (zs:=Cd.cs Qo zv12) (cs:=Cd.cs Qo ({ { zv12 with f_Kind:=4 } with f_Peer:=i98 })) underlying40 zeroValue40 rfl (QbW) rfl (QI (c:=(cInt .i64)) (z:=4) rfl (Qaa zv12) rfl (QI (c:=(cInt .i64)) (z:=i98) rfl (Qac ({ zv12 with f_Kind:=4 })) rfl rfl))) ?_
     refine Qbu (c:=Qo) ([zv12]:List Qq) ([{ { zv12 with f_Kind:=4 } with f_Peer:=i98 }]:List Qq) underlying30 sizeOf40 zeroValue40 rfl rfl rfl (by kernel_rfl) (QI (c:=Qo) (z:={ { zv12 with f_Kind:=4 } with f_Peer:=i98 }) rfl (Lens.all Qo ([zv12]:List Qq) 0 (by first | decide | exact Nat.le_of_ble_eq_true rfl)) rfl rfl) rfl ?_
     intro b115
     obtain ⟨h116,hF⟩:=gd hF
     refine Qax (z:=.agg (Cd.cs Qo zv12).toArray) (c:=Qo) (ys:=([{ { zv12 with f_Kind:=4 } with f_Peer:=i98 }]:List Qq)) (.s (.s (.s .z))) underlying30 QfY (by kernel_rfl) (by kernel_rfl) rfl rfl rfl rfl (fun _ hw=>Qaw (hw.ok (Upd.mem .z))) (by kernel_rfl) h116 (Qaj h116) rfl ?_
     intro p117 c118
     refine aw (Qa5 rfl) ?_
     refine fa 36 underlying63 rfl sizeOf30 ?_
     refine QX (c:=cSv Qq) (z:=((p117,c118),i99.f_out++[{ { zv12 with f_Kind:=4 } with f_Peer:=i98 }])) (.s .z) (Qby (gq100,(p102,c103),(p104,c105)) i99) sizeOf30 rfl rfl rfl ?_
     refine qn (dz (wq [13,12,2,1,0] ?_))
     refine bm ?_
     refine qr (aw xa (am (nwq [13,12,2,1,0] ?_)))
     exact Qm (ih _ _ _ hF K gq100 hk101 p102 c103 p117 c118) ⟨rfl,rfl,rfl,rfl,rfl,trivial⟩
    refine cf h114 ?_
    refine Qaz ?_
    refine bm ?_
    refine qr (aw xa (am (nwq [13,12,2,1,0] ?_)))
    exact Qm (ih _ _ _ hF K gq100 hk101 p102 c103 p104 c105) ⟨rfl,rfl,rfl,rfl,rfl,trivial⟩
   refine cf h112 ?_
   refine Q1 ?_
   refine te (te ?_)
   obtain rfl:=os hF
   exact Qm (K gq100 hk101 p102 c103 p104 c105) trivial
 skip
 intro gq106 hk107 p108 c109 p110 c111
 refine Qw ?_
 refine at_retI0 rfl ?_
 refine nwx [3] ?_
 refine am (am ?_)
 refine QdZ func26 rfl (by kernel_rfl) rfl rfl rfl rfl ?_
 refine sr (aa (nwx [0] ?_))
 refine at_makeMap Qa cBool false rfl ?_
 intro b119
 refine al (cs:=[.map none]) zeroValue85 ?_
 intro b120
 refine sa 1 ([.map (some b119)]) .z rfl rfl sizeOf85 rfl rfl rfl ?_
 refine nt (qs (sr (am ?_)))
 refine aw (Qa5 rfl) ?_
 refine fa 35 underlying63 rfl sizeOf46 ?_
 refine aw (Ql isAgg46 rfl (Qr (c:=cHd) (y:=⟨((gq106,(p108,c109),(p110,c111)).2.1).1,List.length q97.f_own,((gq106,(p108,c109),(p110,c111)).2.1).2⟩) (.s (.s .z)) (Qc5 (gq106,(p108,c109),(p110,c111)) q97) rfl)) ?_
 obtain ⟨t121,ht121,hF⟩:=bM hF
 refine Qca (c:=Qg) (e:=49) (ys:=t121) (V:=fun p cap=>.slice p t121.length cap) func47 rfl (by kernel_rfl) rfl rfl (fun w hw=>flat_Thin_ok _ _ _ _ ht121 w (hw.own (.s (.s (.s .z)))).row) ?_
 intro p122 c123
 refine aw (Q6 underlying46 rfl) ?_
 refine am (nwq [13,12,11,3] ?_)
 refine qb ?_
 obtain ⟨q124,hq124,hF⟩:=bM hF
 refine wq [13,12,11,3] ?_
 refine Q5 (B:=0) (A:=fun Y=>At 22 [(3,.pointer (some ⟨b120,0,none⟩))] (Wd w [Qs b120 [.map (some b119)] 85,mapE b119 Qa cBool false q124,Qs (g8 1).1 (Cd.cs Qx ((gq106,(p108,c109),(p110,c111)),q97)) 63,rowE Qg 49 p108 c109 q97.f_own,rowE Qo 40 p110 c111 q97.f_out]) Y) ?_ ?_
 ·intro K
  refine QB.l3.partial_correctness t121 (motive:=fun i125 i126 x=>KN (fun Y=>At 22 [(3,.pointer (some ⟨b120,0,none⟩))] (Wd w [Qs b120 [.map (some b119)] 85,mapE b119 Qa cBool false x,Qs (g8 1).1 (Cd.cs Qx ((gq106,(p108,c109),(p110,c111)),q97)) 63,rowE Qg 49 p108 c109 q97.f_own,rowE Qo 40 p110 c111 q97.f_out]) Y) _ 0→Round (fun Y=>At 22 [(3,.pointer (some ⟨b120,0,none⟩)),(11,.slice p122 t121.length c123),(12,.int .i64 (t121.length:Int)),(13,.int .i64 i125)] (Wd w [rowE Qg 49 p122 c123 t121,Qs b120 [.map (some b119)] 85,mapE b119 Qa cBool false i126,Qs (g8 1).1 (Cd.cs Qx ((gq106,(p108,c109),(p110,c111)),q97)) 63,rowE Qg 49 p108 c109 q97.f_own,rowE Qo 40 p110 c111 q97.f_out]) Y) _ _ _) ?_ _ _ _ hq124 K
  ·clear K hF
   intro g ih i125 i126 x hF K
   refine QS ?_
   refine sr (aw xl (nwq [14,13,12,11,3] ?_))
   refine qs ?_
   obtain ⟨h127,hF⟩|⟨h127,hF⟩:=oi hF
   ·refine ct h127 ?_
    refine sn (qs ?_)
    refine qb ?_
    refine sr ?_
    obtain ⟨h128,hF⟩:=gd hF
    refine QaU (φ:=∃ b o,p122=some ⟨b,o,none⟩) (fun _ hw=>QR (hw.own .z).row h128) ?_
    rintro ⟨b130,o131,hp129⟩
    refine aw (r_idx underlying46 sizeOf49 rfl rfl h128 hp129) ?_
    refine aw (Qe (c:=Qg) (z:=lget t121 i125) isAgg49 sizeOf49 rfl (fun w1 hw=>QaF (W:=fun w1=>w1=_) (fun w1 h=>by subst h;exact Below.refl _ _) (hw.own .z).row h128 hp129 _ rfl)) ?_
    refine al (cs:=Cd.cs Qg zv13) zeroValue49 ?_
    intro b132
    refine QX (c:=Qg) (z:=lget t121 i125) .z lw sizeOf49 rfl rfl rfl ?_
    refine nwq [13,12,11,5,3] ?_
    refine qr ?_
    refine aw (Ql isAgg85 rfl (fun w1 hw=>QfK (hw.ok (Upd.mem (.s (.s .z)))) 0 _ rfl)) ?_
    refine fa 0 underlying49 rfl sizeOf38 ?_
    refine aw (Qe (c:=Qa) (z:=(lget t121 i125).f_P) isAgg38 sizeOf38 rfl (Qp .z (Lens.comp lw (fun z=>{ lget t121 i125 with f_P:=z }) (QQ (lget t121 i125))))) ?_
    refine Qeo (k:=(lget t121 i125).f_P) (v:=true) (.s (.s (.s .z))) underlying85 (keylaw_of underlying38 (Qdb (k:=2) underlying38 (fun n x hn=>(Qb6 (QG x) rfl rfl isAgg36 sizeOf36 (.inl rfl) (Qdb (k:=1) underlying36 (fun n x hn=>(Qb6 (QY x) rfl rfl isAgg3 sizeOf3 (.inr rfl) (QdN underlying3) (by omega) (Qb6 (QO x) rfl rfl isAgg34 sizeOf34 (.inl rfl) (chk_vec underlying34 sizeOf5 isAgg5 (.inr rfl) (QdN underlying5)) (by omega) Qen)))) (by omega) (Qb6 (QE x) rfl rfl isAgg3 sizeOf3 (.inr rfl) (QdN underlying3) (by omega) Qen)))) (by decide) (Qap) (by decide) Qc3) rfl rfl rfl rfl ?_
    refine qn (dz (wq [13,12,11,3] ?_))
    refine bm ?_
    refine qr (aw xa (am (nwq [13,12,11,3] ?_)))
    exact Qm (ih _ _ _ hF K) ⟨rfl,rfl,rfl,rfl,trivial⟩
   refine cf h127 ?_
   refine Q1 ?_
   refine te (te ?_)
   refine dz ?_
   obtain rfl:=os hF
   exact Qm K ⟨rfl,trivial⟩
 skip
 skip
 refine Qw ?_
 refine tn (sr ?_)
 refine aw (r_makeFunc rfl) ?_
 refine aa (nwq [2] ?_)
 refine qt ?_
 refine at_retI1 rfl rfl ?_
 refine QdZ func25 rfl (by kernel_rfl) rfl rfl rfl rfl ?_
 refine sr (am ?_)
 refine aw (Qa5 rfl) ?_
 refine fa 0 underlying63 rfl sizeOf27 (fa 34 underlying27 rfl sizeOf25 ?_)
 refine aw (Ql isAgg25 rfl (Qr (c:=cHd) (y:=⟨gq106.1,List.length q97.f_c.f_Peers,gq106.2⟩) (.s (.s .z)) (Lens.comp0 (Qa9 (gq106,(p108,c109),(p110,c111)) q97) (QD gq106 q97.f_c)) rfl)) ?_
 refine aw (Q6 underlying25 rfl) ?_
 refine am (nwq [16,15,14,2,1,0] ?_)
 refine qb ?_
 obtain ⟨q139,hq139,hF⟩:=bM hF
 refine wq [16,15,14,2,1,0] ?_
 refine Q5 (B:=0) (A:=fun Y=>∀ (gq148:G_api_Conf) (hk149:N_api_Conf w (gq148,q139.f_c)) (p150:Option Addr) (c151:Nat) (p152:Option Addr) (c153:Nat),At 46 [] (Wd w [Qs (g8 1).1 (Cd.cs Qx ((gq148,(p150,c151),(p152,c153)),q139)) 63,rowE Qg 49 p150 c151 q139.f_own,rowE Qo 40 p152 c153 q139.f_out]) Y) ?_ ?_
 ·intro K
  refine QB.l4.partial_correctness q97 q124 (motive:=fun i140 i141 x=>KN (fun Y=>∀ (gq148:G_api_Conf) (hk149:N_api_Conf w (gq148,x.f_c)) (p150:Option Addr) (c151:Nat) (p152:Option Addr) (c153:Nat),At 46 [] (Wd w [Qs (g8 1).1 (Cd.cs Qx ((gq148,(p150,c151),(p152,c153)),x)) 63,rowE Qg 49 p150 c151 x.f_own,rowE Qo 40 p152 c153 x.f_out]) Y) _ 0→Round (fun Y=>∀ (gq142:G_api_Conf) (hk143:N_api_Conf w (gq142,i141.f_c)) (p144:Option Addr) (c145:Nat) (p146:Option Addr) (c147:Nat),At 46 [(0,.pointer (some ⟨(g8 1).1,0,none⟩)),(1,.int .i64 5),(2,.func (.func 48) #[] #[.pointer (some ⟨b120,0,none⟩)]),(14,.slice gq106.1 q97.f_c.f_Peers.length gq106.2),(15,.int .i64 (q97.f_c.f_Peers.length:Int)),(16,.int .i64 i140)] (Wd w [Qs b120 [.map (some b119)] 85,mapE b119 Qa cBool false q124,Qs (g8 1).1 (Cd.cs Qx ((gq142,(p144,c145),(p146,c147)),i141)) 63,rowE Qg 49 p144 c145 i141.f_own,rowE Qo 40 p146 c147 i141.f_out]) Y) _ _ _) ?_ _ _ _ hq139 K gq106 hk107 p108 c109 p110 c111
  ·clear K hF
   intro g ih i140 i141 x hF K gq142 hk143 p144 c145 p146 c147
   refine QS ?_
   refine sr (aw xl (nwq [17,16,15,14,2,1,0] ?_))
   refine qs ?_
   obtain ⟨h154,hF⟩|⟨h154,hF⟩:=oi hF
   ·refine ct h154 ?_
    refine sn (qs ?_)
    refine qb ?_
    refine sr (am ?_)
    obtain ⟨h155,hF⟩:=gd hF
    obtain ⟨zs159,hz160,hr161,hn162⟩:=id hk107
    obtain ⟨b157,o158,hp156⟩:=QR hr161 (zidx hz160 h155)
    obtain ⟨g163,hg164⟩:=zget hz160 i140
    refine aw (r_idx underlying25 sizeOf60 rfl rfl h155 hp156) ?_
    refine aw (Qe (c:=QT) (z:=(g163,lget q97.f_c.f_Peers i140)) isAgg60 sizeOf60 rfl (ncell (fun _ h=>h.below) hr161 (zidx hz160 h155) hp156 hg164)) ?_
    refine al (cs:=Cd.cs QT zv14) zeroValue60 ?_
    intro b165
    refine aa ?_
    refine QX (c:=QT) (z:=(g163,lget q97.f_c.f_Peers i140)) .z lw sizeOf60 rfl rfl rfl ?_
    refine ns (fa 85 underlying60 rfl sizeOf58 ?_)
    refine aw (Ql isAgg58 rfl (Qr (c:=cHd) (y:=⟨g163.1,List.length ((lget q97.f_c.f_Peers i140).f_Allowed),g163.2⟩) .z (QaE g163 (lget q97.f_c.f_Peers i140)) rfl)) ?_
    refine aw (Q6 underlying58 rfl) ?_
    refine am (qn (dz (wq [24,23,22,16,15,14,6,2,1,0] ?_)))
    refine tn ?_
    refine qb ?_
    obtain ⟨q172,hq172,hF⟩:=bM hF
    refine wq [24,23,22,16,15,14,6,2,1,0] ?_
    refine Q5 (B:=2) (A:=fun Y=>∀ (gq181:G_api_Conf) (hk182:N_api_Conf w (gq181,q172.f_c)) (p183:Option Addr) (c184:Nat) (p185:Option Addr) (c186:Nat),At 46 [(0,.pointer (some ⟨(g8 1).1,0,none⟩)),(1,.int .i64 5),(2,.func (.func 48) #[] #[.pointer (some ⟨b120,0,none⟩)]),(14,.slice gq106.1 q97.f_c.f_Peers.length gq106.2),(15,.int .i64 (q97.f_c.f_Peers.length:Int)),(16,.int .i64 i140)] (Wd w [Qs b120 [.map (some b119)] 85,mapE b119 Qa cBool false q124,Qs (g8 1).1 (Cd.cs Qx ((gq181,(p183,c184),(p185,c186)),q172)) 63,rowE Qg 49 p183 c184 q172.f_own,rowE Qo 40 p185 c186 q172.f_out]) Y) ?_ ?_
    ·intro K
     refine QB.l5.partial_correctness q97 q124 i140 (motive:=fun i173 i174 x=>KN (fun Y=>∀ (gq181:G_api_Conf) (hk182:N_api_Conf w (gq181,x.f_c)) (p183:Option Addr) (c184:Nat) (p185:Option Addr) (c186:Nat),At 46 [(0,.pointer (some ⟨(g8 1).1,0,none⟩)),(1,.int .i64 5),(2,.func (.func 48) #[] #[.pointer (some ⟨b120,0,none⟩)]),(14,.slice gq106.1 q97.f_c.f_Peers.length gq106.2),(15,.int .i64 (q97.f_c.f_Peers.length:Int)),(16,.int .i64 i140)] (Wd w [Qs b120 [.map (some b119)] 85,mapE b119 Qa cBool false q124,Qs (g8 1).1 (Cd.cs Qx ((gq181,(p183,c184),(p185,c186)),x)) 63,rowE Qg 49 p183 c184 x.f_own,rowE Qo 40 p185 c186 x.f_out]) Y) _ 2→Round (fun Y=>∀ (gq175:G_api_Conf) (hk176:N_api_Conf w (gq175,i174.f_c)) (p177:Option Addr) (c178:Nat) (p179:Option Addr) (c180:Nat),At 46 [(0,.pointer (some ⟨(g8 1).1,0,none⟩)),(1,.int .i64 5),(2,.func (.func 48) #[] #[.pointer (some ⟨b120,0,none⟩)]),(6,.int .i64 i140),(14,.slice gq106.1 q97.f_c.f_Peers.length gq106.2),(15,.int .i64 (q97.f_c.f_Peers.length:Int)),(16,.int .i64 i140),(22,.slice g163.1 ((lget q97.f_c.f_Peers i140).f_Allowed).length g163.2),(23,.int .i64 (((lget q97.f_c.f_Peers i140).f_Allowed).length:Int)),(24,.int .i64 i173)] (Wd w [Qs b120 [.map (some b119)] 85,mapE b119 Qa cBool false q124,Qs (g8 1).1 (Cd.cs Qx ((gq175,(p177,c178),(p179,c180)),i174)) 63,rowE Qg 49 p177 c178 i174.f_own,rowE Qo 40 p179 c180 i174.f_out]) Y) _ _ _) ?_ _ _ _ hq172 K gq142 hk143 p144 c145 p146 c147
     ·clear K hF
      intro g ih i173 i174 x hF K gq175 hk176 p177 c178 p179 c180
      refine QS ?_
      refine sr (aw xl (nwq [25,24,23,22,16,15,14,6,2,1,0] ?_))
      refine qs ?_
      obtain ⟨h187,hF⟩|⟨h187,hF⟩:=oi hF
      ·refine ct h187 ?_
       refine sn (qs ?_)
       refine qb ?_
       refine sr ?_
       obtain ⟨h188,hF⟩:=gd hF
       obtain ⟨b190,o191,hp189⟩:=QR (nz hg164 hn162 (zidx hz160 h155)) h188
       refine aw (r_idx underlying58 sizeOf38 rfl rfl h188 hp189) ?_
       refine aw (Qe (c:=Qa) (z:=lget ((lget q97.f_c.f_Peers i140).f_Allowed) i173) isAgg38 sizeOf38 rfl (QaF (fun _ h=>h.below) (nz hg164 hn162 (zidx hz160 h155)) h188 hp189)) ?_
       refine al (cs:=Cd.cs Qa zv9) zeroValue38 ?_
       intro b192
       refine QX (c:=Qa) (z:=lget ((lget q97.f_c.f_Peers i140).f_Allowed) i173) .z lw sizeOf38 rfl rfl rfl ?_
       refine nwx [24,23,22,16,15,14,9,6,2,1,0] ?_
       refine am ?_
       refine aw (Qe (c:=Qa) (z:=lget ((lget q97.f_c.f_Peers i140).f_Allowed) i173) isAgg38 sizeOf38 rfl (Qp .z lw)) ?_
       refine at_calleeC (caps:=[.pointer (some ⟨b120,0,none⟩)]) rfl ?_
       refine QdZ func48 rfl (by kernel_rfl) rfl rfl rfl rfl ?_
       refine sr ?_
       refine Qag (cs:=Cd.cs Qa (lget ((lget q97.f_c.f_Peers i140).f_Allowed) i173)) rfl rfl rfl ?_
       intro b193
       refine aa (ns ?_)
       refine aw (Ql isAgg85 rfl (fun w1 hw=>QfK (hw.ok (Upd.mem (.s (.s .z)))) 0 _ rfl)) ?_
       refine aw (Qe (c:=Qa) (z:=lget ((lget q97.f_c.f_Peers i140).f_Allowed) i173) isAgg38 sizeOf38 rfl (Qp .z lw)) ?_
       refine aw (r_lookup (d:=cBool) (va:=false) (k:=lget ((lget q97.f_c.f_Peers i140).f_Allowed) i173) (zv:=false) underlying85 (keylaw_of underlying38 (Qdb (k:=2) underlying38 (fun n x hn=>(Qb6 (QG x) rfl rfl isAgg36 sizeOf36 (.inl rfl) (Qdb (k:=1) underlying36 (fun n x hn=>(Qb6 (QY x) rfl rfl isAgg3 sizeOf3 (.inr rfl) (QdN underlying3) (by omega) (Qb6 (QO x) rfl rfl isAgg34 sizeOf34 (.inl rfl) (chk_vec underlying34 sizeOf5 isAgg5 (.inr rfl) (QdN underlying5)) (by omega) Qen)))) (by omega) (Qb6 (QE x) rfl rfl isAgg3 sizeOf3 (.inr rfl) (QdN underlying3) (by omega) Qen)))) (by decide) (Qap) (by decide) Qc3) zeroValue4 rfl rfl (fun w1 hw=>hw.ok (Upd.mem (.s (.s (.s .z)))))) ?_
       refine aw (r_not rfl) ?_
       refine aa (qn (dz (wq [3] ?_)))
       refine tn (qt ?_)
       refine at_retI1 rfl rfl ?_
       refine nwq [30,24,23,22,16,15,14,9,6,2,1,0] ?_
       obtain ⟨h194,hF⟩|⟨h194,hF⟩:=oi hF
       ·refine ct h194 ?_
        refine wq [24,23,22,16,15,14,9,6,2,1,0] ?_
        obtain ⟨h196,hF⟩:=gd hF
        refine Qcv [.q 31 (fun g199=>.pointer (some ⟨(g8 1).1,0,none⟩)) [] 0 2,.q 32 (fun g199=>.pointer (some ⟨(g8 1).1,0,none⟩)) [] 0 1,.q 33 (fun g199=>.pointer (some ⟨(g8 1).1,0,none⟩)) [1] 0 1,.q 34 (fun g199=>.pointer (some ⟨(g8 1).1,0+36,none⟩)) [2] 0 1,.q 35 (fun g199=>.slice p179 i174.f_out.length c180) [3] 0 1,.q 36 (fun g199=>.int .i64 5) [] 0 0,.q 37 (fun g199=>.int .i64 i140) [] 0 0,.q 38 (fun g199=>.agg (Cd.cs Qa (lget ((lget q97.f_c.f_Peers i140).f_Allowed) i173)).toArray) [] 0 0,.q 39 (fun g199=>.agg (Cd.cs Qo ({ { { zv12 with f_Kind:=5 } with f_Peer:=i140 } with f_P:=lget ((lget q97.f_c.f_Peers i140).f_Allowed) i173 })).toArray) [5,6,7] 0 0,.al 0 40 (fun g199=>.slice (some ⟨((g199 0).1),0,none⟩) ([{ { { zv12 with f_Kind:=5 } with f_Peer:=i140 } with f_P:=lget ((lget q97.f_c.f_Peers i140).f_Allowed) i173 }]:List Qq).length 1) [8],.al 1 41 (fun g199=>.slice ((g199 1).2.1) (i174.f_out++[{ { { zv12 with f_Kind:=5 } with f_Peer:=i140 } with f_P:=lget ((lget q97.f_c.f_Peers i140).f_Allowed) i173 }]).length ((g199 1).2.2.1)) [4,9],.q 42 (fun g199=>.pointer (some ⟨(g8 1).1,0,none⟩)) [0] 2 2,.q 43 (fun g199=>.pointer (some ⟨(g8 1).1,0+36,none⟩)) [11] 2 2,.st 2 none [10,12]] (fun g199 s=>match s with | 0=>(Wd w [Qs b192 (Cd.cs Qa (lget ((lget q97.f_c.f_Peers i140).f_Allowed) i173)) 38,Qs b120 [.map (some b119)] 85,mapE b119 Qa cBool false q124,Qs (g8 1).1 (Cd.cs Qx ((gq175,(p177,c178),(p179,c180)),i174)) 63,rowE Qg 49 p177 c178 i174.f_own,rowE Qo 40 p179 c180 i174.f_out]) | 1=>(Wd w [Qs ((g199 0).1) (Qo.all ([{ { { zv12 with f_Kind:=5 } with f_Peer:=i140 } with f_P:=lget ((lget q97.f_c.f_Peers i140).f_Allowed) i173 }]:List Qq)) 40,Qs b192 (Cd.cs Qa (lget ((lget q97.f_c.f_Peers i140).f_Allowed) i173)) 38,Qs b120 [.map (some b119)] 85,mapE b119 Qa cBool false q124,Qs (g8 1).1 (Cd.cs Qx ((gq175,(p177,c178),(p179,c180)),i174)) 63,rowE Qg 49 p177 c178 i174.f_own,rowE Qo 40 p179 c180 i174.f_out]) | 2=>(Wd w [Qs ((g199 0).1) (Qo.all ([{ { { zv12 with f_Kind:=5 } with f_Peer:=i140 } with f_P:=lget ((lget q97.f_c.f_Peers i140).f_Allowed) i173 }]:List Qq)) 40,Qs b192 (Cd.cs Qa (lget ((lget q97.f_c.f_Peers i140).f_Allowed) i173)) 38,Qs b120 [.map (some b119)] 85,mapE b119 Qa cBool false q124,Qs (g8 1).1 (Cd.cs Qx ((gq175,(p177,c178),(p179,c180)),i174)) 63,rowE Qg 49 p177 c178 i174.f_own,rowE Qo 40 ((g199 1).2.1) ((g199 1).2.2.1) (i174.f_out++[{ { { zv12 with f_Kind:=5 } with f_Peer:=i140 } with f_P:=lget ((lget q97.f_c.f_Peers i140).f_Allowed) i173 }])]) | _=>(Wd w [Qs ((g199 0).1) (Qo.all ([{ { { zv12 with f_Kind:=5 } with f_Peer:=i140 } with f_P:=lget ((lget q97.f_c.f_Peers i140).f_Allowed) i173 }]:List Qq)) 40,Qs b192 (Cd.cs Qa (lget ((lget q97.f_c.f_Peers i140).f_Allowed) i173)) 38,Qs b120 [.map (some b119)] 85,mapE b119 Qa cBool false q124,Qs (g8 1).1 (Cd.cs Qx ((gq175,(p177,c178),(((g199 1).2.1),((g199 1).2.2.1))),{ i174 with f_out:=i174.f_out++[{ { { zv12 with f_Kind:=5 } with f_Peer:=i140 } with f_P:=lget ((lget q97.f_c.f_Peers i140).f_Allowed) i173 }] })) 63,rowE Qg 49 p177 c178 i174.f_own,rowE Qo 40 ((g199 1).2.1) ((g199 1).2.2.1) (i174.f_out++[{ { { zv12 with f_Kind:=5 } with f_Peer:=i140 } with f_P:=lget ((lget q97.f_c.f_Peers i140).f_Allowed) i173 }])])) 3 (by kernel_rfl) (by kernel_rfl) (by kernel_rfl) (by kernel_rfl) (by kernel_rfl) ⟨fun _ _ _=>rfl,fun _ _ _=>rfl,fun _ _ _=>rfl,fun _ _ _=>rfl,fun _ _ _=>rfl,fun _ _ _=>rfl,fun _ _ _=>rfl,fun _ _ _=>rfl,fun _ _ _=>rfl,fun g199 g2 h=>by show (.slice (some ⟨((g199 0).1),0,none⟩) ([{ { { zv12 with f_Kind:=5 } with f_Peer:=i140 } with f_P:=lget ((lget q97.f_c.f_Peers i140).f_Allowed) i173 }]:List Qq).length 1:Value)=.slice (some ⟨((g2 0).1),0,none⟩) ([{ { { zv12 with f_Kind:=5 } with f_Peer:=i140 } with f_P:=lget ((lget q97.f_c.f_Peers i140).f_Allowed) i173 }]:List Qq).length 1;rw [h 0 (show 0<1 by decide)],fun g199 g2 h=>by show (.slice ((g199 1).2.1) (i174.f_out++[{ { { zv12 with f_Kind:=5 } with f_Peer:=i140 } with f_P:=lget ((lget q97.f_c.f_Peers i140).f_Allowed) i173 }]).length ((g199 1).2.2.1):Value)=.slice ((g2 1).2.1) (i174.f_out++[{ { { zv12 with f_Kind:=5 } with f_Peer:=i140 } with f_P:=lget ((lget q97.f_c.f_Peers i140).f_Allowed) i173 }]).length ((g2 1).2.2.1);rw [h 1 (show 1<2 by decide)],fun _ _ _=>rfl,fun _ _ _=>rfl,fun _ _ _=>rfl,trivial⟩ (by kernel_rfl) (fun w_ h=>⟨fun _=>g3 0 none 0 none w_,h.drew⟩) ⟨?_,?_,?_,?_,?_,?_,?_,?_,?_,?_,?_,?_,?_,?_,trivial⟩ ?_
        ·intro Lx g199 s K hl hh k
         show At 46 ((0,_)::(1,_)::(2,_)::(6,_)::(9,_)::(14,_)::(15,_)::(16,_)::(22,_)::(23,_)::(24,_)::Lx) _ _
         refine am ?_
         exact Qn k
        ·intro Lx g199 s K hl hh k
         show At 46 ((0,_)::(1,_)::(2,_)::(6,_)::(9,_)::(14,_)::(15,_)::(16,_)::(22,_)::(23,_)::(24,_)::Lx) _ _
         refine am ?_
         exact Qn k
        ·intro Lx g199 s K hl hh k
         show At 46 ((32,_)::(0,_)::(1,_)::(2,_)::(6,_)::(9,_)::(14,_)::(15,_)::(16,_)::(22,_)::(23,_)::(24,_)::Lx) _ _
         refine aw (Qa5 rfl) ?_
         exact Qn k
        ·intro Lx g199 s K hl hh k
         show At 46 ((33,_)::(0,_)::(1,_)::(2,_)::(6,_)::(9,_)::(14,_)::(15,_)::(16,_)::(22,_)::(23,_)::(24,_)::Lx) _ _
         refine fa 36 underlying63 rfl sizeOf30 ?_
         exact Qn k
        ·intro Lx g199 s K hl hh k
         show At 46 ((34,_)::(0,_)::(1,_)::(2,_)::(6,_)::(9,_)::(14,_)::(15,_)::(16,_)::(22,_)::(23,_)::(24,_)::Lx) _ _
         rcases (by omega:s=0∨s=1) with rfl | rfl
         ·skip
          refine aw (Ql isAgg30 rfl (Qr (c:=cHd) (y:=⟨((gq175,(p177,c178),(p179,c180)).2.2).1,List.length i174.f_out,((gq175,(p177,c178),(p179,c180)).2.2).2⟩) (.s (.s (.s .z))) (Qbe (gq175,(p177,c178),(p179,c180)) i174) rfl)) ?_
          exact Qn k
         skip
         refine aw (Ql isAgg30 rfl (Qr (c:=cHd) (y:=⟨((gq175,(p177,c178),(p179,c180)).2.2).1,List.length i174.f_out,((gq175,(p177,c178),(p179,c180)).2.2).2⟩) (.s (.s (.s (.s .z)))) (Qbe (gq175,(p177,c178),(p179,c180)) i174) rfl)) ?_
         exact Qn k
        ·intro Lx g199 s K hl hh k
         show At 46 ((0,_)::(1,_)::(2,_)::(6,_)::(9,_)::(14,_)::(15,_)::(16,_)::(22,_)::(23,_)::(24,_)::Lx) _ _
         refine am ?_
         exact Qn k
        ·intro Lx g199 s K hl hh k
         show At 46 ((0,_)::(1,_)::(2,_)::(6,_)::(9,_)::(14,_)::(15,_)::(16,_)::(22,_)::(23,_)::(24,_)::Lx) _ _
         refine am ?_
         exact Qn k
        ·intro Lx g199 s K hl hh k
         show At 46 ((0,_)::(1,_)::(2,_)::(6,_)::(9,_)::(14,_)::(15,_)::(16,_)::(22,_)::(23,_)::(24,_)::Lx) _ _
         obtain rfl:s=0:=by omega
         refine aw (Qe (c:=Qa) (z:=lget ((lget q97.f_c.f_Peers i140).f_Allowed) i173) isAgg38 sizeOf38 rfl (Qp .z lw)) ?_
         exact Qn k
        ·intro Lx g199 s K hl hh k
         show At 46 ((36,_)::(37,_)::(38,_)::(0,_)::(1,_)::(2,_)::(6,_)::(9,_)::(14,_)::(15,_)::(16,_)::(22,_)::(23,_)::(24,_)::Lx) _ _
         obtain rfl:s=0:=by omega
         refine aw (QW (zs:=Cd.cs Qo zv12) (cs:=Cd.cs Qo ({ { { zv12 with f_Kind:=5 } with f_Peer:=i140 } with f_P:=lget ((lget q97.f_c.f_Peers i140).f_Allowed) i173 })) underlying40 zeroValue40 rfl (QbW) rfl (QI (c:=(cInt .i64)) (z:=5) rfl (Qaa zv12) rfl (QI (c:=(cInt .i64)) (z:=i140) rfl (Qac ({ zv12 with f_Kind:=5 })) rfl (QI (c:=Qa) (z:=lget ((lget q97.f_c.f_Peers i140).f_Allowed) i173) rfl (QaY ({ { zv12 with f_Kind:=5 } with f_Peer:=i140 })) rfl rfl)))) ?_
         exact Qn k
        ·intro Lx g199 K k
         show At 46 ((39,_)::(0,_)::(1,_)::(2,_)::(6,_)::(9,_)::(14,_)::(15,_)::(16,_)::(22,_)::(23,_)::(24,_)::Lx) _ _
         refine Qbu (c:=Qo) ([zv12]:List Qq) ([{ { { zv12 with f_Kind:=5 } with f_Peer:=i140 } with f_P:=lget ((lget q97.f_c.f_Peers i140).f_Allowed) i173 }]:List Qq) underlying30 sizeOf40 zeroValue40 rfl rfl rfl (by kernel_rfl) (QI (c:=Qo) (z:={ { { zv12 with f_Kind:=5 } with f_Peer:=i140 } with f_P:=lget ((lget q97.f_c.f_Peers i140).f_Allowed) i173 }) rfl (Lens.all Qo ([zv12]:List Qq) 0 (by first | decide | exact Nat.le_of_ble_eq_true rfl)) rfl rfl) rfl ?_
         intro b195
         exact Qn (k (g3 b195 none 0 none w))
        ·intro Lx g199 K k
         show At 46 ((35,_)::(40,_)::(0,_)::(1,_)::(2,_)::(6,_)::(9,_)::(14,_)::(15,_)::(16,_)::(22,_)::(23,_)::(24,_)::Lx) _ _
         refine Qax (z:=.agg (Cd.cs Qo zv12).toArray) (c:=Qo) (ys:=([{ { { zv12 with f_Kind:=5 } with f_Peer:=i140 } with f_P:=lget ((lget q97.f_c.f_Peers i140).f_Allowed) i173 }]:List Qq)) (.s (.s (.s (.s (.s (.s .z)))))) underlying30 QfY (by kernel_rfl) (by kernel_rfl) rfl rfl rfl rfl (fun _ hw=>Qaw (hw.ok (Upd.mem .z))) (by kernel_rfl) h196 (Qaj h196) rfl ?_
         intro p197 c198
         exact Qn (k (g3 0 p197 c198 none w))
        ·intro Lx g199 s K hl hh k
         show At 46 ((31,_)::(0,_)::(1,_)::(2,_)::(6,_)::(9,_)::(14,_)::(15,_)::(16,_)::(22,_)::(23,_)::(24,_)::Lx) _ _
         refine aw (Qa5 rfl) ?_
         exact Qn k
        ·intro Lx g199 s K hl hh k
         show At 46 ((42,_)::(0,_)::(1,_)::(2,_)::(6,_)::(9,_)::(14,_)::(15,_)::(16,_)::(22,_)::(23,_)::(24,_)::Lx) _ _
         refine fa 36 underlying63 rfl sizeOf30 ?_
         exact Qn k
        ·intro Lx g199 K k
         show At 46 ((41,_)::(43,_)::(0,_)::(1,_)::(2,_)::(6,_)::(9,_)::(14,_)::(15,_)::(16,_)::(22,_)::(23,_)::(24,_)::Lx) _ _
         refine QX (c:=cSv Qq) (z:=((((g199 1).2.1),((g199 1).2.2.1)),i174.f_out++[{ { { zv12 with f_Kind:=5 } with f_Peer:=i140 } with f_P:=lget ((lget q97.f_c.f_Peers i140).f_Allowed) i173 }])) (.s (.s (.s (.s .z)))) (Qby (gq175,(p177,c178),(p179,c180)) i174) sizeOf30 rfl rfl rfl ?_
         exact Qn k
        intro g199
        show At 46 [(31,_),(32,_),(33,_),(34,_),(35,_),(36,_),(37,_),(38,_),(39,_),(40,_),(41,_),(42,_),(43,_),(0,_),(1,_),(2,_),(6,_),(9,_),(14,_),(15,_),(16,_),(22,_),(23,_),(24,_)] _ _
        refine dz (dz (wq [24,23,22,16,15,14,6,2,1,0] ?_))
        refine bm ?_
        refine qr (aw xa (am (nwq [24,23,22,16,15,14,6,2,1,0] ?_)))
        exact Qm (ih _ _ _ hF K gq175 hk176 p177 c178 (g199 1).2.1 (g199 1).2.2.1) ⟨rfl,rfl,rfl,rfl,rfl,rfl,rfl,rfl,rfl,rfl,trivial⟩
       refine cf h194 ?_
       refine Qaz ?_
       refine bm ?_
       refine qr (aw xa (am (qn (dz (wq [24,23,22,16,15,14,6,2,1,0] ?_)))))
       refine tn ?_
       exact Qm (ih _ _ _ hF K gq175 hk176 p177 c178 p179 c180) ⟨rfl,rfl,rfl,rfl,rfl,rfl,rfl,rfl,rfl,rfl,trivial⟩
      refine cf h187 ?_
      refine Q1 ?_
      refine te (te ?_)
      obtain rfl:=os hF
      exact Qm (K gq175 hk176 p177 c178 p179 c180) ⟨rfl,rfl,rfl,rfl,rfl,rfl,trivial⟩
    skip
    intro gq181 hk182 p183 c184 p185 c186
    refine Qw ?_
    refine bm ?_
    refine qr (aw xa (am (nwq [16,15,14,2,1,0] ?_)))
    exact Qm (ih _ _ _ hF K gq181 hk182 p183 c184 p185 c186) ⟨rfl,rfl,rfl,rfl,rfl,rfl,trivial⟩
   refine cf h154 ?_
   refine Q1 ?_
   refine te (te ?_)
   refine dz (dz ?_)
   obtain rfl:=os hF
   exact Qm (K gq142 hk143 p144 c145 p146 c147) trivial
 skip
 intro gq148 hk149 p150 c151 p152 c153
 refine Qw ?_
 refine at_retI0 rfl ?_
 refine nwx [3] ?_
 refine am (am ?_)
 refine aw (QeO rfl) ?_
 refine QdZ func25 rfl (by kernel_rfl) rfl rfl rfl rfl ?_
 refine sr (am ?_)
 refine aw (Qa5 rfl) ?_
 refine fa 0 underlying63 rfl sizeOf27 (fa 34 underlying27 rfl sizeOf25 ?_)
 refine aw (Ql isAgg25 rfl (Qr (c:=cHd) (y:=⟨gq148.1,List.length q139.f_c.f_Peers,gq148.2⟩) .z (Lens.comp0 (Qa9 (gq148,(p150,c151),(p152,c153)) q139) (QD gq148 q139.f_c)) rfl)) ?_
 refine aw (Q6 underlying25 rfl) ?_
 refine am (nwq [16,15,14,2,1,0] ?_)
 refine qb ?_
 obtain ⟨q206,hq206,hF⟩:=bM hF
 refine wq [16,15,14,2,1,0] ?_
 refine Q5 (B:=0) (A:=fun Y=>∀ (gq215:G_api_Conf) (hk216:N_api_Conf w (gq215,q206.f_c)) (p217:Option Addr) (c218:Nat) (p219:Option Addr) (c220:Nat),At 46 [] (Wd w [Qs (g8 1).1 (Cd.cs Qx ((gq215,(p217,c218),(p219,c220)),q206)) 63,rowE Qg 49 p217 c218 q206.f_own,rowE Qo 40 p219 c220 q206.f_out]) Y) ?_ ?_
 ·intro K
  refine QB.l6.partial_correctness q139 (motive:=fun i207 i208 x=>KN (fun Y=>∀ (gq215:G_api_Conf) (hk216:N_api_Conf w (gq215,x.f_c)) (p217:Option Addr) (c218:Nat) (p219:Option Addr) (c220:Nat),At 46 [] (Wd w [Qs (g8 1).1 (Cd.cs Qx ((gq215,(p217,c218),(p219,c220)),x)) 63,rowE Qg 49 p217 c218 x.f_own,rowE Qo 40 p219 c220 x.f_out]) Y) _ 0→Round (fun Y=>∀ (gq209:G_api_Conf) (hk210:N_api_Conf w (gq209,i208.f_c)) (p211:Option Addr) (c212:Nat) (p213:Option Addr) (c214:Nat),At 46 [(0,.pointer (some ⟨(g8 1).1,0,none⟩)),(1,.int .i64 6),(2,.func (.func 27) #[.pointer (some ⟨(g8 1).1,0,none⟩)] #[]),(14,.slice gq148.1 q139.f_c.f_Peers.length gq148.2),(15,.int .i64 (q139.f_c.f_Peers.length:Int)),(16,.int .i64 i207)] (Wd w [Qs (g8 1).1 (Cd.cs Qx ((gq209,(p211,c212),(p213,c214)),i208)) 63,rowE Qg 49 p211 c212 i208.f_own,rowE Qo 40 p213 c214 i208.f_out]) Y) _ _ _) ?_ _ _ _ hq206 K gq148 hk149 p150 c151 p152 c153
  ·clear K hF
   intro g ih i207 i208 x hF K gq209 hk210 p211 c212 p213 c214
   refine QS ?_
   refine sr (aw xl (nwq [17,16,15,14,2,1,0] ?_))
   refine qs ?_
   obtain ⟨h221,hF⟩|⟨h221,hF⟩:=oi hF
   ·refine ct h221 ?_
    refine sn (qs ?_)
    refine qb ?_
    refine sr (am ?_)
    obtain ⟨h222,hF⟩:=gd hF
    obtain ⟨zs226,hz227,hr228,hn229⟩:=id hk149
    obtain ⟨b224,o225,hp223⟩:=QR hr228 (zidx hz227 h222)
    obtain ⟨g230,hg231⟩:=zget hz227 i207
    refine aw (r_idx underlying25 sizeOf60 rfl rfl h222 hp223) ?_
    refine aw (Qe (c:=QT) (z:=(g230,lget q139.f_c.f_Peers i207)) isAgg60 sizeOf60 rfl (ncell (fun _ h=>h.below) hr228 (zidx hz227 h222) hp223 hg231)) ?_
    refine al (cs:=Cd.cs QT zv14) zeroValue60 ?_
    intro b232
    refine aa ?_
    refine QX (c:=QT) (z:=(g230,lget q139.f_c.f_Peers i207)) .z lw sizeOf60 rfl rfl rfl ?_
    refine ns (fa 85 underlying60 rfl sizeOf58 ?_)
    refine aw (Ql isAgg58 rfl (Qr (c:=cHd) (y:=⟨g230.1,List.length ((lget q139.f_c.f_Peers i207).f_Allowed),g230.2⟩) .z (QaE g230 (lget q139.f_c.f_Peers i207)) rfl)) ?_
    refine aw (Q6 underlying58 rfl) ?_
    refine am (qn (dz (wq [24,23,22,16,15,14,6,2,1,0] ?_)))
    refine tn ?_
    refine qb ?_
    obtain ⟨q239,hq239,hF⟩:=bM hF
    refine wq [24,23,22,16,15,14,6,2,1,0] ?_
    refine Q5 (B:=2) (A:=fun Y=>∀ (gq248:G_api_Conf) (hk249:N_api_Conf w (gq248,q239.f_c)) (p250:Option Addr) (c251:Nat) (p252:Option Addr) (c253:Nat),At 46 [(0,.pointer (some ⟨(g8 1).1,0,none⟩)),(1,.int .i64 6),(2,.func (.func 27) #[.pointer (some ⟨(g8 1).1,0,none⟩)] #[]),(14,.slice gq148.1 q139.f_c.f_Peers.length gq148.2),(15,.int .i64 (q139.f_c.f_Peers.length:Int)),(16,.int .i64 i207)] (Wd w [Qs (g8 1).1 (Cd.cs Qx ((gq248,(p250,c251),(p252,c253)),q239)) 63,rowE Qg 49 p250 c251 q239.f_own,rowE Qo 40 p252 c253 q239.f_out]) Y) ?_ ?_
    ·intro K
     refine QB.l7.partial_correctness q139 i207 (motive:=fun i240 i241 x=>KN (fun Y=>∀ (gq248:G_api_Conf) (hk249:N_api_Conf w (gq248,x.f_c)) (p250:Option Addr) (c251:Nat) (p252:Option Addr) (c253:Nat),At 46 [(0,.pointer (some ⟨(g8 1).1,0,none⟩)),(1,.int .i64 6),(2,.func (.func 27) #[.pointer (some ⟨(g8 1).1,0,none⟩)] #[]),(14,.slice gq148.1 q139.f_c.f_Peers.length gq148.2),(15,.int .i64 (q139.f_c.f_Peers.length:Int)),(16,.int .i64 i207)] (Wd w [Qs (g8 1).1 (Cd.cs Qx ((gq248,(p250,c251),(p252,c253)),x)) 63,rowE Qg 49 p250 c251 x.f_own,rowE Qo 40 p252 c253 x.f_out]) Y) _ 2→Round (fun Y=>∀ (gq242:G_api_Conf) (hk243:N_api_Conf w (gq242,i241.f_c)) (p244:Option Addr) (c245:Nat) (p246:Option Addr) (c247:Nat),At 46 [(0,.pointer (some ⟨(g8 1).1,0,none⟩)),(1,.int .i64 6),(2,.func (.func 27) #[.pointer (some ⟨(g8 1).1,0,none⟩)] #[]),(6,.int .i64 i207),(14,.slice gq148.1 q139.f_c.f_Peers.length gq148.2),(15,.int .i64 (q139.f_c.f_Peers.length:Int)),(16,.int .i64 i207),(22,.slice g230.1 ((lget q139.f_c.f_Peers i207).f_Allowed).length g230.2),(23,.int .i64 (((lget q139.f_c.f_Peers i207).f_Allowed).length:Int)),(24,.int .i64 i240)] (Wd w [Qs (g8 1).1 (Cd.cs Qx ((gq242,(p244,c245),(p246,c247)),i241)) 63,rowE Qg 49 p244 c245 i241.f_own,rowE Qo 40 p246 c247 i241.f_out]) Y) _ _ _) ?_ _ _ _ hq239 K gq209 hk210 p211 c212 p213 c214
     ·clear K hF
      intro g ih i240 i241 x hF K gq242 hk243 p244 c245 p246 c247
      refine QS ?_
      refine sr (aw xl (nwq [25,24,23,22,16,15,14,6,2,1,0] ?_))
      refine qs ?_
      obtain ⟨h254,hF⟩|⟨h254,hF⟩:=oi hF
      ·refine ct h254 ?_
       refine sn (qs ?_)
       refine qb ?_
       refine sr ?_
       obtain ⟨h255,hF⟩:=gd hF
       obtain ⟨b257,o258,hp256⟩:=QR (nz hg231 hn229 (zidx hz227 h222)) h255
       refine aw (r_idx underlying58 sizeOf38 rfl rfl h255 hp256) ?_
       refine aw (Qe (c:=Qa) (z:=lget ((lget q139.f_c.f_Peers i207).f_Allowed) i240) isAgg38 sizeOf38 rfl (QaF (fun _ h=>h.below) (nz hg231 hn229 (zidx hz227 h222)) h255 hp256)) ?_
       refine al (cs:=Cd.cs Qa zv9) zeroValue38 ?_
       intro b259
       refine QX (c:=Qa) (z:=lget ((lget q139.f_c.f_Peers i207).f_Allowed) i240) .z lw sizeOf38 rfl rfl rfl ?_
       refine nwx [24,23,22,16,15,14,9,6,2,1,0] ?_
       refine am ?_
       refine aw (Qe (c:=Qa) (z:=lget ((lget q139.f_c.f_Peers i207).f_Allowed) i240) isAgg38 sizeOf38 rfl (Qp .z lw)) ?_
       refine Qf6 (bnds:=[.pointer (some ⟨(g8 1).1,0,none⟩)]) rfl ?_
       refine QdZ func27 rfl (by kernel_rfl) rfl rfl rfl rfl ?_
       refine sr ?_
       refine Qag (cs:=Cd.cs Qa (lget ((lget q139.f_c.f_Peers i207).f_Allowed) i240)) rfl rfl rfl ?_
       intro b260
       refine aa (ns (aa (nt (qs (sr (am ?_))))))
       refine aw (Qa5 rfl) ?_
       refine fa 35 underlying63 rfl sizeOf46 ?_
       refine aw (Ql isAgg46 rfl (Qr (c:=cHd) (y:=⟨((gq242,(p244,c245),(p246,c247)).2.1).1,List.length i241.f_own,((gq242,(p244,c245),(p246,c247)).2.1).2⟩) (.s (.s .z)) (Qc5 (gq242,(p244,c245),(p246,c247)) i241) rfl)) ?_
       refine aw (Q6 underlying46 rfl) ?_
       refine am (nwq [14,13,12,5,3] ?_)
       refine qb ?_
       refine Qbd Qa 38 ?_
       obtain ⟨q263,hq263,hF⟩:=bM hF
       refine wq [14,13,12,5,3] ?_
       refine Q5 (B:=0) (A:=fun Y=>∀ (p268:Option Addr) (c269:Nat),At 48 [(3,.pointer (some ⟨b260,0,none⟩)),(5,.slice p268 q263.length c269)] (Wd w [rowE Qa 38 p268 c269 q263,Qs b260 (Cd.cs Qa (lget ((lget q139.f_c.f_Peers i207).f_Allowed) i240)) 38,Qs b259 (Cd.cs Qa (lget ((lget q139.f_c.f_Peers i207).f_Allowed) i240)) 38,Qs (g8 1).1 (Cd.cs Qx ((gq242,(p244,c245),(p246,c247)),i241)) 63,rowE Qg 49 p244 c245 i241.f_own,rowE Qo 40 p246 c247 i241.f_out]) Y) ?_ ?_
       ·intro K
        refine QB.l8.partial_correctness q139 i207 i240 i241 (motive:=fun i264 i265 x=>KN (fun Y=>∀ (p268:Option Addr) (c269:Nat),At 48 [(3,.pointer (some ⟨b260,0,none⟩)),(5,.slice p268 x.length c269)] (Wd w [rowE Qa 38 p268 c269 x,Qs b260 (Cd.cs Qa (lget ((lget q139.f_c.f_Peers i207).f_Allowed) i240)) 38,Qs b259 (Cd.cs Qa (lget ((lget q139.f_c.f_Peers i207).f_Allowed) i240)) 38,Qs (g8 1).1 (Cd.cs Qx ((gq242,(p244,c245),(p246,c247)),i241)) 63,rowE Qg 49 p244 c245 i241.f_own,rowE Qo 40 p246 c247 i241.f_out]) Y) _ 0→Round (fun Y=>∀ (p266:Option Addr) (c267:Nat),At 48 [(3,.pointer (some ⟨b260,0,none⟩)),(5,.slice p266 i264.length c267),(12,.slice p244 i241.f_own.length c245),(13,.int .i64 (i241.f_own.length:Int)),(14,.int .i64 i265)] (Wd w [rowE Qa 38 p266 c267 i264,Qs b260 (Cd.cs Qa (lget ((lget q139.f_c.f_Peers i207).f_Allowed) i240)) 38,Qs b259 (Cd.cs Qa (lget ((lget q139.f_c.f_Peers i207).f_Allowed) i240)) 38,Qs (g8 1).1 (Cd.cs Qx ((gq242,(p244,c245),(p246,c247)),i241)) 63,rowE Qg 49 p244 c245 i241.f_own,rowE Qo 40 p246 c247 i241.f_out]) Y) _ _ _) ?_ _ _ _ hq263 K none 0
        ·clear K hF
         intro g ih i264 i265 x hF K p266 c267
         refine QS ?_
         refine sr (aw xl (nwq [15,14,13,12,5,3] ?_))
         refine qs ?_
         obtain ⟨h270,hF⟩|⟨h270,hF⟩:=oi hF
         ·refine ct h270 ?_
          refine sn (qs ?_)
          refine qb ?_
          refine sr ?_
          obtain ⟨h271,hF⟩:=gd hF
          refine QaU (φ:=∃ b o,p244=some ⟨b,o,none⟩) (fun _ hw=>QR (hw.own (.s (.s (.s (.s .z))))).row h271) ?_
          rintro ⟨b273,o274,hp272⟩
          refine aw (r_idx underlying46 sizeOf49 rfl rfl h271 hp272) ?_
          refine aw (Qe (c:=Qg) (z:=lget i241.f_own i265) isAgg49 sizeOf49 rfl (fun w1 hw=>QaF (W:=fun w1=>w1=_) (fun w1 h=>by subst h;exact Below.refl _ _) (hw.own (.s (.s (.s (.s .z))))).row h271 hp272 _ rfl)) ?_
          refine al (cs:=Cd.cs Qg zv13) zeroValue49 ?_
          intro b275
          refine QX (c:=Qg) (z:=lget i241.f_own i265) .z lw sizeOf49 rfl rfl rfl ?_
          refine nwx [14,13,12,7,5,3] ?_
          refine fa 0 underlying49 rfl sizeOf38 (fa 17 underlying38 rfl sizeOf3 ?_)
          refine aw (Ql isAgg3 rfl (Qr (c:=(cInt .i64)) (y:=((lget i241.f_own i265).f_P).f_Bits) .z (Lens.comp (Lens.comp lw (fun z=>{ lget i241.f_own i265 with f_P:=z }) (QQ (lget i241.f_own i265))) (fun z=>{ (lget i241.f_own i265).f_P with f_Bits:=z }) (QE ((lget i241.f_own i265).f_P))) rfl)) ?_
          refine fa 17 underlying38 rfl sizeOf3 ?_
          refine aw (Ql isAgg3 rfl (Qr (c:=(cInt .i64)) (y:=(lget ((lget q139.f_c.f_Peers i207).f_Allowed) i240).f_Bits) (.s (.s .z)) (Lens.comp lw (fun z=>{ lget ((lget q139.f_c.f_Peers i207).f_Allowed) i240 with f_Bits:=z }) (QE (lget ((lget q139.f_c.f_Peers i207).f_Allowed) i240))) rfl)) ?_
          refine aw (QcK rfl rfl) ?_
          refine am ?_
          obtain ⟨h276,hF⟩|⟨h276,hF⟩:=oi hF
          ·refine fx 24 h276 ?_
           refine gy ?_
           refine aw (Qe (c:=Qa) (z:=lget ((lget q139.f_c.f_Peers i207).f_Allowed) i240) isAgg38 sizeOf38 rfl (Qp (.s (.s .z)) lw)) ?_
           refine gy ?_
           refine fa 0 underlying49 rfl sizeOf38 ?_
           refine gy ?_
           refine aw (Qe (c:=Qa) (z:=(lget i241.f_own i265).f_P) isAgg38 sizeOf38 rfl (Qp .z (Lens.comp lw (fun z=>{ lget i241.f_own i265 with f_P:=z }) (QQ (lget i241.f_own i265))))) ?_
           refine gy ?_
           obtain ⟨t277,ht277,hF⟩:=bM hF
           refine cB func49 rfl (fun w hw=>Qgl _ _ _ ht277 w) ?_
           refine aw xp (nwq [29,14,13,12,7,5,3] ?_)
           obtain ⟨h278,hF⟩|⟨h278,hF⟩:=oi hF
           ·refine ct h278 ?_
            refine qr (am (fa 0 underlying49 rfl sizeOf38 ?_))
            refine aw (Qe (c:=Qa) (z:=(lget i241.f_own i265).f_P) isAgg38 sizeOf38 rfl (Qp .z (Lens.comp lw (fun z=>{ lget i241.f_own i265 with f_P:=z }) (QQ (lget i241.f_own i265))))) ?_
            refine Qbu (c:=Qa) ([zv9]:List Qc) ([(lget i241.f_own i265).f_P]:List Qc) underlying58 sizeOf38 zeroValue38 rfl rfl rfl (by kernel_rfl) (QI (c:=Qa) (z:=(lget i241.f_own i265).f_P) rfl (Lens.all Qa ([zv9]:List Qc) 0 (by first | decide | exact Nat.le_of_ble_eq_true rfl)) rfl rfl) rfl ?_
            intro b279
            obtain ⟨h280,hF⟩:=gd hF
            refine Qax (z:=.agg (Cd.cs Qa zv9).toArray) (c:=Qa) (ys:=([(lget i241.f_own i265).f_P]:List Qc)) (.s (.s .z)) underlying58 infoV538 (by kernel_rfl) (by kernel_rfl) rfl rfl rfl rfl (fun _ hw=>Qaw (hw.ok (Upd.mem .z))) (by kernel_rfl) h280 (Qaj h280) rfl ?_
            intro p281 c282
            refine aa (qn (dz (dz (wq [14,13,12,5,3] ?_))))
            refine bm ?_
            refine qr (aw xa (am (nwq [14,13,12,5,3] ?_)))
            exact Qm (ih _ _ _ hF K p281 c282) ⟨rfl,rfl,rfl,rfl,rfl,trivial⟩
           refine cf h278 ?_
           refine Qaz ?_
           refine bm ?_
           refine qr (aw xa (am (qn (dz (wq [14,13,12,5,3] ?_)))))
           refine tn ?_
           exact Qm (ih _ _ _ hF K p266 c267) ⟨rfl,rfl,rfl,rfl,rfl,trivial⟩
          refine fx 24 h276 ?_
          refine gn ?_
          refine gn ?_
          refine gn ?_
          refine gn ?_
          refine aw xp (nwq [29,14,13,12,7,5,3] ?_)
          refine cf rfl ?_
          refine Qaz ?_
          refine bm ?_
          refine qr (aw xa (am (qn (dz (wq [14,13,12,5,3] ?_)))))
          refine tn ?_
          exact Qm (ih _ _ _ hF K p266 c267) ⟨rfl,rfl,rfl,rfl,rfl,trivial⟩
         refine cf h270 ?_
         refine Q1 ?_
         refine te (te ?_)
         obtain rfl:=os hF
         exact Qm (K p266 c267) ⟨rfl,rfl,trivial⟩
       skip
       intro p268 c269
       refine Qw ?_
       refine tn (sr (am ?_))
       obtain ⟨t283,ht283,hF⟩:=bM hF
       refine Qca (c:=Qa) (e:=38) (ys:=t283) (V:=fun p cap=>.slice p t283.length cap) func50 rfl (by kernel_rfl) rfl rfl (fun w hw=>aggregate_Cover_ok _ _ _ _ ht283 w (hw.own .z).row) ?_
       intro p284 c285
       refine aa (qn ?_)
       refine Qal (H:=_) (.s .z) ?_
       refine tn (qs (wq [8,3] ?_))
       obtain ⟨h286,hF⟩|⟨h286,hF⟩:=oi hF
       ·skip
        obtain ⟨h287,hF⟩:=gd hF
        refine QaU (φ:=∃ b o,p284=some ⟨b,o,none⟩) (fun _ hw=>QR (hw.own .z).row h287) ?_
        rintro ⟨b289,o290,hp288⟩
        refine Qcv [.q 38 (fun g291=>.slice p284 t283.length c285) [] 0 0,.q 39 (fun g291=>.int .i64 (t283.length:Int)) [0] 0 0,.q 40 (fun g291=>.bool ((t283.length:Int)==1)) [1] 0 0,.q 41 (fun g291=>.bool true) [2] 0 0,.q 42 (fun g291=>.slice p284 t283.length c285) [3] 0 0,.q 43 (fun g291=>.pointer (some ⟨b289,o290+Int.toNat 0*18,none⟩)) [3,4] 0 0,.q 44 (fun g291=>.agg (Cd.cs Qa (lget t283 0)).toArray) [3,5] 0 0,.q 45 (fun g291=>.agg (Cd.cs Qa (lget ((lget q139.f_c.f_Peers i207).f_Allowed) i240)).toArray) [3] 0 0,.q 46 (fun g291=>.bool (decide (lget t283 0=lget ((lget q139.f_c.f_Peers i207).f_Allowed) i240))) [3,6,7] 0 0,.q 47 (fun g291=>.bool (decide (lget t283 0=lget ((lget q139.f_c.f_Peers i207).f_Allowed) i240))) [3,8] 0 0,.q 4 (fun g291=>.bool (decide (lget t283 0=lget ((lget q139.f_c.f_Peers i207).f_Allowed) i240))) [9] 0 0] (fun g291 s=>match s with | _=>(Wd w [rowE Qa 38 p284 c285 t283,Qs b260 (Cd.cs Qa (lget ((lget q139.f_c.f_Peers i207).f_Allowed) i240)) 38,Qs b259 (Cd.cs Qa (lget ((lget q139.f_c.f_Peers i207).f_Allowed) i240)) 38,Qs (g8 1).1 (Cd.cs Qx ((gq242,(p244,c245),(p246,c247)),i241)) 63,rowE Qg 49 p244 c245 i241.f_own,rowE Qo 40 p246 c247 i241.f_out])) 0 (by kernel_rfl) (by kernel_rfl) (by kernel_rfl) (by kernel_rfl) (by kernel_rfl) ⟨fun _ _ _=>rfl,fun _ _ _=>rfl,fun _ _ _=>rfl,fun _ _ _=>rfl,fun _ _ _=>rfl,fun _ _ _=>rfl,fun _ _ _=>rfl,fun _ _ _=>rfl,fun _ _ _=>rfl,fun _ _ _=>rfl,fun _ _ _=>rfl,trivial⟩ (by kernel_rfl) (fun w_ h=>⟨fun _=>g3 0 none 0 none w_,h.drew⟩) ⟨?_,?_,?_,?_,?_,?_,?_,?_,?_,?_,?_,trivial⟩ ?_
        ·intro Lx g291 s K hl hh k
         show At 48 ((3,_)::(8,_)::Lx) _ _
         refine am ?_
         exact Qn k
        ·intro Lx g291 s K hl hh k
         show At 48 ((38,_)::(3,_)::(8,_)::Lx) _ _
         obtain rfl:s=0:=by omega
         refine aw (Q6 underlying58 rfl) ?_
         exact Qn k
        ·intro Lx g291 s K hl hh k
         show At 48 ((39,_)::(3,_)::(8,_)::Lx) _ _
         refine aw xq ?_
         exact Qn k
        ·intro Lx g291 s K hl hh k
         show At 48 ((40,_)::(3,_)::(8,_)::Lx) _ _
         refine am ?_
         exact Qn (QcH h286 k)
        ·intro Lx g291 s K hl hh k
         show At 48 ((41,_)::(3,_)::(8,_)::Lx) _ _
         refine gy ?_
         refine am ?_
         exact Qn k
        ·intro Lx g291 s K hl hh k
         show At 48 ((41,_)::(42,_)::(3,_)::(8,_)::Lx) _ _
         refine gy ?_
         refine aw (r_idx underlying58 sizeOf38 rfl rfl h287 hp288) ?_
         exact Qn k
        ·intro Lx g291 s K hl hh k
         show At 48 ((41,_)::(43,_)::(3,_)::(8,_)::Lx) _ _
         refine gy ?_
         obtain rfl:s=0:=by omega
         refine aw (Qe (c:=Qa) (z:=lget t283 0) isAgg38 sizeOf38 rfl (fun w1 hw=>QaF (W:=fun w1=>w1=_) (fun w1 h=>by subst h;exact Below.refl _ _) (hw.own .z).row h287 hp288 _ rfl)) ?_
         exact Qn k
        ·intro Lx g291 s K hl hh k
         show At 48 ((41,_)::(3,_)::(8,_)::Lx) _ _
         refine gy ?_
         obtain rfl:s=0:=by omega
         refine aw (Qe (c:=Qa) (z:=lget ((lget q139.f_c.f_Peers i207).f_Allowed) i240) isAgg38 sizeOf38 rfl (Qp (.s .z) lw)) ?_
         exact Qn k
        ·intro Lx g291 s K hl hh k
         show At 48 ((41,_)::(44,_)::(45,_)::(3,_)::(8,_)::Lx) _ _
         refine gy ?_
         refine aw (Qbz (c:=Qa) (a:=lget t283 0) (b:=lget ((lget q139.f_c.f_Peers i207).f_Allowed) i240) (Qap) rfl Tryz.eqGuardType38 rfl rfl (.inl rfl) rfl) ?_
         exact Qn k
        ·intro Lx g291 s K hl hh k
         show At 48 ((41,_)::(46,_)::(3,_)::(8,_)::Lx) _ _
         refine aw xp ?_
         exact Qn k
        ·intro Lx g291 s K hl hh k
         show At 48 ((47,_)::(3,_)::(8,_)::Lx) _ _
         refine aa ?_
         exact Qn k
        intro g291
        show At 48 [(38,_),(39,_),(40,_),(41,_),(42,_),(43,_),(44,_),(45,_),(46,_),(47,_),(4,_),(3,_),(8,_)] _ _
        refine dz (dz (wq [4] ?_))
        refine tn (qt ?_)
        refine at_retI1 rfl rfl ?_
        refine nwq [30,24,23,22,16,15,14,9,6,2,1,0] ?_
        obtain ⟨h292,hF⟩|⟨h292,hF⟩:=oi hF
        ·refine ct h292 ?_
         refine wq [24,23,22,16,15,14,9,6,2,1,0] ?_
         obtain ⟨h294,hF⟩:=gd hF
         refine Qcv [.q 31 (fun g297=>.pointer (some ⟨(g8 1).1,0,none⟩)) [] 0 2,.q 32 (fun g297=>.pointer (some ⟨(g8 1).1,0,none⟩)) [] 0 1,.q 33 (fun g297=>.pointer (some ⟨(g8 1).1,0,none⟩)) [1] 0 1,.q 34 (fun g297=>.pointer (some ⟨(g8 1).1,0+36,none⟩)) [2] 0 1,.q 35 (fun g297=>.slice p246 i241.f_out.length c247) [3] 0 1,.q 36 (fun g297=>.int .i64 6) [] 0 0,.q 37 (fun g297=>.int .i64 i207) [] 0 0,.q 38 (fun g297=>.agg (Cd.cs Qa (lget ((lget q139.f_c.f_Peers i207).f_Allowed) i240)).toArray) [] 0 0,.q 39 (fun g297=>.agg (Cd.cs Qo ({ { { zv12 with f_Kind:=6 } with f_Peer:=i207 } with f_P:=lget ((lget q139.f_c.f_Peers i207).f_Allowed) i240 })).toArray) [5,6,7] 0 0,.al 0 40 (fun g297=>.slice (some ⟨((g297 0).1),0,none⟩) ([{ { { zv12 with f_Kind:=6 } with f_Peer:=i207 } with f_P:=lget ((lget q139.f_c.f_Peers i207).f_Allowed) i240 }]:List Qq).length 1) [8],.al 1 41 (fun g297=>.slice ((g297 1).2.1) (i241.f_out++[{ { { zv12 with f_Kind:=6 } with f_Peer:=i207 } with f_P:=lget ((lget q139.f_c.f_Peers i207).f_Allowed) i240 }]).length ((g297 1).2.2.1)) [4,9],.q 42 (fun g297=>.pointer (some ⟨(g8 1).1,0,none⟩)) [0] 2 2,.q 43 (fun g297=>.pointer (some ⟨(g8 1).1,0+36,none⟩)) [11] 2 2,.st 2 none [10,12]] (fun g297 s=>match s with | 0=>(Wd w [Qs b259 (Cd.cs Qa (lget ((lget q139.f_c.f_Peers i207).f_Allowed) i240)) 38,Qs (g8 1).1 (Cd.cs Qx ((gq242,(p244,c245),(p246,c247)),i241)) 63,rowE Qg 49 p244 c245 i241.f_own,rowE Qo 40 p246 c247 i241.f_out]) | 1=>(Wd w [Qs ((g297 0).1) (Qo.all ([{ { { zv12 with f_Kind:=6 } with f_Peer:=i207 } with f_P:=lget ((lget q139.f_c.f_Peers i207).f_Allowed) i240 }]:List Qq)) 40,Qs b259 (Cd.cs Qa (lget ((lget q139.f_c.f_Peers i207).f_Allowed) i240)) 38,Qs (g8 1).1 (Cd.cs Qx ((gq242,(p244,c245),(p246,c247)),i241)) 63,rowE Qg 49 p244 c245 i241.f_own,rowE Qo 40 p246 c247 i241.f_out]) | 2=>(Wd w [Qs ((g297 0).1) (Qo.all ([{ { { zv12 with f_Kind:=6 } with f_Peer:=i207 } with f_P:=lget ((lget q139.f_c.f_Peers i207).f_Allowed) i240 }]:List Qq)) 40,Qs b259 (Cd.cs Qa (lget ((lget q139.f_c.f_Peers i207).f_Allowed) i240)) 38,Qs (g8 1).1 (Cd.cs Qx ((gq242,(p244,c245),(p246,c247)),i241)) 63,rowE Qg 49 p244 c245 i241.f_own,rowE Qo 40 ((g297 1).2.1) ((g297 1).2.2.1) (i241.f_out++[{ { { zv12 with f_Kind:=6 } with f_Peer:=i207 } with f_P:=lget ((lget q139.f_c.f_Peers i207).f_Allowed) i240 }])]) | _=>(Wd w [Qs ((g297 0).1) (Qo.all ([{ { { zv12 with f_Kind:=6 } with f_Peer:=i207 } with f_P:=lget ((lget q139.f_c.f_Peers i207).f_Allowed) i240 }]:List Qq)) 40,Qs b259 (Cd.cs Qa (lget ((lget q139.f_c.f_Peers i207).f_Allowed) i240)) 38,Qs (g8 1).1 (Cd.cs Qx ((gq242,(p244,c245),(((g297 1).2.1),((g297 1).2.2.1))),{ i241 with f_out:=i241.f_out++[{ { { zv12 with f_Kind:=6 } with f_Peer:=i207 } with f_P:=lget ((lget q139.f_c.f_Peers i207).f_Allowed) i240 }] })) 63,rowE Qg 49 p244 c245 i241.f_own,rowE Qo 40 ((g297 1).2.1) ((g297 1).2.2.1) (i241.f_out++[{ { { zv12 with f_Kind:=6 } with f_Peer:=i207 } with f_P:=lget ((lget q139.f_c.f_Peers i207).f_Allowed) i240 }])])) 3 (by kernel_rfl) (by kernel_rfl) (by kernel_rfl) (by kernel_rfl) (by kernel_rfl) ⟨fun _ _ _=>rfl,fun _ _ _=>rfl,fun _ _ _=>rfl,fun _ _ _=>rfl,fun _ _ _=>rfl,fun _ _ _=>rfl,fun _ _ _=>rfl,fun _ _ _=>rfl,fun _ _ _=>rfl,fun g297 g2 h=>by show (.slice (some ⟨((g297 0).1),0,none⟩) ([{ { { zv12 with f_Kind:=6 } with f_Peer:=i207 } with f_P:=lget ((lget q139.f_c.f_Peers i207).f_Allowed) i240 }]:List Qq).length 1:Value)=.slice (some ⟨((g2 0).1),0,none⟩) ([{ { { zv12 with f_Kind:=6 } with f_Peer:=i207 } with f_P:=lget ((lget q139.f_c.f_Peers i207).f_Allowed) i240 }]:List Qq).length 1;rw [h 0 (show 0<1 by decide)],fun g297 g2 h=>by show (.slice ((g297 1).2.1) (i241.f_out++[{ { { zv12 with f_Kind:=6 } with f_Peer:=i207 } with f_P:=lget ((lget q139.f_c.f_Peers i207).f_Allowed) i240 }]).length ((g297 1).2.2.1):Value)=.slice ((g2 1).2.1) (i241.f_out++[{ { { zv12 with f_Kind:=6 } with f_Peer:=i207 } with f_P:=lget ((lget q139.f_c.f_Peers i207).f_Allowed) i240 }]).length ((g2 1).2.2.1);rw [h 1 (show 1<2 by decide)],fun _ _ _=>rfl,fun _ _ _=>rfl,fun _ _ _=>rfl,trivial⟩ (by kernel_rfl) (fun w_ h=>⟨fun _=>g3 0 none 0 none w_,h.drew⟩) ⟨?_,?_,?_,?_,?_,?_,?_,?_,?_,?_,?_,?_,?_,?_,trivial⟩ ?_
         ·intro Lx g297 s K hl hh k
          show At 46 ((0,_)::(1,_)::(2,_)::(6,_)::(9,_)::(14,_)::(15,_)::(16,_)::(22,_)::(23,_)::(24,_)::Lx) _ _
          refine am ?_
          exact Qn k
         ·intro Lx g297 s K hl hh k
          show At 46 ((0,_)::(1,_)::(2,_)::(6,_)::(9,_)::(14,_)::(15,_)::(16,_)::(22,_)::(23,_)::(24,_)::Lx) _ _
          refine am ?_
          exact Qn k
         ·intro Lx g297 s K hl hh k
          show At 46 ((32,_)::(0,_)::(1,_)::(2,_)::(6,_)::(9,_)::(14,_)::(15,_)::(16,_)::(22,_)::(23,_)::(24,_)::Lx) _ _
          refine aw (Qa5 rfl) ?_
          exact Qn k
         ·intro Lx g297 s K hl hh k
          show At 46 ((33,_)::(0,_)::(1,_)::(2,_)::(6,_)::(9,_)::(14,_)::(15,_)::(16,_)::(22,_)::(23,_)::(24,_)::Lx) _ _
          refine fa 36 underlying63 rfl sizeOf30 ?_
          exact Qn k
         ·intro Lx g297 s K hl hh k
          show At 46 ((34,_)::(0,_)::(1,_)::(2,_)::(6,_)::(9,_)::(14,_)::(15,_)::(16,_)::(22,_)::(23,_)::(24,_)::Lx) _ _
          rcases (by omega:s=0∨s=1) with rfl | rfl
          ·skip
           refine aw (Ql isAgg30 rfl (Qr (c:=cHd) (y:=⟨((gq242,(p244,c245),(p246,c247)).2.2).1,List.length i241.f_out,((gq242,(p244,c245),(p246,c247)).2.2).2⟩) (.s .z) (Qbe (gq242,(p244,c245),(p246,c247)) i241) rfl)) ?_
           exact Qn k
          skip
          refine aw (Ql isAgg30 rfl (Qr (c:=cHd) (y:=⟨((gq242,(p244,c245),(p246,c247)).2.2).1,List.length i241.f_out,((gq242,(p244,c245),(p246,c247)).2.2).2⟩) (.s (.s .z)) (Qbe (gq242,(p244,c245),(p246,c247)) i241) rfl)) ?_
          exact Qn k
         ·intro Lx g297 s K hl hh k
          show At 46 ((0,_)::(1,_)::(2,_)::(6,_)::(9,_)::(14,_)::(15,_)::(16,_)::(22,_)::(23,_)::(24,_)::Lx) _ _
          refine am ?_
          exact Qn k
         ·intro Lx g297 s K hl hh k
          show At 46 ((0,_)::(1,_)::(2,_)::(6,_)::(9,_)::(14,_)::(15,_)::(16,_)::(22,_)::(23,_)::(24,_)::Lx) _ _
          refine am ?_
          exact Qn k
         ·intro Lx g297 s K hl hh k
          show At 46 ((0,_)::(1,_)::(2,_)::(6,_)::(9,_)::(14,_)::(15,_)::(16,_)::(22,_)::(23,_)::(24,_)::Lx) _ _
          obtain rfl:s=0:=by omega
          refine aw (Qe (c:=Qa) (z:=lget ((lget q139.f_c.f_Peers i207).f_Allowed) i240) isAgg38 sizeOf38 rfl (Qp .z lw)) ?_
          exact Qn k
         ·intro Lx g297 s K hl hh k
          show At 46 ((36,_)::(37,_)::(38,_)::(0,_)::(1,_)::(2,_)::(6,_)::(9,_)::(14,_)::(15,_)::(16,_)::(22,_)::(23,_)::(24,_)::Lx) _ _
          obtain rfl:s=0:=by omega
          refine aw (QW (zs:=Cd.cs Qo zv12) (cs:=Cd.cs Qo ({ { { zv12 with f_Kind:=6 } with f_Peer:=i207 } with f_P:=lget ((lget q139.f_c.f_Peers i207).f_Allowed) i240 })) underlying40 zeroValue40 rfl (QbW) rfl (QI (c:=(cInt .i64)) (z:=6) rfl (Qaa zv12) rfl (QI (c:=(cInt .i64)) (z:=i207) rfl (Qac ({ zv12 with f_Kind:=6 })) rfl (QI (c:=Qa) (z:=lget ((lget q139.f_c.f_Peers i207).f_Allowed) i240) rfl (QaY ({ { zv12 with f_Kind:=6 } with f_Peer:=i207 })) rfl rfl)))) ?_
          exact Qn k
         ·intro Lx g297 K k
          show At 46 ((39,_)::(0,_)::(1,_)::(2,_)::(6,_)::(9,_)::(14,_)::(15,_)::(16,_)::(22,_)::(23,_)::(24,_)::Lx) _ _
          refine Qbu (c:=Qo) ([zv12]:List Qq) ([{ { { zv12 with f_Kind:=6 } with f_Peer:=i207 } with f_P:=lget ((lget q139.f_c.f_Peers i207).f_Allowed) i240 }]:List Qq) underlying30 sizeOf40 zeroValue40 rfl rfl rfl (by kernel_rfl) (QI (c:=Qo) (z:={ { { zv12 with f_Kind:=6 } with f_Peer:=i207 } with f_P:=lget ((lget q139.f_c.f_Peers i207).f_Allowed) i240 }) rfl (Lens.all Qo ([zv12]:List Qq) 0 (by first | decide | exact Nat.le_of_ble_eq_true rfl)) rfl rfl) rfl ?_
          intro b293
          exact Qn (k (g3 b293 none 0 none w))
         ·intro Lx g297 K k
          show At 46 ((35,_)::(40,_)::(0,_)::(1,_)::(2,_)::(6,_)::(9,_)::(14,_)::(15,_)::(16,_)::(22,_)::(23,_)::(24,_)::Lx) _ _
          refine Qax (z:=.agg (Cd.cs Qo zv12).toArray) (c:=Qo) (ys:=([{ { { zv12 with f_Kind:=6 } with f_Peer:=i207 } with f_P:=lget ((lget q139.f_c.f_Peers i207).f_Allowed) i240 }]:List Qq)) (.s (.s (.s (.s .z)))) underlying30 QfY (by kernel_rfl) (by kernel_rfl) rfl rfl rfl rfl (fun _ hw=>Qaw (hw.ok (Upd.mem .z))) (by kernel_rfl) h294 (Qaj h294) rfl ?_
          intro p295 c296
          exact Qn (k (g3 0 p295 c296 none w))
         ·intro Lx g297 s K hl hh k
          show At 46 ((31,_)::(0,_)::(1,_)::(2,_)::(6,_)::(9,_)::(14,_)::(15,_)::(16,_)::(22,_)::(23,_)::(24,_)::Lx) _ _
          refine aw (Qa5 rfl) ?_
          exact Qn k
         ·intro Lx g297 s K hl hh k
          show At 46 ((42,_)::(0,_)::(1,_)::(2,_)::(6,_)::(9,_)::(14,_)::(15,_)::(16,_)::(22,_)::(23,_)::(24,_)::Lx) _ _
          refine fa 36 underlying63 rfl sizeOf30 ?_
          exact Qn k
         ·intro Lx g297 K k
          show At 46 ((41,_)::(43,_)::(0,_)::(1,_)::(2,_)::(6,_)::(9,_)::(14,_)::(15,_)::(16,_)::(22,_)::(23,_)::(24,_)::Lx) _ _
          refine QX (c:=cSv Qq) (z:=((((g297 1).2.1),((g297 1).2.2.1)),i241.f_out++[{ { { zv12 with f_Kind:=6 } with f_Peer:=i207 } with f_P:=lget ((lget q139.f_c.f_Peers i207).f_Allowed) i240 }])) (.s (.s .z)) (Qby (gq242,(p244,c245),(p246,c247)) i241) sizeOf30 rfl rfl rfl ?_
          exact Qn k
         intro g297
         show At 46 [(31,_),(32,_),(33,_),(34,_),(35,_),(36,_),(37,_),(38,_),(39,_),(40,_),(41,_),(42,_),(43,_),(0,_),(1,_),(2,_),(6,_),(9,_),(14,_),(15,_),(16,_),(22,_),(23,_),(24,_)] _ _
         refine dz (dz (wq [24,23,22,16,15,14,6,2,1,0] ?_))
         refine bm ?_
         refine qr (aw xa (am (nwq [24,23,22,16,15,14,6,2,1,0] ?_)))
         exact Qm (ih _ _ _ hF K gq242 hk243 p244 c245 (g297 1).2.1 (g297 1).2.2.1) ⟨rfl,rfl,rfl,rfl,rfl,rfl,rfl,rfl,rfl,rfl,trivial⟩
        refine cf h292 ?_
        refine Qaz ?_
        refine bm ?_
        refine qr (aw xa (am (qn (dz (wq [24,23,22,16,15,14,6,2,1,0] ?_)))))
        refine tn ?_
        exact Qm (ih _ _ _ hF K gq242 hk243 p244 c245 p246 c247) ⟨rfl,rfl,rfl,rfl,rfl,rfl,rfl,rfl,rfl,rfl,trivial⟩
       skip
       refine Qcv [.q 38 (fun g298=>.slice p284 t283.length c285) [] 0 0,.q 39 (fun g298=>.int .i64 (t283.length:Int)) [0] 0 0,.q 40 (fun g298=>.bool ((t283.length:Int)==1)) [1] 0 0,.q 41 (fun g298=>.bool false) [2] 0 0,.q 42 (fun g298=>undef) [3] 0 0,.q 43 (fun g298=>undef) [3,4] 0 0,.q 44 (fun g298=>undef) [3,5] 0 0,.q 45 (fun g298=>undef) [3] 0 0,.q 46 (fun g298=>undef) [3,6,7] 0 0,.q 47 (fun g298=>.bool false) [3,8] 0 0,.q 4 (fun g298=>.bool false) [9] 0 0] (fun g298 s=>match s with | _=>(Wd w [rowE Qa 38 p284 c285 t283,Qs b260 (Cd.cs Qa (lget ((lget q139.f_c.f_Peers i207).f_Allowed) i240)) 38,Qs b259 (Cd.cs Qa (lget ((lget q139.f_c.f_Peers i207).f_Allowed) i240)) 38,Qs (g8 1).1 (Cd.cs Qx ((gq242,(p244,c245),(p246,c247)),i241)) 63,rowE Qg 49 p244 c245 i241.f_own,rowE Qo 40 p246 c247 i241.f_out])) 0 (by kernel_rfl) (by kernel_rfl) (by kernel_rfl) (by kernel_rfl) (by kernel_rfl) ⟨fun _ _ _=>rfl,fun _ _ _=>rfl,fun _ _ _=>rfl,fun _ _ _=>rfl,fun _ _ _=>rfl,fun _ _ _=>rfl,fun _ _ _=>rfl,fun _ _ _=>rfl,fun _ _ _=>rfl,fun _ _ _=>rfl,fun _ _ _=>rfl,trivial⟩ (by kernel_rfl) (fun w_ h=>⟨fun _=>g3 0 none 0 none w_,h.drew⟩) ⟨?_,?_,?_,?_,?_,?_,?_,?_,?_,?_,?_,trivial⟩ ?_
       ·intro Lx g298 s K hl hh k
        show At 48 ((3,_)::(8,_)::Lx) _ _
        refine am ?_
        exact Qn k
       ·intro Lx g298 s K hl hh k
        show At 48 ((38,_)::(3,_)::(8,_)::Lx) _ _
        obtain rfl:s=0:=by omega
        refine aw (Q6 underlying58 rfl) ?_
        exact Qn k
       ·intro Lx g298 s K hl hh k
        show At 48 ((39,_)::(3,_)::(8,_)::Lx) _ _
        refine aw xq ?_
        exact Qn k
       ·intro Lx g298 s K hl hh k
        show At 48 ((40,_)::(3,_)::(8,_)::Lx) _ _
        refine am ?_
        exact Qn (QcH h286 k)
       ·intro Lx g298 s K hl hh k
        show At 48 ((41,_)::(3,_)::(8,_)::Lx) _ _
        refine gn ?_
        exact Qn k
       ·intro Lx g298 s K hl hh k
        show At 48 ((41,_)::(42,_)::(3,_)::(8,_)::Lx) _ _
        refine gn ?_
        exact Qn k
       ·intro Lx g298 s K hl hh k
        show At 48 ((41,_)::(43,_)::(3,_)::(8,_)::Lx) _ _
        obtain rfl:s=0:=by omega
        refine gn ?_
        exact Qn k
       ·intro Lx g298 s K hl hh k
        show At 48 ((41,_)::(3,_)::(8,_)::Lx) _ _
        obtain rfl:s=0:=by omega
        refine gn ?_
        exact Qn k
       ·intro Lx g298 s K hl hh k
        show At 48 ((41,_)::(44,_)::(45,_)::(3,_)::(8,_)::Lx) _ _
        refine gn ?_
        exact Qn k
       ·intro Lx g298 s K hl hh k
        show At 48 ((41,_)::(46,_)::(3,_)::(8,_)::Lx) _ _
        refine aw xp ?_
        exact Qn k
       ·intro Lx g298 s K hl hh k
        show At 48 ((47,_)::(3,_)::(8,_)::Lx) _ _
        refine aa ?_
        exact Qn k
       intro g298
       show At 48 [(38,_),(39,_),(40,_),(41,_),(42,_),(43,_),(44,_),(45,_),(46,_),(47,_),(4,_),(3,_),(8,_)] _ _
       refine dz (dz (wq [4] ?_))
       refine tn (qt ?_)
       refine at_retI1 rfl rfl ?_
       refine nwq [30,24,23,22,16,15,14,9,6,2,1,0] ?_
       refine cf rfl ?_
       refine Qaz ?_
       refine bm ?_
       refine qr (aw xa (am (qn (dz (wq [24,23,22,16,15,14,6,2,1,0] ?_)))))
       refine tn ?_
       exact Qm (ih _ _ _ hF K gq242 hk243 p244 c245 p246 c247) ⟨rfl,rfl,rfl,rfl,rfl,rfl,rfl,rfl,rfl,rfl,trivial⟩
      refine cf h254 ?_
      refine Q1 ?_
      refine te (te ?_)
      obtain rfl:=os hF
      exact Qm (K gq242 hk243 p244 c245 p246 c247) ⟨rfl,rfl,rfl,rfl,rfl,rfl,trivial⟩
    skip
    intro gq248 hk249 p250 c251 p252 c253
    refine Qw ?_
    refine bm ?_
    refine qr (aw xa (am (nwq [16,15,14,2,1,0] ?_)))
    exact Qm (ih _ _ _ hF K gq248 hk249 p250 c251 p252 c253) ⟨rfl,rfl,rfl,rfl,rfl,rfl,trivial⟩
   refine cf h221 ?_
   refine Q1 ?_
   refine te (te ?_)
   obtain rfl:=os hF
   exact Qm (K gq209 hk210 p211 c212 p213 c214) trivial
 skip
 intro gq215 hk216 p217 c218 p219 c220
 refine Qw ?_
 refine at_retI0 rfl ?_
 refine ns (am ?_)
 refine aw (Qa5 rfl) ?_
 refine fa 36 underlying63 rfl sizeOf30 ?_
 refine aw (Ql isAgg30 rfl (Qr (c:=cHd) (y:=⟨((gq215,(p217,c218),(p219,c220)).2.2).1,List.length q206.f_out,((gq215,(p217,c218),(p219,c220)).2.2).2⟩) .z (Qbe (gq215,(p217,c218),(p219,c220)) q206) rfl)) ?_
 refine aa (qn (dz (dz (wq [2] ?_))))
 refine tn (qt ?_)
 have K:=os hF
 subst K
 exact r1 (fun w1 hw=>⟨p219,c220,rfl,hw.own .z,hw.below⟩)
end Go.Proofs.YtahlbjmafceoeaaGreatDoor
namespace Go.Proofs.YtahlbjmafceoeaaGreatDoor
open E Go.RowKit _root_.Go.Proofs.Tryz
theorem infoV69_is:(Tryz.prog.info? 9).isSome=true:=by kernel_rfl
noncomputable def infoV69_v:TypeInfo:=(Tryz.prog.info? 9).get infoV69_is
theorem infoV69:Tryz.prog.info? 9=some infoV69_v:=(Option.some_get _).symm
def Qbw.l0(x0:S_api_Conf)(t2:List Qq)(i9:List ByteArray)(i10:Int):Option (List ByteArray) :=
 if (decide (i10<(t2.length:Int)))=true then (if (0:Int)≤i10∧i10<(t2.length:Int) then QcZ x0 (lget t2 i10)>>=fun t21=>if (i9.length+1)*16≤140737488355328 then Qbw.l0 x0 t2 (i9++[t21]) (wr .i64 (i10+1)) else none else none) else (some i9)
 partial_fixpoint
def Qbw(x0:S_api_Conf):Option (ByteArray) :=
 QB x0>>=fun t2=>Qbw.l0 x0 t2 ([]:List ByteArray) 0>>=fun q7=>QbS q7>>=fun t26=>some t26
theorem lint_Texts_ok(g0_:G_api_Conf)(x0:S_api_Conf)(r:ByteArray)(hF:Qbw x0=some r)(w:World)(hn0:N_api_Conf w (g0_,x0))(hg_lint_words:GV_lint_words w)(hg_strconv_uint64pow10:GV_strconv_uint64pow10 w) :
    Calls Tryz.prog 11 #[.agg (Cd.cs c_api_Conf (g0_,x0)).toArray] w (fun e w'=>e=.returned (.string r)∧Below w.heap.size w w'):=by
 unfold Qbw at hF
 refine ce (l:=[.agg (Cd.cs c_api_Conf (g0_,x0)).toArray]) func11 rfl rfl ?_
 refine QN ?_
 refine sr ?_
 refine Qag (cs:=Cd.cs c_api_Conf (g0_,x0)) rfl rfl rfl ?_
 intro b1
 refine aa (ns (aa (nt (qs (sr ?_)))))
 refine aw (Qe (c:=c_api_Conf) (z:=(g0_,x0)) isAgg27 sizeOf27 rfl (Qp .z lw)) ?_
 obtain ⟨t2,ht2,hF⟩:=bM hF
 refine Qca (c:=Qo) (e:=40) (ys:=t2) (V:=fun p cap=>.slice p t2.length cap) func8 rfl (by kernel_rfl) rfl rfl (fun w hw=>lint_All_ok _ _ _ ht2 w (N_api_Conf.below hn0 hw.below)) ?_
 intro p3 c4
 refine aw (Q6 underlying30 rfl) ?_
 refine am (nwq [9,8,7,3,1] ?_)
 refine qb ?_
 refine Qbd cStr 9 ?_
 obtain ⟨q7,hq7,hF⟩:=bM hF
 refine wq [9,8,7,3,1] ?_
 refine Q5 (B:=0) (A:=fun Y=>∀ (p13:Option Addr) (c14:Nat),At 22 [(3,.slice p13 q7.length c14)] (Wd w [rowE cStr 9 p13 c14 q7]) Y) ?_ ?_
 ·intro K
  refine Qbw.l0.partial_correctness x0 t2 (motive:=fun i9 i10 x=>KN (fun Y=>∀ (p13:Option Addr) (c14:Nat),At 22 [(3,.slice p13 x.length c14)] (Wd w [rowE cStr 9 p13 c14 x]) Y) _ 0→Round (fun Y=>∀ (p11:Option Addr) (c12:Nat),At 22 [(1,.pointer (some ⟨b1,0,none⟩)),(3,.slice p11 i9.length c12),(7,.slice p3 t2.length c4),(8,.int .i64 (t2.length:Int)),(9,.int .i64 i10)] (Wd w [rowE cStr 9 p11 c12 i9,rowE Qo 40 p3 c4 t2,Qs b1 (Cd.cs c_api_Conf (g0_,x0)) 27]) Y) _ _ _) ?_ _ _ _ hq7 K none 0
  ·clear K hF
   intro g ih i9 i10 x hF K p11 c12
   refine QS ?_
   refine sr (aw xl (nwq [10,9,8,7,3,1] ?_))
   refine qs ?_
   obtain ⟨h15,hF⟩|⟨h15,hF⟩:=oi hF
   ·refine ct h15 ?_
    refine sn (qs ?_)
    refine qb ?_
    refine sr ?_
    obtain ⟨h16,hF⟩:=gd hF
    refine QaU (φ:=∃ b o,p3=some ⟨b,o,none⟩) (fun _ hw=>QR (hw.own (.s .z)).row h16) ?_
    rintro ⟨b18,o19,hp17⟩
    refine aw (r_idx underlying30 sizeOf40 rfl rfl h16 hp17) ?_
    refine aw (Qe (c:=Qo) (z:=lget t2 i10) isAgg40 sizeOf40 rfl (fun w1 hw=>QaF (W:=fun w1=>w1=_) (fun w1 h=>by subst h;exact Below.refl _ _) (hw.own (.s .z)).row h16 hp17 _ rfl)) ?_
    refine al (cs:=Cd.cs Qo zv12) zeroValue40 ?_
    intro b20
    refine QX (c:=Qo) (z:=lget t2 i10) .z lw sizeOf40 rfl rfl rfl ?_
    refine nt (qr (am ?_))
    refine aw (Qe (c:=c_api_Conf) (z:=(g0_,x0)) isAgg27 sizeOf27 rfl (Qp (.s (.s (.s .z))) lw)) ?_
    refine aw (Qe (c:=Qo) (z:=lget t2 i10) isAgg40 sizeOf40 rfl (Qp .z lw)) ?_
    obtain ⟨t21,ht21,hF⟩:=bM hF
    refine cB func12 rfl (fun w hw=>lint_Text_ok _ _ _ _ ht21 w (N_api_Conf.below hn0 hw.below) (hg_lint_words.on hw.below) (hg_strconv_uint64pow10.on hw.below)) ?_
    refine Qgn (cs:=cStr.all ([t21]:List ByteArray)) underlying72 sizeOf9 zeroValue9 rfl rfl rfl (by kernel_rfl) rfl ?_
    intro b22
    obtain ⟨h23,hF⟩:=gd hF
    refine Qax (z:=.string ⟨#[]⟩) (c:=cStr) (ys:=([t21]:List ByteArray)) (.s (.s .z)) underlying72 infoV69 (by kernel_rfl) (by kernel_rfl) rfl rfl rfl rfl (fun _ hw=>Qaw (hw.ok (Upd.mem .z))) (by kernel_rfl) h23 (Qaj h23) rfl ?_
    intro p24 c25
    refine aa (qn (dz (dz (wq [9,8,7,3,1] ?_))))
    refine bm ?_
    refine qr (aw xa (am (nwq [9,8,7,3,1] ?_)))
    exact Qm (ih _ _ _ hF K p24 c25) ⟨rfl,rfl,rfl,rfl,rfl,trivial⟩
   refine cf h15 ?_
   refine Q1 ?_
   refine te (te ?_)
   refine Qal (H:=_) (.s .z) ?_
   refine Qal (H:=_) (.s .z) ?_
   obtain rfl:=os hF
   exact Qm (K p11 c12) ⟨rfl,trivial⟩
 skip
 intro p13 c14
 refine Qw ?_
 refine tn (sr (am ?_))
 obtain ⟨t26,ht26,hF⟩:=bM hF
 refine cB func34 rfl (fun w hw=>lines_Join_ok _ _ _ _ ht26 w (hw.own .z).row) ?_
 refine aa (qn (dz (wq [2] ?_)))
 refine tn (qt ?_)
 have K:=os hF
 subst K
 exact r1 wb
def Qbo:Option (Bool) :=
 Qbw ({ f_Private:=(Vector.replicate 32 (0:Int):(Vector Int 32)),f_Port:=(0:Int),f_Mark:=(0:Int),f_Peers:=([]:List Qao) }:S_api_Conf)>>=fun t1=>some (bif (seq t1 (⟨#[107,101,121,108,101,115,115,10]⟩:ByteArray)) then true else false)
theorem Qdp(r:Bool)(hF:Qbo =some r)(w:World)(hg_lint_words:GV_lint_words w)(hg_strconv_uint64pow10:GV_strconv_uint64pow10 w) :
    Calls Tryz.prog 7 #[] w (fun e w'=>e=.returned (.bool r)∧Below w.heap.size w w'):=by
 unfold Qbo at hF
 refine ce (l:=[]) func7 rfl rfl ?_
 refine QN ?_
 refine at_weak [] trivial ?_
 refine sr (aa ?_)
 refine nws [] trivial ?_
 refine aw (QW (zs:=Cd.cs c_api_Conf (zv6,zv0)) (cs:=Cd.cs c_api_Conf (zv6,zv0)) underlying27 zeroValue27 rfl (places_api_Conf_27) rfl rfl) ?_
 obtain ⟨t1,ht1,hF⟩:=bM hF
 refine cB func11 rfl (fun w hw=>lint_Texts_ok _ _ _ ht1 w (NRow.nil ..) (hg_lint_words.on hw.below) (hg_strconv_uint64pow10.on hw.below)) ?_
 refine aw (r_seql rfl rfl) ?_
 refine am ?_
 refine aw (r_pickB rfl rfl rfl) ?_
 refine aa (nwq [0] ?_)
 refine qt ?_
 have K:=os hF
 subst K
 exact r1 wb
end Go.Proofs.YtahlbjmafceoeaaGreatDoor
set_option maxRecDepth 20000
namespace Go.Proofs.YtahlbjmafceoeaaGreatDoor.Lint
open E Go.RowKit Adr Cid
theorem bj1(a s:ByteArray):bjoin [a] s=a:=by
 cases a with | mk a=>cases s with | mk s =>
 unfold bjoin Lib.join
 apply ByteArray.ext
 show _=_
 simp [List.intercalate,List.intersperse]
theorem bj2(a b s:ByteArray):bjoin ([a]++[b]) s=(a++s)++b:=by
 cases a with | mk a=>cases b with | mk b=>cases s with | mk s =>
 unfold bjoin Lib.join
 apply ByteArray.ext
 show _=_
 simp [ByteArray.data_append,List.intercalate,List.intersperse]
theorem bj3(a b c s:ByteArray):bjoin (([a]++[b])++[c]) s=(((a++s)++b)++s)++c:=by
 cases a with | mk a=>cases b with | mk b=>cases c with | mk c=>cases s with | mk s =>
 unfold bjoin Lib.join
 apply ByteArray.ext
 show _=_
 simp [ByteArray.data_append,List.intercalate,List.intersperse]
theorem ktext(v:Vector Int 32)(hv:Key.IsB v):∃ T B,Qfu v=some T∧QaL v=some B∧QH B=some T∧T.size≤60:=by
 obtain ⟨l,hl,h32⟩:=hv.ob
 refine ⟨Hex.str (Six.encP l),v.toList,?_,Key.bytes_eq v,?_,?_⟩
 ·unfold Qfu
  rw [hl,Six.encode_eq _ (by omega),Qf]
 ·rw [hl];exact Six.refEncode_eq l (by omega)
 ·rw [Hex.str_size,Six.encP_length];omega
theorem ctext(P:Qc)(h:Qah P):∃ T,QdE P=some T∧Qbv P=some T∧T.size≤70:=by
 obtain ⟨V,l,b,rfl,hl,_⟩:=Qf0 P h
 refine ⟨_,ctext_code hl,ctext_ref hl,?_⟩
 rw [Qb3]
 split
 ·next hr =>
  obtain ⟨⟨_,h0,h1⟩,_⟩:=Qc9.1 hr
  have:=QdR (V:=V) (l:=l)
  exact cidT_len hl _ (by omega)
 ·simp
theorem word(kd:Int)(h:1≤kd∧kd≤6):∃ W:ByteArray,vget QU kd=W∧lget ([⟨#[]⟩,⟨#[107,101,121,108,101,115,115]⟩,⟨#[105,100,108,101]⟩,⟨#[100,111,117,98,108,101]⟩,⟨#[115,104,97,114,101,100]⟩,⟨#[115,112,97,114,101]⟩,⟨#[104,105,100,100,101,110]⟩]:List ByteArray) kd=W∧W.size≤10:=by
 have:kd=1∨kd=2∨kd=3∨kd=4∨kd=5∨kd=6:=by omega
 rcases this with rfl | rfl | rfl | rfl | rfl | rfl<;>exact ⟨_,rfl,rfl,by decide⟩
theorem sp1:(⟨#[32]⟩:ByteArray).size=1:=rfl
theorem text_both(c:S_api_Conf)(hk:∀ p∈c.f_Peers,Key.IsB p.f_Key)(kd pr:Int)(P:Qc)(hP0:Qah P):∃ T,QcZ c ⟨kd,pr,P⟩=some T∧QbZ c ⟨kd,pr,P⟩=some T∧T.size≤200:=by
 have h1:=sp1
 unfold QcZ QbZ
 dsimp only
 by_cases hk1:kd<1
 ·rw [decide_eq_true hk1,if_pos rfl,if_pos rfl];exact ⟨_,rfl,rfl,by decide⟩
 by_cases hk2:kd>6
 ·rw [decide_eq_false hk1,decide_eq_true hk2,if_neg Bool.false_ne_true,if_neg Bool.false_ne_true,if_pos rfl,if_pos rfl];exact ⟨_,rfl,rfl,by decide⟩
 obtain ⟨W,w1,w2,w3⟩:=word kd (by omega)
 obtain ⟨C,c1,c2,c3⟩:=ctext P hP0
 have hlen:(0:Int)≤kd∧kd<(([⟨#[]⟩,⟨#[107,101,121,108,101,115,115]⟩,⟨#[105,100,108,101]⟩,⟨#[100,111,117,98,108,101]⟩,⟨#[115,104,97,114,101,100]⟩,⟨#[115,112,97,114,101]⟩,⟨#[104,105,100,100,101,110]⟩]:List ByteArray).length:Int):=⟨by omega,by show kd<7;omega⟩
 rw [decide_eq_false hk1,decide_eq_false hk2,if_neg Bool.false_ne_true,if_neg Bool.false_ne_true,if_neg Bool.false_ne_true,if_neg Bool.false_ne_true,if_pos (show (0:Int)≤kd∧kd<7 by omega),if_pos hlen,w1,w2]
 by_cases hpr:pr≥0∧pr<(c.f_Peers.length:Int)
 ·have hmem:lget c.f_Peers pr∈c.f_Peers:=List.mem_of_getElem? (lget_some hpr)
  obtain ⟨K,B,k1,k2,k3,k4⟩:=ktext _ (hk _ hmem)
  rw [decide_eq_true hpr.1,decide_eq_true hpr.2,if_pos rfl,if_pos rfl,if_pos rfl,if_pos rfl,if_pos hpr,if_pos hpr,k1,Qf,k2,Qf,k3,Qf,c1,c2]
  by_cases hz:P=({ f_A:=({ f_V:=(0:Int),f_B:=(Vector.replicate 16 (0:Int):(Vector Int 16)) }:Qh),f_Bits:=(0:Int) }:Qc)
  ·have hd:(!decide (P=({ f_A:=({ f_V:=(0:Int),f_B:=(Vector.replicate 16 (0:Int):(Vector Int 16)) }:Qh),f_Bits:=(0:Int) }:Qc)))=false:=by rw [decide_eq_true hz];rfl
   rw [hd]
   refine ⟨(W++(⟨#[32]⟩:ByteArray))++K,?_,?_,?_⟩
   ·rw [if_pos (by simp),if_neg Bool.false_ne_true,if_pos (by simp),bj2,if_pos (by simp only [ByteArray.size_append];omega)]
   ·rw [if_pos (by omega),if_pos (by simp only [ByteArray.size_append];omega),if_neg Bool.false_ne_true]
   ·simp only [ByteArray.size_append];omega
  ·have hd:(!decide (P=({ f_A:=({ f_V:=(0:Int),f_B:=(Vector.replicate 16 (0:Int):(Vector Int 16)) }:Qh),f_Bits:=(0:Int) }:Qc)))=true:=by rw [decide_eq_false hz];rfl
   rw [hd]
   refine ⟨(((W++(⟨#[32]⟩:ByteArray))++K)++(⟨#[32]⟩:ByteArray))++C,?_,?_,?_⟩
   ·rw [if_pos (by simp),if_pos rfl,Qf,if_pos (by simp),if_pos (by simp),bj3,if_pos (by simp only [ByteArray.size_append];omega)]
   ·rw [if_pos (by omega),if_pos (by simp only [ByteArray.size_append];omega),if_pos rfl,if_pos (by simp only [ByteArray.size_append];omega),Qf,if_pos (by simp only [ByteArray.size_append];omega)]
   ·simp only [ByteArray.size_append];omega
 ·rw [c1,c2]
  have fin:∀ (X Y:Option ByteArray),X=(if (!decide (P=({ f_A:=({ f_V:=(0:Int),f_B:=(Vector.replicate 16 (0:Int):(Vector Int 16)) }:Qh),f_Bits:=(0:Int) }:Qc)))=true then some ((W++(⟨#[32]⟩:ByteArray))++C) else some W)→Y=(if (!decide (P=({ f_A:=({ f_V:=(0:Int),f_B:=(Vector.replicate 16 (0:Int):(Vector Int 16)) }:Qh),f_Bits:=(0:Int) }:Qc)))=true then some ((W++(⟨#[32]⟩:ByteArray))++C) else some W)→∃ T,X=some T∧Y=some T∧T.size≤200:=by
   intro X Y hX hY
   split at hX
   ·next hc=>rw [if_pos hc] at hY;exact ⟨_,hX,hY,by simp only [ByteArray.size_append];omega⟩
   ·next hc=>rw [if_neg hc] at hY;exact ⟨_,hX,hY,by omega⟩
  have l1:(if (!decide (P=({ f_A:=({ f_V:=(0:Int),f_B:=(Vector.replicate 16 (0:Int):(Vector Int 16)) }:Qh),f_Bits:=(0:Int) }:Qc)))=true then (some C>>=fun t35=>if (([W]:List ByteArray).length+1)*16≤140737488355328 then if List.length (([W]:List ByteArray)++[t35])≤140737488355328 then if (bjoin (([W]:List ByteArray)++[t35]) (⟨#[32]⟩:ByteArray)).size≤140737488355328 then some (bjoin (([W]:List ByteArray)++[t35]) (⟨#[32]⟩:ByteArray)) else none else none else none) else (if List.length ([W]:List ByteArray)≤140737488355328 then if (bjoin ([W]:List ByteArray) (⟨#[32]⟩:ByteArray)).size≤140737488355328 then some (bjoin ([W]:List ByteArray) (⟨#[32]⟩:ByteArray)) else none else none))=(if (!decide (P=({ f_A:=({ f_V:=(0:Int),f_B:=(Vector.replicate 16 (0:Int):(Vector Int 16)) }:Qh),f_Bits:=(0:Int) }:Qc)))=true then some ((W++(⟨#[32]⟩:ByteArray))++C) else some W):=by
   cases (!decide (P=({ f_A:=({ f_V:=(0:Int),f_B:=(Vector.replicate 16 (0:Int):(Vector Int 16)) }:Qh),f_Bits:=(0:Int) }:Qc))) with
   | true=>rw [if_pos rfl,if_pos rfl,Qf,if_pos (by simp),if_pos (by simp),bj2,if_pos (by simp only [ByteArray.size_append];omega)]
   | false=>rw [if_neg Bool.false_ne_true,if_neg Bool.false_ne_true,if_pos (by simp),bj1,if_pos (by omega)]
  have l2:(if (!decide (P=({ f_A:=({ f_V:=(0:Int),f_B:=(Vector.replicate 16 (0:Int):(Vector Int 16)) }:Qh),f_Bits:=(0:Int) }:Qc)))=true then (if W.size+(⟨#[32]⟩:ByteArray).size≤140737488355328 then some C>>=fun t31=>if (W++(⟨#[32]⟩:ByteArray)).size+t31.size≤140737488355328 then some ((W++(⟨#[32]⟩:ByteArray))++t31) else none else none) else (some W))=(if (!decide (P=({ f_A:=({ f_V:=(0:Int),f_B:=(Vector.replicate 16 (0:Int):(Vector Int 16)) }:Qh),f_Bits:=(0:Int) }:Qc)))=true then some ((W++(⟨#[32]⟩:ByteArray))++C) else some W):=by
   cases (!decide (P=({ f_A:=({ f_V:=(0:Int),f_B:=(Vector.replicate 16 (0:Int):(Vector Int 16)) }:Qh),f_Bits:=(0:Int) }:Qc))) with
   | true=>rw [if_pos rfl,if_pos rfl,if_pos (by omega),Qf,if_pos (by simp only [ByteArray.size_append];omega)]
   | false=>rw [if_neg Bool.false_ne_true,if_neg Bool.false_ne_true]
  by_cases h0:pr≥0
  ·rw [decide_eq_true h0,decide_eq_false (show ¬ pr<(c.f_Peers.length:Int) from fun h=>hpr ⟨h0,h⟩),if_pos rfl,if_pos rfl,if_neg Bool.false_ne_true,if_neg Bool.false_ne_true]
   exact fin _ _ l1 l2
  ·rw [decide_eq_false h0,if_neg Bool.false_ne_true,if_neg Bool.false_ne_true]
   exact fin _ _ l1 l2
abbrev eC:S_api_Conf:={ f_Private:=(Vector.replicate 32 (0:Int):(Vector Int 32)),f_Port:=(0:Int),f_Mark:=(0:Int),f_Peers:=([]:List Qao) }
theorem eRight:Qa8 eC=some true:=by
 have h1:Qdr 0=some true:=by decide
 unfold Qa8
 rw [h1,Qf,if_neg (by decide),if_neg (by decide),Qf]
 dsimp only
 rw [Qa8.l0.eq_def,if_neg (by decide)];rfl
theorem eEntries:QaV eC=some []:=by
 unfold QaV
 rw [QaV.l0.eq_def,if_neg (by decide)];rfl
theorem thin_nil:Qbs []=some []:=by
 have h1:Qb9 []=some []:=by
  unfold Qb9
  rw [Qb9.l0.eq_def,if_neg (by decide),Qf]
  rfl
 unfold Qbs
 rw [h1,Qf,Qbs.l0.eq_def,if_neg (by decide)];rfl
theorem e_l0(q q':QL)(h:q.f_c=eC):QB.l0 q 0 q'=some q':=by rw [QB.l0.eq_def,h,if_neg (by decide)]
theorem e_l1(q q':QL)(h:q.f_c=eC):QB.l1 q 0 q'=some q':=by rw [QB.l1.eq_def,h,if_neg (by decide)]
theorem e_l2(q q':QL)(h:q.f_c=eC):QB.l2 q 0 q'=some q':=by rw [QB.l2.eq_def,h,if_neg (by decide)]
theorem e_l3(m:List (Qc×Bool)):QB.l3 [] 0 m=some m:=by rw [QB.l3.eq_def,if_neg (by decide)]
theorem e_l4(q q':QL)(m:List (Qc×Bool))(h:q.f_c=eC):QB.l4 q m 0 q'=some q':=by rw [QB.l4.eq_def,h,if_neg (by decide)]
theorem e_l6(q q':QL)(h:q.f_c=eC):QB.l6 q 0 q'=some q':=by rw [QB.l6.eq_def,h,if_neg (by decide)]
theorem eAll:QB eC=some [QB.e0]:=by
 have hz:Qd9 (Vector.replicate 32 (0:Int):Vector Int 32)=some true:=by unfold Qd9;rw [decide_eq_true rfl]
 unfold QB
 rw [eRight,Qf,if_neg (by decide),eEntries,Qf,hz,Qf,if_pos rfl,if_pos (by decide),Qf,e_l0 _ _ rfl,Qf,e_l1 _ _ rfl,Qf,e_l2 _ _ rfl,Qf]
 show (Qbs []>>=fun t110=>_)=_
 rw [thin_nil,Qf,e_l3,Qf,e_l4 _ _ _ rfl,Qf,e_l6 _ _ rfl,Qf];rfl
theorem eText:QcZ eC QB.e0=some (⟨#[107,101,121,108,101,115,115]⟩:ByteArray):=by
 have hW:vget QU 1=(⟨#[107,101,121,108,101,115,115]⟩:ByteArray):=rfl
 unfold QcZ
 show (if (decide ((1:Int)<1))=true then _ else _)=_
 rw [if_neg (by decide)]
 show (if (decide ((1:Int)>6))=true then _ else _)=_
 rw [if_neg (by decide),if_pos (by decide)]
 show (if (decide ((-1:Int)≥0))=true then _ else _)=_
 rw [if_neg (by decide),if_neg (by decide)]
 show (if List.length ([vget QU 1]:List ByteArray)≤140737488355328 then if (bjoin ([vget QU 1]:List ByteArray) (⟨#[32]⟩:ByteArray)).size≤140737488355328 then some (bjoin ([vget QU 1]:List ByteArray) (⟨#[32]⟩:ByteArray)) else none else none)=_
 rw [if_pos (by simp),bj1,hW,if_pos (by decide)]
theorem alive60:Qbo=some true:=by
 have hT:Qbw eC=some (⟨#[107,101,121,108,101,115,115,10]⟩:ByteArray):=by
  unfold Qbw
  rw [eAll,Qf,Qbw.l0.eq_def,if_pos (by decide),if_pos (by decide)]
  show (QcZ eC QB.e0>>=fun t21=>_)>>=_=_
  rw [eText,Qf,if_pos (by decide),Qbw.l0.eq_def,if_neg (by decide),Qf]
  unfold QbS
  rw [QbS.l0.eq_def,if_pos (by decide),if_pos (by decide),if_pos (by decide),if_pos (by decide),QbS.l0.eq_def,if_neg (by decide)]
  rfl
 unfold Qbo
 rw [hT,Qf]
 decide +kernel
theorem alive_then60:(Qbo>>=fun t=>some t)=some true:=by rw [alive60];rfl
theorem large_loop(c:S_api_Conf)(hn:c.f_Peers.length≤20):∀ (k i:Nat),i+k=c.f_Peers.length→QaJ.l0 c (i:Int)=some (if (c.f_Peers.drop i).any (fun p=>decide (p.f_Allowed.length>80))=true then .ret true else .nx ())
 | 0,i,h=>by
  rw [QaJ.l0.eq_def,decide_eq_false (by omega),if_neg Bool.false_ne_true,List.drop_eq_nil_of_le (by omega)];rfl
 | k+1,i,h=>by
  have hi:i<c.f_Peers.length:=by omega
  have hg:lget c.f_Peers (i:Int)=c.f_Peers[i]:=by
   unfold lget
   rw [Int.toNat_natCast,List.getD_eq_getElem?_getD,List.getElem?_eq_getElem hi];rfl
  have hw:wr .i64 ((i:Int)+1)=((i+1:Nat):Int):=by rw [Qam (by omega) (by omega)];omega
  rw [QaJ.l0.eq_def,decide_eq_true (by omega),if_pos rfl,if_pos (by omega),hg,hw,List.drop_eq_getElem_cons hi,List.any_cons]
  by_cases h80:c.f_Peers[i].f_Allowed.length>80
  ·rw [decide_eq_true (show ((c.f_Peers[i].f_Allowed.length:Nat):Int)>80 by omega),if_pos rfl,decide_eq_true h80,Bool.true_or,if_pos rfl]
  ·rw [decide_eq_false (show ¬ ((c.f_Peers[i].f_Allowed.length:Nat):Int)>80 by omega),if_neg Bool.false_ne_true,decide_eq_false h80,Bool.false_or]
   exact large_loop c hn k (i+1) (by omega)
theorem large_code(c:S_api_Conf):∃ b,QaJ c=some b∧(b=false→c.f_Peers.length≤20∧∀ p∈c.f_Peers,p.f_Allowed.length≤80):=by
 unfold QaJ
 by_cases h:(c.f_Peers.length:Int)>20
 ·rw [decide_eq_true h,if_pos rfl];exact ⟨true,rfl,fun h=>by cases h⟩
 ·rw [decide_eq_false h,if_neg Bool.false_ne_true]
  have:=large_loop c (by omega) c.f_Peers.length 0 (by omega)
  rw [show ((0:Nat):Int)=0 from rfl,List.drop_zero] at this
  rw [this,Qf]
  cases hb:c.f_Peers.any (fun p=>decide (p.f_Allowed.length>80)) with
  | true=>rw [if_pos rfl];exact ⟨true,rfl,fun h=>by cases h⟩
  | false =>
   rw [if_neg Bool.false_ne_true]
   refine ⟨false,rfl,fun _=>⟨by omega,fun p hp=>?_⟩⟩
   have:=List.any_eq_false.1 hb p hp
   rw [decide_eq_true_iff] at this
   omega
end Go.Proofs.YtahlbjmafceoeaaGreatDoor.Lint
namespace Go.Proofs.YtahlbjmafceoeaaGreatDoor.Adr
open E Go.RowKit Cid
theorem bit_code{V i:Int}{l:List UInt8}(hl:l.length=16)(hi : -9223372036854775808≤i∧i<9223372036854775808) :
  Qf7 (mkA V l) i=some (if 0≤i∧i<(Qcc V l:Int) then ((bit l i.toNat:Nat):Int) else -1):=by
 unfold Qf7
 rw [width_code hl,Qf]
 have hw:=QdR (V:=V) (l:=l)
 by_cases h0:i<0
 ·rw [if_pos (decide_eq_true h0),if_neg (by omega)]
 ·rw [if_neg (by rw [decide_eq_true_eq];exact h0)]
  by_cases h1:i≥(Qcc V l:Int)
  ·rw [if_pos (decide_eq_true h1),if_neg (by omega)]
  ·rw [if_neg (by rw [decide_eq_true_eq];exact h1)]
   obtain ⟨n,rfl⟩:=Int.eq_ofNat_of_zero_le (show 0≤i by omega)
   have hn:n<128:=by omega
   have e1:ishr .i64 (n:Int) 3=((n/8:Nat):Int):=Qej .i64 n 3 (by decide)
   have e2:iand .i64 (n:Int) 7=((n%8:Nat):Int):=by
    unfold iand
    have h7:(BitVec.ofInt IntKind.i64.bits (7:Int)).toNat=7:=by decide
    have hb:(BitVec.ofInt IntKind.i64.bits (n:Int)).toNat=n:=toNat_ofInt 64 n (by omega)
    rw [BitVec.toNat_and,h7,hb,show (7:Nat)=2 ^ 3-1 from rfl,Nat.and_two_pow_sub_one_eq_mod]
    have:=Qam (x:=((n%2 ^ 3:Nat):Int)) (by omega) (by omega)
    exact this
   have e3:wr .u64 (wr .i64 (7-((n%8:Nat):Int)))=((7-n%8:Nat):Int):=by rw [Qam (by omega) (by omega),Qeg (by omega) (by omega)];omega
   have hb:=bg_lt l (n/8)
   have h3:(0:Int)≤(n:Int)∧(n:Int)<(Qcc V l:Int):=by omega
   rw [e1,e2,e3,if_pos (by omega),if_pos (by omega),if_pos h3]
   refine congrArg some ?_
   show iand .i64 (wr .i64 (ishr .u8 (vget (vb l) ((n/8:Nat):Int)) ((7-n%8:Nat):Int))) 1=_
   rw [QdK hl _ (by omega),Qej .u8 _ _ (by show 7-n%8≤8;omega)]
   have hdl:bg l (n/8)/2 ^ (7-n%8)<256:=Nat.lt_of_le_of_lt (Nat.div_le_self _ _) hb
   generalize hx:bg l (n/8)/2 ^ (7-n%8)=x at hdl
   rw [Qam (by omega) (by omega)]
   have e4:iand .i64 (x:Int) 1=((x%2:Nat):Int):=by
    unfold iand
    have h1:(BitVec.ofInt IntKind.i64.bits (1:Int)).toNat=1:=by decide
    have hb:(BitVec.ofInt IntKind.i64.bits (x:Int)).toNat=x:=toNat_ofInt 64 x (by omega)
    rw [BitVec.toNat_and,h1,hb,Nat.and_one_is_mod]
    have:=Qam (x:=((x%2:Nat):Int)) (by omega) (by omega)
    exact this
   rw [e4]
   unfold bit
   rw [Int.toNat_natCast,hx]
def fd(p:Nat→Bool):Nat→Nat→Nat
 | 0,i=>i
 | f+1,i=>if p i=true then fd p f (i+1) else i
theorem fd_all(p:Nat→Bool):∀ (f i j:Nat),i≤j→j<fd p f i→p j=true
 | 0,i,j,h1,h2=>by unfold fd at h2;omega
 | f+1,i,j,h1,h2=>by
  unfold fd at h2
  by_cases hp:p i=true
  ·rw [if_pos hp] at h2
   by_cases hj:j=i
   ·subst hj;exact hp
   ·exact fd_all p f (i+1) j (by omega) h2
  ·rw [if_neg hp] at h2;omega
theorem fd_stop(p:Nat→Bool):∀ (f i:Nat),fd p f i<i+f→p (fd p f i)=false
 | 0,i,h=>by unfold fd at h;omega
 | f+1,i,h=>by
  unfold fd at h ⊢
  by_cases hp:p i=true
  ·rw [if_pos hp] at h ⊢
   exact fd_stop p f (i+1) (by omega)
  ·rw [if_neg hp];simpa using hp
def alikeB(l k:List UInt8)(i:Nat):Bool:=decide (bit l i=bit k i)
theorem refCommon_loop{V W:Int}{l k:List UInt8}(hl:l.length=16)(hk:k.length=16)(t:Nat)(ht:t≤128):∀ (f i:Nat),i+f=t →
  QaD.l0 (mkA V l) (mkA W k) (t:Int) (i:Int)=some ((fd (alikeB l k) f i:Nat):Int):=by
 intro f
 induction f with
 | zero =>
  intro i hi
  rw [QaD.l0.eq_def,if_neg (by rw [decide_eq_true_eq];omega)];rfl
 | succ f ih =>
  intro i hi
  rw [QaD.l0.eq_def,if_pos (decide_eq_true (by omega)),digit_ref hl i (by omega),Qf,digit_ref hk i (by omega),Qf]
  unfold fd
  by_cases h:bit l i=bit k i
  ·have h1:(((bit l i:Nat):Int)==((bit k i:Nat):Int))=true:=by rw [h];exact beq_self_eq_true _
   have h2:alikeB l k i=true:=decide_eq_true h
   rw [h1,if_pos rfl,h2,if_pos rfl,Qam (by omega) (by omega),show ((i:Int)+1)=((i+1:Nat):Int) by omega]
   exact ih (i+1) (by omega)
  ·have h1:(((bit l i:Nat):Int)==((bit k i:Nat):Int))=false:=by rw [beq_eq_false_iff_ne];omega
   have h2:alikeB l k i=false:=decide_eq_false h
   rw [h1,if_neg Bool.false_ne_true,h2,if_neg Bool.false_ne_true]
def Qe0(V:Int)(l:List UInt8)(W:Int)(k:List UInt8):Int :=
 if QbP V l=true∧QbP W k=true∧V=W then ((fd (alikeB l k) (Qcc V l) 0:Nat):Int) else -1
theorem common_ref{V W:Int}{l k:List UInt8}(hl:l.length=16)(hk:k.length=16):QaD (mkA V l) (mkA W k)=some (Qe0 V l W k):=by
 unfold QaD Qe0
 rw [Qdy hl,Qf]
 cases hr:QbP V l
 ·show some (-1:Int)=_
  rw [if_neg (by simp)]
 ·show (QV (mkA W k)>>=fun t5=>_)=_
  rw [Qdy hk,Qf]
  cases hs:QbP W k
  ·show some (-1:Int)=_
   rw [if_neg (by simp)]
  ·show (if (V != W)=true then _ else _)=_
   by_cases hv:V=W
   ·subst hv
    have hne:(V != V)=false:=by simp
    rw [hne,if_neg Bool.false_ne_true,width_ref hl,Qf]
    have h1:=refCommon_loop (V:=V) (W:=V) hl hk (Qcc V l) QdR (Qcc V l) 0 (by omega)
    rw [show ((0:Nat):Int)=0 from rfl] at h1
    rw [h1,Qf,if_pos ⟨rfl,rfl,rfl⟩]
   ·have hne:(V != W)=true:=by simpa using hv
    rw [hne,if_pos rfl,if_neg (fun h=>hv h.2.2)]
def lessL:List UInt8→List UInt8→Bool
 | x::a,y::b=>if x≠y then decide (x<y) else lessL a b
 | _,_=>false
theorem less_cmp:∀ (a b:List UInt8),a.length=b.length→decide (Lib.compareBytes a b<0)=lessL a b
 | [],[],_=>rfl
 | [],_::_,h=>by simp at h
 | _::_,[],h=>by simp at h
 | x::a,y::b,h=>by
  unfold Lib.compareBytes lessL
  by_cases hxy:x=y
  ·subst hxy
   have:¬ x<x:=UInt8.lt_irrefl x
   simp only [this,if_false,ne_eq,not_true_eq_false]
   exact less_cmp a b (by simpa using h)
  ·by_cases hlt:x<y
   ·simp [hxy,hlt]
   ·have:y<x:=UInt8.lt_of_le_of_ne (UInt8.not_lt.1 hlt) (Ne.symm hxy)
    simp [hxy,hlt,this]
def lessA(V:Int)(l:List UInt8)(W:Int)(k:List UInt8):Bool:=if V=W then lessL l k else decide (V<W)
theorem refLess_loop{V W:Int}{l k:List UInt8}(hl:l.length=16)(hk:k.length=16)(f:Nat):∀ i:Nat,i+f=16 →
  ∃ q,Qab.l0 (mkA V l) (mkA W k) i=some q∧(match q with | .ret r=>r=lessL (l.drop i) (k.drop i) | .nx _=>lessL (l.drop i) (k.drop i)=false):=by
 induction f with
 | zero =>
  intro i hi
  have hz:decide ((i:Int)<16)=false:=decide_eq_false (by omega)
  rw [Qab.l0.eq_def,hz]
  refine ⟨_,rfl,?_⟩
  rw [List.drop_eq_nil_of_le (by omega)];rfl
 | succ f ih =>
  intro i hi
  have hz:decide ((i:Int)<16)=true:=decide_eq_true (by omega)
  obtain ⟨x,hx,hdx⟩:=Qf2 l i (by omega)
  obtain ⟨y,hy,hdy⟩:=Qf2 k i (by omega)
  have hg:(0:Int)≤(i:Int)∧(i:Int)<16:=by omega
  have ex:vget (mkA V l).f_B (i:Int)=x.toNat:=by show vget (vb l) (i:Int)=_;rw [QdK hl i (by omega),Qfa hx]
  have ey:vget (mkA W k).f_B (i:Int)=y.toNat:=by show vget (vb k) (i:Int)=_;rw [QdK hk i (by omega),Qfa hy]
  rw [Qab.l0.eq_def,hz,if_pos rfl,if_pos hg,if_pos hg,ex,ey,hdx,hdy]
  unfold lessL
  by_cases hxy:x=y
  ·subst hxy
   have h1:((x.toNat:Int) != (x.toNat:Int))=false:=by simp
   obtain ⟨q,hq,hm⟩:=ih (i+1) (by omega)
   rw [h1,if_neg Bool.false_ne_true,Qam (by omega) (by omega),show ((i:Int)+1)=((i+1:Nat):Int) by omega]
   refine ⟨q,hq,?_⟩
   rw [if_neg (by simp)]
   exact hm
  ·have hne:x.toNat≠y.toNat:=fun e=>hxy (UInt8.toNat.inj e)
   have h1:((x.toNat:Int) != (y.toNat:Int))=true:=by rw [bne_iff_ne];omega
   rw [h1,if_pos rfl,if_pos hg,if_pos hg]
   refine ⟨_,rfl,?_⟩
   show decide ((x.toNat:Int)<(y.toNat:Int))=_
   rw [if_pos hxy,Bool.eq_iff_iff,decide_eq_true_eq,decide_eq_true_eq,UInt8.lt_iff_toNat_lt]
   omega
theorem less_ref{V W:Int}{l k:List UInt8}(hl:l.length=16)(hk:k.length=16):Qab (mkA V l) (mkA W k)=some (lessA V l W k):=by
 unfold Qab lessA
 show (if (V != W)=true then some (decide (V<W)) else _)=_
 by_cases h:V=W
 ·have hne:(V != W)=false:=by simpa using h
  obtain ⟨q,hq,hm⟩:=refLess_loop (V:=V) (W:=W) hl hk 16 0 rfl
  rw [show ((0:Nat):Int)=0 from rfl] at hq
  rw [hne,if_neg Bool.false_ne_true,if_pos h,hq,Qf]
  rw [List.drop_zero,List.drop_zero] at hm
  cases q with
  | ret r=>show some r=_;rw [show r=_ from hm]
  | nx u=>show some false=_;rw [show lessL l k=false from hm]
 ·have hne:(V != W)=true:=by simpa using h
  rw [hne,if_pos rfl,if_neg h]
theorem mb_alike(x y:UInt8):∀ (k:Nat),k≤8→(∀ j,j<k→x.toNat/2 ^ (7-j)%2=y.toNat/2 ^ (7-j)%2)→mb x k=mb y k
 | 0,_,_=>by rw [mb_zero,mb_zero]
 | k+1,hk,h=>by
  apply UInt8.toNat.inj
  rw [mb_step x k (by omega),mb_step y k (by omega),mb_alike x y k (by omega) (fun j hj=>h j (by omega)),h k (by omega)]
theorem mfull_alike{l k:List UInt8}(hl:l.length=16)(hk:k.length=16)(c:Nat)(hc:c≤128)(h:∀ j,j<c→bit l j=bit k j):mfull l (c:Int)=mfull k (c:Int):=by
 apply List.ext_getElem?
 intro j
 rw [Qez,Qez]
 by_cases hj:j<16
 ·have hx:l[j]? = some l[j]:=List.getElem?_eq_getElem (by omega)
  have hy:k[j]? = some k[j]:=List.getElem?_eq_getElem (by omega)
  generalize l[j]=x at hx
  generalize k[j]=y at hy
  rw [hx,hy]
  show some _=some _
  congr 1
  refine mb_alike x y _ (lft_le _ _) fun i hi=>?_
  have hlt:i<8:=by have:=lft_le (c:Int) j;omega
  have hb:=h (8*j+i) (by unfold lft at hi;omega)
  unfold bit at hb
  rw [show (8*j+i)/8=j by omega,show (8*j+i)%8=i by omega,Qfa hx,Qfa hy] at hb
  exact hb
 ·rw [List.getElem?_eq_none (by omega),List.getElem?_eq_none (by omega)]
theorem mb_bit_fin:∀ (x:Fin 256) (m:Fin 9) (j:Fin 8),j.val<m.val→(x.val-x.val%2 ^ (8-m.val))/2 ^ (7-j.val)%2=x.val/2 ^ (7-j.val)%2:=by decide +kernel
theorem bit_mfull{l:List UInt8}(hl:l.length=16)(b:Int)(i:Nat)(hi:(i:Int)<b)(h128:i<128):bit (mfull l b) i=bit l i:=by
 unfold bit
 obtain ⟨c,hc⟩:∃ c,l[i/8]? = some c:=⟨_,List.getElem?_eq_getElem (by omega)⟩
 have hm:(mfull l b)[i/8]? = some (mb c (lft b (i/8))):=by rw [Qez,hc];rfl
 rw [Qfa hc,Qfa hm,QeR]
 have hle:=lft_le b (i/8)
 have hlt:i%8<lft b (i/8):=by unfold lft;omega
 exact mb_bit_fin ⟨c.toNat,c.toNat_lt⟩ ⟨lft b (i/8),by omega⟩ ⟨i%8,by omega⟩ hlt
theorem fd_far(p:Nat→Bool)(f c:Nat)(hc:c≤f)(h:∀ j,j<c→p j=true):c≤fd p f 0:=by
 rcases Nat.lt_or_ge (fd p f 0) c with hlt | hge
 ·have h1:=fd_stop p f 0 (by omega)
  rw [h _ hlt] at h1;cases h1
 ·exact hge
theorem same_bits{V W:Int}{l k:List UInt8}{b:Int}(hl:l.length=16)(hk:k.length=16)(hp:QdO V l b=true)(hV:V=W)(hr:QbP W k=true):decide (mfull k b=l)=decide (Qe0 V l W k≥b):=by
 subst hV
 obtain ⟨⟨hrl,h0,h1⟩,hm⟩:=Qc9.1 hp
 have hw:=QdR (V:=V) (l:=l)
 obtain ⟨c,rfl⟩:=Int.eq_ofNat_of_zero_le h0
 have hc:Qe0 V l V k=((fd (alikeB l k) (Qcc V l) 0:Nat):Int):=by unfold Qe0;rw [if_pos ⟨hrl,hr,rfl⟩]
 rw [hc,decide_eq_decide]
 constructor
 ·intro h
  have:=fd_far (alikeB l k) (Qcc V l) c (by omega) fun j hj=>by
   unfold alikeB
   refine decide_eq_true ?_
   rw [←h,bit_mfull hk (c:Int) j (by omega) (by omega)]
  omega
 ·intro h
  have hall:=fd_all (alikeB l k) (Qcc V l) 0
  have:=mfull_alike hl hk c (by omega) fun j hj=>of_decide_eq_true (hall j (by omega) (by omega))
  rw [←this,hm]
def hasP(V:Int)(l:List UInt8)(b W:Int)(k:List UInt8):Bool:=QdO V l b&&(QbP W k&&(decide (W=V)&&decide (mfull k b=l)))
theorem has_ref{V b W:Int}{l k:List UInt8}(hl:l.length=16)(hk:k.length=16):Qbq (mkP (mkA V l) b) (mkA W k)=some (hasP V l b W k):=by
 unfold Qbq hasP
 rw [Qd2 hl,Qf]
 cases hp:QdO V l b with
 | false=>rfl
 | true =>
  obtain ⟨⟨hrl,h0,h1⟩,hm⟩:=Qc9.1 hp
  rw [if_pos rfl,Bool.true_and]
  show (QaD (mkA V l) (mkA W k)>>=fun t5=>some (decide (t5≥b)))=_
  rw [common_ref hl hk,Qf]
  refine congrArg some ?_
  cases hr:QbP W k with
  | false =>
   have hc:Qe0 V l W k = -1:=by unfold Qe0;rw [if_neg (by rw [hr];simp)]
   rw [hc,Bool.false_and]
   exact decide_eq_false (by omega)
  | true =>
   rw [Bool.true_and]
   by_cases hV:W=V
   ·rw [decide_eq_true hV,Bool.true_and]
    exact (same_bits hl hk hp hV.symm hr).symm
   ·have hc:Qe0 V l W k = -1:=by unfold Qe0;rw [if_neg (fun h=>hV h.2.2.symm)]
    rw [hc,decide_eq_false hV,Bool.false_and]
    exact decide_eq_false (by omega)
end Go.Proofs.YtahlbjmafceoeaaGreatDoor.Adr
