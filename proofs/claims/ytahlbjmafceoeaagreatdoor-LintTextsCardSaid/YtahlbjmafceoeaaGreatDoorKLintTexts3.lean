/- Texts of this claim, those in one that belong together; printed by a program of this project. -/
import Derived.Test.YtahlbjmafceoeaaGreatDoorProg
import Derived.Test.YtahlbjmafceoeaaGreatDoorKLintTexts2
set_option linter.unusedVariables false
set_option linter.unusedSimpArgs false
set_option maxRecDepth 20000
namespace Go.Proofs.YtahlbjmafceoeaaGreatDoor
open E Go.RowKit _root_.Go.Proofs.Tryz
theorem infoV29_is:(Tryz.prog.info? 9).isSome=true:=by kernel_rfl
noncomputable def infoV29_v:TypeInfo:=(Tryz.prog.info? 9).get infoV29_is
theorem infoV29:Tryz.prog.info? 9=some infoV29_v:=(Option.some_get _).symm
theorem infoV249_is:(Tryz.prog.info? 49).isSome=true:=by kernel_rfl
noncomputable def infoV249_v:TypeInfo:=(Tryz.prog.info? 49).get infoV249_is
theorem infoV249:Tryz.prog.info? 49=some infoV249_v:=(Option.some_get _).symm
def lint_entries.l1(x0:S_api_Conf)(i6:Int)(i26:List S_api_Entry)(i27:Int):Option (List S_api_Entry) :=
 if (decide (i27<(((lget x0.f_Peers i6).f_Allowed).length:Int)))=true then (if (0:Int)≤i27∧i27<(((lget x0.f_Peers i6).f_Allowed).length:Int) then if (i26.length+1)*40≤140737488355328 then lint_entries.l1 x0 i6 (i26++[{ { ({ f_P:=({ f_A:=({ f_V:=(0:Int),f_B:=(Vector.replicate 16 (0:Int):(Vector Int 16)) }:S_api_Addr),f_Bits:=(0:Int) }:S_api_Prefix),f_Owner:=(0:Int) }:S_api_Entry) with f_P:=lget ((lget x0.f_Peers i6).f_Allowed) i27 } with f_Owner:=i6 }]) (wr .i64 (i27+1)) else none else none) else (some i26)
 partial_fixpoint
def lint_entries.l0(x0:S_api_Conf)(i5:List S_api_Entry)(i6:Int):Option (List S_api_Entry) :=
 if (decide (i6<(x0.f_Peers.length:Int)))=true then (if (0:Int)≤i6∧i6<(x0.f_Peers.length:Int) then lint_entries.l1 x0 i6 i5 0>>=fun q25=>lint_entries.l0 x0 q25 (wr .i64 (i6+1)) else none) else (some i5)
 partial_fixpoint
def lint_entries(x0:S_api_Conf):Option (List S_api_Entry) :=
 lint_entries.l0 x0 ([]:List S_api_Entry) 0>>=fun q4=>some q4
theorem lint_entries_ok(g0_:G_api_Conf)(x0:S_api_Conf)(r:List S_api_Entry)(hF:lint_entries x0=some r)(w:World)(hn0:N_api_Conf w (g0_,x0)) :
    Calls Tryz.prog 19 #[.agg (Cd.cs c_api_Conf (g0_,x0)).toArray] w (fun e w'=>∃ p cap,e=.returned (.slice p r.length cap)∧Own c_api_Entry 49 w.heap.size w' p cap r∧Below w.heap.size w w'):=by
 unfold lint_entries at hF
 refine ce (l:=[.agg (Cd.cs c_api_Conf (g0_,x0)).toArray]) func19 rfl rfl ?_
 refine at_start ?_
 refine sr ?_
 refine at_box (cs:=Cd.cs c_api_Conf (g0_,x0)) rfl rfl rfl ?_
 intro b1
 refine aa (ns (aa (nt (qs (sr (fa 34 underlying27 rfl sizeOf25 ?_))))))
 refine aw (r_load_cell isAgg25 rfl (lens_cell0 (c:=cHd) (y:=⟨g0_.1,List.length x0.f_Peers,g0_.2⟩) .z (c_api_Conf_f_Peers g0_ x0) rfl)) ?_
 refine aw (r_len_sl underlying25 rfl) ?_
 refine am (qn (dz (wq [11,10,9,3] ?_)))
 refine tn ?_
 refine qb ?_
 refine at_own_nil c_api_Entry 49 ?_
 obtain ⟨q4,hq4,hF⟩:=bM hF
 refine wq [11,10,9,3] ?_
 refine at_loop_n (B:=0) (A:=fun Y=>∀ (p9:Option Addr) (c10:Nat),At 32 [(3,.slice p9 q4.length c10)] (Wd w [rowE c_api_Entry 49 p9 c10 q4]) Y) ?_ ?_
 ·intro K
  refine lint_entries.l0.partial_correctness x0 (motive:=fun i5 i6 x=>KN (fun Y=>∀ (p9:Option Addr) (c10:Nat),At 32 [(3,.slice p9 x.length c10)] (Wd w [rowE c_api_Entry 49 p9 c10 x]) Y) _ 0→Round (fun Y=>∀ (p7:Option Addr) (c8:Nat),At 32 [(3,.slice p7 i5.length c8),(9,.slice g0_.1 x0.f_Peers.length g0_.2),(10,.int .i64 (x0.f_Peers.length:Int)),(11,.int .i64 i6)] (Wd w [rowE c_api_Entry 49 p7 c8 i5]) Y) _ _ _) ?_ _ _ _ hq4 K none 0
  ·clear K hF
   intro g ih i5 i6 x hF K p7 c8
   refine at_round ?_
   refine sr (aw xl (nwq [12,11,10,9,3] ?_))
   refine qs ?_
   obtain ⟨h11,hF⟩|⟨h11,hF⟩:=oi hF
   ·refine ct h11 ?_
    refine sn (qs ?_)
    refine qb ?_
    refine sr (am ?_)
    obtain ⟨h12,hF⟩:=gd hF
    obtain ⟨zs16,hz17,hr18,hn19⟩:=id hn0
    obtain ⟨b14,o15,hp13⟩:=row_ptr hr18 (zidx hz17 h12)
    obtain ⟨g20,hg21⟩:=zget hz17 i6
    refine aw (r_idx underlying25 sizeOf60 rfl rfl h12 hp13) ?_
    refine aw (r_load_aggc (c:=c_api_Peer) (z:=(g20,lget x0.f_Peers i6)) isAgg60 sizeOf60 rfl (ncell (fun _ h=>h.below) hr18 (zidx hz17 h12) hp13 hg21)) ?_
    refine al (cs:=Cd.cs c_api_Peer zv14) zeroValue60 ?_
    intro b22
    refine aa ?_
    refine at_store (c:=c_api_Peer) (z:=(g20,lget x0.f_Peers i6)) .z lw sizeOf60 rfl rfl rfl ?_
    refine ns (fa 85 underlying60 rfl sizeOf58 ?_)
    refine aw (r_load_cell isAgg58 rfl (lens_cell0 (c:=cHd) (y:=⟨g20.1,List.length ((lget x0.f_Peers i6).f_Allowed),g20.2⟩) .z (c_api_Peer_f_Allowed g20 (lget x0.f_Peers i6)) rfl)) ?_
    refine aw (r_len_sl underlying58 rfl) ?_
    refine am (qn (dz (wq [19,18,17,11,10,9,4,3] ?_)))
    refine tn ?_
    refine qb ?_
    obtain ⟨q25,hq25,hF⟩:=bM hF
    refine wq [19,18,17,11,10,9,4,3] ?_
    refine at_loop_n (B:=2) (A:=fun Y=>∀ (p30:Option Addr) (c31:Nat),At 32 [(3,.slice p30 q25.length c31),(9,.slice g0_.1 x0.f_Peers.length g0_.2),(10,.int .i64 (x0.f_Peers.length:Int)),(11,.int .i64 i6)] (Wd w [rowE c_api_Entry 49 p30 c31 q25]) Y) ?_ ?_
    ·intro K
     refine lint_entries.l1.partial_correctness x0 i6 (motive:=fun i26 i27 x=>KN (fun Y=>∀ (p30:Option Addr) (c31:Nat),At 32 [(3,.slice p30 x.length c31),(9,.slice g0_.1 x0.f_Peers.length g0_.2),(10,.int .i64 (x0.f_Peers.length:Int)),(11,.int .i64 i6)] (Wd w [rowE c_api_Entry 49 p30 c31 x]) Y) _ 2→Round (fun Y=>∀ (p28:Option Addr) (c29:Nat),At 32 [(3,.slice p28 i26.length c29),(4,.int .i64 i6),(9,.slice g0_.1 x0.f_Peers.length g0_.2),(10,.int .i64 (x0.f_Peers.length:Int)),(11,.int .i64 i6),(17,.slice g20.1 ((lget x0.f_Peers i6).f_Allowed).length g20.2),(18,.int .i64 (((lget x0.f_Peers i6).f_Allowed).length:Int)),(19,.int .i64 i27)] (Wd w [rowE c_api_Entry 49 p28 c29 i26]) Y) _ _ _) ?_ _ _ _ hq25 K p7 c8
     ·clear K hF
      intro g ih i26 i27 x hF K p28 c29
      refine at_round ?_
      refine sr (aw xl (nwq [20,19,18,17,11,10,9,4,3] ?_))
      refine qs ?_
      obtain ⟨h32,hF⟩|⟨h32,hF⟩:=oi hF
      ·refine ct h32 ?_
       refine sn (qs ?_)
       refine qb ?_
       refine sr ?_
       obtain ⟨h33,hF⟩:=gd hF
       obtain ⟨b35,o36,hp34⟩:=row_ptr (nz hg21 hn19 (zidx hz17 h12)) h33
       refine aw (r_idx underlying58 sizeOf38 rfl rfl h33 hp34) ?_
       refine aw (r_load_aggc (c:=c_api_Prefix) (z:=lget ((lget x0.f_Peers i6).f_Allowed) i27) isAgg38 sizeOf38 rfl (row_cell (fun _ h=>h.below) (nz hg21 hn19 (zidx hz17 h12)) h33 hp34)) ?_
       refine al (cs:=Cd.cs c_api_Prefix zv9) zeroValue38 ?_
       intro b37
       refine at_store (c:=c_api_Prefix) (z:=lget ((lget x0.f_Peers i6).f_Allowed) i27) .z lw sizeOf38 rfl rfl rfl ?_
       refine nt (qr (am ?_))
       refine aw (r_load_aggc (c:=c_api_Prefix) (z:=lget ((lget x0.f_Peers i6).f_Allowed) i27) isAgg38 sizeOf38 rfl (lens_cell .z lw)) ?_
       refine am ?_
       refine aw (r_build_struct (zs:=Cd.cs c_api_Entry zv13) (cs:=Cd.cs c_api_Entry ({ { zv13 with f_P:=lget ((lget x0.f_Peers i6).f_Allowed) i27 } with f_Owner:=i6 })) underlying49 zeroValue49 rfl (places_api_Entry_49) rfl (fill_step (c:=c_api_Prefix) (z:=lget ((lget x0.f_Peers i6).f_Allowed) i27) rfl (c_api_Entry_f_P zv13) rfl (fill_step (c:=(cInt .i64)) (z:=i6) rfl (c_api_Entry_f_Owner ({ zv13 with f_P:=lget ((lget x0.f_Peers i6).f_Allowed) i27 })) rfl rfl))) ?_
       refine at_litL (c:=c_api_Entry) ([zv13]:List S_api_Entry) ([{ { zv13 with f_P:=lget ((lget x0.f_Peers i6).f_Allowed) i27 } with f_Owner:=i6 }]:List S_api_Entry) underlying46 sizeOf49 zeroValue49 rfl rfl rfl (by kernel_rfl) (fill_step (c:=c_api_Entry) (z:={ { zv13 with f_P:=lget ((lget x0.f_Peers i6).f_Allowed) i27 } with f_Owner:=i6 }) rfl (Lens.all c_api_Entry ([zv13]:List S_api_Entry) 0 (by first | decide | exact Nat.le_of_ble_eq_true rfl)) rfl rfl) rfl ?_
       intro b38
       obtain ⟨h39,hF⟩:=gd hF
       refine at_append (z:=.agg (Cd.cs c_api_Entry zv13).toArray) (c:=c_api_Entry) (ys:=([{ { zv13 with f_P:=lget ((lget x0.f_Peers i6).f_Allowed) i27 } with f_Owner:=i6 }]:List S_api_Entry)) (.s (.s .z)) underlying46 infoV249 (by kernel_rfl) (by kernel_rfl) rfl rfl rfl rfl (fun _ hw=>cells_src (hw.ok (Upd.mem .z))) (by kernel_rfl) h39 (app_small h39) rfl ?_
       intro p40 c41
       refine aa (qn (dz (dz (wq [19,18,17,11,10,9,4,3] ?_))))
       refine bm ?_
       refine qr (aw xa (am (nwq [19,18,17,11,10,9,4,3] ?_)))
       exact at_weak_k (ih _ _ _ hF K p40 c41) ⟨rfl,rfl,rfl,rfl,rfl,rfl,rfl,rfl,trivial⟩
      refine cf h32 ?_
      refine at_exit ?_
      refine te (te ?_)
      obtain rfl:=os hF
      exact at_weak_k (K p28 c29) ⟨rfl,rfl,rfl,rfl,trivial⟩
    skip
    intro p30 c31
    refine at_blk_same ?_
    refine bm ?_
    refine qr (aw xa (am (nwq [11,10,9,3] ?_)))
    exact at_weak_k (ih _ _ _ hF K p30 c31) ⟨rfl,rfl,rfl,rfl,trivial⟩
   refine cf h11 ?_
   refine at_exit ?_
   refine te (te ?_)
   obtain rfl:=os hF
   exact at_weak_k (K p7 c8) ⟨rfl,trivial⟩
 skip
 intro p9 c10
 refine at_blk_same ?_
 refine tn (sr (am (aa (nwq [2] ?_))))
 refine qt ?_
 have K:=os hF
 subst K
 exact r1 (fun w1 hw=>⟨p9,c10,rfl,hw.own .z,hw.below⟩)
def crawlwayref60_Text(x0:S_api_Conf)(x1:S_lint_Odd):Option (ByteArray) :=
 if (decide (x1.f_Kind<1))=true then (some (⟨#[]⟩)) else (if (decide (x1.f_Kind>6))=true then (some (⟨#[]⟩)) else (if (0:Int)≤x1.f_Kind∧x1.f_Kind<(([⟨#[]⟩,⟨#[107,101,121,108,101,115,115]⟩,⟨#[105,100,108,101]⟩,⟨#[100,111,117,98,108,101]⟩,⟨#[115,104,97,114,101,100]⟩,⟨#[115,112,97,114,101]⟩,⟨#[104,105,100,100,101,110]⟩]:List ByteArray).length:Int) then if (decide (x1.f_Peer≥0))=true then (if (decide (x1.f_Peer<(x0.f_Peers.length:Int)))=true then (if (lget ([⟨#[]⟩,⟨#[107,101,121,108,101,115,115]⟩,⟨#[105,100,108,101]⟩,⟨#[100,111,117,98,108,101]⟩,⟨#[115,104,97,114,101,100]⟩,⟨#[115,112,97,114,101]⟩,⟨#[104,105,100,100,101,110]⟩]:List ByteArray) x1.f_Kind).size+(⟨#[32]⟩:ByteArray).size≤140737488355328 then if (0:Int)≤x1.f_Peer∧x1.f_Peer<(x0.f_Peers.length:Int) then crawlwayref07_Bytes ((lget x0.f_Peers x1.f_Peer).f_Key)>>=fun t20=>crawlwayref04_Encode t20>>=fun t23=>if ((lget ([⟨#[]⟩,⟨#[107,101,121,108,101,115,115]⟩,⟨#[105,100,108,101]⟩,⟨#[100,111,117,98,108,101]⟩,⟨#[115,104,97,114,101,100]⟩,⟨#[115,112,97,114,101]⟩,⟨#[104,105,100,100,101,110]⟩]:List ByteArray) x1.f_Kind)++(⟨#[32]⟩:ByteArray)).size+t23.size≤140737488355328 then if (!decide (x1.f_P=({ f_A:=({ f_V:=(0:Int),f_B:=(Vector.replicate 16 (0:Int):(Vector Int 16)) }:S_api_Addr),f_Bits:=(0:Int) }:S_api_Prefix)))=true then (if (((lget ([⟨#[]⟩,⟨#[107,101,121,108,101,115,115]⟩,⟨#[105,100,108,101]⟩,⟨#[100,111,117,98,108,101]⟩,⟨#[115,104,97,114,101,100]⟩,⟨#[115,112,97,114,101]⟩,⟨#[104,105,100,100,101,110]⟩]:List ByteArray) x1.f_Kind)++(⟨#[32]⟩:ByteArray))++t23).size+(⟨#[32]⟩:ByteArray).size≤140737488355328 then crawlwayref11_Text x1.f_P>>=fun t27=>if ((((lget ([⟨#[]⟩,⟨#[107,101,121,108,101,115,115]⟩,⟨#[105,100,108,101]⟩,⟨#[100,111,117,98,108,101]⟩,⟨#[115,104,97,114,101,100]⟩,⟨#[115,112,97,114,101]⟩,⟨#[104,105,100,100,101,110]⟩]:List ByteArray) x1.f_Kind)++(⟨#[32]⟩:ByteArray))++t23)++(⟨#[32]⟩:ByteArray)).size+t27.size≤140737488355328 then some (((((lget ([⟨#[]⟩,⟨#[107,101,121,108,101,115,115]⟩,⟨#[105,100,108,101]⟩,⟨#[100,111,117,98,108,101]⟩,⟨#[115,104,97,114,101,100]⟩,⟨#[115,112,97,114,101]⟩,⟨#[104,105,100,100,101,110]⟩]:List ByteArray) x1.f_Kind)++(⟨#[32]⟩:ByteArray))++t23)++(⟨#[32]⟩:ByteArray))++t27) else none else none) else (some (((lget ([⟨#[]⟩,⟨#[107,101,121,108,101,115,115]⟩,⟨#[105,100,108,101]⟩,⟨#[100,111,117,98,108,101]⟩,⟨#[115,104,97,114,101,100]⟩,⟨#[115,112,97,114,101]⟩,⟨#[104,105,100,100,101,110]⟩]:List ByteArray) x1.f_Kind)++(⟨#[32]⟩:ByteArray))++t23)) else none else none else none) else (if (!decide (x1.f_P=({ f_A:=({ f_V:=(0:Int),f_B:=(Vector.replicate 16 (0:Int):(Vector Int 16)) }:S_api_Addr),f_Bits:=(0:Int) }:S_api_Prefix)))=true then (if (lget ([⟨#[]⟩,⟨#[107,101,121,108,101,115,115]⟩,⟨#[105,100,108,101]⟩,⟨#[100,111,117,98,108,101]⟩,⟨#[115,104,97,114,101,100]⟩,⟨#[115,112,97,114,101]⟩,⟨#[104,105,100,100,101,110]⟩]:List ByteArray) x1.f_Kind).size+(⟨#[32]⟩:ByteArray).size≤140737488355328 then crawlwayref11_Text x1.f_P>>=fun t31=>if ((lget ([⟨#[]⟩,⟨#[107,101,121,108,101,115,115]⟩,⟨#[105,100,108,101]⟩,⟨#[100,111,117,98,108,101]⟩,⟨#[115,104,97,114,101,100]⟩,⟨#[115,112,97,114,101]⟩,⟨#[104,105,100,100,101,110]⟩]:List ByteArray) x1.f_Kind)++(⟨#[32]⟩:ByteArray)).size+t31.size≤140737488355328 then some (((lget ([⟨#[]⟩,⟨#[107,101,121,108,101,115,115]⟩,⟨#[105,100,108,101]⟩,⟨#[100,111,117,98,108,101]⟩,⟨#[115,104,97,114,101,100]⟩,⟨#[115,112,97,114,101]⟩,⟨#[104,105,100,100,101,110]⟩]:List ByteArray) x1.f_Kind)++(⟨#[32]⟩:ByteArray))++t31) else none else none) else (some (lget ([⟨#[]⟩,⟨#[107,101,121,108,101,115,115]⟩,⟨#[105,100,108,101]⟩,⟨#[100,111,117,98,108,101]⟩,⟨#[115,104,97,114,101,100]⟩,⟨#[115,112,97,114,101]⟩,⟨#[104,105,100,100,101,110]⟩]:List ByteArray) x1.f_Kind)))) else (if (!decide (x1.f_P=({ f_A:=({ f_V:=(0:Int),f_B:=(Vector.replicate 16 (0:Int):(Vector Int 16)) }:S_api_Addr),f_Bits:=(0:Int) }:S_api_Prefix)))=true then (if (lget ([⟨#[]⟩,⟨#[107,101,121,108,101,115,115]⟩,⟨#[105,100,108,101]⟩,⟨#[100,111,117,98,108,101]⟩,⟨#[115,104,97,114,101,100]⟩,⟨#[115,112,97,114,101]⟩,⟨#[104,105,100,100,101,110]⟩]:List ByteArray) x1.f_Kind).size+(⟨#[32]⟩:ByteArray).size≤140737488355328 then crawlwayref11_Text x1.f_P>>=fun t35=>if ((lget ([⟨#[]⟩,⟨#[107,101,121,108,101,115,115]⟩,⟨#[105,100,108,101]⟩,⟨#[100,111,117,98,108,101]⟩,⟨#[115,104,97,114,101,100]⟩,⟨#[115,112,97,114,101]⟩,⟨#[104,105,100,100,101,110]⟩]:List ByteArray) x1.f_Kind)++(⟨#[32]⟩:ByteArray)).size+t35.size≤140737488355328 then some (((lget ([⟨#[]⟩,⟨#[107,101,121,108,101,115,115]⟩,⟨#[105,100,108,101]⟩,⟨#[100,111,117,98,108,101]⟩,⟨#[115,104,97,114,101,100]⟩,⟨#[115,112,97,114,101]⟩,⟨#[104,105,100,100,101,110]⟩]:List ByteArray) x1.f_Kind)++(⟨#[32]⟩:ByteArray))++t35) else none else none) else (some (lget ([⟨#[]⟩,⟨#[107,101,121,108,101,115,115]⟩,⟨#[105,100,108,101]⟩,⟨#[100,111,117,98,108,101]⟩,⟨#[115,104,97,114,101,100]⟩,⟨#[115,112,97,114,101]⟩,⟨#[104,105,100,100,101,110]⟩]:List ByteArray) x1.f_Kind))) else none))
theorem crawlwayref60_Text_ok(g0_:G_api_Conf)(x0:S_api_Conf)(x1:S_lint_Odd)(r:ByteArray)(hF:crawlwayref60_Text x0 x1=some r)(w:World)(hn0:N_api_Conf w (g0_,x0)) :
    Calls Tryz.prog 10 #[.agg (Cd.cs c_api_Conf (g0_,x0)).toArray,.agg (Cd.cs c_lint_Odd x1).toArray] w (fun e w'=>e=.returned (.string r)∧Below w.heap.size w w'):=by
 unfold crawlwayref60_Text at hF
 refine ce (l:=[.agg (Cd.cs c_api_Conf (g0_,x0)).toArray,.agg (Cd.cs c_lint_Odd x1).toArray]) func10 rfl rfl ?_
 refine at_start ?_
 refine sr ?_
 refine at_box (cs:=Cd.cs c_api_Conf (g0_,x0)) rfl rfl rfl ?_
 intro b1
 refine at_box (cs:=Cd.cs c_lint_Odd x1) rfl rfl rfl ?_
 intro b2
 refine aa (ns ?_)
 refine at_lit (cs:=cStr.all ([⟨#[]⟩,⟨#[107,101,121,108,101,115,115]⟩,⟨#[105,100,108,101]⟩,⟨#[100,111,117,98,108,101]⟩,⟨#[115,104,97,114,101,100]⟩,⟨#[115,112,97,114,101]⟩,⟨#[104,105,100,100,101,110]⟩]:List ByteArray)) underlying72 sizeOf9 zeroValue9 rfl rfl rfl (by kernel_rfl) rfl ?_
 intro b3
 refine aa (nwq [5,3,2] ?_)
 refine qs (sr (fa 0 underlying41 rfl sizeOf3 ?_))
 refine aw (r_load_cell isAgg3 rfl (lens_cell0 (c:=(cInt .i64)) (y:=x1.f_Kind) (.s .z) (Lens.comp lw (fun z=>{ x1 with f_Kind:=z }) (c_lint_Odd_f_Kind x1)) rfl)) ?_
 refine aw xl (am ?_)
 obtain ⟨h4,hF⟩|⟨h4,hF⟩:=oi hF
 ·refine fx 11 h4 ?_
  refine gn ?_
  refine gn ?_
  refine gn ?_
  refine aw xp (nwq [15,5,3,2] ?_)
  refine ct rfl ?_
  refine sr (aa (qn (dz (dz (dz (wq [4] ?_))))))
  refine tn (rt ?_)
  have K:=os hF
  subst K
  exact r1 wb
 refine fx 11 h4 ?_
 refine gy ?_
 refine fa 0 underlying41 rfl sizeOf3 ?_
 refine gy ?_
 refine aw (r_load_cell isAgg3 rfl (lens_cell0 (c:=(cInt .i64)) (y:=x1.f_Kind) (.s .z) (Lens.comp lw (fun z=>{ x1 with f_Kind:=z }) (c_lint_Odd_f_Kind x1)) rfl)) ?_
 refine gy ?_
 refine aw (r_igtr rfl rfl) ?_
 refine aw xp (nwq [15,5,3,2] ?_)
 obtain ⟨h5,hF⟩|⟨h5,hF⟩:=oi hF
 ·refine ct h5 ?_
  refine sr (aa (qn (dz (dz (dz (wq [4] ?_))))))
  refine tn (rt ?_)
  have K:=os hF
  subst K
  exact r1 wb
 refine cf h5 ?_
 refine sns (am (fa 0 underlying41 rfl sizeOf3 ?_))
 refine aw (r_load_cell isAgg3 rfl (lens_cell0 (c:=(cInt .i64)) (y:=x1.f_Kind) (.s .z) (Lens.comp lw (fun z=>{ x1 with f_Kind:=z }) (c_lint_Odd_f_Kind x1)) rfl)) ?_
 obtain ⟨h6,hF⟩:=gd hF
 refine aw (r_idx underlying72 sizeOf9 rfl rfl h6 rfl) ?_
 refine aw (r_load_cell isAgg9 rfl (fun _ hw=>row_cell0 (W:=fun w1=>w1=_) (fun w1 h=>by subst h;exact Below.refl _ _) (cells_row (hw.ok (Upd.mem .z))) h6 rfl rfl _ rfl)) ?_
 refine aa (qn (dz (wq [6,3,2] ?_)))
 refine tn (qs (sr (fa 1 underlying41 rfl sizeOf3 ?_)))
 refine aw (r_load_cell isAgg3 rfl (lens_cell0 (c:=(cInt .i64)) (y:=x1.f_Peer) .z (Lens.comp lw (fun z=>{ x1 with f_Peer:=z }) (c_lint_Odd_f_Peer x1)) rfl)) ?_
 refine aw (r_igeq rfl rfl) ?_
 refine am ?_
 obtain ⟨h7,hF⟩|⟨h7,hF⟩:=oi hF
 ·refine fx 24 h7 ?_
  refine gy ?_
  refine fa 1 underlying41 rfl sizeOf3 ?_
  refine gy ?_
  refine aw (r_load_cell isAgg3 rfl (lens_cell0 (c:=(cInt .i64)) (y:=x1.f_Peer) .z (Lens.comp lw (fun z=>{ x1 with f_Peer:=z }) (c_lint_Odd_f_Peer x1)) rfl)) ?_
  refine gy ?_
  refine fa 34 underlying27 rfl sizeOf25 ?_
  refine gy ?_
  refine aw (r_load_cell isAgg25 rfl (lens_cell0 (c:=cHd) (y:=⟨g0_.1,List.length x0.f_Peers,g0_.2⟩) (.s .z) (c_api_Conf_f_Peers g0_ x0) rfl)) ?_
  refine gy ?_
  refine aw (r_len_sl underlying25 rfl) ?_
  refine gy ?_
  refine aw xl (aw xp (nwq [31,6,3,2] ?_))
  obtain ⟨h8,hF⟩|⟨h8,hF⟩:=oi hF
  ·refine ct h8 ?_
   refine qr (am ?_)
   obtain ⟨h9,hF⟩:=gd hF
   refine aw (r_concat rfl rfl h9) ?_
   refine fa 34 underlying27 rfl sizeOf25 ?_
   refine aw (r_load_cell isAgg25 rfl (lens_cell0 (c:=cHd) (y:=⟨g0_.1,List.length x0.f_Peers,g0_.2⟩) (.s .z) (c_api_Conf_f_Peers g0_ x0) rfl)) ?_
   refine fa 1 underlying41 rfl sizeOf3 ?_
   refine aw (r_load_cell isAgg3 rfl (lens_cell0 (c:=(cInt .i64)) (y:=x1.f_Peer) .z (Lens.comp lw (fun z=>{ x1 with f_Peer:=z }) (c_lint_Odd_f_Peer x1)) rfl)) ?_
   obtain ⟨h10,hF⟩:=gd hF
   obtain ⟨zs14,hz15,hr16,hn17⟩:=id hn0
   obtain ⟨b12,o13,hp11⟩:=row_ptr hr16 (zidx hz15 h10)
   obtain ⟨g18,hg19⟩:=zget hz15 x1.f_Peer
   refine aw (r_idx underlying25 sizeOf60 rfl rfl h10 hp11) ?_
   refine fa 0 underlying60 rfl sizeOf23 ?_
   refine aw (r_load_aggc (c:=(cVec (cInt .u8) 32 (by decide))) (z:=(lget x0.f_Peers x1.f_Peer).f_Key) isAgg23 sizeOf23 rfl (nlens (y:=(lget x0.f_Peers x1.f_Peer).f_Key) (fun _ h=>h.below) hr16 (zidx hz15 h10) hp11 hg19 (c_api_Peer_f_Key g18 (lget x0.f_Peers x1.f_Peer)))) ?_
   obtain ⟨t20,ht20,hF⟩:=bM hF
   refine at_callO (c:=(cInt .u8)) (e:=5) (ys:=t20) (V:=fun p cap=>.slice p t20.length cap) func32 rfl (by kernel_rfl) rfl rfl (fun w hw=>crawlwayref07_Bytes_ok _ _ ht20 w) ?_
   intro p21 c22
   obtain ⟨t23,ht23,hF⟩:=bM hF
   refine cB func31 rfl (fun w hw=>callB_of_call0 (crawlwayref04_Encode_ok _ _ _ _ ht23 w (hw.own .z).row)) ?_
   obtain ⟨h24,hF⟩:=gd hF
   refine aw (r_concat rfl rfl h24) ?_
   refine aa (qn (dz ?_))
   refine at_drop (H:=_) (.s .z) ?_
   refine tn (qs (sr (fa 2 underlying41 rfl sizeOf38 ?_)))
   refine aw (r_load_aggc (c:=c_api_Prefix) (z:=x1.f_P) isAgg38 sizeOf38 rfl (lens_cell .z (Lens.comp lw (fun z=>{ x1 with f_P:=z }) (c_lint_Odd_f_P x1)))) ?_
   refine aw (r_build_struct (zs:=Cd.cs c_api_Prefix zv9) (cs:=Cd.cs c_api_Prefix zv9) underlying38 zeroValue38 rfl (places_api_Prefix_38) rfl rfl) ?_
   refine aw (r_eqagg (c:=c_api_Prefix) (a:=x1.f_P) (b:=zv9) (eq_api_Prefix_38) rfl Tryz.eqGuardType38 rfl rfl (.inr rfl) rfl) ?_
   refine nwq [47,6,3] ?_
   obtain ⟨h25,hF⟩|⟨h25,hF⟩:=oi hF
   ·refine ct h25 ?_
    refine qr (am ?_)
    obtain ⟨h26,hF⟩:=gd hF
    refine aw (r_concat rfl rfl h26) ?_
    refine fa 2 underlying41 rfl sizeOf38 ?_
    refine aw (r_load_aggc (c:=c_api_Prefix) (z:=x1.f_P) isAgg38 sizeOf38 rfl (lens_cell .z (Lens.comp lw (fun z=>{ x1 with f_P:=z }) (c_lint_Odd_f_P x1)))) ?_
    obtain ⟨t27,ht27,hF⟩:=bM hF
    refine cB func33 rfl (fun w hw=>crawlwayref11_Text_ok _ _ ht27 w) ?_
    obtain ⟨h28,hF⟩:=gd hF
    refine aw (r_concat rfl rfl h28) ?_
    refine aa (qn (dz (tn (sr (am (aa (nwq [4] ?_)))))))
    refine qt ?_
    have K:=os hF
    subst K
    exact r1 wb
   refine cf h25 ?_
   refine sns (am (aa (qn (dz (wq [4] ?_)))))
   refine tn (qt ?_)
   have K:=os hF
   subst K
   exact r1 wb
  refine cf h8 ?_
  refine sn (qs (sr (fa 2 underlying41 rfl sizeOf38 ?_)))
  refine aw (r_load_aggc (c:=c_api_Prefix) (z:=x1.f_P) isAgg38 sizeOf38 rfl (lens_cell .z (Lens.comp lw (fun z=>{ x1 with f_P:=z }) (c_lint_Odd_f_P x1)))) ?_
  refine aw (r_build_struct (zs:=Cd.cs c_api_Prefix zv9) (cs:=Cd.cs c_api_Prefix zv9) underlying38 zeroValue38 rfl (places_api_Prefix_38) rfl rfl) ?_
  refine aw (r_eqagg (c:=c_api_Prefix) (a:=x1.f_P) (b:=zv9) (eq_api_Prefix_38) rfl Tryz.eqGuardType38 rfl rfl (.inr rfl) rfl) ?_
  refine qn ?_
  refine at_drop (H:=_) (.s .z) ?_
  refine wq [47,6,3] ?_
  refine tn ?_
  obtain ⟨h29,hF⟩|⟨h29,hF⟩:=oi hF
  ·refine ct h29 ?_
   refine qr (am ?_)
   obtain ⟨h30,hF⟩:=gd hF
   refine aw (r_concat rfl rfl h30) ?_
   refine fa 2 underlying41 rfl sizeOf38 ?_
   refine aw (r_load_aggc (c:=c_api_Prefix) (z:=x1.f_P) isAgg38 sizeOf38 rfl (lens_cell .z (Lens.comp lw (fun z=>{ x1 with f_P:=z }) (c_lint_Odd_f_P x1)))) ?_
   obtain ⟨t31,ht31,hF⟩:=bM hF
   refine cB func33 rfl (fun w hw=>crawlwayref11_Text_ok _ _ ht31 w) ?_
   obtain ⟨h32,hF⟩:=gd hF
   refine aw (r_concat rfl rfl h32) ?_
   refine aa (qn (dz (tn (sr (am (aa (nwq [4] ?_)))))))
   refine qt ?_
   have K:=os hF
   subst K
   exact r1 wb
  refine cf h29 ?_
  refine sns (am (aa (qn (dz (wq [4] ?_)))))
  refine tn (qt ?_)
  have K:=os hF
  subst K
  exact r1 wb
 refine fx 24 h7 ?_
 refine gn ?_
 refine gn ?_
 refine gn ?_
 refine gn ?_
 refine gn ?_
 refine gn ?_
 refine aw xp (nwq [31,6,3,2] ?_)
 refine cf rfl ?_
 refine sn (qs (sr (fa 2 underlying41 rfl sizeOf38 ?_)))
 refine aw (r_load_aggc (c:=c_api_Prefix) (z:=x1.f_P) isAgg38 sizeOf38 rfl (lens_cell .z (Lens.comp lw (fun z=>{ x1 with f_P:=z }) (c_lint_Odd_f_P x1)))) ?_
 refine aw (r_build_struct (zs:=Cd.cs c_api_Prefix zv9) (cs:=Cd.cs c_api_Prefix zv9) underlying38 zeroValue38 rfl (places_api_Prefix_38) rfl rfl) ?_
 refine aw (r_eqagg (c:=c_api_Prefix) (a:=x1.f_P) (b:=zv9) (eq_api_Prefix_38) rfl Tryz.eqGuardType38 rfl rfl (.inr rfl) rfl) ?_
 refine qn ?_
 refine at_drop (H:=_) (.s .z) ?_
 refine wq [47,6,3] ?_
 refine tn ?_
 obtain ⟨h33,hF⟩|⟨h33,hF⟩:=oi hF
 ·refine ct h33 ?_
  refine qr (am ?_)
  obtain ⟨h34,hF⟩:=gd hF
  refine aw (r_concat rfl rfl h34) ?_
  refine fa 2 underlying41 rfl sizeOf38 ?_
  refine aw (r_load_aggc (c:=c_api_Prefix) (z:=x1.f_P) isAgg38 sizeOf38 rfl (lens_cell .z (Lens.comp lw (fun z=>{ x1 with f_P:=z }) (c_lint_Odd_f_P x1)))) ?_
  obtain ⟨t35,ht35,hF⟩:=bM hF
  refine cB func33 rfl (fun w hw=>crawlwayref11_Text_ok _ _ ht35 w) ?_
  obtain ⟨h36,hF⟩:=gd hF
  refine aw (r_concat rfl rfl h36) ?_
  refine aa (qn (dz (tn (sr (am (aa (nwq [4] ?_)))))))
  refine qt ?_
  have K:=os hF
  subst K
  exact r1 wb
 refine cf h33 ?_
 refine sns (am (aa (qn (dz (wq [4] ?_)))))
 refine tn (qt ?_)
 have K:=os hF
 subst K
 exact r1 wb
def lint_Text(x0:S_api_Conf)(x1:S_lint_Odd):Option (ByteArray) :=
 if (decide (x1.f_Kind<1))=true then (some (⟨#[]⟩)) else (if (decide (x1.f_Kind>6))=true then (some (⟨#[]⟩)) else (if (0:Int)≤x1.f_Kind∧x1.f_Kind<7 then if (decide (x1.f_Peer≥0))=true then (if (decide (x1.f_Peer<(x0.f_Peers.length:Int)))=true then (if (0:Int)≤x1.f_Peer∧x1.f_Peer<(x0.f_Peers.length:Int) then keys_Text ((lget x0.f_Peers x1.f_Peer).f_Key)>>=fun t19=>if (([vget gval_lint_words x1.f_Kind]:List ByteArray).length+1)*16≤140737488355328 then if (!decide (x1.f_P=({ f_A:=({ f_V:=(0:Int),f_B:=(Vector.replicate 16 (0:Int):(Vector Int 16)) }:S_api_Addr),f_Bits:=(0:Int) }:S_api_Prefix)))=true then (cidr_Text x1.f_P>>=fun t25=>if ((([vget gval_lint_words x1.f_Kind]:List ByteArray)++[t19]).length+1)*16≤140737488355328 then if List.length ((([vget gval_lint_words x1.f_Kind]:List ByteArray)++[t19])++[t25])≤140737488355328 then if (bjoin ((([vget gval_lint_words x1.f_Kind]:List ByteArray)++[t19])++[t25]) (⟨#[32]⟩:ByteArray)).size≤140737488355328 then some (bjoin ((([vget gval_lint_words x1.f_Kind]:List ByteArray)++[t19])++[t25]) (⟨#[32]⟩:ByteArray)) else none else none else none) else (if List.length (([vget gval_lint_words x1.f_Kind]:List ByteArray)++[t19])≤140737488355328 then if (bjoin (([vget gval_lint_words x1.f_Kind]:List ByteArray)++[t19]) (⟨#[32]⟩:ByteArray)).size≤140737488355328 then some (bjoin (([vget gval_lint_words x1.f_Kind]:List ByteArray)++[t19]) (⟨#[32]⟩:ByteArray)) else none else none) else none else none) else (if (!decide (x1.f_P=({ f_A:=({ f_V:=(0:Int),f_B:=(Vector.replicate 16 (0:Int):(Vector Int 16)) }:S_api_Addr),f_Bits:=(0:Int) }:S_api_Prefix)))=true then (cidr_Text x1.f_P>>=fun t35=>if (([vget gval_lint_words x1.f_Kind]:List ByteArray).length+1)*16≤140737488355328 then if List.length (([vget gval_lint_words x1.f_Kind]:List ByteArray)++[t35])≤140737488355328 then if (bjoin (([vget gval_lint_words x1.f_Kind]:List ByteArray)++[t35]) (⟨#[32]⟩:ByteArray)).size≤140737488355328 then some (bjoin (([vget gval_lint_words x1.f_Kind]:List ByteArray)++[t35]) (⟨#[32]⟩:ByteArray)) else none else none else none) else (if List.length ([vget gval_lint_words x1.f_Kind]:List ByteArray)≤140737488355328 then if (bjoin ([vget gval_lint_words x1.f_Kind]:List ByteArray) (⟨#[32]⟩:ByteArray)).size≤140737488355328 then some (bjoin ([vget gval_lint_words x1.f_Kind]:List ByteArray) (⟨#[32]⟩:ByteArray)) else none else none))) else (if (!decide (x1.f_P=({ f_A:=({ f_V:=(0:Int),f_B:=(Vector.replicate 16 (0:Int):(Vector Int 16)) }:S_api_Addr),f_Bits:=(0:Int) }:S_api_Prefix)))=true then (cidr_Text x1.f_P>>=fun t45=>if (([vget gval_lint_words x1.f_Kind]:List ByteArray).length+1)*16≤140737488355328 then if List.length (([vget gval_lint_words x1.f_Kind]:List ByteArray)++[t45])≤140737488355328 then if (bjoin (([vget gval_lint_words x1.f_Kind]:List ByteArray)++[t45]) (⟨#[32]⟩:ByteArray)).size≤140737488355328 then some (bjoin (([vget gval_lint_words x1.f_Kind]:List ByteArray)++[t45]) (⟨#[32]⟩:ByteArray)) else none else none else none) else (if List.length ([vget gval_lint_words x1.f_Kind]:List ByteArray)≤140737488355328 then if (bjoin ([vget gval_lint_words x1.f_Kind]:List ByteArray) (⟨#[32]⟩:ByteArray)).size≤140737488355328 then some (bjoin ([vget gval_lint_words x1.f_Kind]:List ByteArray) (⟨#[32]⟩:ByteArray)) else none else none)) else none))
theorem lint_Text_ok(g0_:G_api_Conf)(x0:S_api_Conf)(x1:S_lint_Odd)(r:ByteArray)(hF:lint_Text x0 x1=some r)(w:World)(hn0:N_api_Conf w (g0_,x0))(hg_lint_words:GV_lint_words w)(hg_strconv_uint64pow10:GV_strconv_uint64pow10 w) :
    Calls Tryz.prog 12 #[.agg (Cd.cs c_api_Conf (g0_,x0)).toArray,.agg (Cd.cs c_lint_Odd x1).toArray] w (fun e w'=>e=.returned (.string r)∧Below w.heap.size w w'):=by
 unfold lint_Text at hF
 refine ce (l:=[.agg (Cd.cs c_api_Conf (g0_,x0)).toArray,.agg (Cd.cs c_lint_Odd x1).toArray]) func12 rfl rfl ?_
 refine at_start ?_
 refine sr ?_
 refine at_box (cs:=Cd.cs c_api_Conf (g0_,x0)) rfl rfl rfl ?_
 intro b1
 refine at_box (cs:=Cd.cs c_lint_Odd x1) rfl rfl rfl ?_
 intro b2
 refine aa (nwq [3,2] ?_)
 refine qs (sr (fa 0 underlying40 rfl sizeOf3 ?_))
 refine aw (r_load_cell isAgg3 rfl (lens_cell0 (c:=(cInt .i64)) (y:=x1.f_Kind) .z (Lens.comp lw (fun z=>{ x1 with f_Kind:=z }) (c_lint_Odd_f_Kind x1)) rfl)) ?_
 refine aw xl (am ?_)
 obtain ⟨h3,hF⟩|⟨h3,hF⟩:=oi hF
 ·refine fx 9 h3 ?_
  refine gn ?_
  refine gn ?_
  refine gn ?_
  refine aw xp (nwq [13,3,2] ?_)
  refine ct rfl ?_
  refine sr (aa (qn (dz (dz (wq [4] ?_)))))
  refine tn (rt ?_)
  have K:=os hF
  subst K
  exact r1 wb
 refine fx 9 h3 ?_
 refine gy ?_
 refine fa 0 underlying40 rfl sizeOf3 ?_
 refine gy ?_
 refine aw (r_load_cell isAgg3 rfl (lens_cell0 (c:=(cInt .i64)) (y:=x1.f_Kind) .z (Lens.comp lw (fun z=>{ x1 with f_Kind:=z }) (c_lint_Odd_f_Kind x1)) rfl)) ?_
 refine gy ?_
 refine aw (r_igtr rfl rfl) ?_
 refine aw xp (nwq [13,3,2] ?_)
 obtain ⟨h4,hF⟩|⟨h4,hF⟩:=oi hF
 ·refine ct h4 ?_
  refine sr (aa (qn (dz (dz (wq [4] ?_)))))
  refine tn (rt ?_)
  have K:=os hF
  subst K
  exact r1 wb
 refine cf h4 ?_
 refine sns (fa 0 underlying40 rfl sizeOf3 ?_)
 refine aw (r_load_cell isAgg3 rfl (lens_cell0 (c:=(cInt .i64)) (y:=x1.f_Kind) .z (Lens.comp lw (fun z=>{ x1 with f_Kind:=z }) (c_lint_Odd_f_Kind x1)) rfl)) ?_
 obtain ⟨h5,hF⟩:=gd hF
 refine aw (r_idxArr underlying78 sizeOf9 rfl rfl h5) ?_
 refine aw (r_load_cell isAgg9 rfl (glob_cell0 (c':=cStr) (y:=vget gval_lint_words x1.f_Kind) (fun _ h=>h.below) hg_lint_words g_lint_words (Lens.comp lw (fun z=>vset gval_lint_words x1.f_Kind z) (Lens.vec cStr (by decide) gval_lint_words x1.f_Kind h5)) rfl)) ?_
 refine at_lit (cs:=cStr.all ([vget gval_lint_words x1.f_Kind]:List ByteArray)) underlying72 sizeOf9 zeroValue9 rfl rfl rfl (by kernel_rfl) rfl ?_
 intro b6
 refine aa (nwq [5,3,2] ?_)
 refine qs (sr (fa 1 underlying40 rfl sizeOf3 ?_))
 refine aw (r_load_cell isAgg3 rfl (lens_cell0 (c:=(cInt .i64)) (y:=x1.f_Peer) (.s .z) (Lens.comp lw (fun z=>{ x1 with f_Peer:=z }) (c_lint_Odd_f_Peer x1)) rfl)) ?_
 refine aw (r_igeq rfl rfl) ?_
 refine am ?_
 obtain ⟨h7,hF⟩|⟨h7,hF⟩:=oi hF
 ·refine fx 22 h7 ?_
  refine gy ?_
  refine fa 1 underlying40 rfl sizeOf3 ?_
  refine gy ?_
  refine aw (r_load_cell isAgg3 rfl (lens_cell0 (c:=(cInt .i64)) (y:=x1.f_Peer) (.s .z) (Lens.comp lw (fun z=>{ x1 with f_Peer:=z }) (c_lint_Odd_f_Peer x1)) rfl)) ?_
  refine gy ?_
  refine fa 34 underlying27 rfl sizeOf25 ?_
  refine gy ?_
  refine aw (r_load_cell isAgg25 rfl (lens_cell0 (c:=cHd) (y:=⟨g0_.1,List.length x0.f_Peers,g0_.2⟩) (.s (.s .z)) (c_api_Conf_f_Peers g0_ x0) rfl)) ?_
  refine gy ?_
  refine aw (r_len_sl underlying25 rfl) ?_
  refine gy ?_
  refine aw xl (aw xp (nwq [29,5,3,2] ?_))
  obtain ⟨h8,hF⟩|⟨h8,hF⟩:=oi hF
  ·refine ct h8 ?_
   refine qr (am (fa 34 underlying27 rfl sizeOf25 ?_))
   refine aw (r_load_cell isAgg25 rfl (lens_cell0 (c:=cHd) (y:=⟨g0_.1,List.length x0.f_Peers,g0_.2⟩) (.s (.s .z)) (c_api_Conf_f_Peers g0_ x0) rfl)) ?_
   refine fa 1 underlying40 rfl sizeOf3 ?_
   refine aw (r_load_cell isAgg3 rfl (lens_cell0 (c:=(cInt .i64)) (y:=x1.f_Peer) (.s .z) (Lens.comp lw (fun z=>{ x1 with f_Peer:=z }) (c_lint_Odd_f_Peer x1)) rfl)) ?_
   obtain ⟨h9,hF⟩:=gd hF
   obtain ⟨zs13,hz14,hr15,hn16⟩:=id hn0
   obtain ⟨b11,o12,hp10⟩:=row_ptr hr15 (zidx hz14 h9)
   obtain ⟨g17,hg18⟩:=zget hz14 x1.f_Peer
   refine aw (r_idx underlying25 sizeOf60 rfl rfl h9 hp10) ?_
   refine fa 0 underlying60 rfl sizeOf23 ?_
   refine aw (r_load_aggc (c:=(cVec (cInt .u8) 32 (by decide))) (z:=(lget x0.f_Peers x1.f_Peer).f_Key) isAgg23 sizeOf23 rfl (nlens (y:=(lget x0.f_Peers x1.f_Peer).f_Key) (fun _ h=>h.below) hr15 (zidx hz14 h9) hp10 hg18 (c_api_Peer_f_Key g17 (lget x0.f_Peers x1.f_Peer)))) ?_
   obtain ⟨t19,ht19,hF⟩:=bM hF
   refine cB func35 rfl (fun w hw=>keys_Text_ok _ _ ht19 w) ?_
   refine at_lit (cs:=cStr.all ([t19]:List ByteArray)) underlying72 sizeOf9 zeroValue9 rfl rfl rfl (by kernel_rfl) rfl ?_
   intro b20
   refine at_lit_row (c:=cStr) (xs:=([vget gval_lint_words x1.f_Kind]:List ByteArray)) (m:=1) (.s .z) rfl rfl ?_
   obtain ⟨h21,hF⟩:=gd hF
   refine at_append (z:=.string ⟨#[]⟩) (c:=cStr) (ys:=([t19]:List ByteArray)) (.s .z) underlying72 infoV29 (by kernel_rfl) (by kernel_rfl) rfl rfl rfl rfl (fun _ hw=>cells_src (hw.ok (Upd.mem .z))) (by kernel_rfl) h21 (app_small h21) rfl ?_
   intro p22 c23
   refine aa (qn (dz ?_))
   refine at_drop (H:=_) (.s (.s .z)) ?_
   refine tn (qs (sr (fa 2 underlying40 rfl sizeOf38 ?_)))
   refine aw (r_load_aggc (c:=c_api_Prefix) (z:=x1.f_P) isAgg38 sizeOf38 rfl (lens_cell (.s .z) (Lens.comp lw (fun z=>{ x1 with f_P:=z }) (c_lint_Odd_f_P x1)))) ?_
   refine aw (r_build_struct (zs:=Cd.cs c_api_Prefix zv9) (cs:=Cd.cs c_api_Prefix zv9) underlying38 zeroValue38 rfl (places_api_Prefix_38) rfl rfl) ?_
   refine aw (r_eqagg (c:=c_api_Prefix) (a:=x1.f_P) (b:=zv9) (eq_api_Prefix_38) rfl Tryz.eqGuardType38 rfl rfl (.inr rfl) rfl) ?_
   refine nwq [44,5,3] ?_
   obtain ⟨h24,hF⟩|⟨h24,hF⟩:=oi hF
   ·refine ct h24 ?_
    refine qr (am (fa 2 underlying40 rfl sizeOf38 ?_))
    refine aw (r_load_aggc (c:=c_api_Prefix) (z:=x1.f_P) isAgg38 sizeOf38 rfl (lens_cell (.s .z) (Lens.comp lw (fun z=>{ x1 with f_P:=z }) (c_lint_Odd_f_P x1)))) ?_
    obtain ⟨t25,ht25,hF⟩:=bM hF
    refine cB func36 rfl (fun w hw=>cidr_Text_ok _ _ ht25 w (hg_strconv_uint64pow10.on hw.below)) ?_
    refine at_lit (cs:=cStr.all ([t25]:List ByteArray)) underlying72 sizeOf9 zeroValue9 rfl rfl rfl (by kernel_rfl) rfl ?_
    intro b26
    obtain ⟨h27,hF⟩:=gd hF
    refine at_append (z:=.string ⟨#[]⟩) (c:=cStr) (ys:=([t25]:List ByteArray)) (.s .z) underlying72 infoV29 (by kernel_rfl) (by kernel_rfl) rfl rfl rfl rfl (fun _ hw=>cells_src (hw.ok (Upd.mem .z))) (by kernel_rfl) h27 (app_small h27) rfl ?_
    intro p28 c29
    refine aa (qn (dz ?_))
    refine at_drop (H:=_) (.s .z) ?_
    refine tn (sr (am ?_))
    obtain ⟨h30,hF⟩:=gd hF
    obtain ⟨h31,hF⟩:=gd hF
    refine cB func37 rfl (fun w1 hw=>join_ok _ _ h30 h31 _ _ w1 (hw.own .z).row) ?_
    refine aa (qn (dz (wq [4] ?_)))
    refine tn (qt ?_)
    have K:=os hF
    subst K
    exact r1 wb
   refine cf h24 ?_
   refine sns (am ?_)
   obtain ⟨h32,hF⟩:=gd hF
   obtain ⟨h33,hF⟩:=gd hF
   refine cB func37 rfl (fun w1 hw=>join_ok _ _ h32 h33 _ _ w1 (hw.own .z).row) ?_
   refine aa (qn (dz (dz (wq [4] ?_))))
   refine tn (qt ?_)
   have K:=os hF
   subst K
   exact r1 wb
  refine cf h8 ?_
  refine sn (qs (sr (fa 2 underlying40 rfl sizeOf38 ?_)))
  refine aw (r_load_aggc (c:=c_api_Prefix) (z:=x1.f_P) isAgg38 sizeOf38 rfl (lens_cell (.s .z) (Lens.comp lw (fun z=>{ x1 with f_P:=z }) (c_lint_Odd_f_P x1)))) ?_
  refine aw (r_build_struct (zs:=Cd.cs c_api_Prefix zv9) (cs:=Cd.cs c_api_Prefix zv9) underlying38 zeroValue38 rfl (places_api_Prefix_38) rfl rfl) ?_
  refine aw (r_eqagg (c:=c_api_Prefix) (a:=x1.f_P) (b:=zv9) (eq_api_Prefix_38) rfl Tryz.eqGuardType38 rfl rfl (.inr rfl) rfl) ?_
  refine qn ?_
  refine at_drop (H:=_) (.s (.s .z)) ?_
  refine wq [44,5,3] ?_
  refine tn ?_
  obtain ⟨h34,hF⟩|⟨h34,hF⟩:=oi hF
  ·refine ct h34 ?_
   refine qr (am (fa 2 underlying40 rfl sizeOf38 ?_))
   refine aw (r_load_aggc (c:=c_api_Prefix) (z:=x1.f_P) isAgg38 sizeOf38 rfl (lens_cell (.s .z) (Lens.comp lw (fun z=>{ x1 with f_P:=z }) (c_lint_Odd_f_P x1)))) ?_
   obtain ⟨t35,ht35,hF⟩:=bM hF
   refine cB func36 rfl (fun w hw=>cidr_Text_ok _ _ ht35 w (hg_strconv_uint64pow10.on hw.below)) ?_
   refine at_lit (cs:=cStr.all ([t35]:List ByteArray)) underlying72 sizeOf9 zeroValue9 rfl rfl rfl (by kernel_rfl) rfl ?_
   intro b36
   refine at_lit_row (c:=cStr) (xs:=([vget gval_lint_words x1.f_Kind]:List ByteArray)) (m:=1) (.s .z) rfl rfl ?_
   obtain ⟨h37,hF⟩:=gd hF
   refine at_append (z:=.string ⟨#[]⟩) (c:=cStr) (ys:=([t35]:List ByteArray)) (.s .z) underlying72 infoV29 (by kernel_rfl) (by kernel_rfl) rfl rfl rfl rfl (fun _ hw=>cells_src (hw.ok (Upd.mem .z))) (by kernel_rfl) h37 (app_small h37) rfl ?_
   intro p38 c39
   refine aa (qn (dz ?_))
   refine at_drop (H:=_) (.s .z) ?_
   refine tn (sr (am ?_))
   obtain ⟨h40,hF⟩:=gd hF
   obtain ⟨h41,hF⟩:=gd hF
   refine cB func37 rfl (fun w1 hw=>join_ok _ _ h40 h41 _ _ w1 (hw.own .z).row) ?_
   refine aa (qn (dz (wq [4] ?_)))
   refine tn (qt ?_)
   have K:=os hF
   subst K
   exact r1 wb
  refine cf h34 ?_
  refine sns (am ?_)
  obtain ⟨h42,hF⟩:=gd hF
  obtain ⟨h43,hF⟩:=gd hF
  refine cB func37 rfl (fun w1 hw=>join_ok _ _ h42 h43 _ _ w1 (cells_row (hw.ok (Upd.mem .z)))) ?_
  refine aa (qn (dz (dz (wq [4] ?_))))
  refine tn (qt ?_)
  have K:=os hF
  subst K
  exact r1 wb
 refine fx 22 h7 ?_
 refine gn ?_
 refine gn ?_
 refine gn ?_
 refine gn ?_
 refine gn ?_
 refine gn ?_
 refine aw xp (nwq [29,5,3,2] ?_)
 refine cf rfl ?_
 refine sn (qs (sr (fa 2 underlying40 rfl sizeOf38 ?_)))
 refine aw (r_load_aggc (c:=c_api_Prefix) (z:=x1.f_P) isAgg38 sizeOf38 rfl (lens_cell (.s .z) (Lens.comp lw (fun z=>{ x1 with f_P:=z }) (c_lint_Odd_f_P x1)))) ?_
 refine aw (r_build_struct (zs:=Cd.cs c_api_Prefix zv9) (cs:=Cd.cs c_api_Prefix zv9) underlying38 zeroValue38 rfl (places_api_Prefix_38) rfl rfl) ?_
 refine aw (r_eqagg (c:=c_api_Prefix) (a:=x1.f_P) (b:=zv9) (eq_api_Prefix_38) rfl Tryz.eqGuardType38 rfl rfl (.inr rfl) rfl) ?_
 refine qn ?_
 refine at_drop (H:=_) (.s (.s .z)) ?_
 refine wq [44,5,3] ?_
 refine tn ?_
 obtain ⟨h44,hF⟩|⟨h44,hF⟩:=oi hF
 ·refine ct h44 ?_
  refine qr (am (fa 2 underlying40 rfl sizeOf38 ?_))
  refine aw (r_load_aggc (c:=c_api_Prefix) (z:=x1.f_P) isAgg38 sizeOf38 rfl (lens_cell (.s .z) (Lens.comp lw (fun z=>{ x1 with f_P:=z }) (c_lint_Odd_f_P x1)))) ?_
  obtain ⟨t45,ht45,hF⟩:=bM hF
  refine cB func36 rfl (fun w hw=>cidr_Text_ok _ _ ht45 w (hg_strconv_uint64pow10.on hw.below)) ?_
  refine at_lit (cs:=cStr.all ([t45]:List ByteArray)) underlying72 sizeOf9 zeroValue9 rfl rfl rfl (by kernel_rfl) rfl ?_
  intro b46
  refine at_lit_row (c:=cStr) (xs:=([vget gval_lint_words x1.f_Kind]:List ByteArray)) (m:=1) (.s .z) rfl rfl ?_
  obtain ⟨h47,hF⟩:=gd hF
  refine at_append (z:=.string ⟨#[]⟩) (c:=cStr) (ys:=([t45]:List ByteArray)) (.s .z) underlying72 infoV29 (by kernel_rfl) (by kernel_rfl) rfl rfl rfl rfl (fun _ hw=>cells_src (hw.ok (Upd.mem .z))) (by kernel_rfl) h47 (app_small h47) rfl ?_
  intro p48 c49
  refine aa (qn (dz ?_))
  refine at_drop (H:=_) (.s .z) ?_
  refine tn (sr (am ?_))
  obtain ⟨h50,hF⟩:=gd hF
  obtain ⟨h51,hF⟩:=gd hF
  refine cB func37 rfl (fun w1 hw=>join_ok _ _ h50 h51 _ _ w1 (hw.own .z).row) ?_
  refine aa (qn (dz (wq [4] ?_)))
  refine tn (qt ?_)
  have K:=os hF
  subst K
  exact r1 wb
 refine cf h44 ?_
 refine sns (am ?_)
 obtain ⟨h52,hF⟩:=gd hF
 obtain ⟨h53,hF⟩:=gd hF
 refine cB func37 rfl (fun w1 hw=>join_ok _ _ h52 h53 _ _ w1 (cells_row (hw.ok (Upd.mem .z)))) ?_
 refine aa (qn (dz (dz (wq [4] ?_))))
 refine tn (qt ?_)
 have K:=os hF
 subst K
 exact r1 wb
def lines_Join.l0(x0:List ByteArray)(i4:Int)(i5:ByteArray):Option (ByteArray) :=
 if (decide (i4<(x0.length:Int)))=true then (if (0:Int)≤i4∧i4<(x0.length:Int) then if i5.size+(lget x0 i4).size≤140737488355328 then if (i5++(lget x0 i4)).size+(⟨#[10]⟩:ByteArray).size≤140737488355328 then lines_Join.l0 x0 (wr .i64 (i4+1)) ((i5++(lget x0 i4))++(⟨#[10]⟩:ByteArray)) else none else none else none) else (some i5)
 partial_fixpoint
def lines_Join(x0:List ByteArray):Option (ByteArray) :=
 lines_Join.l0 x0 0 ByteArray.empty>>=fun q3=>some q3
theorem lines_Join_ok(x0:List ByteArray)(p0_:Option Addr)(c0_:Nat)(r:ByteArray)(hF:lines_Join x0=some r)(w:World)(hr0:Row cStr w p0_ c0_ x0) :
    Calls Tryz.prog 34 #[.slice p0_ x0.length c0_] w (fun e w'=>e=.returned (.string r)∧Below w.heap.size w w'):=by
 unfold lines_Join at hF
 refine ce (l:=[.slice p0_ x0.length c0_]) func34 rfl rfl ?_
 refine at_start ?_
 refine sr (aa (ns ?_))
 refine at_alloc_bld (e:=5) zeroValue97 rfl ?_
 intro b1
 refine nt (qs (sr (am ?_)))
 refine aw (r_len_sl underlying72 rfl) ?_
 refine am (nwq [8,7,6,3] ?_)
 refine qb ?_
 obtain ⟨q3,hq3,hF⟩:=bM hF
 refine wq [8,7,6,3] ?_
 refine at_loop_n (B:=0) (A:=fun Y=>∀ (g7:Option Nat),At 17 [(3,.pointer (some ⟨b1,0,none⟩))] (Wd w [bldE 97 5 b1 g7 q3]) Y) ?_ ?_
 ·intro K
  refine lines_Join.l0.partial_correctness x0 (motive:=fun i4 i5 x=>KN (fun Y=>∀ (g7:Option Nat),At 17 [(3,.pointer (some ⟨b1,0,none⟩))] (Wd w [bldE 97 5 b1 g7 x]) Y) _ 0→Round (fun Y=>∀ (g6:Option Nat),At 17 [(3,.pointer (some ⟨b1,0,none⟩)),(6,.slice p0_ x0.length c0_),(7,.int .i64 (x0.length:Int)),(8,.int .i64 i4)] (Wd w [bldE 97 5 b1 g6 i5]) Y) _ _ _) ?_ _ _ _ hq3 K none
  ·clear K hF
   intro g ih i4 i5 x hF K g6
   refine at_round ?_
   refine sr (aw xl (nwq [9,8,7,6,3] ?_))
   refine qs ?_
   obtain ⟨h8,hF⟩|⟨h8,hF⟩:=oi hF
   ·refine ct h8 ?_
    refine sn (qs ?_)
    refine qb ?_
    refine sr ?_
    obtain ⟨h9,hF⟩:=gd hF
    obtain ⟨b11,o12,hp10⟩:=row_ptr hr0 h9
    refine aw (r_idx underlying72 sizeOf9 rfl rfl h9 hp10) ?_
    refine aw (r_load_cell isAgg9 rfl (row_cell0 (fun _ h=>h.below) hr0 h9 hp10 rfl)) ?_
    refine aa (nwx [8,7,6,5,3] ?_)
    refine am ?_
    obtain ⟨h14,hF⟩:=gd hF
    refine at_bld_str (s:=(lget x0 i4)) .z trivial func58 rfl (by kernel_rfl) rfl rfl h14 Tryz.Builder_WriteString_k ?_
    intro g13
    refine nwq [8,7,6,3] ?_
    refine qr ?_
    obtain ⟨h16,hF⟩:=gd hF
    refine at_bld_str (s:=(⟨#[10]⟩:ByteArray)) .z trivial func58 rfl (by kernel_rfl) rfl rfl h16 Tryz.Builder_WriteString_k ?_
    intro g15
    refine qn (wq [8,7,6,3] ?_)
    refine bm ?_
    refine qr (aw xa (am (nwq [8,7,6,3] ?_)))
    exact at_weak_k (ih _ _ _ hF K g15) ⟨rfl,rfl,rfl,rfl,trivial⟩
   refine cf h8 ?_
   refine at_exit ?_
   refine te (te ?_)
   obtain rfl:=os hF
   exact at_weak_k (K g6) ⟨rfl,trivial⟩
 skip
 intro g7
 refine at_blk_same ?_
 refine tn (sr ?_)
 refine at_bld_string .z trivial func59 rfl (by kernel_rfl) rfl rfl Tryz.Builder_String_any_k ?_
 intro g17
 refine aa (qn (dz (wq [2] ?_)))
 refine tn (qt ?_)
 have K:=os hF
 subst K
 exact r1 wb
end Go.Proofs.YtahlbjmafceoeaaGreatDoor
namespace Go.Proofs.YtahlbjmafceoeaaGreatDoor
open E Go.RowKit _root_.Go.Proofs.Tryz
def lint_finder_double.l0(x0:S_lint_finder)(x1:Int)(i14:Int):Option (Ctl (Bool) (Unit)) :=
 if (decide (i14<((lsub x0.f_c.f_Peers 0 x1).length:Int)))=true then (if (0:Int)≤i14∧i14<((lsub x0.f_c.f_Peers 0 x1).length:Int) then if (decide ((lget (lsub x0.f_c.f_Peers 0 x1) i14).f_End=(lget x0.f_c.f_Peers x1).f_End))=true then (hostport_None ((lget x0.f_c.f_Peers x1).f_End)>>=fun t28=>if (!t28)=true then (some (.ret true)) else (lint_finder_double.l0 x0 x1 (wr .i64 (i14+1)))) else (lint_finder_double.l0 x0 x1 (wr .i64 (i14+1))) else none) else (some (.nx ()))
 partial_fixpoint
def lint_finder_double(x0:S_lint_finder)(x1:Int):Option (Bool) :=
 if (0:Int)≤x1∧x1<(x0.f_c.f_Peers.length:Int) then if (0:Int)≤0∧0≤x1∧x1≤(x0.f_c.f_Peers.length:Int) then lint_finder_double.l0 x0 x1 0>>=fun q13=>match q13 with | .ret r'=>some r' | .nx sq13=>(some false) else none else none
theorem lint_finder_double_ok{x0:S_lint_finder}{x1:Int}{r:Bool}(hF:lint_finder_double x0 x1=some r):∀ {w0 w:World} {G_:List Ent} {b0_:Nat} {g0f_c_:G_api_Conf} {p0f_own_:Option Addr} {c0f_own_:Nat} {p0f_out_:Option Addr} {c0f_out_:Nat} (hw_:Wd w0 (cellsE b0_ (Cd.cs c_lint_finder ((g0f_c_,(p0f_own_,c0f_own_),(p0f_out_,c0f_out_)),x0)) 63::rowE c_api_Entry 49 p0f_own_ c0f_own_ x0.f_own::rowE c_lint_Odd 40 p0f_out_ c0f_out_ x0.f_out::G_) w) (hn0f_c_:N_api_Conf w0 (g0f_c_,x0.f_c)),
    Calls Tryz.prog 23 #[.pointer (some ⟨b0_,0,none⟩),.int .i64 x1] w (fun e w'=>e=.returned (.bool r)∧Wd w0 (cellsE b0_ (Cd.cs c_lint_finder ((g0f_c_,(p0f_own_,c0f_own_),(p0f_out_,c0f_out_)),x0)) 63::rowE c_api_Entry 49 p0f_own_ c0f_own_ x0.f_own::rowE c_lint_Odd 40 p0f_out_ c0f_out_ x0.f_out::G_) w'):=by
 intro w0 w G_ b0_ g0f_c_ p0f_own_ c0f_own_ p0f_out_ c0f_out_ hw_ hn0f_c_
 unfold lint_finder_double at hF
 refine ce (l:=[.pointer (some ⟨b0_,0,none⟩),.int .i64 x1]) func23 rfl rfl ?_
 refine at_enterF hw_ ?_
 refine sr (aa (ns (am ?_)))
 refine aw (r_nilCheck rfl) ?_
 refine fa 0 underlying63 rfl sizeOf27 (fa 34 underlying27 rfl sizeOf25 ?_)
 refine aw (r_load_cell isAgg25 rfl (lens_cell0 (c:=cHd) (y:=⟨g0f_c_.1,List.length x0.f_c.f_Peers,g0f_c_.2⟩) .z (Lens.comp0 (c_lint_finder_f_c (g0f_c_,(p0f_own_,c0f_own_),(p0f_out_,c0f_out_)) x0) (c_api_Conf_f_Peers g0f_c_ x0.f_c)) rfl)) ?_
 refine am ?_
 obtain ⟨h1,hF⟩:=gd hF
 obtain ⟨zs5,hz6,hr7,hn8⟩:=id hn0f_c_
 obtain ⟨b3,o4,hp2⟩:=row_ptr hr7 (zidx hz6 h1)
 obtain ⟨g9,hg10⟩:=zget hz6 x1
 refine aw (r_idx underlying25 sizeOf60 rfl rfl h1 hp2) ?_
 refine fa 64 underlying60 rfl sizeOf56 ?_
 refine aw (r_load_aggc (c:=c_api_Endpoint) (z:=(lget x0.f_c.f_Peers x1).f_End) isAgg56 sizeOf56 rfl (nlens (y:=(lget x0.f_c.f_Peers x1).f_End) (fun _ h=>h.below) hr7 (zidx hz6 h1) hp2 hg10 (c_api_Peer_f_End g9 (lget x0.f_c.f_Peers x1)))) ?_
 refine al (cs:=Cd.cs c_api_Endpoint zv8) zeroValue56 ?_
 intro b11
 refine at_store (c:=c_api_Endpoint) (z:=(lget x0.f_c.f_Peers x1).f_End) .z lw sizeOf56 rfl rfl rfl ?_
 refine nt (qs (sr (am ?_)))
 refine aw (r_nilCheck rfl) ?_
 refine fa 0 underlying63 rfl sizeOf27 (fa 34 underlying27 rfl sizeOf25 ?_)
 refine aw (r_load_cell isAgg25 rfl (lens_cell0 (c:=cHd) (y:=⟨g0f_c_.1,List.length x0.f_c.f_Peers,g0f_c_.2⟩) (.s .z) (Lens.comp0 (c_lint_finder_f_c (g0f_c_,(p0f_own_,c0f_own_),(p0f_out_,c0f_out_)) x0) (c_api_Conf_f_Peers g0f_c_ x0.f_c)) rfl)) ?_
 refine am ?_
 obtain ⟨h12,hF⟩:=gd hF
 refine aw (r_resliceN (c:=c_api_Peer) underlying25 sizeOf60 rfl (NRow.len hn0f_c_) rfl ⟨_,rfl⟩ h12) ?_
 refine aw (r_len_sl underlying25 rfl) ?_
 refine am (nwq [25,24,23,5] ?_)
 refine qb ?_
 obtain ⟨q13,hq13,hF⟩:=bM hF
 refine wq [25,24,23,5] ?_
 refine at_loop_r (B:=0) (r:=r) (q:=q13) (A:=fun (_:Unit) Y=>At 39 [] (Wd w0 (cellsE b0_ (Cd.cs c_lint_finder ((g0f_c_,(p0f_own_,c0f_own_),(p0f_out_,c0f_out_)),x0)) 63::rowE c_api_Entry 49 p0f_own_ c0f_own_ x0.f_own::rowE c_lint_Odd 40 p0f_out_ c0f_out_ x0.f_out::G_)) Y) ?_ ?_
 ·intro K
  refine lint_finder_double.l0.partial_correctness x0 x1 (motive:=fun i14 x=>KR (fun (_:Unit) Y=>At 39 [] (Wd w0 (cellsE b0_ (Cd.cs c_lint_finder ((g0f_c_,(p0f_own_,c0f_own_),(p0f_out_,c0f_out_)),x0)) 63::rowE c_api_Entry 49 p0f_own_ c0f_own_ x0.f_own::rowE c_lint_Odd 40 p0f_out_ c0f_out_ x0.f_out::G_)) Y) _ 0 r x→Round (fun Y=>At 39 [(5,.pointer (some ⟨b11,0,none⟩)),(23,.slice (rsp g0f_c_.1 g0f_c_.2 0 (Cd.sz c_api_Peer)) (lsub x0.f_c.f_Peers 0 x1).length (g0f_c_.2-Int.toNat 0)),(24,.int .i64 ((lsub x0.f_c.f_Peers 0 x1).length:Int)),(25,.int .i64 i14)] (Wd w0 (cellsE b11 (Cd.cs c_api_Endpoint ((lget x0.f_c.f_Peers x1).f_End)) 56::cellsE b0_ (Cd.cs c_lint_finder ((g0f_c_,(p0f_own_,c0f_own_),(p0f_out_,c0f_out_)),x0)) 63::rowE c_api_Entry 49 p0f_own_ c0f_own_ x0.f_own::rowE c_lint_Odd 40 p0f_out_ c0f_out_ x0.f_out::G_)) Y) _ _ _) ?_ _ _ hq13 K
  ·clear K hF
   intro g ih i14 x hF K
   refine at_round ?_
   refine sr (aw xl (nwq [26,25,24,23,5] ?_))
   refine qs ?_
   obtain ⟨h15,hF⟩|⟨h15,hF⟩:=oi hF
   ·refine ct h15 ?_
    refine sn (qs ?_)
    refine qb ?_
    refine sr ?_
    obtain ⟨h16,hF⟩:=gd hF
    obtain ⟨zs20,hz21,hr22,hn23⟩:=id (NRow.sub hn0f_c_ h12)
    obtain ⟨b18,o19,hp17⟩:=row_ptr hr22 (zidx hz21 h16)
    obtain ⟨g24,hg25⟩:=zget hz21 i14
    refine aw (r_idx underlying25 sizeOf60 rfl rfl h16 hp17) ?_
    refine aw (r_load_aggc (c:=c_api_Peer) (z:=(g24,lget (lsub x0.f_c.f_Peers 0 x1) i14)) isAgg60 sizeOf60 rfl (ncell (fun _ h=>h.below) hr22 (zidx hz21 h16) hp17 hg25)) ?_
    refine al (cs:=Cd.cs c_api_Peer zv14) zeroValue60 ?_
    intro b26
    refine at_store (c:=c_api_Peer) (z:=(g24,lget (lsub x0.f_c.f_Peers 0 x1) i14)) .z lw sizeOf60 rfl rfl rfl ?_
    refine nwx [25,24,23,7,5] ?_
    refine fa 64 underlying60 rfl sizeOf56 ?_
    refine aw (r_load_aggc (c:=c_api_Endpoint) (z:=(lget (lsub x0.f_c.f_Peers 0 x1) i14).f_End) isAgg56 sizeOf56 rfl (lens_cell .z (c_api_Peer_f_End g24 (lget (lsub x0.f_c.f_Peers 0 x1) i14)))) ?_
    refine aw (r_load_aggc (c:=c_api_Endpoint) (z:=(lget x0.f_c.f_Peers x1).f_End) isAgg56 sizeOf56 rfl (lens_cell (.s .z) lw)) ?_
    refine aw (r_eqagg (c:=c_api_Endpoint) (a:=(lget (lsub x0.f_c.f_Peers 0 x1) i14).f_End) (b:=(lget x0.f_c.f_Peers x1).f_End) (eq_api_Endpoint_56) rfl Tryz.eqGuardType56 rfl rfl (.inl rfl) rfl) ?_
    refine am ?_
    obtain ⟨h27,hF⟩|⟨h27,hF⟩:=oi hF
    ·refine fx 33 h27 ?_
     refine gy ?_
     refine aw (r_load_aggc (c:=c_api_Endpoint) (z:=(lget x0.f_c.f_Peers x1).f_End) isAgg56 sizeOf56 rfl (lens_cell (.s .z) lw)) ?_
     refine gy ?_
     obtain ⟨t28,ht28,hF⟩:=bM hF
     refine cB func45 rfl (fun w hw=>hostport_None_ok _ _ ht28 w) ?_
     refine gy ?_
     refine aw (r_not rfl) ?_
     refine aw xp (qn (dz (wq [37,25,24,23,5] ?_)))
     refine tn ?_
     obtain ⟨h29,hF⟩|⟨h29,hF⟩:=oi hF
     ·refine ct h29 ?_
      refine sr (aa (qn (dz (wq [4] ?_))))
      refine tn (qt ?_)
      refine br (tr (tr (br (tr ?_))))
      obtain rfl:=os hF
      subst K
      exact r1 (fun w1 hw=>⟨rfl,hw⟩)
     refine cf h29 ?_
     refine at_skip ?_
     refine bm ?_
     refine qr (aw xa (am (nwq [25,24,23,5] ?_)))
     exact at_weak_k (ih _ _ hF K) ⟨rfl,rfl,rfl,rfl,trivial⟩
    refine fx 33 h27 ?_
    refine gn ?_
    refine gn ?_
    refine gn ?_
    refine aw xp (qn (dz (wq [37,25,24,23,5] ?_)))
    refine tn ?_
    refine cf rfl ?_
    refine at_skip ?_
    refine bm ?_
    refine qr (aw xa (am (nwq [25,24,23,5] ?_)))
    exact at_weak_k (ih _ _ hF K) ⟨rfl,rfl,rfl,rfl,trivial⟩
   refine cf h15 ?_
   refine at_exit ?_
   refine te (te ?_)
   refine dz ?_
   obtain rfl:=os hF
   exact at_weak_k K trivial
 cases q13 with
 | ret r'=>exact os hF
 | nx sq13 =>
  skip
  refine at_blk_same ?_
  refine tn (sr (aa (nwq [4] ?_)))
  refine qt ?_
  have K:=os hF
  subst K
  exact r1 (fun w1 hw=>⟨rfl,hw⟩)
def lint_finder_shared.l0(x0:S_lint_finder)(x1:Int)(i14:Int):Option (Ctl (Bool) (Unit)) :=
 if (decide (i14<((lsub x0.f_c.f_Peers 0 x1).length:Int)))=true then (if (0:Int)≤i14∧i14<((lsub x0.f_c.f_Peers 0 x1).length:Int) then if (decide ((lget (lsub x0.f_c.f_Peers 0 x1) i14).f_Psk=(lget x0.f_c.f_Peers x1).f_Psk))=true then (keys_Zero ((lget x0.f_c.f_Peers x1).f_Psk)>>=fun t28=>if (!t28)=true then (some (.ret true)) else (lint_finder_shared.l0 x0 x1 (wr .i64 (i14+1)))) else (lint_finder_shared.l0 x0 x1 (wr .i64 (i14+1))) else none) else (some (.nx ()))
 partial_fixpoint
def lint_finder_shared(x0:S_lint_finder)(x1:Int):Option (Bool) :=
 if (0:Int)≤x1∧x1<(x0.f_c.f_Peers.length:Int) then if (0:Int)≤0∧0≤x1∧x1≤(x0.f_c.f_Peers.length:Int) then lint_finder_shared.l0 x0 x1 0>>=fun q13=>match q13 with | .ret r'=>some r' | .nx sq13=>(some false) else none else none
theorem lint_finder_shared_ok{x0:S_lint_finder}{x1:Int}{r:Bool}(hF:lint_finder_shared x0 x1=some r):∀ {w0 w:World} {G_:List Ent} {b0_:Nat} {g0f_c_:G_api_Conf} {p0f_own_:Option Addr} {c0f_own_:Nat} {p0f_out_:Option Addr} {c0f_out_:Nat} (hw_:Wd w0 (cellsE b0_ (Cd.cs c_lint_finder ((g0f_c_,(p0f_own_,c0f_own_),(p0f_out_,c0f_out_)),x0)) 63::rowE c_api_Entry 49 p0f_own_ c0f_own_ x0.f_own::rowE c_lint_Odd 40 p0f_out_ c0f_out_ x0.f_out::G_) w) (hn0f_c_:N_api_Conf w0 (g0f_c_,x0.f_c)),
    Calls Tryz.prog 24 #[.pointer (some ⟨b0_,0,none⟩),.int .i64 x1] w (fun e w'=>e=.returned (.bool r)∧Wd w0 (cellsE b0_ (Cd.cs c_lint_finder ((g0f_c_,(p0f_own_,c0f_own_),(p0f_out_,c0f_out_)),x0)) 63::rowE c_api_Entry 49 p0f_own_ c0f_own_ x0.f_own::rowE c_lint_Odd 40 p0f_out_ c0f_out_ x0.f_out::G_) w'):=by
 intro w0 w G_ b0_ g0f_c_ p0f_own_ c0f_own_ p0f_out_ c0f_out_ hw_ hn0f_c_
 unfold lint_finder_shared at hF
 refine ce (l:=[.pointer (some ⟨b0_,0,none⟩),.int .i64 x1]) func24 rfl rfl ?_
 refine at_enterF hw_ ?_
 refine sr (aa (ns (am ?_)))
 refine aw (r_nilCheck rfl) ?_
 refine fa 0 underlying63 rfl sizeOf27 (fa 34 underlying27 rfl sizeOf25 ?_)
 refine aw (r_load_cell isAgg25 rfl (lens_cell0 (c:=cHd) (y:=⟨g0f_c_.1,List.length x0.f_c.f_Peers,g0f_c_.2⟩) .z (Lens.comp0 (c_lint_finder_f_c (g0f_c_,(p0f_own_,c0f_own_),(p0f_out_,c0f_out_)) x0) (c_api_Conf_f_Peers g0f_c_ x0.f_c)) rfl)) ?_
 refine am ?_
 obtain ⟨h1,hF⟩:=gd hF
 obtain ⟨zs5,hz6,hr7,hn8⟩:=id hn0f_c_
 obtain ⟨b3,o4,hp2⟩:=row_ptr hr7 (zidx hz6 h1)
 obtain ⟨g9,hg10⟩:=zget hz6 x1
 refine aw (r_idx underlying25 sizeOf60 rfl rfl h1 hp2) ?_
 refine fa 32 underlying60 rfl sizeOf23 ?_
 refine aw (r_load_aggc (c:=(cVec (cInt .u8) 32 (by decide))) (z:=(lget x0.f_c.f_Peers x1).f_Psk) isAgg23 sizeOf23 rfl (nlens (y:=(lget x0.f_c.f_Peers x1).f_Psk) (fun _ h=>h.below) hr7 (zidx hz6 h1) hp2 hg10 (c_api_Peer_f_Psk g9 (lget x0.f_c.f_Peers x1)))) ?_
 refine al (cs:=Cd.cs (cVec (cInt .u8) 32 (by decide)) zv3) zeroValue23 ?_
 intro b11
 refine at_store (c:=(cVec (cInt .u8) 32 (by decide))) (z:=(lget x0.f_c.f_Peers x1).f_Psk) .z lw sizeOf23 rfl rfl rfl ?_
 refine nt (qs (sr (am ?_)))
 refine aw (r_nilCheck rfl) ?_
 refine fa 0 underlying63 rfl sizeOf27 (fa 34 underlying27 rfl sizeOf25 ?_)
 refine aw (r_load_cell isAgg25 rfl (lens_cell0 (c:=cHd) (y:=⟨g0f_c_.1,List.length x0.f_c.f_Peers,g0f_c_.2⟩) (.s .z) (Lens.comp0 (c_lint_finder_f_c (g0f_c_,(p0f_own_,c0f_own_),(p0f_out_,c0f_out_)) x0) (c_api_Conf_f_Peers g0f_c_ x0.f_c)) rfl)) ?_
 refine am ?_
 obtain ⟨h12,hF⟩:=gd hF
 refine aw (r_resliceN (c:=c_api_Peer) underlying25 sizeOf60 rfl (NRow.len hn0f_c_) rfl ⟨_,rfl⟩ h12) ?_
 refine aw (r_len_sl underlying25 rfl) ?_
 refine am (nwq [25,24,23,5] ?_)
 refine qb ?_
 obtain ⟨q13,hq13,hF⟩:=bM hF
 refine wq [25,24,23,5] ?_
 refine at_loop_r (B:=0) (r:=r) (q:=q13) (A:=fun (_:Unit) Y=>At 39 [] (Wd w0 (cellsE b0_ (Cd.cs c_lint_finder ((g0f_c_,(p0f_own_,c0f_own_),(p0f_out_,c0f_out_)),x0)) 63::rowE c_api_Entry 49 p0f_own_ c0f_own_ x0.f_own::rowE c_lint_Odd 40 p0f_out_ c0f_out_ x0.f_out::G_)) Y) ?_ ?_
 ·intro K
  refine lint_finder_shared.l0.partial_correctness x0 x1 (motive:=fun i14 x=>KR (fun (_:Unit) Y=>At 39 [] (Wd w0 (cellsE b0_ (Cd.cs c_lint_finder ((g0f_c_,(p0f_own_,c0f_own_),(p0f_out_,c0f_out_)),x0)) 63::rowE c_api_Entry 49 p0f_own_ c0f_own_ x0.f_own::rowE c_lint_Odd 40 p0f_out_ c0f_out_ x0.f_out::G_)) Y) _ 0 r x→Round (fun Y=>At 39 [(5,.pointer (some ⟨b11,0,none⟩)),(23,.slice (rsp g0f_c_.1 g0f_c_.2 0 (Cd.sz c_api_Peer)) (lsub x0.f_c.f_Peers 0 x1).length (g0f_c_.2-Int.toNat 0)),(24,.int .i64 ((lsub x0.f_c.f_Peers 0 x1).length:Int)),(25,.int .i64 i14)] (Wd w0 (cellsE b11 (Cd.cs (cVec (cInt .u8) 32 (by decide)) ((lget x0.f_c.f_Peers x1).f_Psk)) 23::cellsE b0_ (Cd.cs c_lint_finder ((g0f_c_,(p0f_own_,c0f_own_),(p0f_out_,c0f_out_)),x0)) 63::rowE c_api_Entry 49 p0f_own_ c0f_own_ x0.f_own::rowE c_lint_Odd 40 p0f_out_ c0f_out_ x0.f_out::G_)) Y) _ _ _) ?_ _ _ hq13 K
  ·clear K hF
   intro g ih i14 x hF K
   refine at_round ?_
   refine sr (aw xl (nwq [26,25,24,23,5] ?_))
   refine qs ?_
   obtain ⟨h15,hF⟩|⟨h15,hF⟩:=oi hF
   ·refine ct h15 ?_
    refine sn (qs ?_)
    refine qb ?_
    refine sr ?_
    obtain ⟨h16,hF⟩:=gd hF
    obtain ⟨zs20,hz21,hr22,hn23⟩:=id (NRow.sub hn0f_c_ h12)
    obtain ⟨b18,o19,hp17⟩:=row_ptr hr22 (zidx hz21 h16)
    obtain ⟨g24,hg25⟩:=zget hz21 i14
    refine aw (r_idx underlying25 sizeOf60 rfl rfl h16 hp17) ?_
    refine aw (r_load_aggc (c:=c_api_Peer) (z:=(g24,lget (lsub x0.f_c.f_Peers 0 x1) i14)) isAgg60 sizeOf60 rfl (ncell (fun _ h=>h.below) hr22 (zidx hz21 h16) hp17 hg25)) ?_
    refine al (cs:=Cd.cs c_api_Peer zv14) zeroValue60 ?_
    intro b26
    refine at_store (c:=c_api_Peer) (z:=(g24,lget (lsub x0.f_c.f_Peers 0 x1) i14)) .z lw sizeOf60 rfl rfl rfl ?_
    refine nwx [25,24,23,7,5] ?_
    refine fa 32 underlying60 rfl sizeOf23 ?_
    refine aw (r_load_aggc (c:=(cVec (cInt .u8) 32 (by decide))) (z:=(lget (lsub x0.f_c.f_Peers 0 x1) i14).f_Psk) isAgg23 sizeOf23 rfl (lens_cell .z (c_api_Peer_f_Psk g24 (lget (lsub x0.f_c.f_Peers 0 x1) i14)))) ?_
    refine aw (r_load_aggc (c:=(cVec (cInt .u8) 32 (by decide))) (z:=(lget x0.f_c.f_Peers x1).f_Psk) isAgg23 sizeOf23 rfl (lens_cell (.s .z) lw)) ?_
    refine aw (r_eqagg (c:=(cVec (cInt .u8) 32 (by decide))) (a:=(lget (lsub x0.f_c.f_Peers 0 x1) i14).f_Psk) (b:=(lget x0.f_c.f_Peers x1).f_Psk) (eqs_vec underlying23 infoT5 sizeOf5 isAgg5 (.inr rfl) (eqs_int underlying5)) rfl Tryz.eqGuardType23 rfl rfl (.inl rfl) rfl) ?_
    refine am ?_
    obtain ⟨h27,hF⟩|⟨h27,hF⟩:=oi hF
    ·refine fx 33 h27 ?_
     refine gy ?_
     refine aw (r_load_aggc (c:=(cVec (cInt .u8) 32 (by decide))) (z:=(lget x0.f_c.f_Peers x1).f_Psk) isAgg23 sizeOf23 rfl (lens_cell (.s .z) lw)) ?_
     refine gy ?_
     obtain ⟨t28,ht28,hF⟩:=bM hF
     refine cB func20 rfl (fun w hw=>keys_Zero_ok _ _ ht28 w) ?_
     refine gy ?_
     refine aw (r_not rfl) ?_
     refine aw xp (qn (dz (wq [37,25,24,23,5] ?_)))
     refine tn ?_
     obtain ⟨h29,hF⟩|⟨h29,hF⟩:=oi hF
     ·refine ct h29 ?_
      refine sr (aa (qn (dz (wq [4] ?_))))
      refine tn (qt ?_)
      refine br (tr (tr (br (tr ?_))))
      obtain rfl:=os hF
      subst K
      exact r1 (fun w1 hw=>⟨rfl,hw⟩)
     refine cf h29 ?_
     refine at_skip ?_
     refine bm ?_
     refine qr (aw xa (am (nwq [25,24,23,5] ?_)))
     exact at_weak_k (ih _ _ hF K) ⟨rfl,rfl,rfl,rfl,trivial⟩
    refine fx 33 h27 ?_
    refine gn ?_
    refine gn ?_
    refine gn ?_
    refine aw xp (qn (dz (wq [37,25,24,23,5] ?_)))
    refine tn ?_
    refine cf rfl ?_
    refine at_skip ?_
    refine bm ?_
    refine qr (aw xa (am (nwq [25,24,23,5] ?_)))
    exact at_weak_k (ih _ _ hF K) ⟨rfl,rfl,rfl,rfl,trivial⟩
   refine cf h15 ?_
   refine at_exit ?_
   refine te (te ?_)
   refine dz ?_
   obtain rfl:=os hF
   exact at_weak_k K trivial
 cases q13 with
 | ret r'=>exact os hF
 | nx sq13 =>
  skip
  refine at_blk_same ?_
  refine tn (sr (aa (nwq [4] ?_)))
  refine qt ?_
  have K:=os hF
  subst K
  exact r1 (fun w1 hw=>⟨rfl,hw⟩)
end Go.Proofs.YtahlbjmafceoeaaGreatDoor
namespace Go.Proofs.YtahlbjmafceoeaaGreatDoor
open E Go.RowKit _root_.Go.Proofs.Tryz
theorem infoV538_is:(Tryz.prog.info? 38).isSome=true:=by kernel_rfl
noncomputable def infoV538_v:TypeInfo:=(Tryz.prog.info? 38).get infoV538_is
theorem infoV538:Tryz.prog.info? 38=some infoV538_v:=(Option.some_get _).symm
theorem infoV540_is:(Tryz.prog.info? 40).isSome=true:=by kernel_rfl
noncomputable def infoV540_v:TypeInfo:=(Tryz.prog.info? 40).get infoV540_is
theorem infoV540:Tryz.prog.info? 40=some infoV540_v:=(Option.some_get _).symm
abbrev lint_All.e0:S_lint_Odd:={ { ({ f_Kind:=(0:Int),f_Peer:=(0:Int),f_P:=({ f_A:=({ f_V:=(0:Int),f_B:=(Vector.replicate 16 (0:Int):(Vector Int 16)) }:S_api_Addr),f_Bits:=(0:Int) }:S_api_Prefix) }:S_lint_Odd) with f_Kind:=1 } with f_Peer:=(-1) }
def lint_All.l0(x0:S_api_Conf)(i22:Int)(i23:S_lint_finder):Option (S_lint_finder) :=
 if (decide (i22<(x0.f_Peers.length:Int)))=true then (if (0:Int)≤i22∧i22<(i23.f_c.f_Peers.length:Int) then if ((((lget i23.f_c.f_Peers i22).f_Allowed).length:Int)==0)=true then (if (i23.f_out.length+1)*48≤140737488355328 then lint_All.l0 x0 (wr .i64 (i22+1)) ({ i23 with f_out:=i23.f_out++[{ { ({ f_Kind:=(0:Int),f_Peer:=(0:Int),f_P:=({ f_A:=({ f_V:=(0:Int),f_B:=(Vector.replicate 16 (0:Int):(Vector Int 16)) }:S_api_Addr),f_Bits:=(0:Int) }:S_api_Prefix) }:S_lint_Odd) with f_Kind:=2 } with f_Peer:=i22 }] }) else none) else (lint_All.l0 x0 (wr .i64 (i22+1)) i23) else none) else (some i23)
 partial_fixpoint
def lint_All.l1(q21:S_lint_finder)(i59:Int)(i60:S_lint_finder):Option (S_lint_finder) :=
 if (decide (i59<(q21.f_c.f_Peers.length:Int)))=true then (lint_finder_double i60 i59>>=fun t74=>if t74=true then (if (i60.f_out.length+1)*48≤140737488355328 then lint_All.l1 q21 (wr .i64 (i59+1)) ({ i60 with f_out:=i60.f_out++[{ { ({ f_Kind:=(0:Int),f_Peer:=(0:Int),f_P:=({ f_A:=({ f_V:=(0:Int),f_B:=(Vector.replicate 16 (0:Int):(Vector Int 16)) }:S_api_Addr),f_Bits:=(0:Int) }:S_api_Prefix) }:S_lint_Odd) with f_Kind:=3 } with f_Peer:=i59 }] }) else none) else (lint_All.l1 q21 (wr .i64 (i59+1)) i60)) else (some i60)
 partial_fixpoint
def lint_All.l2(q58:S_lint_finder)(i87:Int)(i88:S_lint_finder):Option (S_lint_finder) :=
 if (decide (i87<(q58.f_c.f_Peers.length:Int)))=true then (lint_finder_shared i88 i87>>=fun t102=>if t102=true then (if (i88.f_out.length+1)*48≤140737488355328 then lint_All.l2 q58 (wr .i64 (i87+1)) ({ i88 with f_out:=i88.f_out++[{ { ({ f_Kind:=(0:Int),f_Peer:=(0:Int),f_P:=({ f_A:=({ f_V:=(0:Int),f_B:=(Vector.replicate 16 (0:Int):(Vector Int 16)) }:S_api_Addr),f_Bits:=(0:Int) }:S_api_Prefix) }:S_lint_Odd) with f_Kind:=4 } with f_Peer:=i87 }] }) else none) else (lint_All.l2 q58 (wr .i64 (i87+1)) i88)) else (some i88)
 partial_fixpoint
def lint_All.l3(t110:List S_api_Entry)(i114:Int)(i115:List (S_api_Prefix×Bool)):Option (List (S_api_Prefix×Bool)) :=
 if (decide (i114<(t110.length:Int)))=true then (if (0:Int)≤i114∧i114<(t110.length:Int) then lint_All.l3 t110 (wr .i64 (i114+1)) (mput i115 ((lget t110 i114).f_P) true) else none) else (some i115)
 partial_fixpoint
def lint_All.l5(q86:S_lint_finder)(q113:List (S_api_Prefix×Bool))(i129:Int)(i162:Int)(i163:S_lint_finder):Option (S_lint_finder) :=
 if (decide (i162<(((lget q86.f_c.f_Peers i129).f_Allowed).length:Int)))=true then (if (0:Int)≤i162∧i162<(((lget q86.f_c.f_Peers i129).f_Allowed).length:Int) then if (!(mget q113 (lget ((lget q86.f_c.f_Peers i129).f_Allowed) i162) false))=true then (if (i163.f_out.length+1)*48≤140737488355328 then lint_All.l5 q86 q113 i129 (wr .i64 (i162+1)) ({ i163 with f_out:=i163.f_out++[{ { { ({ f_Kind:=(0:Int),f_Peer:=(0:Int),f_P:=({ f_A:=({ f_V:=(0:Int),f_B:=(Vector.replicate 16 (0:Int):(Vector Int 16)) }:S_api_Addr),f_Bits:=(0:Int) }:S_api_Prefix) }:S_lint_Odd) with f_Kind:=5 } with f_Peer:=i129 } with f_P:=lget ((lget q86.f_c.f_Peers i129).f_Allowed) i162 }] }) else none) else (lint_All.l5 q86 q113 i129 (wr .i64 (i162+1)) i163) else none) else (some i163)
 partial_fixpoint
def lint_All.l4(q86:S_lint_finder)(q113:List (S_api_Prefix×Bool))(i129:Int)(i130:S_lint_finder):Option (S_lint_finder) :=
 if (decide (i129<(q86.f_c.f_Peers.length:Int)))=true then (if (0:Int)≤i129∧i129<(q86.f_c.f_Peers.length:Int) then lint_All.l5 q86 q113 i129 0 i130>>=fun q161=>lint_All.l4 q86 q113 (wr .i64 (i129+1)) q161 else none) else (some i130)
 partial_fixpoint
def lint_All.l8(q128:S_lint_finder)(i196:Int)(i229:Int)(i230:S_lint_finder)(i253:List S_api_Prefix)(i254:Int):Option (List S_api_Prefix) :=
 if (decide (i254<(i230.f_own.length:Int)))=true then (if (0:Int)≤i254∧i254<(i230.f_own.length:Int) then if (decide (((lget i230.f_own i254).f_P).f_Bits>(lget ((lget q128.f_c.f_Peers i196).f_Allowed) i229).f_Bits))=true then (cidr_Covers (lget ((lget q128.f_c.f_Peers i196).f_Allowed) i229) ((lget i230.f_own i254).f_P)>>=fun t266=>if t266=true then (if (i253.length+1)*32≤140737488355328 then lint_All.l8 q128 i196 i229 i230 (i253++[(lget i230.f_own i254).f_P]) (wr .i64 (i254+1)) else none) else (lint_All.l8 q128 i196 i229 i230 i253 (wr .i64 (i254+1)))) else (lint_All.l8 q128 i196 i229 i230 i253 (wr .i64 (i254+1))) else none) else (some i253)
 partial_fixpoint
def lint_All.l7(q128:S_lint_finder)(i196:Int)(i229:Int)(i230:S_lint_finder):Option (S_lint_finder) :=
 if (decide (i229<(((lget q128.f_c.f_Peers i196).f_Allowed).length:Int)))=true then (if (0:Int)≤i229∧i229<(((lget q128.f_c.f_Peers i196).f_Allowed).length:Int) then lint_All.l8 q128 i196 i229 i230 ([]:List S_api_Prefix) 0>>=fun q252=>aggregate_Cover q252>>=fun t272=>if ((t272.length:Int)==1)=true then (if (0:Int)≤0∧0<(t272.length:Int) then if (decide (lget t272 0=lget ((lget q128.f_c.f_Peers i196).f_Allowed) i229))=true then (if (i230.f_out.length+1)*48≤140737488355328 then lint_All.l7 q128 i196 (wr .i64 (i229+1)) ({ i230 with f_out:=i230.f_out++[{ { { ({ f_Kind:=(0:Int),f_Peer:=(0:Int),f_P:=({ f_A:=({ f_V:=(0:Int),f_B:=(Vector.replicate 16 (0:Int):(Vector Int 16)) }:S_api_Addr),f_Bits:=(0:Int) }:S_api_Prefix) }:S_lint_Odd) with f_Kind:=6 } with f_Peer:=i196 } with f_P:=lget ((lget q128.f_c.f_Peers i196).f_Allowed) i229 }] }) else none) else (lint_All.l7 q128 i196 (wr .i64 (i229+1)) i230) else none) else (lint_All.l7 q128 i196 (wr .i64 (i229+1)) i230) else none) else (some i230)
 partial_fixpoint
def lint_All.l6(q128:S_lint_finder)(i196:Int)(i197:S_lint_finder):Option (S_lint_finder) :=
 if (decide (i196<(q128.f_c.f_Peers.length:Int)))=true then (if (0:Int)≤i196∧i196<(q128.f_c.f_Peers.length:Int) then lint_All.l7 q128 i196 0 i197>>=fun q228=>lint_All.l6 q128 (wr .i64 (i196+1)) q228 else none) else (some i197)
 partial_fixpoint
def lint_All.l9(x0:S_api_Conf)(i296:Int)(i297:S_lint_finder):Option (S_lint_finder) :=
 if (decide (i296<(x0.f_Peers.length:Int)))=true then (if (0:Int)≤i296∧i296<(i297.f_c.f_Peers.length:Int) then if ((((lget i297.f_c.f_Peers i296).f_Allowed).length:Int)==0)=true then (if (i297.f_out.length+1)*48≤140737488355328 then lint_All.l9 x0 (wr .i64 (i296+1)) ({ i297 with f_out:=i297.f_out++[{ { ({ f_Kind:=(0:Int),f_Peer:=(0:Int),f_P:=({ f_A:=({ f_V:=(0:Int),f_B:=(Vector.replicate 16 (0:Int):(Vector Int 16)) }:S_api_Addr),f_Bits:=(0:Int) }:S_api_Prefix) }:S_lint_Odd) with f_Kind:=2 } with f_Peer:=i296 }] }) else none) else (lint_All.l9 x0 (wr .i64 (i296+1)) i297) else none) else (some i297)
 partial_fixpoint
def lint_All.l10(q295:S_lint_finder)(i333:Int)(i334:S_lint_finder):Option (S_lint_finder) :=
 if (decide (i333<(q295.f_c.f_Peers.length:Int)))=true then (lint_finder_double i334 i333>>=fun t348=>if t348=true then (if (i334.f_out.length+1)*48≤140737488355328 then lint_All.l10 q295 (wr .i64 (i333+1)) ({ i334 with f_out:=i334.f_out++[{ { ({ f_Kind:=(0:Int),f_Peer:=(0:Int),f_P:=({ f_A:=({ f_V:=(0:Int),f_B:=(Vector.replicate 16 (0:Int):(Vector Int 16)) }:S_api_Addr),f_Bits:=(0:Int) }:S_api_Prefix) }:S_lint_Odd) with f_Kind:=3 } with f_Peer:=i333 }] }) else none) else (lint_All.l10 q295 (wr .i64 (i333+1)) i334)) else (some i334)
 partial_fixpoint
def lint_All.l11(q332:S_lint_finder)(i361:Int)(i362:S_lint_finder):Option (S_lint_finder) :=
 if (decide (i361<(q332.f_c.f_Peers.length:Int)))=true then (lint_finder_shared i362 i361>>=fun t376=>if t376=true then (if (i362.f_out.length+1)*48≤140737488355328 then lint_All.l11 q332 (wr .i64 (i361+1)) ({ i362 with f_out:=i362.f_out++[{ { ({ f_Kind:=(0:Int),f_Peer:=(0:Int),f_P:=({ f_A:=({ f_V:=(0:Int),f_B:=(Vector.replicate 16 (0:Int):(Vector Int 16)) }:S_api_Addr),f_Bits:=(0:Int) }:S_api_Prefix) }:S_lint_Odd) with f_Kind:=4 } with f_Peer:=i361 }] }) else none) else (lint_All.l11 q332 (wr .i64 (i361+1)) i362)) else (some i362)
 partial_fixpoint
def lint_All.l12(t384:List S_api_Entry)(i388:Int)(i389:List (S_api_Prefix×Bool)):Option (List (S_api_Prefix×Bool)) :=
 if (decide (i388<(t384.length:Int)))=true then (if (0:Int)≤i388∧i388<(t384.length:Int) then lint_All.l12 t384 (wr .i64 (i388+1)) (mput i389 ((lget t384 i388).f_P) true) else none) else (some i389)
 partial_fixpoint
def lint_All.l14(q360:S_lint_finder)(q387:List (S_api_Prefix×Bool))(i403:Int)(i436:Int)(i437:S_lint_finder):Option (S_lint_finder) :=
 if (decide (i436<(((lget q360.f_c.f_Peers i403).f_Allowed).length:Int)))=true then (if (0:Int)≤i436∧i436<(((lget q360.f_c.f_Peers i403).f_Allowed).length:Int) then if (!(mget q387 (lget ((lget q360.f_c.f_Peers i403).f_Allowed) i436) false))=true then (if (i437.f_out.length+1)*48≤140737488355328 then lint_All.l14 q360 q387 i403 (wr .i64 (i436+1)) ({ i437 with f_out:=i437.f_out++[{ { { ({ f_Kind:=(0:Int),f_Peer:=(0:Int),f_P:=({ f_A:=({ f_V:=(0:Int),f_B:=(Vector.replicate 16 (0:Int):(Vector Int 16)) }:S_api_Addr),f_Bits:=(0:Int) }:S_api_Prefix) }:S_lint_Odd) with f_Kind:=5 } with f_Peer:=i403 } with f_P:=lget ((lget q360.f_c.f_Peers i403).f_Allowed) i436 }] }) else none) else (lint_All.l14 q360 q387 i403 (wr .i64 (i436+1)) i437) else none) else (some i437)
 partial_fixpoint
def lint_All.l13(q360:S_lint_finder)(q387:List (S_api_Prefix×Bool))(i403:Int)(i404:S_lint_finder):Option (S_lint_finder) :=
 if (decide (i403<(q360.f_c.f_Peers.length:Int)))=true then (if (0:Int)≤i403∧i403<(q360.f_c.f_Peers.length:Int) then lint_All.l14 q360 q387 i403 0 i404>>=fun q435=>lint_All.l13 q360 q387 (wr .i64 (i403+1)) q435 else none) else (some i404)
 partial_fixpoint
def lint_All.l17(q402:S_lint_finder)(i470:Int)(i503:Int)(i504:S_lint_finder)(i527:List S_api_Prefix)(i528:Int):Option (List S_api_Prefix) :=
 if (decide (i528<(i504.f_own.length:Int)))=true then (if (0:Int)≤i528∧i528<(i504.f_own.length:Int) then if (decide (((lget i504.f_own i528).f_P).f_Bits>(lget ((lget q402.f_c.f_Peers i470).f_Allowed) i503).f_Bits))=true then (cidr_Covers (lget ((lget q402.f_c.f_Peers i470).f_Allowed) i503) ((lget i504.f_own i528).f_P)>>=fun t540=>if t540=true then (if (i527.length+1)*32≤140737488355328 then lint_All.l17 q402 i470 i503 i504 (i527++[(lget i504.f_own i528).f_P]) (wr .i64 (i528+1)) else none) else (lint_All.l17 q402 i470 i503 i504 i527 (wr .i64 (i528+1)))) else (lint_All.l17 q402 i470 i503 i504 i527 (wr .i64 (i528+1))) else none) else (some i527)
 partial_fixpoint
def lint_All.l16(q402:S_lint_finder)(i470:Int)(i503:Int)(i504:S_lint_finder):Option (S_lint_finder) :=
 if (decide (i503<(((lget q402.f_c.f_Peers i470).f_Allowed).length:Int)))=true then (if (0:Int)≤i503∧i503<(((lget q402.f_c.f_Peers i470).f_Allowed).length:Int) then lint_All.l17 q402 i470 i503 i504 ([]:List S_api_Prefix) 0>>=fun q526=>aggregate_Cover q526>>=fun t546=>if ((t546.length:Int)==1)=true then (if (0:Int)≤0∧0<(t546.length:Int) then if (decide (lget t546 0=lget ((lget q402.f_c.f_Peers i470).f_Allowed) i503))=true then (if (i504.f_out.length+1)*48≤140737488355328 then lint_All.l16 q402 i470 (wr .i64 (i503+1)) ({ i504 with f_out:=i504.f_out++[{ { { ({ f_Kind:=(0:Int),f_Peer:=(0:Int),f_P:=({ f_A:=({ f_V:=(0:Int),f_B:=(Vector.replicate 16 (0:Int):(Vector Int 16)) }:S_api_Addr),f_Bits:=(0:Int) }:S_api_Prefix) }:S_lint_Odd) with f_Kind:=6 } with f_Peer:=i470 } with f_P:=lget ((lget q402.f_c.f_Peers i470).f_Allowed) i503 }] }) else none) else (lint_All.l16 q402 i470 (wr .i64 (i503+1)) i504) else none) else (lint_All.l16 q402 i470 (wr .i64 (i503+1)) i504) else none) else (some i504)
 partial_fixpoint
def lint_All.l15(q402:S_lint_finder)(i470:Int)(i471:S_lint_finder):Option (S_lint_finder) :=
 if (decide (i470<(q402.f_c.f_Peers.length:Int)))=true then (if (0:Int)≤i470∧i470<(q402.f_c.f_Peers.length:Int) then lint_All.l16 q402 i470 0 i471>>=fun q502=>lint_All.l15 q402 (wr .i64 (i470+1)) q502 else none) else (some i471)
 partial_fixpoint
def lint_All(x0:S_api_Conf):Option (List S_lint_Odd) :=
 view_Right x0>>=fun t2=>if (!t2)=true then (some ([])) else (lint_entries x0>>=fun t4=>keys_Zero x0.f_Private>>=fun t9=>if t9=true then (if (([]:List S_lint_Odd).length+1)*48≤140737488355328 then lint_All.l0 x0 0 ({ { { ({ f_c:=({ f_Private:=(Vector.replicate 32 (0:Int):(Vector Int 32)),f_Port:=(0:Int),f_Mark:=(0:Int),f_Peers:=([]:List S_api_Peer) }:S_api_Conf),f_own:=([]:List S_api_Entry),f_out:=([]:List S_lint_Odd) }:S_lint_finder) with f_c:=x0 } with f_own:=t4 } with f_out:=([]:List S_lint_Odd)++[lint_All.e0] })>>=fun q21=>lint_All.l1 q21 0 q21>>=fun q58=>lint_All.l2 q58 0 q58>>=fun q86=>flat_Thin q86.f_own>>=fun t110=>lint_All.l3 t110 0 ([]:List (S_api_Prefix×Bool))>>=fun q113=>lint_All.l4 q86 q113 0 q86>>=fun q128=>lint_All.l6 q128 0 q128>>=fun q195=>some q195.f_out else none) else (lint_All.l9 x0 0 ({ { ({ f_c:=({ f_Private:=(Vector.replicate 32 (0:Int):(Vector Int 32)),f_Port:=(0:Int),f_Mark:=(0:Int),f_Peers:=([]:List S_api_Peer) }:S_api_Conf),f_own:=([]:List S_api_Entry),f_out:=([]:List S_lint_Odd) }:S_lint_finder) with f_c:=x0 } with f_own:=t4 })>>=fun q295=>lint_All.l10 q295 0 q295>>=fun q332=>lint_All.l11 q332 0 q332>>=fun q360=>flat_Thin q360.f_own>>=fun t384=>lint_All.l12 t384 0 ([]:List (S_api_Prefix×Bool))>>=fun q387=>lint_All.l13 q360 q387 0 q360>>=fun q402=>lint_All.l15 q402 0 q402>>=fun q469=>some q469.f_out))
set_option maxRecDepth 20000 in
set_option maxHeartbeats 3200000 in
theorem lint_All_ok(g0_:G_api_Conf)(x0:S_api_Conf)(r:List S_lint_Odd)(hF:lint_All x0=some r)(w:World)(hn0:N_api_Conf w (g0_,x0)) :
    Calls Tryz.prog 8 #[.agg (Cd.cs c_api_Conf (g0_,x0)).toArray] w (fun e w'=>∃ p cap,e=.returned (.slice p r.length cap)∧Own c_lint_Odd 40 w.heap.size w' p cap r∧Below w.heap.size w w'):=by
 unfold lint_All at hF
 refine ce (l:=[.agg (Cd.cs c_api_Conf (g0_,x0)).toArray]) func8 rfl rfl ?_
 refine at_start ?_
 refine sr ?_
 refine at_box (cs:=Cd.cs c_api_Conf (g0_,x0)) rfl rfl rfl ?_
 intro b1
 refine aa (nt (qs (sr ?_)))
 refine aw (r_load_aggc (c:=c_api_Conf) (z:=(g0_,x0)) isAgg27 sizeOf27 rfl (lens_cell .z lw)) ?_
 obtain ⟨t2,ht2,hF⟩:=bM hF
 refine cB func18 rfl (fun w hw=>view_Right_ok _ _ _ ht2 w (N_api_Conf.below hn0 hw.below)) ?_
 refine aw (r_not rfl) ?_
 refine nwq [6,1] ?_
 obtain ⟨h3,hF⟩|⟨h3,hF⟩:=oi hF
 ·refine ct h3 ?_
  refine sr (aa (qn (dz (wq [2] ?_))))
  refine tn (rt ?_)
  have K:=os hF
  subst K
  exact r1 (fun w1 hw=>⟨none,0,rfl,Own.nil _ _ _ _,hw.below⟩)
 refine cf h3 ?_
 refine sn (qs (wq [1] ?_))
 obtain ⟨t4,ht4,hF⟩:=bM hF
 refine at_inv [.q 7 (fun g8=>.agg (Cd.cs c_api_Conf (g0_,x0)).toArray) [] 0 1,.q 8 (fun g8=>.agg (Cd.cs c_api_Conf (g0_,x0)).toArray) [] 0 0,.al 0 9 (fun g8=>.slice ((g8 0).2.1) t4.length ((g8 0).2.2.1)) [1],.q 10 (fun g8=>.agg (Cd.cs c_lint_finder ((g0_,(((g8 0).2.1),((g8 0).2.2.1)),zv6),{ { zv7 with f_c:=x0 } with f_own:=t4 })).toArray) [0,2] 1 1,.al 1 11 (fun g8=>.pointer (some ⟨((g8 1).1),0,none⟩)) [3],.q 3 (fun g8=>.pointer (some ⟨((g8 1).1),0,none⟩)) [4] 2 2] (fun g8 s=>match s with | 0=>(Wd w [cellsE b1 (Cd.cs c_api_Conf (g0_,x0)) 27]) | 1=>(Wd w [rowE c_api_Entry 49 ((g8 0).2.1) ((g8 0).2.2.1) t4,cellsE b1 (Cd.cs c_api_Conf (g0_,x0)) 27]) | _=>(Wd w [cellsE ((g8 1).1) (Cd.cs c_lint_finder ((g0_,(((g8 0).2.1),((g8 0).2.2.1)),zv6),{ { zv7 with f_c:=x0 } with f_own:=t4 })) 63,rowE c_api_Entry 49 ((g8 0).2.1) ((g8 0).2.2.1) t4,cellsE b1 (Cd.cs c_api_Conf (g0_,x0)) 27])) 2 (by kernel_rfl) (by kernel_rfl) (by kernel_rfl) (by kernel_rfl) (by kernel_rfl) ⟨fun _ _ _=>rfl,fun _ _ _=>rfl,fun g8 g2 h=>by show (.slice ((g8 0).2.1) t4.length ((g8 0).2.2.1):Value)=.slice ((g2 0).2.1) t4.length ((g2 0).2.2.1);rw [h 0 (show 0<1 by decide)],fun g8 g2 h=>by show (.agg (Cd.cs c_lint_finder ((g0_,(((g8 0).2.1),((g8 0).2.2.1)),zv6),{ { zv7 with f_c:=x0 } with f_own:=t4 })).toArray:Value)=.agg (Cd.cs c_lint_finder ((g0_,(((g2 0).2.1),((g2 0).2.2.1)),zv6),{ { zv7 with f_c:=x0 } with f_own:=t4 })).toArray;rw [h 0 (show 0<1 by decide)],fun g8 g2 h=>by show (.pointer (some ⟨((g8 1).1),0,none⟩):Value)=.pointer (some ⟨((g2 1).1),0,none⟩);rw [h 1 (show 1<2 by decide)],fun g8 g2 h=>by show (.pointer (some ⟨((g8 1).1),0,none⟩):Value)=.pointer (some ⟨((g2 1).1),0,none⟩);rw [h 1 (show 1<2 by decide)],trivial⟩ (by kernel_rfl) (fun w_ h=>⟨fun _=>g3 0 none 0 none w_,h.drew⟩) ⟨?_,?_,?_,?_,?_,?_,trivial⟩ ?_
 ·intro Lx g8 s K hl hh k
  show At 49 ((1,_)::Lx) _ _
  rcases (by omega:s=0∨s=1) with rfl | rfl
  ·skip
   refine aw (r_load_aggc (c:=c_api_Conf) (z:=(g0_,x0)) isAgg27 sizeOf27 rfl (lens_cell .z lw)) ?_
   exact at_nil k
  skip
  refine aw (r_load_aggc (c:=c_api_Conf) (z:=(g0_,x0)) isAgg27 sizeOf27 rfl (lens_cell (.s .z) lw)) ?_
  exact at_nil k
 ·intro Lx g8 s K hl hh k
  show At 49 ((1,_)::Lx) _ _
  obtain rfl:s=0:=by omega
  refine aw (r_load_aggc (c:=c_api_Conf) (z:=(g0_,x0)) isAgg27 sizeOf27 rfl (lens_cell .z lw)) ?_
  exact at_nil k
 ·intro Lx g8 K k
  show At 49 ((8,_)::(1,_)::Lx) _ _
  refine at_callO (c:=c_api_Entry) (e:=49) (ys:=t4) (V:=fun p cap=>.slice p t4.length cap) func19 rfl (by kernel_rfl) rfl rfl (fun w hw=>lint_entries_ok _ _ _ ht4 w (N_api_Conf.below hn0 hw.below)) ?_
  intro p5 c6
  exact at_nil (k (g3 0 p5 c6 none w))
 ·intro Lx g8 s K hl hh k
  show At 49 ((7,_)::(9,_)::(1,_)::Lx) _ _
  obtain rfl:s=1:=by omega
  refine aw (r_build_struct (zs:=Cd.cs c_lint_finder ((zv6,zv6,zv6),zv7)) (cs:=Cd.cs c_lint_finder ((g0_,(((g8 0).2.1),((g8 0).2.2.1)),zv6),{ { zv7 with f_c:=x0 } with f_own:=t4 })) underlying63 zeroValue63 rfl (places_lint_finder_63) rfl (fill_step (c:=c_api_Conf) (z:=(g0_,x0)) rfl (c_lint_finder_f_c (zv6,zv6,zv6) zv7) rfl (fill_step (c:=cHd) (z:=⟨((g8 0).2.1),List.length t4,((g8 0).2.2.1)⟩) rfl (c_lint_finder_f_own (g0_,zv6,zv6) ({ zv7 with f_c:=x0 })) rfl rfl))) ?_
  exact at_nil k
 ·intro Lx g8 K k
  show At 49 ((10,_)::(1,_)::Lx) _ _
  refine at_box (cs:=Cd.cs c_lint_finder ((g0_,(((g8 0).2.1),((g8 0).2.2.1)),zv6),{ { zv7 with f_c:=x0 } with f_own:=t4 })) rfl rfl rfl ?_
  intro b7
  exact at_nil (k (g3 b7 none 0 none w))
 ·intro Lx g8 s K hl hh k
  show At 49 ((11,_)::(1,_)::Lx) _ _
  refine aa ?_
  exact at_nil k
 intro g8
 show At 49 [(7,_),(8,_),(9,_),(10,_),(11,_),(3,_),(1,_)] _ _
 refine tn (qs (sr (fa 0 underlying27 rfl sizeOf23 ?_)))
 refine aw (r_load_aggc (c:=(cVec (cInt .u8) 32 (by decide))) (z:=x0.f_Private) isAgg23 sizeOf23 rfl (lens_cell (.s (.s .z)) (c_api_Conf_f_Private g0_ x0))) ?_
 obtain ⟨t9,ht9,hF⟩:=bM hF
 refine cB func20 rfl (fun w hw=>keys_Zero_ok _ _ ht9 w) ?_
 refine qn ?_
 refine at_drop (H:=_) (.s (.s .z)) ?_
 refine wq [14,3] ?_
 refine tn ?_
 obtain ⟨h10,hF⟩|⟨h10,hF⟩:=oi hF
 ·refine ct h10 ?_
  refine qr (am (am ?_))
  refine aw (r_nilCheck rfl) ?_
  refine fa 36 underlying63 rfl sizeOf30 ?_
  refine aw (r_load_cell isAgg30 rfl (lens_cell0 (c:=cHd) (y:=⟨((g0_,(((g8 0).2.1),((g8 0).2.2.1)),zv6).2.2).1,List.length (({ { zv7 with f_c:=x0 } with f_own:=t4 }).f_out),((g0_,(((g8 0).2.1),((g8 0).2.2.1)),zv6).2.2).2⟩) .z (c_lint_finder_f_out (g0_,(((g8 0).2.1),((g8 0).2.2.1)),zv6) ({ { zv7 with f_c:=x0 } with f_own:=t4 })) rfl)) ?_
  refine aw (r_build_struct (zs:=Cd.cs c_lint_Odd zv12) (cs:=Cd.cs c_lint_Odd ({ { zv12 with f_Kind:=1 } with f_Peer:=(-1) })) underlying40 zeroValue40 rfl (places_lint_Odd_40) rfl (fill_step (c:=(cInt .i64)) (z:=1) rfl (c_lint_Odd_f_Kind zv12) rfl (fill_step (c:=(cInt .i64)) (z:=(-1)) rfl (c_lint_Odd_f_Peer ({ zv12 with f_Kind:=1 })) rfl rfl))) ?_
  refine at_litL (c:=c_lint_Odd) ([zv12]:List S_lint_Odd) ([lint_All.e0]:List S_lint_Odd) underlying30 sizeOf40 zeroValue40 rfl rfl rfl (by kernel_rfl) (fill_step (c:=c_lint_Odd) (z:=lint_All.e0) rfl (Lens.all c_lint_Odd ([zv12]:List S_lint_Odd) 0 (by first | decide | exact Nat.le_of_ble_eq_true rfl)) rfl rfl) rfl ?_
  intro b11
  refine at_own_nil c_lint_Odd 40 ?_
  obtain ⟨h12,hF⟩:=gd hF
  refine at_append (z:=.agg (Cd.cs c_lint_Odd zv12).toArray) (c:=c_lint_Odd) (ys:=([lint_All.e0]:List S_lint_Odd)) .z underlying30 infoV540 (by kernel_rfl) (by kernel_rfl) rfl rfl rfl rfl (fun _ hw=>cells_src (hw.ok (Upd.mem (.s .z)))) (by kernel_rfl) h12 (app_small h12) rfl ?_
  intro p13 c14
  refine aw (r_nilCheck rfl) ?_
  refine fa 36 underlying63 rfl sizeOf30 ?_
  refine at_store (c:=cSv S_lint_Odd) (z:=((p13,c14),([]:List S_lint_Odd)++[lint_All.e0])) (.s (.s .z)) (c_lint_finder_f_out_sv (g0_,(((g8 0).2.1),((g8 0).2.2.1)),zv6) ({ { zv7 with f_c:=x0 } with f_own:=t4 })) sizeOf30 rfl rfl rfl ?_
  refine qn ?_
  refine at_drop (H:=_) (.s .z) ?_
  refine wq [3] ?_
  refine tn (sr (am (am ?_)))
  refine aw (r_makeFuncB rfl) ?_
  refine at_callI func21 rfl (by kernel_rfl) rfl rfl rfl rfl ?_
  refine sr (am ?_)
  refine aw (r_nilCheck rfl) ?_
  refine fa 0 underlying63 rfl sizeOf27 (fa 34 underlying27 rfl sizeOf25 ?_)
  refine aw (r_load_cell isAgg25 rfl (lens_cell0 (c:=cHd) (y:=⟨g0_.1,List.length x0.f_Peers,g0_.2⟩) (.s .z) (Lens.comp0 (c_lint_finder_f_c (g0_,((g8 0).2.1,(g8 0).2.2.1),(p13,c14)) ({ { { zv7 with f_c:=x0 } with f_own:=t4 } with f_out:=([]:List S_lint_Odd)++[lint_All.e0] })) (c_api_Conf_f_Peers g0_ x0)) rfl)) ?_
  refine aw (r_len_sl underlying25 rfl) ?_
  refine am (nwq [13,12,2,1,0] ?_)
  refine qb ?_
  obtain ⟨q21,hq21,hF⟩:=bM hF
  refine at_front (.s (.s .z)) ?_
  refine at_front (.s (.s .z)) ?_
  refine wq [13,12,2,1,0] ?_
  refine at_loop_n (B:=0) (A:=fun Y=>∀ (gq30:G_api_Conf) (hk31:N_api_Conf w (gq30,q21.f_c)) (p32:Option Addr) (c33:Nat) (p34:Option Addr) (c35:Nat),At 32 [] (Wd w [cellsE (g8 1).1 (Cd.cs c_lint_finder ((gq30,(p32,c33),(p34,c35)),q21)) 63,rowE c_api_Entry 49 p32 c33 q21.f_own,rowE c_lint_Odd 40 p34 c35 q21.f_out]) Y) ?_ ?_
  ·intro K
   refine lint_All.l0.partial_correctness x0 (motive:=fun i22 i23 x=>KN (fun Y=>∀ (gq30:G_api_Conf) (hk31:N_api_Conf w (gq30,x.f_c)) (p32:Option Addr) (c33:Nat) (p34:Option Addr) (c35:Nat),At 32 [] (Wd w [cellsE (g8 1).1 (Cd.cs c_lint_finder ((gq30,(p32,c33),(p34,c35)),x)) 63,rowE c_api_Entry 49 p32 c33 x.f_own,rowE c_lint_Odd 40 p34 c35 x.f_out]) Y) _ 0→Round (fun Y=>∀ (gq24:G_api_Conf) (hk25:N_api_Conf w (gq24,i23.f_c)) (p26:Option Addr) (c27:Nat) (p28:Option Addr) (c29:Nat),At 32 [(0,.pointer (some ⟨(g8 1).1,0,none⟩)),(1,.int .i64 2),(2,.func (.func 22) #[.pointer (some ⟨(g8 1).1,0,none⟩)] #[]),(12,.int .i64 (x0.f_Peers.length:Int)),(13,.int .i64 i22)] (Wd w [cellsE (g8 1).1 (Cd.cs c_lint_finder ((gq24,(p26,c27),(p28,c29)),i23)) 63,rowE c_api_Entry 49 p26 c27 i23.f_own,rowE c_lint_Odd 40 p28 c29 i23.f_out]) Y) _ _ _) ?_ _ _ _ hq21 K g0_ hn0 (g8 0).2.1 (g8 0).2.2.1 p13 c14
   ·clear K hF
    intro g ih i22 i23 x hF K gq24 hk25 p26 c27 p28 c29
    refine at_round ?_
    refine sr (aw xl (nwq [14,13,12,2,1,0] ?_))
    refine qs ?_
    obtain ⟨h36,hF⟩|⟨h36,hF⟩:=oi hF
    ·refine ct h36 ?_
     refine sn (qs ?_)
     refine qb ?_
     refine sr (am (aa (nwx [13,12,6,2,1,0] ?_)))
     refine am (am ?_)
     refine at_calleeB (bnds:=[.pointer (some ⟨(g8 1).1,0,none⟩)]) rfl ?_
     refine at_callI func22 rfl (by kernel_rfl) rfl rfl rfl rfl ?_
     refine sr (aa (ns (am ?_)))
     refine aw (r_nilCheck rfl) ?_
     refine fa 0 underlying63 rfl sizeOf27 (fa 34 underlying27 rfl sizeOf25 ?_)
     refine aw (r_load_cell isAgg25 rfl (lens_cell0 (c:=cHd) (y:=⟨gq24.1,List.length i23.f_c.f_Peers,gq24.2⟩) .z (Lens.comp0 (c_lint_finder_f_c (gq24,(p26,c27),(p28,c29)) i23) (c_api_Conf_f_Peers gq24 i23.f_c)) rfl)) ?_
     refine am ?_
     obtain ⟨h37,hF⟩:=gd hF
     obtain ⟨zs41,hz42,hr43,hn44⟩:=id hk25
     obtain ⟨b39,o40,hp38⟩:=row_ptr hr43 (zidx hz42 h37)
     obtain ⟨g45,hg46⟩:=zget hz42 i22
     refine aw (r_idx underlying25 sizeOf60 rfl rfl h37 hp38) ?_
     refine fa 85 underlying60 rfl sizeOf58 ?_
     refine aw (r_load_cell isAgg58 rfl (nlens0 (c':=cHd) (y:=⟨g45.1,List.length ((lget i23.f_c.f_Peers i22).f_Allowed),g45.2⟩) (fun _ h=>h.below) hr43 (zidx hz42 h37) hp38 hg46 (c_api_Peer_f_Allowed g45 (lget i23.f_c.f_Peers i22)) rfl)) ?_
     refine aw (r_len_sl underlying58 rfl) ?_
     refine aw xq (aa (nwq [4] ?_))
     refine qt ?_
     refine at_retI1 rfl rfl ?_
     refine nwq [18,13,12,6,2,1,0] ?_
     obtain ⟨h47,hF⟩|⟨h47,hF⟩:=oi hF
     ·refine ct h47 ?_
      refine qr (am (am ?_))
      refine aw (r_nilCheck rfl) ?_
      refine fa 36 underlying63 rfl sizeOf30 ?_
      refine aw (r_load_cell isAgg30 rfl (lens_cell0 (c:=cHd) (y:=⟨((gq24,(p26,c27),(p28,c29)).2.2).1,List.length i23.f_out,((gq24,(p26,c27),(p28,c29)).2.2).2⟩) .z (c_lint_finder_f_out (gq24,(p26,c27),(p28,c29)) i23) rfl)) ?_
      refine am (am ?_)
      refine aw (r_build_struct (zs:=Cd.cs c_lint_Odd zv12) (cs:=Cd.cs c_lint_Odd ({ { zv12 with f_Kind:=2 } with f_Peer:=i22 })) underlying40 zeroValue40 rfl (places_lint_Odd_40) rfl (fill_step (c:=(cInt .i64)) (z:=2) rfl (c_lint_Odd_f_Kind zv12) rfl (fill_step (c:=(cInt .i64)) (z:=i22) rfl (c_lint_Odd_f_Peer ({ zv12 with f_Kind:=2 })) rfl rfl))) ?_
      refine at_litL (c:=c_lint_Odd) ([zv12]:List S_lint_Odd) ([{ { zv12 with f_Kind:=2 } with f_Peer:=i22 }]:List S_lint_Odd) underlying30 sizeOf40 zeroValue40 rfl rfl rfl (by kernel_rfl) (fill_step (c:=c_lint_Odd) (z:={ { zv12 with f_Kind:=2 } with f_Peer:=i22 }) rfl (Lens.all c_lint_Odd ([zv12]:List S_lint_Odd) 0 (by first | decide | exact Nat.le_of_ble_eq_true rfl)) rfl rfl) rfl ?_
      intro b48
      obtain ⟨h49,hF⟩:=gd hF
      refine at_append (z:=.agg (Cd.cs c_lint_Odd zv12).toArray) (c:=c_lint_Odd) (ys:=([{ { zv12 with f_Kind:=2 } with f_Peer:=i22 }]:List S_lint_Odd)) (.s (.s (.s .z))) underlying30 infoV540 (by kernel_rfl) (by kernel_rfl) rfl rfl rfl rfl (fun _ hw=>cells_src (hw.ok (Upd.mem .z))) (by kernel_rfl) h49 (app_small h49) rfl ?_
      intro p50 c51
      refine aw (r_nilCheck rfl) ?_
      refine fa 36 underlying63 rfl sizeOf30 ?_
      refine at_store (c:=cSv S_lint_Odd) (z:=((p50,c51),i23.f_out++[{ { zv12 with f_Kind:=2 } with f_Peer:=i22 }])) (.s .z) (c_lint_finder_f_out_sv (gq24,(p26,c27),(p28,c29)) i23) sizeOf30 rfl rfl rfl ?_
      refine qn (dz (wq [13,12,2,1,0] ?_))
      refine bm ?_
      refine qr (aw xa (am (nwq [13,12,2,1,0] ?_)))
      exact at_weak_k (ih _ _ _ hF K gq24 hk25 p26 c27 p50 c51) ⟨rfl,rfl,rfl,rfl,rfl,trivial⟩
     refine cf h47 ?_
     refine at_skip ?_
     refine bm ?_
     refine qr (aw xa (am (nwq [13,12,2,1,0] ?_)))
     exact at_weak_k (ih _ _ _ hF K gq24 hk25 p26 c27 p28 c29) ⟨rfl,rfl,rfl,rfl,rfl,trivial⟩
    refine cf h36 ?_
    refine at_exit ?_
    refine te (te ?_)
    obtain rfl:=os hF
    exact at_weak_k (K gq24 hk25 p26 c27 p28 c29) trivial
  skip
  intro gq30 hk31 p32 c33 p34 c35
  refine at_blk_same ?_
  refine at_retI0 rfl ?_
  refine nwx [3] ?_
  refine am (am ?_)
  refine aw (r_makeFuncB rfl) ?_
  refine at_callI func21 rfl (by kernel_rfl) rfl rfl rfl rfl ?_
  refine sr (am ?_)
  refine aw (r_nilCheck rfl) ?_
  refine fa 0 underlying63 rfl sizeOf27 (fa 34 underlying27 rfl sizeOf25 ?_)
  refine aw (r_load_cell isAgg25 rfl (lens_cell0 (c:=cHd) (y:=⟨gq30.1,List.length q21.f_c.f_Peers,gq30.2⟩) .z (Lens.comp0 (c_lint_finder_f_c (gq30,(p32,c33),(p34,c35)) q21) (c_api_Conf_f_Peers gq30 q21.f_c)) rfl)) ?_
  refine aw (r_len_sl underlying25 rfl) ?_
  refine am (nwq [13,12,2,1,0] ?_)
  refine qb ?_
  obtain ⟨q58,hq58,hF⟩:=bM hF
  refine wq [13,12,2,1,0] ?_
  refine at_loop_n (B:=0) (A:=fun Y=>∀ (gq67:G_api_Conf) (hk68:N_api_Conf w (gq67,q58.f_c)) (p69:Option Addr) (c70:Nat) (p71:Option Addr) (c72:Nat),At 32 [] (Wd w [cellsE (g8 1).1 (Cd.cs c_lint_finder ((gq67,(p69,c70),(p71,c72)),q58)) 63,rowE c_api_Entry 49 p69 c70 q58.f_own,rowE c_lint_Odd 40 p71 c72 q58.f_out]) Y) ?_ ?_
  ·intro K
   refine lint_All.l1.partial_correctness q21 (motive:=fun i59 i60 x=>KN (fun Y=>∀ (gq67:G_api_Conf) (hk68:N_api_Conf w (gq67,x.f_c)) (p69:Option Addr) (c70:Nat) (p71:Option Addr) (c72:Nat),At 32 [] (Wd w [cellsE (g8 1).1 (Cd.cs c_lint_finder ((gq67,(p69,c70),(p71,c72)),x)) 63,rowE c_api_Entry 49 p69 c70 x.f_own,rowE c_lint_Odd 40 p71 c72 x.f_out]) Y) _ 0→Round (fun Y=>∀ (gq61:G_api_Conf) (hk62:N_api_Conf w (gq61,i60.f_c)) (p63:Option Addr) (c64:Nat) (p65:Option Addr) (c66:Nat),At 32 [(0,.pointer (some ⟨(g8 1).1,0,none⟩)),(1,.int .i64 3),(2,.func (.func 23) #[.pointer (some ⟨(g8 1).1,0,none⟩)] #[]),(12,.int .i64 (q21.f_c.f_Peers.length:Int)),(13,.int .i64 i59)] (Wd w [cellsE (g8 1).1 (Cd.cs c_lint_finder ((gq61,(p63,c64),(p65,c66)),i60)) 63,rowE c_api_Entry 49 p63 c64 i60.f_own,rowE c_lint_Odd 40 p65 c66 i60.f_out]) Y) _ _ _) ?_ _ _ _ hq58 K gq30 hk31 p32 c33 p34 c35
   ·clear K hF
    intro g ih i59 i60 x hF K gq61 hk62 p63 c64 p65 c66
    refine at_round ?_
    refine sr (aw xl (nwq [14,13,12,2,1,0] ?_))
    refine qs ?_
    obtain ⟨h73,hF⟩|⟨h73,hF⟩:=oi hF
    ·refine ct h73 ?_
     refine sn (qs ?_)
     refine qb ?_
     refine sr (am (aa (nwx [13,12,6,2,1,0] ?_)))
     refine am (am ?_)
     refine at_calleeB (bnds:=[.pointer (some ⟨(g8 1).1,0,none⟩)]) rfl ?_
     obtain ⟨t74,ht74,hF⟩:=bM hF
     refine at_callN (v:=.bool t74) (T:=[cellsE (g8 1).1 (Cd.cs c_lint_finder ((gq61,(p63,c64),(p65,c66)),i60)) 63,rowE c_api_Entry 49 p63 c64 i60.f_own,rowE c_lint_Odd 40 p65 c66 i60.f_out]) func23 rfl (by kernel_rfl) rfl rfl (fun w hw=>lint_finder_double_ok ht74 hw hk62) ?_
     refine nwq [18,13,12,6,2,1,0] ?_
     obtain ⟨h75,hF⟩|⟨h75,hF⟩:=oi hF
     ·refine ct h75 ?_
      refine qr (am (am ?_))
      refine aw (r_nilCheck rfl) ?_
      refine fa 36 underlying63 rfl sizeOf30 ?_
      refine aw (r_load_cell isAgg30 rfl (lens_cell0 (c:=cHd) (y:=⟨((gq61,(p63,c64),(p65,c66)).2.2).1,List.length i60.f_out,((gq61,(p63,c64),(p65,c66)).2.2).2⟩) .z (c_lint_finder_f_out (gq61,(p63,c64),(p65,c66)) i60) rfl)) ?_
      refine am (am ?_)
      refine aw (r_build_struct (zs:=Cd.cs c_lint_Odd zv12) (cs:=Cd.cs c_lint_Odd ({ { zv12 with f_Kind:=3 } with f_Peer:=i59 })) underlying40 zeroValue40 rfl (places_lint_Odd_40) rfl (fill_step (c:=(cInt .i64)) (z:=3) rfl (c_lint_Odd_f_Kind zv12) rfl (fill_step (c:=(cInt .i64)) (z:=i59) rfl (c_lint_Odd_f_Peer ({ zv12 with f_Kind:=3 })) rfl rfl))) ?_
      refine at_litL (c:=c_lint_Odd) ([zv12]:List S_lint_Odd) ([{ { zv12 with f_Kind:=3 } with f_Peer:=i59 }]:List S_lint_Odd) underlying30 sizeOf40 zeroValue40 rfl rfl rfl (by kernel_rfl) (fill_step (c:=c_lint_Odd) (z:={ { zv12 with f_Kind:=3 } with f_Peer:=i59 }) rfl (Lens.all c_lint_Odd ([zv12]:List S_lint_Odd) 0 (by first | decide | exact Nat.le_of_ble_eq_true rfl)) rfl rfl) rfl ?_
      intro b76
      obtain ⟨h77,hF⟩:=gd hF
      refine at_append (z:=.agg (Cd.cs c_lint_Odd zv12).toArray) (c:=c_lint_Odd) (ys:=([{ { zv12 with f_Kind:=3 } with f_Peer:=i59 }]:List S_lint_Odd)) (.s (.s (.s .z))) underlying30 infoV540 (by kernel_rfl) (by kernel_rfl) rfl rfl rfl rfl (fun _ hw=>cells_src (hw.ok (Upd.mem .z))) (by kernel_rfl) h77 (app_small h77) rfl ?_
      intro p78 c79
      refine aw (r_nilCheck rfl) ?_
      refine fa 36 underlying63 rfl sizeOf30 ?_
      refine at_store (c:=cSv S_lint_Odd) (z:=((p78,c79),i60.f_out++[{ { zv12 with f_Kind:=3 } with f_Peer:=i59 }])) (.s .z) (c_lint_finder_f_out_sv (gq61,(p63,c64),(p65,c66)) i60) sizeOf30 rfl rfl rfl ?_
      refine qn (dz (wq [13,12,2,1,0] ?_))
      refine bm ?_
      refine qr (aw xa (am (nwq [13,12,2,1,0] ?_)))
      exact at_weak_k (ih _ _ _ hF K gq61 hk62 p63 c64 p78 c79) ⟨rfl,rfl,rfl,rfl,rfl,trivial⟩
     refine cf h75 ?_
     refine at_skip ?_
     refine bm ?_
     refine qr (aw xa (am (nwq [13,12,2,1,0] ?_)))
     exact at_weak_k (ih _ _ _ hF K gq61 hk62 p63 c64 p65 c66) ⟨rfl,rfl,rfl,rfl,rfl,trivial⟩
    refine cf h73 ?_
    refine at_exit ?_
    refine te (te ?_)
    obtain rfl:=os hF
    exact at_weak_k (K gq61 hk62 p63 c64 p65 c66) trivial
  skip
  intro gq67 hk68 p69 c70 p71 c72
  refine at_blk_same ?_
  refine at_retI0 rfl ?_
  refine nwx [3] ?_
  refine am (am ?_)
  refine aw (r_makeFuncB rfl) ?_
  refine at_callI func21 rfl (by kernel_rfl) rfl rfl rfl rfl ?_
  refine sr (am ?_)
  refine aw (r_nilCheck rfl) ?_
  refine fa 0 underlying63 rfl sizeOf27 (fa 34 underlying27 rfl sizeOf25 ?_)
  refine aw (r_load_cell isAgg25 rfl (lens_cell0 (c:=cHd) (y:=⟨gq67.1,List.length q58.f_c.f_Peers,gq67.2⟩) .z (Lens.comp0 (c_lint_finder_f_c (gq67,(p69,c70),(p71,c72)) q58) (c_api_Conf_f_Peers gq67 q58.f_c)) rfl)) ?_
  refine aw (r_len_sl underlying25 rfl) ?_
  refine am (nwq [13,12,2,1,0] ?_)
  refine qb ?_
  obtain ⟨q86,hq86,hF⟩:=bM hF
  refine wq [13,12,2,1,0] ?_
  refine at_loop_n (B:=0) (A:=fun Y=>∀ (gq95:G_api_Conf) (hk96:N_api_Conf w (gq95,q86.f_c)) (p97:Option Addr) (c98:Nat) (p99:Option Addr) (c100:Nat),At 32 [] (Wd w [cellsE (g8 1).1 (Cd.cs c_lint_finder ((gq95,(p97,c98),(p99,c100)),q86)) 63,rowE c_api_Entry 49 p97 c98 q86.f_own,rowE c_lint_Odd 40 p99 c100 q86.f_out]) Y) ?_ ?_
  ·intro K
   refine lint_All.l2.partial_correctness q58 (motive:=fun i87 i88 x=>KN (fun Y=>∀ (gq95:G_api_Conf) (hk96:N_api_Conf w (gq95,x.f_c)) (p97:Option Addr) (c98:Nat) (p99:Option Addr) (c100:Nat),At 32 [] (Wd w [cellsE (g8 1).1 (Cd.cs c_lint_finder ((gq95,(p97,c98),(p99,c100)),x)) 63,rowE c_api_Entry 49 p97 c98 x.f_own,rowE c_lint_Odd 40 p99 c100 x.f_out]) Y) _ 0→Round (fun Y=>∀ (gq89:G_api_Conf) (hk90:N_api_Conf w (gq89,i88.f_c)) (p91:Option Addr) (c92:Nat) (p93:Option Addr) (c94:Nat),At 32 [(0,.pointer (some ⟨(g8 1).1,0,none⟩)),(1,.int .i64 4),(2,.func (.func 24) #[.pointer (some ⟨(g8 1).1,0,none⟩)] #[]),(12,.int .i64 (q58.f_c.f_Peers.length:Int)),(13,.int .i64 i87)] (Wd w [cellsE (g8 1).1 (Cd.cs c_lint_finder ((gq89,(p91,c92),(p93,c94)),i88)) 63,rowE c_api_Entry 49 p91 c92 i88.f_own,rowE c_lint_Odd 40 p93 c94 i88.f_out]) Y) _ _ _) ?_ _ _ _ hq86 K gq67 hk68 p69 c70 p71 c72
   ·clear K hF
    intro g ih i87 i88 x hF K gq89 hk90 p91 c92 p93 c94
    refine at_round ?_
    refine sr (aw xl (nwq [14,13,12,2,1,0] ?_))
    refine qs ?_
    obtain ⟨h101,hF⟩|⟨h101,hF⟩:=oi hF
    ·refine ct h101 ?_
     refine sn (qs ?_)
     refine qb ?_
     refine sr (am (aa (nwx [13,12,6,2,1,0] ?_)))
     refine am (am ?_)
     refine at_calleeB (bnds:=[.pointer (some ⟨(g8 1).1,0,none⟩)]) rfl ?_
     obtain ⟨t102,ht102,hF⟩:=bM hF
     refine at_callN (v:=.bool t102) (T:=[cellsE (g8 1).1 (Cd.cs c_lint_finder ((gq89,(p91,c92),(p93,c94)),i88)) 63,rowE c_api_Entry 49 p91 c92 i88.f_own,rowE c_lint_Odd 40 p93 c94 i88.f_out]) func24 rfl (by kernel_rfl) rfl rfl (fun w hw=>lint_finder_shared_ok ht102 hw hk90) ?_
     refine nwq [18,13,12,6,2,1,0] ?_
     obtain ⟨h103,hF⟩|⟨h103,hF⟩:=oi hF
     ·refine ct h103 ?_
      refine qr (am (am ?_))
      refine aw (r_nilCheck rfl) ?_
      refine fa 36 underlying63 rfl sizeOf30 ?_
      refine aw (r_load_cell isAgg30 rfl (lens_cell0 (c:=cHd) (y:=⟨((gq89,(p91,c92),(p93,c94)).2.2).1,List.length i88.f_out,((gq89,(p91,c92),(p93,c94)).2.2).2⟩) .z (c_lint_finder_f_out (gq89,(p91,c92),(p93,c94)) i88) rfl)) ?_
      refine am (am ?_)
      refine aw (r_build_struct (zs:=Cd.cs c_lint_Odd zv12) (cs:=Cd.cs c_lint_Odd ({ { zv12 with f_Kind:=4 } with f_Peer:=i87 })) underlying40 zeroValue40 rfl (places_lint_Odd_40) rfl (fill_step (c:=(cInt .i64)) (z:=4) rfl (c_lint_Odd_f_Kind zv12) rfl (fill_step (c:=(cInt .i64)) (z:=i87) rfl (c_lint_Odd_f_Peer ({ zv12 with f_Kind:=4 })) rfl rfl))) ?_
      refine at_litL (c:=c_lint_Odd) ([zv12]:List S_lint_Odd) ([{ { zv12 with f_Kind:=4 } with f_Peer:=i87 }]:List S_lint_Odd) underlying30 sizeOf40 zeroValue40 rfl rfl rfl (by kernel_rfl) (fill_step (c:=c_lint_Odd) (z:={ { zv12 with f_Kind:=4 } with f_Peer:=i87 }) rfl (Lens.all c_lint_Odd ([zv12]:List S_lint_Odd) 0 (by first | decide | exact Nat.le_of_ble_eq_true rfl)) rfl rfl) rfl ?_
      intro b104
      obtain ⟨h105,hF⟩:=gd hF
      refine at_append (z:=.agg (Cd.cs c_lint_Odd zv12).toArray) (c:=c_lint_Odd) (ys:=([{ { zv12 with f_Kind:=4 } with f_Peer:=i87 }]:List S_lint_Odd)) (.s (.s (.s .z))) underlying30 infoV540 (by kernel_rfl) (by kernel_rfl) rfl rfl rfl rfl (fun _ hw=>cells_src (hw.ok (Upd.mem .z))) (by kernel_rfl) h105 (app_small h105) rfl ?_
      intro p106 c107
      refine aw (r_nilCheck rfl) ?_
      refine fa 36 underlying63 rfl sizeOf30 ?_
      refine at_store (c:=cSv S_lint_Odd) (z:=((p106,c107),i88.f_out++[{ { zv12 with f_Kind:=4 } with f_Peer:=i87 }])) (.s .z) (c_lint_finder_f_out_sv (gq89,(p91,c92),(p93,c94)) i88) sizeOf30 rfl rfl rfl ?_
      refine qn (dz (wq [13,12,2,1,0] ?_))
      refine bm ?_
      refine qr (aw xa (am (nwq [13,12,2,1,0] ?_)))
      exact at_weak_k (ih _ _ _ hF K gq89 hk90 p91 c92 p106 c107) ⟨rfl,rfl,rfl,rfl,rfl,trivial⟩
     refine cf h103 ?_
     refine at_skip ?_
     refine bm ?_
     refine qr (aw xa (am (nwq [13,12,2,1,0] ?_)))
     exact at_weak_k (ih _ _ _ hF K gq89 hk90 p91 c92 p93 c94) ⟨rfl,rfl,rfl,rfl,rfl,trivial⟩
    refine cf h101 ?_
    refine at_exit ?_
    refine te (te ?_)
    obtain rfl:=os hF
    exact at_weak_k (K gq89 hk90 p91 c92 p93 c94) trivial
  skip
  intro gq95 hk96 p97 c98 p99 c100
  refine at_blk_same ?_
  refine at_retI0 rfl ?_
  refine nwx [3] ?_
  refine am (am ?_)
  refine at_callI func26 rfl (by kernel_rfl) rfl rfl rfl rfl ?_
  refine sr (aa (nwx [0] ?_))
  refine at_makeMap c_api_Prefix cBool false rfl ?_
  intro b108
  refine al (cs:=[.map none]) zeroValue85 ?_
  intro b109
  refine sa 1 ([.map (some b108)]) .z rfl rfl sizeOf85 rfl rfl rfl ?_
  refine nt (qs (sr (am ?_)))
  refine aw (r_nilCheck rfl) ?_
  refine fa 35 underlying63 rfl sizeOf46 ?_
  refine aw (r_load_cell isAgg46 rfl (lens_cell0 (c:=cHd) (y:=⟨((gq95,(p97,c98),(p99,c100)).2.1).1,List.length q86.f_own,((gq95,(p97,c98),(p99,c100)).2.1).2⟩) (.s (.s .z)) (c_lint_finder_f_own (gq95,(p97,c98),(p99,c100)) q86) rfl)) ?_
  obtain ⟨t110,ht110,hF⟩:=bM hF
  refine at_callO (c:=c_api_Entry) (e:=49) (ys:=t110) (V:=fun p cap=>.slice p t110.length cap) func47 rfl (by kernel_rfl) rfl rfl (fun w hw=>flat_Thin_ok _ _ _ _ ht110 w (hw.own (.s (.s (.s .z)))).row) ?_
  intro p111 c112
  refine aw (r_len_sl underlying46 rfl) ?_
  refine am (nwq [13,12,11,3] ?_)
  refine qb ?_
  obtain ⟨q113,hq113,hF⟩:=bM hF
  refine wq [13,12,11,3] ?_
  refine at_loop_n (B:=0) (A:=fun Y=>At 22 [(3,.pointer (some ⟨b109,0,none⟩))] (Wd w [cellsE b109 [.map (some b108)] 85,mapE b108 c_api_Prefix cBool false q113,cellsE (g8 1).1 (Cd.cs c_lint_finder ((gq95,(p97,c98),(p99,c100)),q86)) 63,rowE c_api_Entry 49 p97 c98 q86.f_own,rowE c_lint_Odd 40 p99 c100 q86.f_out]) Y) ?_ ?_
  ·intro K
   refine lint_All.l3.partial_correctness t110 (motive:=fun i114 i115 x=>KN (fun Y=>At 22 [(3,.pointer (some ⟨b109,0,none⟩))] (Wd w [cellsE b109 [.map (some b108)] 85,mapE b108 c_api_Prefix cBool false x,cellsE (g8 1).1 (Cd.cs c_lint_finder ((gq95,(p97,c98),(p99,c100)),q86)) 63,rowE c_api_Entry 49 p97 c98 q86.f_own,rowE c_lint_Odd 40 p99 c100 q86.f_out]) Y) _ 0→Round (fun Y=>At 22 [(3,.pointer (some ⟨b109,0,none⟩)),(11,.slice p111 t110.length c112),(12,.int .i64 (t110.length:Int)),(13,.int .i64 i114)] (Wd w [rowE c_api_Entry 49 p111 c112 t110,cellsE b109 [.map (some b108)] 85,mapE b108 c_api_Prefix cBool false i115,cellsE (g8 1).1 (Cd.cs c_lint_finder ((gq95,(p97,c98),(p99,c100)),q86)) 63,rowE c_api_Entry 49 p97 c98 q86.f_own,rowE c_lint_Odd 40 p99 c100 q86.f_out]) Y) _ _ _) ?_ _ _ _ hq113 K
   ·clear K hF
    intro g ih i114 i115 x hF K
    refine at_round ?_
    refine sr (aw xl (nwq [14,13,12,11,3] ?_))
    refine qs ?_
    obtain ⟨h116,hF⟩|⟨h116,hF⟩:=oi hF
    ·refine ct h116 ?_
     refine sn (qs ?_)
     refine qb ?_
     refine sr ?_
     obtain ⟨h117,hF⟩:=gd hF
     refine at_pure (φ:=∃ b o,p111=some ⟨b,o,none⟩) (fun _ hw=>row_ptr (hw.own .z).row h117) ?_
     rintro ⟨b119,o120,hp118⟩
     refine aw (r_idx underlying46 sizeOf49 rfl rfl h117 hp118) ?_
     refine aw (r_load_aggc (c:=c_api_Entry) (z:=lget t110 i114) isAgg49 sizeOf49 rfl (fun w1 hw=>row_cell (W:=fun w1=>w1=_) (fun w1 h=>by subst h;exact Below.refl _ _) (hw.own .z).row h117 hp118 _ rfl)) ?_
     refine al (cs:=Cd.cs c_api_Entry zv13) zeroValue49 ?_
     intro b121
     refine at_store (c:=c_api_Entry) (z:=lget t110 i114) .z lw sizeOf49 rfl rfl rfl ?_
     refine nwq [13,12,11,5,3] ?_
     refine qr ?_
     refine aw (r_load_cell isAgg85 rfl (fun w1 hw=>cells_get (hw.ok (Upd.mem (.s (.s .z)))) 0 _ rfl)) ?_
     refine fa 0 underlying49 rfl sizeOf38 ?_
     refine aw (r_load_aggc (c:=c_api_Prefix) (z:=(lget t110 i114).f_P) isAgg38 sizeOf38 rfl (lens_cell .z (Lens.comp lw (fun z=>{ lget t110 i114 with f_P:=z }) (c_api_Entry_f_P (lget t110 i114))))) ?_
     refine at_mapUpdate (k:=(lget t110 i114).f_P) (v:=true) (.s (.s (.s .z))) underlying85 (keylaw_of underlying38 (chk_struct (k:=2) underlying38 (fun n x hn=>(chkf_cons (c_api_Prefix_f_A x) rfl rfl isAgg36 sizeOf36 (.inl rfl) (chk_struct (k:=1) underlying36 (fun n x hn=>(chkf_cons (c_api_Addr_f_V x) rfl rfl isAgg3 sizeOf3 (.inr rfl) (chk_int underlying3) (by omega) (chkf_cons (c_api_Addr_f_B x) rfl rfl isAgg34 sizeOf34 (.inl rfl) (chk_vec underlying34 sizeOf5 isAgg5 (.inr rfl) (chk_int underlying5)) (by omega) chkf_nil)))) (by omega) (chkf_cons (c_api_Prefix_f_Bits x) rfl rfl isAgg3 sizeOf3 (.inr rfl) (chk_int underlying3) (by omega) chkf_nil)))) (by decide) (eq_api_Prefix_38) (by decide) plain_api_Prefix) rfl rfl rfl rfl ?_
     refine qn (dz (wq [13,12,11,3] ?_))
     refine bm ?_
     refine qr (aw xa (am (nwq [13,12,11,3] ?_)))
     exact at_weak_k (ih _ _ _ hF K) ⟨rfl,rfl,rfl,rfl,trivial⟩
    refine cf h116 ?_
    refine at_exit ?_
    refine te (te ?_)
    refine dz ?_
    obtain rfl:=os hF
    exact at_weak_k K ⟨rfl,trivial⟩
  skip
  skip
  refine at_blk_same ?_
  refine tn (sr ?_)
  refine aw (r_makeFunc rfl) ?_
  refine aa (nwq [2] ?_)
  refine qt ?_
  refine at_retI1 rfl rfl ?_
  refine at_callI func25 rfl (by kernel_rfl) rfl rfl rfl rfl ?_
  refine sr (am ?_)
  refine aw (r_nilCheck rfl) ?_
  refine fa 0 underlying63 rfl sizeOf27 (fa 34 underlying27 rfl sizeOf25 ?_)
  refine aw (r_load_cell isAgg25 rfl (lens_cell0 (c:=cHd) (y:=⟨gq95.1,List.length q86.f_c.f_Peers,gq95.2⟩) (.s (.s .z)) (Lens.comp0 (c_lint_finder_f_c (gq95,(p97,c98),(p99,c100)) q86) (c_api_Conf_f_Peers gq95 q86.f_c)) rfl)) ?_
  refine aw (r_len_sl underlying25 rfl) ?_
  refine am (nwq [16,15,14,2,1,0] ?_)
  refine qb ?_
  obtain ⟨q128,hq128,hF⟩:=bM hF
  refine wq [16,15,14,2,1,0] ?_
  refine at_loop_n (B:=0) (A:=fun Y=>∀ (gq137:G_api_Conf) (hk138:N_api_Conf w (gq137,q128.f_c)) (p139:Option Addr) (c140:Nat) (p141:Option Addr) (c142:Nat),At 46 [] (Wd w [cellsE (g8 1).1 (Cd.cs c_lint_finder ((gq137,(p139,c140),(p141,c142)),q128)) 63,rowE c_api_Entry 49 p139 c140 q128.f_own,rowE c_lint_Odd 40 p141 c142 q128.f_out]) Y) ?_ ?_
  ·intro K
   refine lint_All.l4.partial_correctness q86 q113 (motive:=fun i129 i130 x=>KN (fun Y=>∀ (gq137:G_api_Conf) (hk138:N_api_Conf w (gq137,x.f_c)) (p139:Option Addr) (c140:Nat) (p141:Option Addr) (c142:Nat),At 46 [] (Wd w [cellsE (g8 1).1 (Cd.cs c_lint_finder ((gq137,(p139,c140),(p141,c142)),x)) 63,rowE c_api_Entry 49 p139 c140 x.f_own,rowE c_lint_Odd 40 p141 c142 x.f_out]) Y) _ 0→Round (fun Y=>∀ (gq131:G_api_Conf) (hk132:N_api_Conf w (gq131,i130.f_c)) (p133:Option Addr) (c134:Nat) (p135:Option Addr) (c136:Nat),At 46 [(0,.pointer (some ⟨(g8 1).1,0,none⟩)),(1,.int .i64 5),(2,.func (.func 48) #[] #[.pointer (some ⟨b109,0,none⟩)]),(14,.slice gq95.1 q86.f_c.f_Peers.length gq95.2),(15,.int .i64 (q86.f_c.f_Peers.length:Int)),(16,.int .i64 i129)] (Wd w [cellsE b109 [.map (some b108)] 85,mapE b108 c_api_Prefix cBool false q113,cellsE (g8 1).1 (Cd.cs c_lint_finder ((gq131,(p133,c134),(p135,c136)),i130)) 63,rowE c_api_Entry 49 p133 c134 i130.f_own,rowE c_lint_Odd 40 p135 c136 i130.f_out]) Y) _ _ _) ?_ _ _ _ hq128 K gq95 hk96 p97 c98 p99 c100
   ·clear K hF
    intro g ih i129 i130 x hF K gq131 hk132 p133 c134 p135 c136
    refine at_round ?_
    refine sr (aw xl (nwq [17,16,15,14,2,1,0] ?_))
    refine qs ?_
    obtain ⟨h143,hF⟩|⟨h143,hF⟩:=oi hF
    ·refine ct h143 ?_
     refine sn (qs ?_)
     refine qb ?_
     refine sr (am ?_)
     obtain ⟨h144,hF⟩:=gd hF
     obtain ⟨zs148,hz149,hr150,hn151⟩:=id hk96
     obtain ⟨b146,o147,hp145⟩:=row_ptr hr150 (zidx hz149 h144)
     obtain ⟨g152,hg153⟩:=zget hz149 i129
     refine aw (r_idx underlying25 sizeOf60 rfl rfl h144 hp145) ?_
     refine aw (r_load_aggc (c:=c_api_Peer) (z:=(g152,lget q86.f_c.f_Peers i129)) isAgg60 sizeOf60 rfl (ncell (fun _ h=>h.below) hr150 (zidx hz149 h144) hp145 hg153)) ?_
     refine al (cs:=Cd.cs c_api_Peer zv14) zeroValue60 ?_
     intro b154
     refine aa ?_
     refine at_store (c:=c_api_Peer) (z:=(g152,lget q86.f_c.f_Peers i129)) .z lw sizeOf60 rfl rfl rfl ?_
     refine ns (fa 85 underlying60 rfl sizeOf58 ?_)
     refine aw (r_load_cell isAgg58 rfl (lens_cell0 (c:=cHd) (y:=⟨g152.1,List.length ((lget q86.f_c.f_Peers i129).f_Allowed),g152.2⟩) .z (c_api_Peer_f_Allowed g152 (lget q86.f_c.f_Peers i129)) rfl)) ?_
     refine aw (r_len_sl underlying58 rfl) ?_
     refine am (qn (dz (wq [24,23,22,16,15,14,6,2,1,0] ?_)))
     refine tn ?_
     refine qb ?_
     obtain ⟨q161,hq161,hF⟩:=bM hF
     refine wq [24,23,22,16,15,14,6,2,1,0] ?_
     refine at_loop_n (B:=2) (A:=fun Y=>∀ (gq170:G_api_Conf) (hk171:N_api_Conf w (gq170,q161.f_c)) (p172:Option Addr) (c173:Nat) (p174:Option Addr) (c175:Nat),At 46 [(0,.pointer (some ⟨(g8 1).1,0,none⟩)),(1,.int .i64 5),(2,.func (.func 48) #[] #[.pointer (some ⟨b109,0,none⟩)]),(14,.slice gq95.1 q86.f_c.f_Peers.length gq95.2),(15,.int .i64 (q86.f_c.f_Peers.length:Int)),(16,.int .i64 i129)] (Wd w [cellsE b109 [.map (some b108)] 85,mapE b108 c_api_Prefix cBool false q113,cellsE (g8 1).1 (Cd.cs c_lint_finder ((gq170,(p172,c173),(p174,c175)),q161)) 63,rowE c_api_Entry 49 p172 c173 q161.f_own,rowE c_lint_Odd 40 p174 c175 q161.f_out]) Y) ?_ ?_
     ·intro K
      refine lint_All.l5.partial_correctness q86 q113 i129 (motive:=fun i162 i163 x=>KN (fun Y=>∀ (gq170:G_api_Conf) (hk171:N_api_Conf w (gq170,x.f_c)) (p172:Option Addr) (c173:Nat) (p174:Option Addr) (c175:Nat),At 46 [(0,.pointer (some ⟨(g8 1).1,0,none⟩)),(1,.int .i64 5),(2,.func (.func 48) #[] #[.pointer (some ⟨b109,0,none⟩)]),(14,.slice gq95.1 q86.f_c.f_Peers.length gq95.2),(15,.int .i64 (q86.f_c.f_Peers.length:Int)),(16,.int .i64 i129)] (Wd w [cellsE b109 [.map (some b108)] 85,mapE b108 c_api_Prefix cBool false q113,cellsE (g8 1).1 (Cd.cs c_lint_finder ((gq170,(p172,c173),(p174,c175)),x)) 63,rowE c_api_Entry 49 p172 c173 x.f_own,rowE c_lint_Odd 40 p174 c175 x.f_out]) Y) _ 2→Round (fun Y=>∀ (gq164:G_api_Conf) (hk165:N_api_Conf w (gq164,i163.f_c)) (p166:Option Addr) (c167:Nat) (p168:Option Addr) (c169:Nat),At 46 [(0,.pointer (some ⟨(g8 1).1,0,none⟩)),(1,.int .i64 5),(2,.func (.func 48) #[] #[.pointer (some ⟨b109,0,none⟩)]),(6,.int .i64 i129),(14,.slice gq95.1 q86.f_c.f_Peers.length gq95.2),(15,.int .i64 (q86.f_c.f_Peers.length:Int)),(16,.int .i64 i129),(22,.slice g152.1 ((lget q86.f_c.f_Peers i129).f_Allowed).length g152.2),(23,.int .i64 (((lget q86.f_c.f_Peers i129).f_Allowed).length:Int)),(24,.int .i64 i162)] (Wd w [cellsE b109 [.map (some b108)] 85,mapE b108 c_api_Prefix cBool false q113,cellsE (g8 1).1 (Cd.cs c_lint_finder ((gq164,(p166,c167),(p168,c169)),i163)) 63,rowE c_api_Entry 49 p166 c167 i163.f_own,rowE c_lint_Odd 40 p168 c169 i163.f_out]) Y) _ _ _) ?_ _ _ _ hq161 K gq131 hk132 p133 c134 p135 c136
      ·clear K hF
       intro g ih i162 i163 x hF K gq164 hk165 p166 c167 p168 c169
       refine at_round ?_
       refine sr (aw xl (nwq [25,24,23,22,16,15,14,6,2,1,0] ?_))
       refine qs ?_
       obtain ⟨h176,hF⟩|⟨h176,hF⟩:=oi hF
       ·refine ct h176 ?_
        refine sn (qs ?_)
        refine qb ?_
        refine sr ?_
        obtain ⟨h177,hF⟩:=gd hF
        obtain ⟨b179,o180,hp178⟩:=row_ptr (nz hg153 hn151 (zidx hz149 h144)) h177
        refine aw (r_idx underlying58 sizeOf38 rfl rfl h177 hp178) ?_
        refine aw (r_load_aggc (c:=c_api_Prefix) (z:=lget ((lget q86.f_c.f_Peers i129).f_Allowed) i162) isAgg38 sizeOf38 rfl (row_cell (fun _ h=>h.below) (nz hg153 hn151 (zidx hz149 h144)) h177 hp178)) ?_
        refine al (cs:=Cd.cs c_api_Prefix zv9) zeroValue38 ?_
        intro b181
        refine at_store (c:=c_api_Prefix) (z:=lget ((lget q86.f_c.f_Peers i129).f_Allowed) i162) .z lw sizeOf38 rfl rfl rfl ?_
        refine nwx [24,23,22,16,15,14,9,6,2,1,0] ?_
        refine am ?_
        refine aw (r_load_aggc (c:=c_api_Prefix) (z:=lget ((lget q86.f_c.f_Peers i129).f_Allowed) i162) isAgg38 sizeOf38 rfl (lens_cell .z lw)) ?_
        refine at_calleeC (caps:=[.pointer (some ⟨b109,0,none⟩)]) rfl ?_
        refine at_callI func48 rfl (by kernel_rfl) rfl rfl rfl rfl ?_
        refine sr ?_
        refine at_box (cs:=Cd.cs c_api_Prefix (lget ((lget q86.f_c.f_Peers i129).f_Allowed) i162)) rfl rfl rfl ?_
        intro b182
        refine aa (ns ?_)
        refine aw (r_load_cell isAgg85 rfl (fun w1 hw=>cells_get (hw.ok (Upd.mem (.s (.s .z)))) 0 _ rfl)) ?_
        refine aw (r_load_aggc (c:=c_api_Prefix) (z:=lget ((lget q86.f_c.f_Peers i129).f_Allowed) i162) isAgg38 sizeOf38 rfl (lens_cell .z lw)) ?_
        refine aw (r_lookup (d:=cBool) (va:=false) (k:=lget ((lget q86.f_c.f_Peers i129).f_Allowed) i162) (zv:=false) underlying85 (keylaw_of underlying38 (chk_struct (k:=2) underlying38 (fun n x hn=>(chkf_cons (c_api_Prefix_f_A x) rfl rfl isAgg36 sizeOf36 (.inl rfl) (chk_struct (k:=1) underlying36 (fun n x hn=>(chkf_cons (c_api_Addr_f_V x) rfl rfl isAgg3 sizeOf3 (.inr rfl) (chk_int underlying3) (by omega) (chkf_cons (c_api_Addr_f_B x) rfl rfl isAgg34 sizeOf34 (.inl rfl) (chk_vec underlying34 sizeOf5 isAgg5 (.inr rfl) (chk_int underlying5)) (by omega) chkf_nil)))) (by omega) (chkf_cons (c_api_Prefix_f_Bits x) rfl rfl isAgg3 sizeOf3 (.inr rfl) (chk_int underlying3) (by omega) chkf_nil)))) (by decide) (eq_api_Prefix_38) (by decide) plain_api_Prefix) zeroValue4 rfl rfl (fun w1 hw=>hw.ok (Upd.mem (.s (.s (.s .z)))))) ?_
        refine aw (r_not rfl) ?_
        refine aa (qn (dz (wq [3] ?_)))
        refine tn (qt ?_)
        refine at_retI1 rfl rfl ?_
        refine nwq [30,24,23,22,16,15,14,9,6,2,1,0] ?_
        obtain ⟨h183,hF⟩|⟨h183,hF⟩:=oi hF
        ·refine ct h183 ?_
         refine wq [24,23,22,16,15,14,9,6,2,1,0] ?_
         obtain ⟨h185,hF⟩:=gd hF
         refine at_inv [.q 31 (fun g188=>.pointer (some ⟨(g8 1).1,0,none⟩)) [] 0 2,.q 32 (fun g188=>.pointer (some ⟨(g8 1).1,0,none⟩)) [] 0 1,.q 33 (fun g188=>.pointer (some ⟨(g8 1).1,0,none⟩)) [1] 0 1,.q 34 (fun g188=>.pointer (some ⟨(g8 1).1,0+36,none⟩)) [2] 0 1,.q 35 (fun g188=>.slice p168 i163.f_out.length c169) [3] 0 1,.q 36 (fun g188=>.int .i64 5) [] 0 0,.q 37 (fun g188=>.int .i64 i129) [] 0 0,.q 38 (fun g188=>.agg (Cd.cs c_api_Prefix (lget ((lget q86.f_c.f_Peers i129).f_Allowed) i162)).toArray) [] 0 0,.q 39 (fun g188=>.agg (Cd.cs c_lint_Odd ({ { { zv12 with f_Kind:=5 } with f_Peer:=i129 } with f_P:=lget ((lget q86.f_c.f_Peers i129).f_Allowed) i162 })).toArray) [5,6,7] 0 0,.al 0 40 (fun g188=>.slice (some ⟨((g188 0).1),0,none⟩) ([{ { { zv12 with f_Kind:=5 } with f_Peer:=i129 } with f_P:=lget ((lget q86.f_c.f_Peers i129).f_Allowed) i162 }]:List S_lint_Odd).length 1) [8],.al 1 41 (fun g188=>.slice ((g188 1).2.1) (i163.f_out++[{ { { zv12 with f_Kind:=5 } with f_Peer:=i129 } with f_P:=lget ((lget q86.f_c.f_Peers i129).f_Allowed) i162 }]).length ((g188 1).2.2.1)) [4,9],.q 42 (fun g188=>.pointer (some ⟨(g8 1).1,0,none⟩)) [0] 2 2,.q 43 (fun g188=>.pointer (some ⟨(g8 1).1,0+36,none⟩)) [11] 2 2,.st 2 none [10,12]] (fun g188 s=>match s with | 0=>(Wd w [cellsE b181 (Cd.cs c_api_Prefix (lget ((lget q86.f_c.f_Peers i129).f_Allowed) i162)) 38,cellsE b109 [.map (some b108)] 85,mapE b108 c_api_Prefix cBool false q113,cellsE (g8 1).1 (Cd.cs c_lint_finder ((gq164,(p166,c167),(p168,c169)),i163)) 63,rowE c_api_Entry 49 p166 c167 i163.f_own,rowE c_lint_Odd 40 p168 c169 i163.f_out]) | 1=>(Wd w [cellsE ((g188 0).1) (c_lint_Odd.all ([{ { { zv12 with f_Kind:=5 } with f_Peer:=i129 } with f_P:=lget ((lget q86.f_c.f_Peers i129).f_Allowed) i162 }]:List S_lint_Odd)) 40,cellsE b181 (Cd.cs c_api_Prefix (lget ((lget q86.f_c.f_Peers i129).f_Allowed) i162)) 38,cellsE b109 [.map (some b108)] 85,mapE b108 c_api_Prefix cBool false q113,cellsE (g8 1).1 (Cd.cs c_lint_finder ((gq164,(p166,c167),(p168,c169)),i163)) 63,rowE c_api_Entry 49 p166 c167 i163.f_own,rowE c_lint_Odd 40 p168 c169 i163.f_out]) | 2=>(Wd w [cellsE ((g188 0).1) (c_lint_Odd.all ([{ { { zv12 with f_Kind:=5 } with f_Peer:=i129 } with f_P:=lget ((lget q86.f_c.f_Peers i129).f_Allowed) i162 }]:List S_lint_Odd)) 40,cellsE b181 (Cd.cs c_api_Prefix (lget ((lget q86.f_c.f_Peers i129).f_Allowed) i162)) 38,cellsE b109 [.map (some b108)] 85,mapE b108 c_api_Prefix cBool false q113,cellsE (g8 1).1 (Cd.cs c_lint_finder ((gq164,(p166,c167),(p168,c169)),i163)) 63,rowE c_api_Entry 49 p166 c167 i163.f_own,rowE c_lint_Odd 40 ((g188 1).2.1) ((g188 1).2.2.1) (i163.f_out++[{ { { zv12 with f_Kind:=5 } with f_Peer:=i129 } with f_P:=lget ((lget q86.f_c.f_Peers i129).f_Allowed) i162 }])]) | _=>(Wd w [cellsE ((g188 0).1) (c_lint_Odd.all ([{ { { zv12 with f_Kind:=5 } with f_Peer:=i129 } with f_P:=lget ((lget q86.f_c.f_Peers i129).f_Allowed) i162 }]:List S_lint_Odd)) 40,cellsE b181 (Cd.cs c_api_Prefix (lget ((lget q86.f_c.f_Peers i129).f_Allowed) i162)) 38,cellsE b109 [.map (some b108)] 85,mapE b108 c_api_Prefix cBool false q113,cellsE (g8 1).1 (Cd.cs c_lint_finder ((gq164,(p166,c167),(((g188 1).2.1),((g188 1).2.2.1))),{ i163 with f_out:=i163.f_out++[{ { { zv12 with f_Kind:=5 } with f_Peer:=i129 } with f_P:=lget ((lget q86.f_c.f_Peers i129).f_Allowed) i162 }] })) 63,rowE c_api_Entry 49 p166 c167 i163.f_own,rowE c_lint_Odd 40 ((g188 1).2.1) ((g188 1).2.2.1) (i163.f_out++[{ { { zv12 with f_Kind:=5 } with f_Peer:=i129 } with f_P:=lget ((lget q86.f_c.f_Peers i129).f_Allowed) i162 }])])) 3 (by kernel_rfl) (by kernel_rfl) (by kernel_rfl) (by kernel_rfl) (by kernel_rfl) ⟨fun _ _ _=>rfl,fun _ _ _=>rfl,fun _ _ _=>rfl,fun _ _ _=>rfl,fun _ _ _=>rfl,fun _ _ _=>rfl,fun _ _ _=>rfl,fun _ _ _=>rfl,fun _ _ _=>rfl,fun g188 g2 h=>by show (.slice (some ⟨((g188 0).1),0,none⟩) ([{ { { zv12 with f_Kind:=5 } with f_Peer:=i129 } with f_P:=lget ((lget q86.f_c.f_Peers i129).f_Allowed) i162 }]:List S_lint_Odd).length 1:Value)=.slice (some ⟨((g2 0).1),0,none⟩) ([{ { { zv12 with f_Kind:=5 } with f_Peer:=i129 } with f_P:=lget ((lget q86.f_c.f_Peers i129).f_Allowed) i162 }]:List S_lint_Odd).length 1;rw [h 0 (show 0<1 by decide)],fun g188 g2 h=>by show (.slice ((g188 1).2.1) (i163.f_out++[{ { { zv12 with f_Kind:=5 } with f_Peer:=i129 } with f_P:=lget ((lget q86.f_c.f_Peers i129).f_Allowed) i162 }]).length ((g188 1).2.2.1):Value)=.slice ((g2 1).2.1) (i163.f_out++[{ { { zv12 with f_Kind:=5 } with f_Peer:=i129 } with f_P:=lget ((lget q86.f_c.f_Peers i129).f_Allowed) i162 }]).length ((g2 1).2.2.1);rw [h 1 (show 1<2 by decide)],fun _ _ _=>rfl,fun _ _ _=>rfl,fun _ _ _=>rfl,trivial⟩ (by kernel_rfl) (fun w_ h=>⟨fun _=>g3 0 none 0 none w_,h.drew⟩) ⟨?_,?_,?_,?_,?_,?_,?_,?_,?_,?_,?_,?_,?_,?_,trivial⟩ ?_
         ·intro Lx g188 s K hl hh k
          show At 46 ((0,_)::(1,_)::(2,_)::(6,_)::(9,_)::(14,_)::(15,_)::(16,_)::(22,_)::(23,_)::(24,_)::Lx) _ _
          refine am ?_
          exact at_nil k
         ·intro Lx g188 s K hl hh k
          show At 46 ((0,_)::(1,_)::(2,_)::(6,_)::(9,_)::(14,_)::(15,_)::(16,_)::(22,_)::(23,_)::(24,_)::Lx) _ _
          refine am ?_
          exact at_nil k
         ·intro Lx g188 s K hl hh k
          show At 46 ((32,_)::(0,_)::(1,_)::(2,_)::(6,_)::(9,_)::(14,_)::(15,_)::(16,_)::(22,_)::(23,_)::(24,_)::Lx) _ _
          refine aw (r_nilCheck rfl) ?_
          exact at_nil k
         ·intro Lx g188 s K hl hh k
          show At 46 ((33,_)::(0,_)::(1,_)::(2,_)::(6,_)::(9,_)::(14,_)::(15,_)::(16,_)::(22,_)::(23,_)::(24,_)::Lx) _ _
          refine fa 36 underlying63 rfl sizeOf30 ?_
          exact at_nil k
         ·intro Lx g188 s K hl hh k
          show At 46 ((34,_)::(0,_)::(1,_)::(2,_)::(6,_)::(9,_)::(14,_)::(15,_)::(16,_)::(22,_)::(23,_)::(24,_)::Lx) _ _
          rcases (by omega:s=0∨s=1) with rfl | rfl
          ·skip
           refine aw (r_load_cell isAgg30 rfl (lens_cell0 (c:=cHd) (y:=⟨((gq164,(p166,c167),(p168,c169)).2.2).1,List.length i163.f_out,((gq164,(p166,c167),(p168,c169)).2.2).2⟩) (.s (.s (.s .z))) (c_lint_finder_f_out (gq164,(p166,c167),(p168,c169)) i163) rfl)) ?_
           exact at_nil k
          skip
          refine aw (r_load_cell isAgg30 rfl (lens_cell0 (c:=cHd) (y:=⟨((gq164,(p166,c167),(p168,c169)).2.2).1,List.length i163.f_out,((gq164,(p166,c167),(p168,c169)).2.2).2⟩) (.s (.s (.s (.s .z)))) (c_lint_finder_f_out (gq164,(p166,c167),(p168,c169)) i163) rfl)) ?_
          exact at_nil k
         ·intro Lx g188 s K hl hh k
          show At 46 ((0,_)::(1,_)::(2,_)::(6,_)::(9,_)::(14,_)::(15,_)::(16,_)::(22,_)::(23,_)::(24,_)::Lx) _ _
          refine am ?_
          exact at_nil k
         ·intro Lx g188 s K hl hh k
          show At 46 ((0,_)::(1,_)::(2,_)::(6,_)::(9,_)::(14,_)::(15,_)::(16,_)::(22,_)::(23,_)::(24,_)::Lx) _ _
          refine am ?_
          exact at_nil k
         ·intro Lx g188 s K hl hh k
          show At 46 ((0,_)::(1,_)::(2,_)::(6,_)::(9,_)::(14,_)::(15,_)::(16,_)::(22,_)::(23,_)::(24,_)::Lx) _ _
          obtain rfl:s=0:=by omega
          refine aw (r_load_aggc (c:=c_api_Prefix) (z:=lget ((lget q86.f_c.f_Peers i129).f_Allowed) i162) isAgg38 sizeOf38 rfl (lens_cell .z lw)) ?_
          exact at_nil k
         ·intro Lx g188 s K hl hh k
          show At 46 ((36,_)::(37,_)::(38,_)::(0,_)::(1,_)::(2,_)::(6,_)::(9,_)::(14,_)::(15,_)::(16,_)::(22,_)::(23,_)::(24,_)::Lx) _ _
          obtain rfl:s=0:=by omega
          refine aw (r_build_struct (zs:=Cd.cs c_lint_Odd zv12) (cs:=Cd.cs c_lint_Odd ({ { { zv12 with f_Kind:=5 } with f_Peer:=i129 } with f_P:=lget ((lget q86.f_c.f_Peers i129).f_Allowed) i162 })) underlying40 zeroValue40 rfl (places_lint_Odd_40) rfl (fill_step (c:=(cInt .i64)) (z:=5) rfl (c_lint_Odd_f_Kind zv12) rfl (fill_step (c:=(cInt .i64)) (z:=i129) rfl (c_lint_Odd_f_Peer ({ zv12 with f_Kind:=5 })) rfl (fill_step (c:=c_api_Prefix) (z:=lget ((lget q86.f_c.f_Peers i129).f_Allowed) i162) rfl (c_lint_Odd_f_P ({ { zv12 with f_Kind:=5 } with f_Peer:=i129 })) rfl rfl)))) ?_
          exact at_nil k
         ·intro Lx g188 K k
          show At 46 ((39,_)::(0,_)::(1,_)::(2,_)::(6,_)::(9,_)::(14,_)::(15,_)::(16,_)::(22,_)::(23,_)::(24,_)::Lx) _ _
          refine at_litL (c:=c_lint_Odd) ([zv12]:List S_lint_Odd) ([{ { { zv12 with f_Kind:=5 } with f_Peer:=i129 } with f_P:=lget ((lget q86.f_c.f_Peers i129).f_Allowed) i162 }]:List S_lint_Odd) underlying30 sizeOf40 zeroValue40 rfl rfl rfl (by kernel_rfl) (fill_step (c:=c_lint_Odd) (z:={ { { zv12 with f_Kind:=5 } with f_Peer:=i129 } with f_P:=lget ((lget q86.f_c.f_Peers i129).f_Allowed) i162 }) rfl (Lens.all c_lint_Odd ([zv12]:List S_lint_Odd) 0 (by first | decide | exact Nat.le_of_ble_eq_true rfl)) rfl rfl) rfl ?_
          intro b184
          exact at_nil (k (g3 b184 none 0 none w))
         ·intro Lx g188 K k
          show At 46 ((35,_)::(40,_)::(0,_)::(1,_)::(2,_)::(6,_)::(9,_)::(14,_)::(15,_)::(16,_)::(22,_)::(23,_)::(24,_)::Lx) _ _
          refine at_append (z:=.agg (Cd.cs c_lint_Odd zv12).toArray) (c:=c_lint_Odd) (ys:=([{ { { zv12 with f_Kind:=5 } with f_Peer:=i129 } with f_P:=lget ((lget q86.f_c.f_Peers i129).f_Allowed) i162 }]:List S_lint_Odd)) (.s (.s (.s (.s (.s (.s .z)))))) underlying30 infoV540 (by kernel_rfl) (by kernel_rfl) rfl rfl rfl rfl (fun _ hw=>cells_src (hw.ok (Upd.mem .z))) (by kernel_rfl) h185 (app_small h185) rfl ?_
          intro p186 c187
          exact at_nil (k (g3 0 p186 c187 none w))
         ·intro Lx g188 s K hl hh k
          show At 46 ((31,_)::(0,_)::(1,_)::(2,_)::(6,_)::(9,_)::(14,_)::(15,_)::(16,_)::(22,_)::(23,_)::(24,_)::Lx) _ _
          refine aw (r_nilCheck rfl) ?_
          exact at_nil k
         ·intro Lx g188 s K hl hh k
          show At 46 ((42,_)::(0,_)::(1,_)::(2,_)::(6,_)::(9,_)::(14,_)::(15,_)::(16,_)::(22,_)::(23,_)::(24,_)::Lx) _ _
          refine fa 36 underlying63 rfl sizeOf30 ?_
          exact at_nil k
         ·intro Lx g188 K k
          show At 46 ((41,_)::(43,_)::(0,_)::(1,_)::(2,_)::(6,_)::(9,_)::(14,_)::(15,_)::(16,_)::(22,_)::(23,_)::(24,_)::Lx) _ _
          refine at_store (c:=cSv S_lint_Odd) (z:=((((g188 1).2.1),((g188 1).2.2.1)),i163.f_out++[{ { { zv12 with f_Kind:=5 } with f_Peer:=i129 } with f_P:=lget ((lget q86.f_c.f_Peers i129).f_Allowed) i162 }])) (.s (.s (.s (.s .z)))) (c_lint_finder_f_out_sv (gq164,(p166,c167),(p168,c169)) i163) sizeOf30 rfl rfl rfl ?_
          exact at_nil k
         intro g188
         show At 46 [(31,_),(32,_),(33,_),(34,_),(35,_),(36,_),(37,_),(38,_),(39,_),(40,_),(41,_),(42,_),(43,_),(0,_),(1,_),(2,_),(6,_),(9,_),(14,_),(15,_),(16,_),(22,_),(23,_),(24,_)] _ _
         refine dz (dz (wq [24,23,22,16,15,14,6,2,1,0] ?_))
         refine bm ?_
         refine qr (aw xa (am (nwq [24,23,22,16,15,14,6,2,1,0] ?_)))
         exact at_weak_k (ih _ _ _ hF K gq164 hk165 p166 c167 (g188 1).2.1 (g188 1).2.2.1) ⟨rfl,rfl,rfl,rfl,rfl,rfl,rfl,rfl,rfl,rfl,trivial⟩
        refine cf h183 ?_
        refine at_skip ?_
        refine bm ?_
        refine qr (aw xa (am (qn (dz (wq [24,23,22,16,15,14,6,2,1,0] ?_)))))
        refine tn ?_
        exact at_weak_k (ih _ _ _ hF K gq164 hk165 p166 c167 p168 c169) ⟨rfl,rfl,rfl,rfl,rfl,rfl,rfl,rfl,rfl,rfl,trivial⟩
       refine cf h176 ?_
       refine at_exit ?_
       refine te (te ?_)
       obtain rfl:=os hF
       exact at_weak_k (K gq164 hk165 p166 c167 p168 c169) ⟨rfl,rfl,rfl,rfl,rfl,rfl,trivial⟩
     skip
     intro gq170 hk171 p172 c173 p174 c175
     refine at_blk_same ?_
     refine bm ?_
     refine qr (aw xa (am (nwq [16,15,14,2,1,0] ?_)))
     exact at_weak_k (ih _ _ _ hF K gq170 hk171 p172 c173 p174 c175) ⟨rfl,rfl,rfl,rfl,rfl,rfl,trivial⟩
    refine cf h143 ?_
    refine at_exit ?_
    refine te (te ?_)
    refine dz (dz ?_)
    obtain rfl:=os hF
    exact at_weak_k (K gq131 hk132 p133 c134 p135 c136) trivial
  skip
  intro gq137 hk138 p139 c140 p141 c142
  refine at_blk_same ?_
  refine at_retI0 rfl ?_
  refine nwx [3] ?_
  refine am (am ?_)
  refine aw (r_makeFuncB rfl) ?_
  refine at_callI func25 rfl (by kernel_rfl) rfl rfl rfl rfl ?_
  refine sr (am ?_)
  refine aw (r_nilCheck rfl) ?_
  refine fa 0 underlying63 rfl sizeOf27 (fa 34 underlying27 rfl sizeOf25 ?_)
  refine aw (r_load_cell isAgg25 rfl (lens_cell0 (c:=cHd) (y:=⟨gq137.1,List.length q128.f_c.f_Peers,gq137.2⟩) .z (Lens.comp0 (c_lint_finder_f_c (gq137,(p139,c140),(p141,c142)) q128) (c_api_Conf_f_Peers gq137 q128.f_c)) rfl)) ?_
  refine aw (r_len_sl underlying25 rfl) ?_
  refine am (nwq [16,15,14,2,1,0] ?_)
  refine qb ?_
  obtain ⟨q195,hq195,hF⟩:=bM hF
  refine wq [16,15,14,2,1,0] ?_
  refine at_loop_n (B:=0) (A:=fun Y=>∀ (gq204:G_api_Conf) (hk205:N_api_Conf w (gq204,q195.f_c)) (p206:Option Addr) (c207:Nat) (p208:Option Addr) (c209:Nat),At 46 [] (Wd w [cellsE (g8 1).1 (Cd.cs c_lint_finder ((gq204,(p206,c207),(p208,c209)),q195)) 63,rowE c_api_Entry 49 p206 c207 q195.f_own,rowE c_lint_Odd 40 p208 c209 q195.f_out]) Y) ?_ ?_
  ·intro K
   refine lint_All.l6.partial_correctness q128 (motive:=fun i196 i197 x=>KN (fun Y=>∀ (gq204:G_api_Conf) (hk205:N_api_Conf w (gq204,x.f_c)) (p206:Option Addr) (c207:Nat) (p208:Option Addr) (c209:Nat),At 46 [] (Wd w [cellsE (g8 1).1 (Cd.cs c_lint_finder ((gq204,(p206,c207),(p208,c209)),x)) 63,rowE c_api_Entry 49 p206 c207 x.f_own,rowE c_lint_Odd 40 p208 c209 x.f_out]) Y) _ 0→Round (fun Y=>∀ (gq198:G_api_Conf) (hk199:N_api_Conf w (gq198,i197.f_c)) (p200:Option Addr) (c201:Nat) (p202:Option Addr) (c203:Nat),At 46 [(0,.pointer (some ⟨(g8 1).1,0,none⟩)),(1,.int .i64 6),(2,.func (.func 27) #[.pointer (some ⟨(g8 1).1,0,none⟩)] #[]),(14,.slice gq137.1 q128.f_c.f_Peers.length gq137.2),(15,.int .i64 (q128.f_c.f_Peers.length:Int)),(16,.int .i64 i196)] (Wd w [cellsE (g8 1).1 (Cd.cs c_lint_finder ((gq198,(p200,c201),(p202,c203)),i197)) 63,rowE c_api_Entry 49 p200 c201 i197.f_own,rowE c_lint_Odd 40 p202 c203 i197.f_out]) Y) _ _ _) ?_ _ _ _ hq195 K gq137 hk138 p139 c140 p141 c142
   ·clear K hF
    intro g ih i196 i197 x hF K gq198 hk199 p200 c201 p202 c203
    refine at_round ?_
    refine sr (aw xl (nwq [17,16,15,14,2,1,0] ?_))
    refine qs ?_
    obtain ⟨h210,hF⟩|⟨h210,hF⟩:=oi hF
    ·refine ct h210 ?_
     refine sn (qs ?_)
     refine qb ?_
     refine sr (am ?_)
     obtain ⟨h211,hF⟩:=gd hF
     obtain ⟨zs215,hz216,hr217,hn218⟩:=id hk138
     obtain ⟨b213,o214,hp212⟩:=row_ptr hr217 (zidx hz216 h211)
     obtain ⟨g219,hg220⟩:=zget hz216 i196
     refine aw (r_idx underlying25 sizeOf60 rfl rfl h211 hp212) ?_
     refine aw (r_load_aggc (c:=c_api_Peer) (z:=(g219,lget q128.f_c.f_Peers i196)) isAgg60 sizeOf60 rfl (ncell (fun _ h=>h.below) hr217 (zidx hz216 h211) hp212 hg220)) ?_
     refine al (cs:=Cd.cs c_api_Peer zv14) zeroValue60 ?_
     intro b221
     refine aa ?_
     refine at_store (c:=c_api_Peer) (z:=(g219,lget q128.f_c.f_Peers i196)) .z lw sizeOf60 rfl rfl rfl ?_
     refine ns (fa 85 underlying60 rfl sizeOf58 ?_)
     refine aw (r_load_cell isAgg58 rfl (lens_cell0 (c:=cHd) (y:=⟨g219.1,List.length ((lget q128.f_c.f_Peers i196).f_Allowed),g219.2⟩) .z (c_api_Peer_f_Allowed g219 (lget q128.f_c.f_Peers i196)) rfl)) ?_
     refine aw (r_len_sl underlying58 rfl) ?_
     refine am (qn (dz (wq [24,23,22,16,15,14,6,2,1,0] ?_)))
     refine tn ?_
     refine qb ?_
     obtain ⟨q228,hq228,hF⟩:=bM hF
     refine wq [24,23,22,16,15,14,6,2,1,0] ?_
     refine at_loop_n (B:=2) (A:=fun Y=>∀ (gq237:G_api_Conf) (hk238:N_api_Conf w (gq237,q228.f_c)) (p239:Option Addr) (c240:Nat) (p241:Option Addr) (c242:Nat),At 46 [(0,.pointer (some ⟨(g8 1).1,0,none⟩)),(1,.int .i64 6),(2,.func (.func 27) #[.pointer (some ⟨(g8 1).1,0,none⟩)] #[]),(14,.slice gq137.1 q128.f_c.f_Peers.length gq137.2),(15,.int .i64 (q128.f_c.f_Peers.length:Int)),(16,.int .i64 i196)] (Wd w [cellsE (g8 1).1 (Cd.cs c_lint_finder ((gq237,(p239,c240),(p241,c242)),q228)) 63,rowE c_api_Entry 49 p239 c240 q228.f_own,rowE c_lint_Odd 40 p241 c242 q228.f_out]) Y) ?_ ?_
     ·intro K
      refine lint_All.l7.partial_correctness q128 i196 (motive:=fun i229 i230 x=>KN (fun Y=>∀ (gq237:G_api_Conf) (hk238:N_api_Conf w (gq237,x.f_c)) (p239:Option Addr) (c240:Nat) (p241:Option Addr) (c242:Nat),At 46 [(0,.pointer (some ⟨(g8 1).1,0,none⟩)),(1,.int .i64 6),(2,.func (.func 27) #[.pointer (some ⟨(g8 1).1,0,none⟩)] #[]),(14,.slice gq137.1 q128.f_c.f_Peers.length gq137.2),(15,.int .i64 (q128.f_c.f_Peers.length:Int)),(16,.int .i64 i196)] (Wd w [cellsE (g8 1).1 (Cd.cs c_lint_finder ((gq237,(p239,c240),(p241,c242)),x)) 63,rowE c_api_Entry 49 p239 c240 x.f_own,rowE c_lint_Odd 40 p241 c242 x.f_out]) Y) _ 2→Round (fun Y=>∀ (gq231:G_api_Conf) (hk232:N_api_Conf w (gq231,i230.f_c)) (p233:Option Addr) (c234:Nat) (p235:Option Addr) (c236:Nat),At 46 [(0,.pointer (some ⟨(g8 1).1,0,none⟩)),(1,.int .i64 6),(2,.func (.func 27) #[.pointer (some ⟨(g8 1).1,0,none⟩)] #[]),(6,.int .i64 i196),(14,.slice gq137.1 q128.f_c.f_Peers.length gq137.2),(15,.int .i64 (q128.f_c.f_Peers.length:Int)),(16,.int .i64 i196),(22,.slice g219.1 ((lget q128.f_c.f_Peers i196).f_Allowed).length g219.2),(23,.int .i64 (((lget q128.f_c.f_Peers i196).f_Allowed).length:Int)),(24,.int .i64 i229)] (Wd w [cellsE (g8 1).1 (Cd.cs c_lint_finder ((gq231,(p233,c234),(p235,c236)),i230)) 63,rowE c_api_Entry 49 p233 c234 i230.f_own,rowE c_lint_Odd 40 p235 c236 i230.f_out]) Y) _ _ _) ?_ _ _ _ hq228 K gq198 hk199 p200 c201 p202 c203
      ·clear K hF
       intro g ih i229 i230 x hF K gq231 hk232 p233 c234 p235 c236
       refine at_round ?_
       refine sr (aw xl (nwq [25,24,23,22,16,15,14,6,2,1,0] ?_))
       refine qs ?_
       obtain ⟨h243,hF⟩|⟨h243,hF⟩:=oi hF
       ·refine ct h243 ?_
        refine sn (qs ?_)
        refine qb ?_
        refine sr ?_
        obtain ⟨h244,hF⟩:=gd hF
        obtain ⟨b246,o247,hp245⟩:=row_ptr (nz hg220 hn218 (zidx hz216 h211)) h244
        refine aw (r_idx underlying58 sizeOf38 rfl rfl h244 hp245) ?_
        refine aw (r_load_aggc (c:=c_api_Prefix) (z:=lget ((lget q128.f_c.f_Peers i196).f_Allowed) i229) isAgg38 sizeOf38 rfl (row_cell (fun _ h=>h.below) (nz hg220 hn218 (zidx hz216 h211)) h244 hp245)) ?_
        refine al (cs:=Cd.cs c_api_Prefix zv9) zeroValue38 ?_
        intro b248
        refine at_store (c:=c_api_Prefix) (z:=lget ((lget q128.f_c.f_Peers i196).f_Allowed) i229) .z lw sizeOf38 rfl rfl rfl ?_
        refine nwx [24,23,22,16,15,14,9,6,2,1,0] ?_
        refine am ?_
        refine aw (r_load_aggc (c:=c_api_Prefix) (z:=lget ((lget q128.f_c.f_Peers i196).f_Allowed) i229) isAgg38 sizeOf38 rfl (lens_cell .z lw)) ?_
        refine at_calleeB (bnds:=[.pointer (some ⟨(g8 1).1,0,none⟩)]) rfl ?_
        refine at_callI func27 rfl (by kernel_rfl) rfl rfl rfl rfl ?_
        refine sr ?_
        refine at_box (cs:=Cd.cs c_api_Prefix (lget ((lget q128.f_c.f_Peers i196).f_Allowed) i229)) rfl rfl rfl ?_
        intro b249
        refine aa (ns (aa (nt (qs (sr (am ?_))))))
        refine aw (r_nilCheck rfl) ?_
        refine fa 35 underlying63 rfl sizeOf46 ?_
        refine aw (r_load_cell isAgg46 rfl (lens_cell0 (c:=cHd) (y:=⟨((gq231,(p233,c234),(p235,c236)).2.1).1,List.length i230.f_own,((gq231,(p233,c234),(p235,c236)).2.1).2⟩) (.s (.s .z)) (c_lint_finder_f_own (gq231,(p233,c234),(p235,c236)) i230) rfl)) ?_
        refine aw (r_len_sl underlying46 rfl) ?_
        refine am (nwq [14,13,12,5,3] ?_)
        refine qb ?_
        refine at_own_nil c_api_Prefix 38 ?_
        obtain ⟨q252,hq252,hF⟩:=bM hF
        refine wq [14,13,12,5,3] ?_
        refine at_loop_n (B:=0) (A:=fun Y=>∀ (p257:Option Addr) (c258:Nat),At 48 [(3,.pointer (some ⟨b249,0,none⟩)),(5,.slice p257 q252.length c258)] (Wd w [rowE c_api_Prefix 38 p257 c258 q252,cellsE b249 (Cd.cs c_api_Prefix (lget ((lget q128.f_c.f_Peers i196).f_Allowed) i229)) 38,cellsE b248 (Cd.cs c_api_Prefix (lget ((lget q128.f_c.f_Peers i196).f_Allowed) i229)) 38,cellsE (g8 1).1 (Cd.cs c_lint_finder ((gq231,(p233,c234),(p235,c236)),i230)) 63,rowE c_api_Entry 49 p233 c234 i230.f_own,rowE c_lint_Odd 40 p235 c236 i230.f_out]) Y) ?_ ?_
        ·intro K
         refine lint_All.l8.partial_correctness q128 i196 i229 i230 (motive:=fun i253 i254 x=>KN (fun Y=>∀ (p257:Option Addr) (c258:Nat),At 48 [(3,.pointer (some ⟨b249,0,none⟩)),(5,.slice p257 x.length c258)] (Wd w [rowE c_api_Prefix 38 p257 c258 x,cellsE b249 (Cd.cs c_api_Prefix (lget ((lget q128.f_c.f_Peers i196).f_Allowed) i229)) 38,cellsE b248 (Cd.cs c_api_Prefix (lget ((lget q128.f_c.f_Peers i196).f_Allowed) i229)) 38,cellsE (g8 1).1 (Cd.cs c_lint_finder ((gq231,(p233,c234),(p235,c236)),i230)) 63,rowE c_api_Entry 49 p233 c234 i230.f_own,rowE c_lint_Odd 40 p235 c236 i230.f_out]) Y) _ 0→Round (fun Y=>∀ (p255:Option Addr) (c256:Nat),At 48 [(3,.pointer (some ⟨b249,0,none⟩)),(5,.slice p255 i253.length c256),(12,.slice p233 i230.f_own.length c234),(13,.int .i64 (i230.f_own.length:Int)),(14,.int .i64 i254)] (Wd w [rowE c_api_Prefix 38 p255 c256 i253,cellsE b249 (Cd.cs c_api_Prefix (lget ((lget q128.f_c.f_Peers i196).f_Allowed) i229)) 38,cellsE b248 (Cd.cs c_api_Prefix (lget ((lget q128.f_c.f_Peers i196).f_Allowed) i229)) 38,cellsE (g8 1).1 (Cd.cs c_lint_finder ((gq231,(p233,c234),(p235,c236)),i230)) 63,rowE c_api_Entry 49 p233 c234 i230.f_own,rowE c_lint_Odd 40 p235 c236 i230.f_out]) Y) _ _ _) ?_ _ _ _ hq252 K none 0
         ·clear K hF
          intro g ih i253 i254 x hF K p255 c256
          refine at_round ?_
          refine sr (aw xl (nwq [15,14,13,12,5,3] ?_))
          refine qs ?_
          obtain ⟨h259,hF⟩|⟨h259,hF⟩:=oi hF
          ·refine ct h259 ?_
           refine sn (qs ?_)
           refine qb ?_
           refine sr ?_
           obtain ⟨h260,hF⟩:=gd hF
           refine at_pure (φ:=∃ b o,p233=some ⟨b,o,none⟩) (fun _ hw=>row_ptr (hw.own (.s (.s (.s (.s .z))))).row h260) ?_
           rintro ⟨b262,o263,hp261⟩
           refine aw (r_idx underlying46 sizeOf49 rfl rfl h260 hp261) ?_
           refine aw (r_load_aggc (c:=c_api_Entry) (z:=lget i230.f_own i254) isAgg49 sizeOf49 rfl (fun w1 hw=>row_cell (W:=fun w1=>w1=_) (fun w1 h=>by subst h;exact Below.refl _ _) (hw.own (.s (.s (.s (.s .z))))).row h260 hp261 _ rfl)) ?_
           refine al (cs:=Cd.cs c_api_Entry zv13) zeroValue49 ?_
           intro b264
           refine at_store (c:=c_api_Entry) (z:=lget i230.f_own i254) .z lw sizeOf49 rfl rfl rfl ?_
           refine nwx [14,13,12,7,5,3] ?_
           refine fa 0 underlying49 rfl sizeOf38 (fa 17 underlying38 rfl sizeOf3 ?_)
           refine aw (r_load_cell isAgg3 rfl (lens_cell0 (c:=(cInt .i64)) (y:=((lget i230.f_own i254).f_P).f_Bits) .z (Lens.comp (Lens.comp lw (fun z=>{ lget i230.f_own i254 with f_P:=z }) (c_api_Entry_f_P (lget i230.f_own i254))) (fun z=>{ (lget i230.f_own i254).f_P with f_Bits:=z }) (c_api_Prefix_f_Bits ((lget i230.f_own i254).f_P))) rfl)) ?_
           refine fa 17 underlying38 rfl sizeOf3 ?_
           refine aw (r_load_cell isAgg3 rfl (lens_cell0 (c:=(cInt .i64)) (y:=(lget ((lget q128.f_c.f_Peers i196).f_Allowed) i229).f_Bits) (.s (.s .z)) (Lens.comp lw (fun z=>{ lget ((lget q128.f_c.f_Peers i196).f_Allowed) i229 with f_Bits:=z }) (c_api_Prefix_f_Bits (lget ((lget q128.f_c.f_Peers i196).f_Allowed) i229))) rfl)) ?_
           refine aw (r_igtr rfl rfl) ?_
           refine am ?_
           obtain ⟨h265,hF⟩|⟨h265,hF⟩:=oi hF
           ·refine fx 24 h265 ?_
            refine gy ?_
            refine aw (r_load_aggc (c:=c_api_Prefix) (z:=lget ((lget q128.f_c.f_Peers i196).f_Allowed) i229) isAgg38 sizeOf38 rfl (lens_cell (.s (.s .z)) lw)) ?_
            refine gy ?_
            refine fa 0 underlying49 rfl sizeOf38 ?_
            refine gy ?_
            refine aw (r_load_aggc (c:=c_api_Prefix) (z:=(lget i230.f_own i254).f_P) isAgg38 sizeOf38 rfl (lens_cell .z (Lens.comp lw (fun z=>{ lget i230.f_own i254 with f_P:=z }) (c_api_Entry_f_P (lget i230.f_own i254))))) ?_
            refine gy ?_
            obtain ⟨t266,ht266,hF⟩:=bM hF
            refine cB func49 rfl (fun w hw=>cidr_Covers_ok _ _ _ ht266 w) ?_
            refine aw xp (nwq [29,14,13,12,7,5,3] ?_)
            obtain ⟨h267,hF⟩|⟨h267,hF⟩:=oi hF
            ·refine ct h267 ?_
             refine qr (am (fa 0 underlying49 rfl sizeOf38 ?_))
             refine aw (r_load_aggc (c:=c_api_Prefix) (z:=(lget i230.f_own i254).f_P) isAgg38 sizeOf38 rfl (lens_cell .z (Lens.comp lw (fun z=>{ lget i230.f_own i254 with f_P:=z }) (c_api_Entry_f_P (lget i230.f_own i254))))) ?_
             refine at_litL (c:=c_api_Prefix) ([zv9]:List S_api_Prefix) ([(lget i230.f_own i254).f_P]:List S_api_Prefix) underlying58 sizeOf38 zeroValue38 rfl rfl rfl (by kernel_rfl) (fill_step (c:=c_api_Prefix) (z:=(lget i230.f_own i254).f_P) rfl (Lens.all c_api_Prefix ([zv9]:List S_api_Prefix) 0 (by first | decide | exact Nat.le_of_ble_eq_true rfl)) rfl rfl) rfl ?_
             intro b268
             obtain ⟨h269,hF⟩:=gd hF
             refine at_append (z:=.agg (Cd.cs c_api_Prefix zv9).toArray) (c:=c_api_Prefix) (ys:=([(lget i230.f_own i254).f_P]:List S_api_Prefix)) (.s (.s .z)) underlying58 infoV538 (by kernel_rfl) (by kernel_rfl) rfl rfl rfl rfl (fun _ hw=>cells_src (hw.ok (Upd.mem .z))) (by kernel_rfl) h269 (app_small h269) rfl ?_
             intro p270 c271
             refine aa (qn (dz (dz (wq [14,13,12,5,3] ?_))))
             refine bm ?_
             refine qr (aw xa (am (nwq [14,13,12,5,3] ?_)))
             exact at_weak_k (ih _ _ _ hF K p270 c271) ⟨rfl,rfl,rfl,rfl,rfl,trivial⟩
            refine cf h267 ?_
            refine at_skip ?_
            refine bm ?_
            refine qr (aw xa (am (qn (dz (wq [14,13,12,5,3] ?_)))))
            refine tn ?_
            exact at_weak_k (ih _ _ _ hF K p255 c256) ⟨rfl,rfl,rfl,rfl,rfl,trivial⟩
           refine fx 24 h265 ?_
           refine gn ?_
           refine gn ?_
           refine gn ?_
           refine gn ?_
           refine aw xp (nwq [29,14,13,12,7,5,3] ?_)
           refine cf rfl ?_
           refine at_skip ?_
           refine bm ?_
           refine qr (aw xa (am (qn (dz (wq [14,13,12,5,3] ?_)))))
           refine tn ?_
           exact at_weak_k (ih _ _ _ hF K p255 c256) ⟨rfl,rfl,rfl,rfl,rfl,trivial⟩
          refine cf h259 ?_
          refine at_exit ?_
          refine te (te ?_)
          obtain rfl:=os hF
          exact at_weak_k (K p255 c256) ⟨rfl,rfl,trivial⟩
        skip
        intro p257 c258
        refine at_blk_same ?_
        refine tn (sr (am ?_))
        obtain ⟨t272,ht272,hF⟩:=bM hF
        refine at_callO (c:=c_api_Prefix) (e:=38) (ys:=t272) (V:=fun p cap=>.slice p t272.length cap) func50 rfl (by kernel_rfl) rfl rfl (fun w hw=>aggregate_Cover_ok _ _ _ _ ht272 w (hw.own .z).row) ?_
        intro p273 c274
        refine aa (qn ?_)
        refine at_drop (H:=_) (.s .z) ?_
        refine tn (qs (wq [8,3] ?_))
        obtain ⟨h275,hF⟩|⟨h275,hF⟩:=oi hF
        ·skip
         obtain ⟨h276,hF⟩:=gd hF
         refine at_pure (φ:=∃ b o,p273=some ⟨b,o,none⟩) (fun _ hw=>row_ptr (hw.own .z).row h276) ?_
         rintro ⟨b278,o279,hp277⟩
         refine at_inv [.q 38 (fun g280=>.slice p273 t272.length c274) [] 0 0,.q 39 (fun g280=>.int .i64 (t272.length:Int)) [0] 0 0,.q 40 (fun g280=>.bool ((t272.length:Int)==1)) [1] 0 0,.q 41 (fun g280=>.bool true) [2] 0 0,.q 42 (fun g280=>.slice p273 t272.length c274) [3] 0 0,.q 43 (fun g280=>.pointer (some ⟨b278,o279+Int.toNat 0*18,none⟩)) [3,4] 0 0,.q 44 (fun g280=>.agg (Cd.cs c_api_Prefix (lget t272 0)).toArray) [3,5] 0 0,.q 45 (fun g280=>.agg (Cd.cs c_api_Prefix (lget ((lget q128.f_c.f_Peers i196).f_Allowed) i229)).toArray) [3] 0 0,.q 46 (fun g280=>.bool (decide (lget t272 0=lget ((lget q128.f_c.f_Peers i196).f_Allowed) i229))) [3,6,7] 0 0,.q 47 (fun g280=>.bool (decide (lget t272 0=lget ((lget q128.f_c.f_Peers i196).f_Allowed) i229))) [3,8] 0 0,.q 4 (fun g280=>.bool (decide (lget t272 0=lget ((lget q128.f_c.f_Peers i196).f_Allowed) i229))) [9] 0 0] (fun g280 s=>match s with | _=>(Wd w [rowE c_api_Prefix 38 p273 c274 t272,cellsE b249 (Cd.cs c_api_Prefix (lget ((lget q128.f_c.f_Peers i196).f_Allowed) i229)) 38,cellsE b248 (Cd.cs c_api_Prefix (lget ((lget q128.f_c.f_Peers i196).f_Allowed) i229)) 38,cellsE (g8 1).1 (Cd.cs c_lint_finder ((gq231,(p233,c234),(p235,c236)),i230)) 63,rowE c_api_Entry 49 p233 c234 i230.f_own,rowE c_lint_Odd 40 p235 c236 i230.f_out])) 0 (by kernel_rfl) (by kernel_rfl) (by kernel_rfl) (by kernel_rfl) (by kernel_rfl) ⟨fun _ _ _=>rfl,fun _ _ _=>rfl,fun _ _ _=>rfl,fun _ _ _=>rfl,fun _ _ _=>rfl,fun _ _ _=>rfl,fun _ _ _=>rfl,fun _ _ _=>rfl,fun _ _ _=>rfl,fun _ _ _=>rfl,fun _ _ _=>rfl,trivial⟩ (by kernel_rfl) (fun w_ h=>⟨fun _=>g3 0 none 0 none w_,h.drew⟩) ⟨?_,?_,?_,?_,?_,?_,?_,?_,?_,?_,?_,trivial⟩ ?_
         ·intro Lx g280 s K hl hh k
          show At 48 ((3,_)::(8,_)::Lx) _ _
          refine am ?_
          exact at_nil k
         ·intro Lx g280 s K hl hh k
          show At 48 ((38,_)::(3,_)::(8,_)::Lx) _ _
          obtain rfl:s=0:=by omega
          refine aw (r_len_sl underlying58 rfl) ?_
          exact at_nil k
         ·intro Lx g280 s K hl hh k
          show At 48 ((39,_)::(3,_)::(8,_)::Lx) _ _
          refine aw xq ?_
          exact at_nil k
         ·intro Lx g280 s K hl hh k
          show At 48 ((40,_)::(3,_)::(8,_)::Lx) _ _
          refine am ?_
          exact at_nil (at_cast h275 k)
         ·intro Lx g280 s K hl hh k
          show At 48 ((41,_)::(3,_)::(8,_)::Lx) _ _
          refine gy ?_
          refine am ?_
          exact at_nil k
         ·intro Lx g280 s K hl hh k
          show At 48 ((41,_)::(42,_)::(3,_)::(8,_)::Lx) _ _
          refine gy ?_
          refine aw (r_idx underlying58 sizeOf38 rfl rfl h276 hp277) ?_
          exact at_nil k
         ·intro Lx g280 s K hl hh k
          show At 48 ((41,_)::(43,_)::(3,_)::(8,_)::Lx) _ _
          refine gy ?_
          obtain rfl:s=0:=by omega
          refine aw (r_load_aggc (c:=c_api_Prefix) (z:=lget t272 0) isAgg38 sizeOf38 rfl (fun w1 hw=>row_cell (W:=fun w1=>w1=_) (fun w1 h=>by subst h;exact Below.refl _ _) (hw.own .z).row h276 hp277 _ rfl)) ?_
          exact at_nil k
         ·intro Lx g280 s K hl hh k
          show At 48 ((41,_)::(3,_)::(8,_)::Lx) _ _
          refine gy ?_
          obtain rfl:s=0:=by omega
          refine aw (r_load_aggc (c:=c_api_Prefix) (z:=lget ((lget q128.f_c.f_Peers i196).f_Allowed) i229) isAgg38 sizeOf38 rfl (lens_cell (.s .z) lw)) ?_
          exact at_nil k
         ·intro Lx g280 s K hl hh k
          show At 48 ((41,_)::(44,_)::(45,_)::(3,_)::(8,_)::Lx) _ _
          refine gy ?_
          refine aw (r_eqagg (c:=c_api_Prefix) (a:=lget t272 0) (b:=lget ((lget q128.f_c.f_Peers i196).f_Allowed) i229) (eq_api_Prefix_38) rfl Tryz.eqGuardType38 rfl rfl (.inl rfl) rfl) ?_
          exact at_nil k
         ·intro Lx g280 s K hl hh k
          show At 48 ((41,_)::(46,_)::(3,_)::(8,_)::Lx) _ _
          refine aw xp ?_
          exact at_nil k
         ·intro Lx g280 s K hl hh k
          show At 48 ((47,_)::(3,_)::(8,_)::Lx) _ _
          refine aa ?_
          exact at_nil k
         intro g280
         show At 48 [(38,_),(39,_),(40,_),(41,_),(42,_),(43,_),(44,_),(45,_),(46,_),(47,_),(4,_),(3,_),(8,_)] _ _
         refine dz (dz (wq [4] ?_))
         refine tn (qt ?_)
         refine at_retI1 rfl rfl ?_
         refine nwq [30,24,23,22,16,15,14,9,6,2,1,0] ?_
         obtain ⟨h281,hF⟩|⟨h281,hF⟩:=oi hF
         ·refine ct h281 ?_
          refine wq [24,23,22,16,15,14,9,6,2,1,0] ?_
          obtain ⟨h283,hF⟩:=gd hF
          refine at_inv [.q 31 (fun g286=>.pointer (some ⟨(g8 1).1,0,none⟩)) [] 0 2,.q 32 (fun g286=>.pointer (some ⟨(g8 1).1,0,none⟩)) [] 0 1,.q 33 (fun g286=>.pointer (some ⟨(g8 1).1,0,none⟩)) [1] 0 1,.q 34 (fun g286=>.pointer (some ⟨(g8 1).1,0+36,none⟩)) [2] 0 1,.q 35 (fun g286=>.slice p235 i230.f_out.length c236) [3] 0 1,.q 36 (fun g286=>.int .i64 6) [] 0 0,.q 37 (fun g286=>.int .i64 i196) [] 0 0,.q 38 (fun g286=>.agg (Cd.cs c_api_Prefix (lget ((lget q128.f_c.f_Peers i196).f_Allowed) i229)).toArray) [] 0 0,.q 39 (fun g286=>.agg (Cd.cs c_lint_Odd ({ { { zv12 with f_Kind:=6 } with f_Peer:=i196 } with f_P:=lget ((lget q128.f_c.f_Peers i196).f_Allowed) i229 })).toArray) [5,6,7] 0 0,.al 0 40 (fun g286=>.slice (some ⟨((g286 0).1),0,none⟩) ([{ { { zv12 with f_Kind:=6 } with f_Peer:=i196 } with f_P:=lget ((lget q128.f_c.f_Peers i196).f_Allowed) i229 }]:List S_lint_Odd).length 1) [8],.al 1 41 (fun g286=>.slice ((g286 1).2.1) (i230.f_out++[{ { { zv12 with f_Kind:=6 } with f_Peer:=i196 } with f_P:=lget ((lget q128.f_c.f_Peers i196).f_Allowed) i229 }]).length ((g286 1).2.2.1)) [4,9],.q 42 (fun g286=>.pointer (some ⟨(g8 1).1,0,none⟩)) [0] 2 2,.q 43 (fun g286=>.pointer (some ⟨(g8 1).1,0+36,none⟩)) [11] 2 2,.st 2 none [10,12]] (fun g286 s=>match s with | 0=>(Wd w [cellsE b248 (Cd.cs c_api_Prefix (lget ((lget q128.f_c.f_Peers i196).f_Allowed) i229)) 38,cellsE (g8 1).1 (Cd.cs c_lint_finder ((gq231,(p233,c234),(p235,c236)),i230)) 63,rowE c_api_Entry 49 p233 c234 i230.f_own,rowE c_lint_Odd 40 p235 c236 i230.f_out]) | 1=>(Wd w [cellsE ((g286 0).1) (c_lint_Odd.all ([{ { { zv12 with f_Kind:=6 } with f_Peer:=i196 } with f_P:=lget ((lget q128.f_c.f_Peers i196).f_Allowed) i229 }]:List S_lint_Odd)) 40,cellsE b248 (Cd.cs c_api_Prefix (lget ((lget q128.f_c.f_Peers i196).f_Allowed) i229)) 38,cellsE (g8 1).1 (Cd.cs c_lint_finder ((gq231,(p233,c234),(p235,c236)),i230)) 63,rowE c_api_Entry 49 p233 c234 i230.f_own,rowE c_lint_Odd 40 p235 c236 i230.f_out]) | 2=>(Wd w [cellsE ((g286 0).1) (c_lint_Odd.all ([{ { { zv12 with f_Kind:=6 } with f_Peer:=i196 } with f_P:=lget ((lget q128.f_c.f_Peers i196).f_Allowed) i229 }]:List S_lint_Odd)) 40,cellsE b248 (Cd.cs c_api_Prefix (lget ((lget q128.f_c.f_Peers i196).f_Allowed) i229)) 38,cellsE (g8 1).1 (Cd.cs c_lint_finder ((gq231,(p233,c234),(p235,c236)),i230)) 63,rowE c_api_Entry 49 p233 c234 i230.f_own,rowE c_lint_Odd 40 ((g286 1).2.1) ((g286 1).2.2.1) (i230.f_out++[{ { { zv12 with f_Kind:=6 } with f_Peer:=i196 } with f_P:=lget ((lget q128.f_c.f_Peers i196).f_Allowed) i229 }])]) | _=>(Wd w [cellsE ((g286 0).1) (c_lint_Odd.all ([{ { { zv12 with f_Kind:=6 } with f_Peer:=i196 } with f_P:=lget ((lget q128.f_c.f_Peers i196).f_Allowed) i229 }]:List S_lint_Odd)) 40,cellsE b248 (Cd.cs c_api_Prefix (lget ((lget q128.f_c.f_Peers i196).f_Allowed) i229)) 38,cellsE (g8 1).1 (Cd.cs c_lint_finder ((gq231,(p233,c234),(((g286 1).2.1),((g286 1).2.2.1))),{ i230 with f_out:=i230.f_out++[{ { { zv12 with f_Kind:=6 } with f_Peer:=i196 } with f_P:=lget ((lget q128.f_c.f_Peers i196).f_Allowed) i229 }] })) 63,rowE c_api_Entry 49 p233 c234 i230.f_own,rowE c_lint_Odd 40 ((g286 1).2.1) ((g286 1).2.2.1) (i230.f_out++[{ { { zv12 with f_Kind:=6 } with f_Peer:=i196 } with f_P:=lget ((lget q128.f_c.f_Peers i196).f_Allowed) i229 }])])) 3 (by kernel_rfl) (by kernel_rfl) (by kernel_rfl) (by kernel_rfl) (by kernel_rfl) ⟨fun _ _ _=>rfl,fun _ _ _=>rfl,fun _ _ _=>rfl,fun _ _ _=>rfl,fun _ _ _=>rfl,fun _ _ _=>rfl,fun _ _ _=>rfl,fun _ _ _=>rfl,fun _ _ _=>rfl,fun g286 g2 h=>by show (.slice (some ⟨((g286 0).1),0,none⟩) ([{ { { zv12 with f_Kind:=6 } with f_Peer:=i196 } with f_P:=lget ((lget q128.f_c.f_Peers i196).f_Allowed) i229 }]:List S_lint_Odd).length 1:Value)=.slice (some ⟨((g2 0).1),0,none⟩) ([{ { { zv12 with f_Kind:=6 } with f_Peer:=i196 } with f_P:=lget ((lget q128.f_c.f_Peers i196).f_Allowed) i229 }]:List S_lint_Odd).length 1;rw [h 0 (show 0<1 by decide)],fun g286 g2 h=>by show (.slice ((g286 1).2.1) (i230.f_out++[{ { { zv12 with f_Kind:=6 } with f_Peer:=i196 } with f_P:=lget ((lget q128.f_c.f_Peers i196).f_Allowed) i229 }]).length ((g286 1).2.2.1):Value)=.slice ((g2 1).2.1) (i230.f_out++[{ { { zv12 with f_Kind:=6 } with f_Peer:=i196 } with f_P:=lget ((lget q128.f_c.f_Peers i196).f_Allowed) i229 }]).length ((g2 1).2.2.1);rw [h 1 (show 1<2 by decide)],fun _ _ _=>rfl,fun _ _ _=>rfl,fun _ _ _=>rfl,trivial⟩ (by kernel_rfl) (fun w_ h=>⟨fun _=>g3 0 none 0 none w_,h.drew⟩) ⟨?_,?_,?_,?_,?_,?_,?_,?_,?_,?_,?_,?_,?_,?_,trivial⟩ ?_
          ·intro Lx g286 s K hl hh k
           show At 46 ((0,_)::(1,_)::(2,_)::(6,_)::(9,_)::(14,_)::(15,_)::(16,_)::(22,_)::(23,_)::(24,_)::Lx) _ _
           refine am ?_
           exact at_nil k
          ·intro Lx g286 s K hl hh k
           show At 46 ((0,_)::(1,_)::(2,_)::(6,_)::(9,_)::(14,_)::(15,_)::(16,_)::(22,_)::(23,_)::(24,_)::Lx) _ _
           refine am ?_
           exact at_nil k
          ·intro Lx g286 s K hl hh k
           show At 46 ((32,_)::(0,_)::(1,_)::(2,_)::(6,_)::(9,_)::(14,_)::(15,_)::(16,_)::(22,_)::(23,_)::(24,_)::Lx) _ _
           refine aw (r_nilCheck rfl) ?_
           exact at_nil k
          ·intro Lx g286 s K hl hh k
           show At 46 ((33,_)::(0,_)::(1,_)::(2,_)::(6,_)::(9,_)::(14,_)::(15,_)::(16,_)::(22,_)::(23,_)::(24,_)::Lx) _ _
           refine fa 36 underlying63 rfl sizeOf30 ?_
           exact at_nil k
          ·intro Lx g286 s K hl hh k
           show At 46 ((34,_)::(0,_)::(1,_)::(2,_)::(6,_)::(9,_)::(14,_)::(15,_)::(16,_)::(22,_)::(23,_)::(24,_)::Lx) _ _
           rcases (by omega:s=0∨s=1) with rfl | rfl
           ·skip
            refine aw (r_load_cell isAgg30 rfl (lens_cell0 (c:=cHd) (y:=⟨((gq231,(p233,c234),(p235,c236)).2.2).1,List.length i230.f_out,((gq231,(p233,c234),(p235,c236)).2.2).2⟩) (.s .z) (c_lint_finder_f_out (gq231,(p233,c234),(p235,c236)) i230) rfl)) ?_
            exact at_nil k
           skip
           refine aw (r_load_cell isAgg30 rfl (lens_cell0 (c:=cHd) (y:=⟨((gq231,(p233,c234),(p235,c236)).2.2).1,List.length i230.f_out,((gq231,(p233,c234),(p235,c236)).2.2).2⟩) (.s (.s .z)) (c_lint_finder_f_out (gq231,(p233,c234),(p235,c236)) i230) rfl)) ?_
           exact at_nil k
          ·intro Lx g286 s K hl hh k
           show At 46 ((0,_)::(1,_)::(2,_)::(6,_)::(9,_)::(14,_)::(15,_)::(16,_)::(22,_)::(23,_)::(24,_)::Lx) _ _
           refine am ?_
           exact at_nil k
          ·intro Lx g286 s K hl hh k
           show At 46 ((0,_)::(1,_)::(2,_)::(6,_)::(9,_)::(14,_)::(15,_)::(16,_)::(22,_)::(23,_)::(24,_)::Lx) _ _
           refine am ?_
           exact at_nil k
          ·intro Lx g286 s K hl hh k
           show At 46 ((0,_)::(1,_)::(2,_)::(6,_)::(9,_)::(14,_)::(15,_)::(16,_)::(22,_)::(23,_)::(24,_)::Lx) _ _
           obtain rfl:s=0:=by omega
           refine aw (r_load_aggc (c:=c_api_Prefix) (z:=lget ((lget q128.f_c.f_Peers i196).f_Allowed) i229) isAgg38 sizeOf38 rfl (lens_cell .z lw)) ?_
           exact at_nil k
          ·intro Lx g286 s K hl hh k
           show At 46 ((36,_)::(37,_)::(38,_)::(0,_)::(1,_)::(2,_)::(6,_)::(9,_)::(14,_)::(15,_)::(16,_)::(22,_)::(23,_)::(24,_)::Lx) _ _
           obtain rfl:s=0:=by omega
           refine aw (r_build_struct (zs:=Cd.cs c_lint_Odd zv12) (cs:=Cd.cs c_lint_Odd ({ { { zv12 with f_Kind:=6 } with f_Peer:=i196 } with f_P:=lget ((lget q128.f_c.f_Peers i196).f_Allowed) i229 })) underlying40 zeroValue40 rfl (places_lint_Odd_40) rfl (fill_step (c:=(cInt .i64)) (z:=6) rfl (c_lint_Odd_f_Kind zv12) rfl (fill_step (c:=(cInt .i64)) (z:=i196) rfl (c_lint_Odd_f_Peer ({ zv12 with f_Kind:=6 })) rfl (fill_step (c:=c_api_Prefix) (z:=lget ((lget q128.f_c.f_Peers i196).f_Allowed) i229) rfl (c_lint_Odd_f_P ({ { zv12 with f_Kind:=6 } with f_Peer:=i196 })) rfl rfl)))) ?_
           exact at_nil k
          ·intro Lx g286 K k
           show At 46 ((39,_)::(0,_)::(1,_)::(2,_)::(6,_)::(9,_)::(14,_)::(15,_)::(16,_)::(22,_)::(23,_)::(24,_)::Lx) _ _
           refine at_litL (c:=c_lint_Odd) ([zv12]:List S_lint_Odd) ([{ { { zv12 with f_Kind:=6 } with f_Peer:=i196 } with f_P:=lget ((lget q128.f_c.f_Peers i196).f_Allowed) i229 }]:List S_lint_Odd) underlying30 sizeOf40 zeroValue40 rfl rfl rfl (by kernel_rfl) (fill_step (c:=c_lint_Odd) (z:={ { { zv12 with f_Kind:=6 } with f_Peer:=i196 } with f_P:=lget ((lget q128.f_c.f_Peers i196).f_Allowed) i229 }) rfl (Lens.all c_lint_Odd ([zv12]:List S_lint_Odd) 0 (by first | decide | exact Nat.le_of_ble_eq_true rfl)) rfl rfl) rfl ?_
           intro b282
           exact at_nil (k (g3 b282 none 0 none w))
          ·intro Lx g286 K k
           show At 46 ((35,_)::(40,_)::(0,_)::(1,_)::(2,_)::(6,_)::(9,_)::(14,_)::(15,_)::(16,_)::(22,_)::(23,_)::(24,_)::Lx) _ _
           refine at_append (z:=.agg (Cd.cs c_lint_Odd zv12).toArray) (c:=c_lint_Odd) (ys:=([{ { { zv12 with f_Kind:=6 } with f_Peer:=i196 } with f_P:=lget ((lget q128.f_c.f_Peers i196).f_Allowed) i229 }]:List S_lint_Odd)) (.s (.s (.s (.s .z)))) underlying30 infoV540 (by kernel_rfl) (by kernel_rfl) rfl rfl rfl rfl (fun _ hw=>cells_src (hw.ok (Upd.mem .z))) (by kernel_rfl) h283 (app_small h283) rfl ?_
           intro p284 c285
           exact at_nil (k (g3 0 p284 c285 none w))
          ·intro Lx g286 s K hl hh k
           show At 46 ((31,_)::(0,_)::(1,_)::(2,_)::(6,_)::(9,_)::(14,_)::(15,_)::(16,_)::(22,_)::(23,_)::(24,_)::Lx) _ _
           refine aw (r_nilCheck rfl) ?_
           exact at_nil k
          ·intro Lx g286 s K hl hh k
           show At 46 ((42,_)::(0,_)::(1,_)::(2,_)::(6,_)::(9,_)::(14,_)::(15,_)::(16,_)::(22,_)::(23,_)::(24,_)::Lx) _ _
           refine fa 36 underlying63 rfl sizeOf30 ?_
           exact at_nil k
          ·intro Lx g286 K k
           show At 46 ((41,_)::(43,_)::(0,_)::(1,_)::(2,_)::(6,_)::(9,_)::(14,_)::(15,_)::(16,_)::(22,_)::(23,_)::(24,_)::Lx) _ _
           refine at_store (c:=cSv S_lint_Odd) (z:=((((g286 1).2.1),((g286 1).2.2.1)),i230.f_out++[{ { { zv12 with f_Kind:=6 } with f_Peer:=i196 } with f_P:=lget ((lget q128.f_c.f_Peers i196).f_Allowed) i229 }])) (.s (.s .z)) (c_lint_finder_f_out_sv (gq231,(p233,c234),(p235,c236)) i230) sizeOf30 rfl rfl rfl ?_
           exact at_nil k
          intro g286
          show At 46 [(31,_),(32,_),(33,_),(34,_),(35,_),(36,_),(37,_),(38,_),(39,_),(40,_),(41,_),(42,_),(43,_),(0,_),(1,_),(2,_),(6,_),(9,_),(14,_),(15,_),(16,_),(22,_),(23,_),(24,_)] _ _
          refine dz (dz (wq [24,23,22,16,15,14,6,2,1,0] ?_))
          refine bm ?_
          refine qr (aw xa (am (nwq [24,23,22,16,15,14,6,2,1,0] ?_)))
          exact at_weak_k (ih _ _ _ hF K gq231 hk232 p233 c234 (g286 1).2.1 (g286 1).2.2.1) ⟨rfl,rfl,rfl,rfl,rfl,rfl,rfl,rfl,rfl,rfl,trivial⟩
         refine cf h281 ?_
         refine at_skip ?_
         refine bm ?_
         refine qr (aw xa (am (qn (dz (wq [24,23,22,16,15,14,6,2,1,0] ?_)))))
         refine tn ?_
         exact at_weak_k (ih _ _ _ hF K gq231 hk232 p233 c234 p235 c236) ⟨rfl,rfl,rfl,rfl,rfl,rfl,rfl,rfl,rfl,rfl,trivial⟩
        skip
        refine at_inv [.q 38 (fun g287=>.slice p273 t272.length c274) [] 0 0,.q 39 (fun g287=>.int .i64 (t272.length:Int)) [0] 0 0,.q 40 (fun g287=>.bool ((t272.length:Int)==1)) [1] 0 0,.q 41 (fun g287=>.bool false) [2] 0 0,.q 42 (fun g287=>undef) [3] 0 0,.q 43 (fun g287=>undef) [3,4] 0 0,.q 44 (fun g287=>undef) [3,5] 0 0,.q 45 (fun g287=>undef) [3] 0 0,.q 46 (fun g287=>undef) [3,6,7] 0 0,.q 47 (fun g287=>.bool false) [3,8] 0 0,.q 4 (fun g287=>.bool false) [9] 0 0] (fun g287 s=>match s with | _=>(Wd w [rowE c_api_Prefix 38 p273 c274 t272,cellsE b249 (Cd.cs c_api_Prefix (lget ((lget q128.f_c.f_Peers i196).f_Allowed) i229)) 38,cellsE b248 (Cd.cs c_api_Prefix (lget ((lget q128.f_c.f_Peers i196).f_Allowed) i229)) 38,cellsE (g8 1).1 (Cd.cs c_lint_finder ((gq231,(p233,c234),(p235,c236)),i230)) 63,rowE c_api_Entry 49 p233 c234 i230.f_own,rowE c_lint_Odd 40 p235 c236 i230.f_out])) 0 (by kernel_rfl) (by kernel_rfl) (by kernel_rfl) (by kernel_rfl) (by kernel_rfl) ⟨fun _ _ _=>rfl,fun _ _ _=>rfl,fun _ _ _=>rfl,fun _ _ _=>rfl,fun _ _ _=>rfl,fun _ _ _=>rfl,fun _ _ _=>rfl,fun _ _ _=>rfl,fun _ _ _=>rfl,fun _ _ _=>rfl,fun _ _ _=>rfl,trivial⟩ (by kernel_rfl) (fun w_ h=>⟨fun _=>g3 0 none 0 none w_,h.drew⟩) ⟨?_,?_,?_,?_,?_,?_,?_,?_,?_,?_,?_,trivial⟩ ?_
        ·intro Lx g287 s K hl hh k
         show At 48 ((3,_)::(8,_)::Lx) _ _
         refine am ?_
         exact at_nil k
        ·intro Lx g287 s K hl hh k
         show At 48 ((38,_)::(3,_)::(8,_)::Lx) _ _
         obtain rfl:s=0:=by omega
         refine aw (r_len_sl underlying58 rfl) ?_
         exact at_nil k
        ·intro Lx g287 s K hl hh k
         show At 48 ((39,_)::(3,_)::(8,_)::Lx) _ _
         refine aw xq ?_
         exact at_nil k
        ·intro Lx g287 s K hl hh k
         show At 48 ((40,_)::(3,_)::(8,_)::Lx) _ _
         refine am ?_
         exact at_nil (at_cast h275 k)
        ·intro Lx g287 s K hl hh k
         show At 48 ((41,_)::(3,_)::(8,_)::Lx) _ _
         refine gn ?_
         exact at_nil k
        ·intro Lx g287 s K hl hh k
         show At 48 ((41,_)::(42,_)::(3,_)::(8,_)::Lx) _ _
         refine gn ?_
         exact at_nil k
        ·intro Lx g287 s K hl hh k
         show At 48 ((41,_)::(43,_)::(3,_)::(8,_)::Lx) _ _
         obtain rfl:s=0:=by omega
         refine gn ?_
         exact at_nil k
        ·intro Lx g287 s K hl hh k
         show At 48 ((41,_)::(3,_)::(8,_)::Lx) _ _
         obtain rfl:s=0:=by omega
         refine gn ?_
         exact at_nil k
        ·intro Lx g287 s K hl hh k
         show At 48 ((41,_)::(44,_)::(45,_)::(3,_)::(8,_)::Lx) _ _
         refine gn ?_
         exact at_nil k
        ·intro Lx g287 s K hl hh k
         show At 48 ((41,_)::(46,_)::(3,_)::(8,_)::Lx) _ _
         refine aw xp ?_
         exact at_nil k
        ·intro Lx g287 s K hl hh k
         show At 48 ((47,_)::(3,_)::(8,_)::Lx) _ _
         refine aa ?_
         exact at_nil k
        intro g287
        show At 48 [(38,_),(39,_),(40,_),(41,_),(42,_),(43,_),(44,_),(45,_),(46,_),(47,_),(4,_),(3,_),(8,_)] _ _
        refine dz (dz (wq [4] ?_))
        refine tn (qt ?_)
        refine at_retI1 rfl rfl ?_
        refine nwq [30,24,23,22,16,15,14,9,6,2,1,0] ?_
        refine cf rfl ?_
        refine at_skip ?_
        refine bm ?_
        refine qr (aw xa (am (qn (dz (wq [24,23,22,16,15,14,6,2,1,0] ?_)))))
        refine tn ?_
        exact at_weak_k (ih _ _ _ hF K gq231 hk232 p233 c234 p235 c236) ⟨rfl,rfl,rfl,rfl,rfl,rfl,rfl,rfl,rfl,rfl,trivial⟩
       refine cf h243 ?_
       refine at_exit ?_
       refine te (te ?_)
       obtain rfl:=os hF
       exact at_weak_k (K gq231 hk232 p233 c234 p235 c236) ⟨rfl,rfl,rfl,rfl,rfl,rfl,trivial⟩
     skip
     intro gq237 hk238 p239 c240 p241 c242
     refine at_blk_same ?_
     refine bm ?_
     refine qr (aw xa (am (nwq [16,15,14,2,1,0] ?_)))
     exact at_weak_k (ih _ _ _ hF K gq237 hk238 p239 c240 p241 c242) ⟨rfl,rfl,rfl,rfl,rfl,rfl,trivial⟩
    refine cf h210 ?_
    refine at_exit ?_
    refine te (te ?_)
    obtain rfl:=os hF
    exact at_weak_k (K gq198 hk199 p200 c201 p202 c203) trivial
  skip
  intro gq204 hk205 p206 c207 p208 c209
  refine at_blk_same ?_
  refine at_retI0 rfl ?_
  refine ns (am ?_)
  refine aw (r_nilCheck rfl) ?_
  refine fa 36 underlying63 rfl sizeOf30 ?_
  refine aw (r_load_cell isAgg30 rfl (lens_cell0 (c:=cHd) (y:=⟨((gq204,(p206,c207),(p208,c209)).2.2).1,List.length q195.f_out,((gq204,(p206,c207),(p208,c209)).2.2).2⟩) .z (c_lint_finder_f_out (gq204,(p206,c207),(p208,c209)) q195) rfl)) ?_
  refine aa (qn (dz (dz (wq [2] ?_))))
  refine tn (qt ?_)
  have K:=os hF
  subst K
  exact r1 (fun w1 hw=>⟨p208,c209,rfl,hw.own .z,hw.below⟩)
 refine cf h10 ?_
 refine sns (am (am ?_))
 refine aw (r_makeFuncB rfl) ?_
 refine at_callI func21 rfl (by kernel_rfl) rfl rfl rfl rfl ?_
 refine sr (am ?_)
 refine aw (r_nilCheck rfl) ?_
 refine fa 0 underlying63 rfl sizeOf27 (fa 34 underlying27 rfl sizeOf25 ?_)
 refine aw (r_load_cell isAgg25 rfl (lens_cell0 (c:=cHd) (y:=⟨g0_.1,List.length x0.f_Peers,g0_.2⟩) .z (Lens.comp0 (c_lint_finder_f_c (g0_,(((g8 0).2.1),((g8 0).2.2.1)),zv6) ({ { zv7 with f_c:=x0 } with f_own:=t4 })) (c_api_Conf_f_Peers g0_ x0)) rfl)) ?_
 refine aw (r_len_sl underlying25 rfl) ?_
 refine am (nwq [13,12,2,1,0] ?_)
 refine qb ?_
 refine at_own_nil c_lint_Odd 40 ?_
 obtain ⟨q295,hq295,hF⟩:=bM hF
 refine at_front (.s (.s .z)) ?_
 refine at_front (.s (.s .z)) ?_
 refine wq [13,12,2,1,0] ?_
 refine at_loop_n (B:=0) (A:=fun Y=>∀ (gq304:G_api_Conf) (hk305:N_api_Conf w (gq304,q295.f_c)) (p306:Option Addr) (c307:Nat) (p308:Option Addr) (c309:Nat),At 32 [] (Wd w [cellsE (g8 1).1 (Cd.cs c_lint_finder ((gq304,(p306,c307),(p308,c309)),q295)) 63,rowE c_api_Entry 49 p306 c307 q295.f_own,rowE c_lint_Odd 40 p308 c309 q295.f_out]) Y) ?_ ?_
 ·intro K
  refine lint_All.l9.partial_correctness x0 (motive:=fun i296 i297 x=>KN (fun Y=>∀ (gq304:G_api_Conf) (hk305:N_api_Conf w (gq304,x.f_c)) (p306:Option Addr) (c307:Nat) (p308:Option Addr) (c309:Nat),At 32 [] (Wd w [cellsE (g8 1).1 (Cd.cs c_lint_finder ((gq304,(p306,c307),(p308,c309)),x)) 63,rowE c_api_Entry 49 p306 c307 x.f_own,rowE c_lint_Odd 40 p308 c309 x.f_out]) Y) _ 0→Round (fun Y=>∀ (gq298:G_api_Conf) (hk299:N_api_Conf w (gq298,i297.f_c)) (p300:Option Addr) (c301:Nat) (p302:Option Addr) (c303:Nat),At 32 [(0,.pointer (some ⟨(g8 1).1,0,none⟩)),(1,.int .i64 2),(2,.func (.func 22) #[.pointer (some ⟨(g8 1).1,0,none⟩)] #[]),(12,.int .i64 (x0.f_Peers.length:Int)),(13,.int .i64 i296)] (Wd w [cellsE (g8 1).1 (Cd.cs c_lint_finder ((gq298,(p300,c301),(p302,c303)),i297)) 63,rowE c_api_Entry 49 p300 c301 i297.f_own,rowE c_lint_Odd 40 p302 c303 i297.f_out]) Y) _ _ _) ?_ _ _ _ hq295 K g0_ hn0 (g8 0).2.1 (g8 0).2.2.1 (nn 288) 0
  ·clear K hF
   intro g ih i296 i297 x hF K gq298 hk299 p300 c301 p302 c303
   refine at_round ?_
   refine sr (aw xl (nwq [14,13,12,2,1,0] ?_))
   refine qs ?_
   obtain ⟨h310,hF⟩|⟨h310,hF⟩:=oi hF
   ·refine ct h310 ?_
    refine sn (qs ?_)
    refine qb ?_
    refine sr (am (aa (nwx [13,12,6,2,1,0] ?_)))
    refine am (am ?_)
    refine at_calleeB (bnds:=[.pointer (some ⟨(g8 1).1,0,none⟩)]) rfl ?_
    refine at_callI func22 rfl (by kernel_rfl) rfl rfl rfl rfl ?_
    refine sr (aa (ns (am ?_)))
    refine aw (r_nilCheck rfl) ?_
    refine fa 0 underlying63 rfl sizeOf27 (fa 34 underlying27 rfl sizeOf25 ?_)
    refine aw (r_load_cell isAgg25 rfl (lens_cell0 (c:=cHd) (y:=⟨gq298.1,List.length i297.f_c.f_Peers,gq298.2⟩) .z (Lens.comp0 (c_lint_finder_f_c (gq298,(p300,c301),(p302,c303)) i297) (c_api_Conf_f_Peers gq298 i297.f_c)) rfl)) ?_
    refine am ?_
    obtain ⟨h311,hF⟩:=gd hF
    obtain ⟨zs315,hz316,hr317,hn318⟩:=id hk299
    obtain ⟨b313,o314,hp312⟩:=row_ptr hr317 (zidx hz316 h311)
    obtain ⟨g319,hg320⟩:=zget hz316 i296
    refine aw (r_idx underlying25 sizeOf60 rfl rfl h311 hp312) ?_
    refine fa 85 underlying60 rfl sizeOf58 ?_
    refine aw (r_load_cell isAgg58 rfl (nlens0 (c':=cHd) (y:=⟨g319.1,List.length ((lget i297.f_c.f_Peers i296).f_Allowed),g319.2⟩) (fun _ h=>h.below) hr317 (zidx hz316 h311) hp312 hg320 (c_api_Peer_f_Allowed g319 (lget i297.f_c.f_Peers i296)) rfl)) ?_
    refine aw (r_len_sl underlying58 rfl) ?_
    refine aw xq (aa (nwq [4] ?_))
    refine qt ?_
    refine at_retI1 rfl rfl ?_
    refine nwq [18,13,12,6,2,1,0] ?_
    obtain ⟨h321,hF⟩|⟨h321,hF⟩:=oi hF
    ·refine ct h321 ?_
     refine qr (am (am ?_))
     refine aw (r_nilCheck rfl) ?_
     refine fa 36 underlying63 rfl sizeOf30 ?_
     refine aw (r_load_cell isAgg30 rfl (lens_cell0 (c:=cHd) (y:=⟨((gq298,(p300,c301),(p302,c303)).2.2).1,List.length i297.f_out,((gq298,(p300,c301),(p302,c303)).2.2).2⟩) .z (c_lint_finder_f_out (gq298,(p300,c301),(p302,c303)) i297) rfl)) ?_
     refine am (am ?_)
     refine aw (r_build_struct (zs:=Cd.cs c_lint_Odd zv12) (cs:=Cd.cs c_lint_Odd ({ { zv12 with f_Kind:=2 } with f_Peer:=i296 })) underlying40 zeroValue40 rfl (places_lint_Odd_40) rfl (fill_step (c:=(cInt .i64)) (z:=2) rfl (c_lint_Odd_f_Kind zv12) rfl (fill_step (c:=(cInt .i64)) (z:=i296) rfl (c_lint_Odd_f_Peer ({ zv12 with f_Kind:=2 })) rfl rfl))) ?_
     refine at_litL (c:=c_lint_Odd) ([zv12]:List S_lint_Odd) ([{ { zv12 with f_Kind:=2 } with f_Peer:=i296 }]:List S_lint_Odd) underlying30 sizeOf40 zeroValue40 rfl rfl rfl (by kernel_rfl) (fill_step (c:=c_lint_Odd) (z:={ { zv12 with f_Kind:=2 } with f_Peer:=i296 }) rfl (Lens.all c_lint_Odd ([zv12]:List S_lint_Odd) 0 (by first | decide | exact Nat.le_of_ble_eq_true rfl)) rfl rfl) rfl ?_
     intro b322
     obtain ⟨h323,hF⟩:=gd hF
     refine at_append (z:=.agg (Cd.cs c_lint_Odd zv12).toArray) (c:=c_lint_Odd) (ys:=([{ { zv12 with f_Kind:=2 } with f_Peer:=i296 }]:List S_lint_Odd)) (.s (.s (.s .z))) underlying30 infoV540 (by kernel_rfl) (by kernel_rfl) rfl rfl rfl rfl (fun _ hw=>cells_src (hw.ok (Upd.mem .z))) (by kernel_rfl) h323 (app_small h323) rfl ?_
     intro p324 c325
     refine aw (r_nilCheck rfl) ?_
     refine fa 36 underlying63 rfl sizeOf30 ?_
     refine at_store (c:=cSv S_lint_Odd) (z:=((p324,c325),i297.f_out++[{ { zv12 with f_Kind:=2 } with f_Peer:=i296 }])) (.s .z) (c_lint_finder_f_out_sv (gq298,(p300,c301),(p302,c303)) i297) sizeOf30 rfl rfl rfl ?_
     refine qn (dz (wq [13,12,2,1,0] ?_))
     refine bm ?_
     refine qr (aw xa (am (nwq [13,12,2,1,0] ?_)))
     exact at_weak_k (ih _ _ _ hF K gq298 hk299 p300 c301 p324 c325) ⟨rfl,rfl,rfl,rfl,rfl,trivial⟩
    refine cf h321 ?_
    refine at_skip ?_
    refine bm ?_
    refine qr (aw xa (am (nwq [13,12,2,1,0] ?_)))
    exact at_weak_k (ih _ _ _ hF K gq298 hk299 p300 c301 p302 c303) ⟨rfl,rfl,rfl,rfl,rfl,trivial⟩
   refine cf h310 ?_
   refine at_exit ?_
   refine te (te ?_)
   obtain rfl:=os hF
   exact at_weak_k (K gq298 hk299 p300 c301 p302 c303) trivial
 skip
 intro gq304 hk305 p306 c307 p308 c309
 refine at_blk_same ?_
 refine at_retI0 rfl ?_
 refine nwx [3] ?_
 refine am (am ?_)
 refine aw (r_makeFuncB rfl) ?_
 refine at_callI func21 rfl (by kernel_rfl) rfl rfl rfl rfl ?_
 refine sr (am ?_)
 refine aw (r_nilCheck rfl) ?_
 refine fa 0 underlying63 rfl sizeOf27 (fa 34 underlying27 rfl sizeOf25 ?_)
 refine aw (r_load_cell isAgg25 rfl (lens_cell0 (c:=cHd) (y:=⟨gq304.1,List.length q295.f_c.f_Peers,gq304.2⟩) .z (Lens.comp0 (c_lint_finder_f_c (gq304,(p306,c307),(p308,c309)) q295) (c_api_Conf_f_Peers gq304 q295.f_c)) rfl)) ?_
 refine aw (r_len_sl underlying25 rfl) ?_
 refine am (nwq [13,12,2,1,0] ?_)
 refine qb ?_
 obtain ⟨q332,hq332,hF⟩:=bM hF
 refine wq [13,12,2,1,0] ?_
 refine at_loop_n (B:=0) (A:=fun Y=>∀ (gq341:G_api_Conf) (hk342:N_api_Conf w (gq341,q332.f_c)) (p343:Option Addr) (c344:Nat) (p345:Option Addr) (c346:Nat),At 32 [] (Wd w [cellsE (g8 1).1 (Cd.cs c_lint_finder ((gq341,(p343,c344),(p345,c346)),q332)) 63,rowE c_api_Entry 49 p343 c344 q332.f_own,rowE c_lint_Odd 40 p345 c346 q332.f_out]) Y) ?_ ?_
 ·intro K
  refine lint_All.l10.partial_correctness q295 (motive:=fun i333 i334 x=>KN (fun Y=>∀ (gq341:G_api_Conf) (hk342:N_api_Conf w (gq341,x.f_c)) (p343:Option Addr) (c344:Nat) (p345:Option Addr) (c346:Nat),At 32 [] (Wd w [cellsE (g8 1).1 (Cd.cs c_lint_finder ((gq341,(p343,c344),(p345,c346)),x)) 63,rowE c_api_Entry 49 p343 c344 x.f_own,rowE c_lint_Odd 40 p345 c346 x.f_out]) Y) _ 0→Round (fun Y=>∀ (gq335:G_api_Conf) (hk336:N_api_Conf w (gq335,i334.f_c)) (p337:Option Addr) (c338:Nat) (p339:Option Addr) (c340:Nat),At 32 [(0,.pointer (some ⟨(g8 1).1,0,none⟩)),(1,.int .i64 3),(2,.func (.func 23) #[.pointer (some ⟨(g8 1).1,0,none⟩)] #[]),(12,.int .i64 (q295.f_c.f_Peers.length:Int)),(13,.int .i64 i333)] (Wd w [cellsE (g8 1).1 (Cd.cs c_lint_finder ((gq335,(p337,c338),(p339,c340)),i334)) 63,rowE c_api_Entry 49 p337 c338 i334.f_own,rowE c_lint_Odd 40 p339 c340 i334.f_out]) Y) _ _ _) ?_ _ _ _ hq332 K gq304 hk305 p306 c307 p308 c309
  ·clear K hF
   intro g ih i333 i334 x hF K gq335 hk336 p337 c338 p339 c340
   refine at_round ?_
   refine sr (aw xl (nwq [14,13,12,2,1,0] ?_))
   refine qs ?_
   obtain ⟨h347,hF⟩|⟨h347,hF⟩:=oi hF
   ·refine ct h347 ?_
    refine sn (qs ?_)
    refine qb ?_
    refine sr (am (aa (nwx [13,12,6,2,1,0] ?_)))
    refine am (am ?_)
    refine at_calleeB (bnds:=[.pointer (some ⟨(g8 1).1,0,none⟩)]) rfl ?_
    obtain ⟨t348,ht348,hF⟩:=bM hF
    refine at_callN (v:=.bool t348) (T:=[cellsE (g8 1).1 (Cd.cs c_lint_finder ((gq335,(p337,c338),(p339,c340)),i334)) 63,rowE c_api_Entry 49 p337 c338 i334.f_own,rowE c_lint_Odd 40 p339 c340 i334.f_out]) func23 rfl (by kernel_rfl) rfl rfl (fun w hw=>lint_finder_double_ok ht348 hw hk336) ?_
    refine nwq [18,13,12,6,2,1,0] ?_
    obtain ⟨h349,hF⟩|⟨h349,hF⟩:=oi hF
    ·refine ct h349 ?_
     refine qr (am (am ?_))
     refine aw (r_nilCheck rfl) ?_
     refine fa 36 underlying63 rfl sizeOf30 ?_
     refine aw (r_load_cell isAgg30 rfl (lens_cell0 (c:=cHd) (y:=⟨((gq335,(p337,c338),(p339,c340)).2.2).1,List.length i334.f_out,((gq335,(p337,c338),(p339,c340)).2.2).2⟩) .z (c_lint_finder_f_out (gq335,(p337,c338),(p339,c340)) i334) rfl)) ?_
     refine am (am ?_)
     refine aw (r_build_struct (zs:=Cd.cs c_lint_Odd zv12) (cs:=Cd.cs c_lint_Odd ({ { zv12 with f_Kind:=3 } with f_Peer:=i333 })) underlying40 zeroValue40 rfl (places_lint_Odd_40) rfl (fill_step (c:=(cInt .i64)) (z:=3) rfl (c_lint_Odd_f_Kind zv12) rfl (fill_step (c:=(cInt .i64)) (z:=i333) rfl (c_lint_Odd_f_Peer ({ zv12 with f_Kind:=3 })) rfl rfl))) ?_
     refine at_litL (c:=c_lint_Odd) ([zv12]:List S_lint_Odd) ([{ { zv12 with f_Kind:=3 } with f_Peer:=i333 }]:List S_lint_Odd) underlying30 sizeOf40 zeroValue40 rfl rfl rfl (by kernel_rfl) (fill_step (c:=c_lint_Odd) (z:={ { zv12 with f_Kind:=3 } with f_Peer:=i333 }) rfl (Lens.all c_lint_Odd ([zv12]:List S_lint_Odd) 0 (by first | decide | exact Nat.le_of_ble_eq_true rfl)) rfl rfl) rfl ?_
     intro b350
     obtain ⟨h351,hF⟩:=gd hF
     refine at_append (z:=.agg (Cd.cs c_lint_Odd zv12).toArray) (c:=c_lint_Odd) (ys:=([{ { zv12 with f_Kind:=3 } with f_Peer:=i333 }]:List S_lint_Odd)) (.s (.s (.s .z))) underlying30 infoV540 (by kernel_rfl) (by kernel_rfl) rfl rfl rfl rfl (fun _ hw=>cells_src (hw.ok (Upd.mem .z))) (by kernel_rfl) h351 (app_small h351) rfl ?_
     intro p352 c353
     refine aw (r_nilCheck rfl) ?_
     refine fa 36 underlying63 rfl sizeOf30 ?_
     refine at_store (c:=cSv S_lint_Odd) (z:=((p352,c353),i334.f_out++[{ { zv12 with f_Kind:=3 } with f_Peer:=i333 }])) (.s .z) (c_lint_finder_f_out_sv (gq335,(p337,c338),(p339,c340)) i334) sizeOf30 rfl rfl rfl ?_
     refine qn (dz (wq [13,12,2,1,0] ?_))
     refine bm ?_
     refine qr (aw xa (am (nwq [13,12,2,1,0] ?_)))
     exact at_weak_k (ih _ _ _ hF K gq335 hk336 p337 c338 p352 c353) ⟨rfl,rfl,rfl,rfl,rfl,trivial⟩
    refine cf h349 ?_
    refine at_skip ?_
    refine bm ?_
    refine qr (aw xa (am (nwq [13,12,2,1,0] ?_)))
    exact at_weak_k (ih _ _ _ hF K gq335 hk336 p337 c338 p339 c340) ⟨rfl,rfl,rfl,rfl,rfl,trivial⟩
   refine cf h347 ?_
   refine at_exit ?_
   refine te (te ?_)
   obtain rfl:=os hF
   exact at_weak_k (K gq335 hk336 p337 c338 p339 c340) trivial
 skip
 intro gq341 hk342 p343 c344 p345 c346
 refine at_blk_same ?_
 refine at_retI0 rfl ?_
 refine nwx [3] ?_
 refine am (am ?_)
 refine aw (r_makeFuncB rfl) ?_
 refine at_callI func21 rfl (by kernel_rfl) rfl rfl rfl rfl ?_
 refine sr (am ?_)
 refine aw (r_nilCheck rfl) ?_
 refine fa 0 underlying63 rfl sizeOf27 (fa 34 underlying27 rfl sizeOf25 ?_)
 refine aw (r_load_cell isAgg25 rfl (lens_cell0 (c:=cHd) (y:=⟨gq341.1,List.length q332.f_c.f_Peers,gq341.2⟩) .z (Lens.comp0 (c_lint_finder_f_c (gq341,(p343,c344),(p345,c346)) q332) (c_api_Conf_f_Peers gq341 q332.f_c)) rfl)) ?_
 refine aw (r_len_sl underlying25 rfl) ?_
 refine am (nwq [13,12,2,1,0] ?_)
 refine qb ?_
 obtain ⟨q360,hq360,hF⟩:=bM hF
 refine wq [13,12,2,1,0] ?_
 refine at_loop_n (B:=0) (A:=fun Y=>∀ (gq369:G_api_Conf) (hk370:N_api_Conf w (gq369,q360.f_c)) (p371:Option Addr) (c372:Nat) (p373:Option Addr) (c374:Nat),At 32 [] (Wd w [cellsE (g8 1).1 (Cd.cs c_lint_finder ((gq369,(p371,c372),(p373,c374)),q360)) 63,rowE c_api_Entry 49 p371 c372 q360.f_own,rowE c_lint_Odd 40 p373 c374 q360.f_out]) Y) ?_ ?_
 ·intro K
  refine lint_All.l11.partial_correctness q332 (motive:=fun i361 i362 x=>KN (fun Y=>∀ (gq369:G_api_Conf) (hk370:N_api_Conf w (gq369,x.f_c)) (p371:Option Addr) (c372:Nat) (p373:Option Addr) (c374:Nat),At 32 [] (Wd w [cellsE (g8 1).1 (Cd.cs c_lint_finder ((gq369,(p371,c372),(p373,c374)),x)) 63,rowE c_api_Entry 49 p371 c372 x.f_own,rowE c_lint_Odd 40 p373 c374 x.f_out]) Y) _ 0→Round (fun Y=>∀ (gq363:G_api_Conf) (hk364:N_api_Conf w (gq363,i362.f_c)) (p365:Option Addr) (c366:Nat) (p367:Option Addr) (c368:Nat),At 32 [(0,.pointer (some ⟨(g8 1).1,0,none⟩)),(1,.int .i64 4),(2,.func (.func 24) #[.pointer (some ⟨(g8 1).1,0,none⟩)] #[]),(12,.int .i64 (q332.f_c.f_Peers.length:Int)),(13,.int .i64 i361)] (Wd w [cellsE (g8 1).1 (Cd.cs c_lint_finder ((gq363,(p365,c366),(p367,c368)),i362)) 63,rowE c_api_Entry 49 p365 c366 i362.f_own,rowE c_lint_Odd 40 p367 c368 i362.f_out]) Y) _ _ _) ?_ _ _ _ hq360 K gq341 hk342 p343 c344 p345 c346
  ·clear K hF
   intro g ih i361 i362 x hF K gq363 hk364 p365 c366 p367 c368
   refine at_round ?_
   refine sr (aw xl (nwq [14,13,12,2,1,0] ?_))
   refine qs ?_
   obtain ⟨h375,hF⟩|⟨h375,hF⟩:=oi hF
   ·refine ct h375 ?_
    refine sn (qs ?_)
    refine qb ?_
    refine sr (am (aa (nwx [13,12,6,2,1,0] ?_)))
    refine am (am ?_)
    refine at_calleeB (bnds:=[.pointer (some ⟨(g8 1).1,0,none⟩)]) rfl ?_
    obtain ⟨t376,ht376,hF⟩:=bM hF
    refine at_callN (v:=.bool t376) (T:=[cellsE (g8 1).1 (Cd.cs c_lint_finder ((gq363,(p365,c366),(p367,c368)),i362)) 63,rowE c_api_Entry 49 p365 c366 i362.f_own,rowE c_lint_Odd 40 p367 c368 i362.f_out]) func24 rfl (by kernel_rfl) rfl rfl (fun w hw=>lint_finder_shared_ok ht376 hw hk364) ?_
    refine nwq [18,13,12,6,2,1,0] ?_
    obtain ⟨h377,hF⟩|⟨h377,hF⟩:=oi hF
    ·refine ct h377 ?_
     refine qr (am (am ?_))
     refine aw (r_nilCheck rfl) ?_
     refine fa 36 underlying63 rfl sizeOf30 ?_
     refine aw (r_load_cell isAgg30 rfl (lens_cell0 (c:=cHd) (y:=⟨((gq363,(p365,c366),(p367,c368)).2.2).1,List.length i362.f_out,((gq363,(p365,c366),(p367,c368)).2.2).2⟩) .z (c_lint_finder_f_out (gq363,(p365,c366),(p367,c368)) i362) rfl)) ?_
     refine am (am ?_)
     refine aw (r_build_struct (zs:=Cd.cs c_lint_Odd zv12) (cs:=Cd.cs c_lint_Odd ({ { zv12 with f_Kind:=4 } with f_Peer:=i361 })) underlying40 zeroValue40 rfl (places_lint_Odd_40) rfl (fill_step (c:=(cInt .i64)) (z:=4) rfl (c_lint_Odd_f_Kind zv12) rfl (fill_step (c:=(cInt .i64)) (z:=i361) rfl (c_lint_Odd_f_Peer ({ zv12 with f_Kind:=4 })) rfl rfl))) ?_
     refine at_litL (c:=c_lint_Odd) ([zv12]:List S_lint_Odd) ([{ { zv12 with f_Kind:=4 } with f_Peer:=i361 }]:List S_lint_Odd) underlying30 sizeOf40 zeroValue40 rfl rfl rfl (by kernel_rfl) (fill_step (c:=c_lint_Odd) (z:={ { zv12 with f_Kind:=4 } with f_Peer:=i361 }) rfl (Lens.all c_lint_Odd ([zv12]:List S_lint_Odd) 0 (by first | decide | exact Nat.le_of_ble_eq_true rfl)) rfl rfl) rfl ?_
     intro b378
     obtain ⟨h379,hF⟩:=gd hF
     refine at_append (z:=.agg (Cd.cs c_lint_Odd zv12).toArray) (c:=c_lint_Odd) (ys:=([{ { zv12 with f_Kind:=4 } with f_Peer:=i361 }]:List S_lint_Odd)) (.s (.s (.s .z))) underlying30 infoV540 (by kernel_rfl) (by kernel_rfl) rfl rfl rfl rfl (fun _ hw=>cells_src (hw.ok (Upd.mem .z))) (by kernel_rfl) h379 (app_small h379) rfl ?_
     intro p380 c381
     refine aw (r_nilCheck rfl) ?_
     refine fa 36 underlying63 rfl sizeOf30 ?_
     refine at_store (c:=cSv S_lint_Odd) (z:=((p380,c381),i362.f_out++[{ { zv12 with f_Kind:=4 } with f_Peer:=i361 }])) (.s .z) (c_lint_finder_f_out_sv (gq363,(p365,c366),(p367,c368)) i362) sizeOf30 rfl rfl rfl ?_
     refine qn (dz (wq [13,12,2,1,0] ?_))
     refine bm ?_
     refine qr (aw xa (am (nwq [13,12,2,1,0] ?_)))
     exact at_weak_k (ih _ _ _ hF K gq363 hk364 p365 c366 p380 c381) ⟨rfl,rfl,rfl,rfl,rfl,trivial⟩
    refine cf h377 ?_
    refine at_skip ?_
    refine bm ?_
    refine qr (aw xa (am (nwq [13,12,2,1,0] ?_)))
    exact at_weak_k (ih _ _ _ hF K gq363 hk364 p365 c366 p367 c368) ⟨rfl,rfl,rfl,rfl,rfl,trivial⟩
   refine cf h375 ?_
   refine at_exit ?_
   refine te (te ?_)
   obtain rfl:=os hF
   exact at_weak_k (K gq363 hk364 p365 c366 p367 c368) trivial
 skip
 intro gq369 hk370 p371 c372 p373 c374
 refine at_blk_same ?_
 refine at_retI0 rfl ?_
 refine nwx [3] ?_
 refine am (am ?_)
 refine at_callI func26 rfl (by kernel_rfl) rfl rfl rfl rfl ?_
 refine sr (aa (nwx [0] ?_))
 refine at_makeMap c_api_Prefix cBool false rfl ?_
 intro b382
 refine al (cs:=[.map none]) zeroValue85 ?_
 intro b383
 refine sa 1 ([.map (some b382)]) .z rfl rfl sizeOf85 rfl rfl rfl ?_
 refine nt (qs (sr (am ?_)))
 refine aw (r_nilCheck rfl) ?_
 refine fa 35 underlying63 rfl sizeOf46 ?_
 refine aw (r_load_cell isAgg46 rfl (lens_cell0 (c:=cHd) (y:=⟨((gq369,(p371,c372),(p373,c374)).2.1).1,List.length q360.f_own,((gq369,(p371,c372),(p373,c374)).2.1).2⟩) (.s (.s .z)) (c_lint_finder_f_own (gq369,(p371,c372),(p373,c374)) q360) rfl)) ?_
 obtain ⟨t384,ht384,hF⟩:=bM hF
 refine at_callO (c:=c_api_Entry) (e:=49) (ys:=t384) (V:=fun p cap=>.slice p t384.length cap) func47 rfl (by kernel_rfl) rfl rfl (fun w hw=>flat_Thin_ok _ _ _ _ ht384 w (hw.own (.s (.s (.s .z)))).row) ?_
 intro p385 c386
 refine aw (r_len_sl underlying46 rfl) ?_
 refine am (nwq [13,12,11,3] ?_)
 refine qb ?_
 obtain ⟨q387,hq387,hF⟩:=bM hF
 refine wq [13,12,11,3] ?_
 refine at_loop_n (B:=0) (A:=fun Y=>At 22 [(3,.pointer (some ⟨b383,0,none⟩))] (Wd w [cellsE b383 [.map (some b382)] 85,mapE b382 c_api_Prefix cBool false q387,cellsE (g8 1).1 (Cd.cs c_lint_finder ((gq369,(p371,c372),(p373,c374)),q360)) 63,rowE c_api_Entry 49 p371 c372 q360.f_own,rowE c_lint_Odd 40 p373 c374 q360.f_out]) Y) ?_ ?_
 ·intro K
  refine lint_All.l12.partial_correctness t384 (motive:=fun i388 i389 x=>KN (fun Y=>At 22 [(3,.pointer (some ⟨b383,0,none⟩))] (Wd w [cellsE b383 [.map (some b382)] 85,mapE b382 c_api_Prefix cBool false x,cellsE (g8 1).1 (Cd.cs c_lint_finder ((gq369,(p371,c372),(p373,c374)),q360)) 63,rowE c_api_Entry 49 p371 c372 q360.f_own,rowE c_lint_Odd 40 p373 c374 q360.f_out]) Y) _ 0→Round (fun Y=>At 22 [(3,.pointer (some ⟨b383,0,none⟩)),(11,.slice p385 t384.length c386),(12,.int .i64 (t384.length:Int)),(13,.int .i64 i388)] (Wd w [rowE c_api_Entry 49 p385 c386 t384,cellsE b383 [.map (some b382)] 85,mapE b382 c_api_Prefix cBool false i389,cellsE (g8 1).1 (Cd.cs c_lint_finder ((gq369,(p371,c372),(p373,c374)),q360)) 63,rowE c_api_Entry 49 p371 c372 q360.f_own,rowE c_lint_Odd 40 p373 c374 q360.f_out]) Y) _ _ _) ?_ _ _ _ hq387 K
  ·clear K hF
   intro g ih i388 i389 x hF K
   refine at_round ?_
   refine sr (aw xl (nwq [14,13,12,11,3] ?_))
   refine qs ?_
   obtain ⟨h390,hF⟩|⟨h390,hF⟩:=oi hF
   ·refine ct h390 ?_
    refine sn (qs ?_)
    refine qb ?_
    refine sr ?_
    obtain ⟨h391,hF⟩:=gd hF
    refine at_pure (φ:=∃ b o,p385=some ⟨b,o,none⟩) (fun _ hw=>row_ptr (hw.own .z).row h391) ?_
    rintro ⟨b393,o394,hp392⟩
    refine aw (r_idx underlying46 sizeOf49 rfl rfl h391 hp392) ?_
    refine aw (r_load_aggc (c:=c_api_Entry) (z:=lget t384 i388) isAgg49 sizeOf49 rfl (fun w1 hw=>row_cell (W:=fun w1=>w1=_) (fun w1 h=>by subst h;exact Below.refl _ _) (hw.own .z).row h391 hp392 _ rfl)) ?_
    refine al (cs:=Cd.cs c_api_Entry zv13) zeroValue49 ?_
    intro b395
    refine at_store (c:=c_api_Entry) (z:=lget t384 i388) .z lw sizeOf49 rfl rfl rfl ?_
    refine nwq [13,12,11,5,3] ?_
    refine qr ?_
    refine aw (r_load_cell isAgg85 rfl (fun w1 hw=>cells_get (hw.ok (Upd.mem (.s (.s .z)))) 0 _ rfl)) ?_
    refine fa 0 underlying49 rfl sizeOf38 ?_
    refine aw (r_load_aggc (c:=c_api_Prefix) (z:=(lget t384 i388).f_P) isAgg38 sizeOf38 rfl (lens_cell .z (Lens.comp lw (fun z=>{ lget t384 i388 with f_P:=z }) (c_api_Entry_f_P (lget t384 i388))))) ?_
    refine at_mapUpdate (k:=(lget t384 i388).f_P) (v:=true) (.s (.s (.s .z))) underlying85 (keylaw_of underlying38 (chk_struct (k:=2) underlying38 (fun n x hn=>(chkf_cons (c_api_Prefix_f_A x) rfl rfl isAgg36 sizeOf36 (.inl rfl) (chk_struct (k:=1) underlying36 (fun n x hn=>(chkf_cons (c_api_Addr_f_V x) rfl rfl isAgg3 sizeOf3 (.inr rfl) (chk_int underlying3) (by omega) (chkf_cons (c_api_Addr_f_B x) rfl rfl isAgg34 sizeOf34 (.inl rfl) (chk_vec underlying34 sizeOf5 isAgg5 (.inr rfl) (chk_int underlying5)) (by omega) chkf_nil)))) (by omega) (chkf_cons (c_api_Prefix_f_Bits x) rfl rfl isAgg3 sizeOf3 (.inr rfl) (chk_int underlying3) (by omega) chkf_nil)))) (by decide) (eq_api_Prefix_38) (by decide) plain_api_Prefix) rfl rfl rfl rfl ?_
    refine qn (dz (wq [13,12,11,3] ?_))
    refine bm ?_
    refine qr (aw xa (am (nwq [13,12,11,3] ?_)))
    exact at_weak_k (ih _ _ _ hF K) ⟨rfl,rfl,rfl,rfl,trivial⟩
   refine cf h390 ?_
   refine at_exit ?_
   refine te (te ?_)
   refine dz ?_
   obtain rfl:=os hF
   exact at_weak_k K ⟨rfl,trivial⟩
 skip
 skip
 refine at_blk_same ?_
 refine tn (sr ?_)
 refine aw (r_makeFunc rfl) ?_
 refine aa (nwq [2] ?_)
 refine qt ?_
 refine at_retI1 rfl rfl ?_
 refine at_callI func25 rfl (by kernel_rfl) rfl rfl rfl rfl ?_
 refine sr (am ?_)
 refine aw (r_nilCheck rfl) ?_
 refine fa 0 underlying63 rfl sizeOf27 (fa 34 underlying27 rfl sizeOf25 ?_)
 refine aw (r_load_cell isAgg25 rfl (lens_cell0 (c:=cHd) (y:=⟨gq369.1,List.length q360.f_c.f_Peers,gq369.2⟩) (.s (.s .z)) (Lens.comp0 (c_lint_finder_f_c (gq369,(p371,c372),(p373,c374)) q360) (c_api_Conf_f_Peers gq369 q360.f_c)) rfl)) ?_
 refine aw (r_len_sl underlying25 rfl) ?_
 refine am (nwq [16,15,14,2,1,0] ?_)
 refine qb ?_
 obtain ⟨q402,hq402,hF⟩:=bM hF
 refine wq [16,15,14,2,1,0] ?_
 refine at_loop_n (B:=0) (A:=fun Y=>∀ (gq411:G_api_Conf) (hk412:N_api_Conf w (gq411,q402.f_c)) (p413:Option Addr) (c414:Nat) (p415:Option Addr) (c416:Nat),At 46 [] (Wd w [cellsE (g8 1).1 (Cd.cs c_lint_finder ((gq411,(p413,c414),(p415,c416)),q402)) 63,rowE c_api_Entry 49 p413 c414 q402.f_own,rowE c_lint_Odd 40 p415 c416 q402.f_out]) Y) ?_ ?_
 ·intro K
  refine lint_All.l13.partial_correctness q360 q387 (motive:=fun i403 i404 x=>KN (fun Y=>∀ (gq411:G_api_Conf) (hk412:N_api_Conf w (gq411,x.f_c)) (p413:Option Addr) (c414:Nat) (p415:Option Addr) (c416:Nat),At 46 [] (Wd w [cellsE (g8 1).1 (Cd.cs c_lint_finder ((gq411,(p413,c414),(p415,c416)),x)) 63,rowE c_api_Entry 49 p413 c414 x.f_own,rowE c_lint_Odd 40 p415 c416 x.f_out]) Y) _ 0→Round (fun Y=>∀ (gq405:G_api_Conf) (hk406:N_api_Conf w (gq405,i404.f_c)) (p407:Option Addr) (c408:Nat) (p409:Option Addr) (c410:Nat),At 46 [(0,.pointer (some ⟨(g8 1).1,0,none⟩)),(1,.int .i64 5),(2,.func (.func 48) #[] #[.pointer (some ⟨b383,0,none⟩)]),(14,.slice gq369.1 q360.f_c.f_Peers.length gq369.2),(15,.int .i64 (q360.f_c.f_Peers.length:Int)),(16,.int .i64 i403)] (Wd w [cellsE b383 [.map (some b382)] 85,mapE b382 c_api_Prefix cBool false q387,cellsE (g8 1).1 (Cd.cs c_lint_finder ((gq405,(p407,c408),(p409,c410)),i404)) 63,rowE c_api_Entry 49 p407 c408 i404.f_own,rowE c_lint_Odd 40 p409 c410 i404.f_out]) Y) _ _ _) ?_ _ _ _ hq402 K gq369 hk370 p371 c372 p373 c374
  ·clear K hF
   intro g ih i403 i404 x hF K gq405 hk406 p407 c408 p409 c410
   refine at_round ?_
   refine sr (aw xl (nwq [17,16,15,14,2,1,0] ?_))
   refine qs ?_
   obtain ⟨h417,hF⟩|⟨h417,hF⟩:=oi hF
   ·refine ct h417 ?_
    refine sn (qs ?_)
    refine qb ?_
    refine sr (am ?_)
    obtain ⟨h418,hF⟩:=gd hF
    obtain ⟨zs422,hz423,hr424,hn425⟩:=id hk370
    obtain ⟨b420,o421,hp419⟩:=row_ptr hr424 (zidx hz423 h418)
    obtain ⟨g426,hg427⟩:=zget hz423 i403
    refine aw (r_idx underlying25 sizeOf60 rfl rfl h418 hp419) ?_
    refine aw (r_load_aggc (c:=c_api_Peer) (z:=(g426,lget q360.f_c.f_Peers i403)) isAgg60 sizeOf60 rfl (ncell (fun _ h=>h.below) hr424 (zidx hz423 h418) hp419 hg427)) ?_
    refine al (cs:=Cd.cs c_api_Peer zv14) zeroValue60 ?_
    intro b428
    refine aa ?_
    refine at_store (c:=c_api_Peer) (z:=(g426,lget q360.f_c.f_Peers i403)) .z lw sizeOf60 rfl rfl rfl ?_
    refine ns (fa 85 underlying60 rfl sizeOf58 ?_)
    refine aw (r_load_cell isAgg58 rfl (lens_cell0 (c:=cHd) (y:=⟨g426.1,List.length ((lget q360.f_c.f_Peers i403).f_Allowed),g426.2⟩) .z (c_api_Peer_f_Allowed g426 (lget q360.f_c.f_Peers i403)) rfl)) ?_
    refine aw (r_len_sl underlying58 rfl) ?_
    refine am (qn (dz (wq [24,23,22,16,15,14,6,2,1,0] ?_)))
    refine tn ?_
    refine qb ?_
    obtain ⟨q435,hq435,hF⟩:=bM hF
    refine wq [24,23,22,16,15,14,6,2,1,0] ?_
    refine at_loop_n (B:=2) (A:=fun Y=>∀ (gq444:G_api_Conf) (hk445:N_api_Conf w (gq444,q435.f_c)) (p446:Option Addr) (c447:Nat) (p448:Option Addr) (c449:Nat),At 46 [(0,.pointer (some ⟨(g8 1).1,0,none⟩)),(1,.int .i64 5),(2,.func (.func 48) #[] #[.pointer (some ⟨b383,0,none⟩)]),(14,.slice gq369.1 q360.f_c.f_Peers.length gq369.2),(15,.int .i64 (q360.f_c.f_Peers.length:Int)),(16,.int .i64 i403)] (Wd w [cellsE b383 [.map (some b382)] 85,mapE b382 c_api_Prefix cBool false q387,cellsE (g8 1).1 (Cd.cs c_lint_finder ((gq444,(p446,c447),(p448,c449)),q435)) 63,rowE c_api_Entry 49 p446 c447 q435.f_own,rowE c_lint_Odd 40 p448 c449 q435.f_out]) Y) ?_ ?_
    ·intro K
     refine lint_All.l14.partial_correctness q360 q387 i403 (motive:=fun i436 i437 x=>KN (fun Y=>∀ (gq444:G_api_Conf) (hk445:N_api_Conf w (gq444,x.f_c)) (p446:Option Addr) (c447:Nat) (p448:Option Addr) (c449:Nat),At 46 [(0,.pointer (some ⟨(g8 1).1,0,none⟩)),(1,.int .i64 5),(2,.func (.func 48) #[] #[.pointer (some ⟨b383,0,none⟩)]),(14,.slice gq369.1 q360.f_c.f_Peers.length gq369.2),(15,.int .i64 (q360.f_c.f_Peers.length:Int)),(16,.int .i64 i403)] (Wd w [cellsE b383 [.map (some b382)] 85,mapE b382 c_api_Prefix cBool false q387,cellsE (g8 1).1 (Cd.cs c_lint_finder ((gq444,(p446,c447),(p448,c449)),x)) 63,rowE c_api_Entry 49 p446 c447 x.f_own,rowE c_lint_Odd 40 p448 c449 x.f_out]) Y) _ 2→Round (fun Y=>∀ (gq438:G_api_Conf) (hk439:N_api_Conf w (gq438,i437.f_c)) (p440:Option Addr) (c441:Nat) (p442:Option Addr) (c443:Nat),At 46 [(0,.pointer (some ⟨(g8 1).1,0,none⟩)),(1,.int .i64 5),(2,.func (.func 48) #[] #[.pointer (some ⟨b383,0,none⟩)]),(6,.int .i64 i403),(14,.slice gq369.1 q360.f_c.f_Peers.length gq369.2),(15,.int .i64 (q360.f_c.f_Peers.length:Int)),(16,.int .i64 i403),(22,.slice g426.1 ((lget q360.f_c.f_Peers i403).f_Allowed).length g426.2),(23,.int .i64 (((lget q360.f_c.f_Peers i403).f_Allowed).length:Int)),(24,.int .i64 i436)] (Wd w [cellsE b383 [.map (some b382)] 85,mapE b382 c_api_Prefix cBool false q387,cellsE (g8 1).1 (Cd.cs c_lint_finder ((gq438,(p440,c441),(p442,c443)),i437)) 63,rowE c_api_Entry 49 p440 c441 i437.f_own,rowE c_lint_Odd 40 p442 c443 i437.f_out]) Y) _ _ _) ?_ _ _ _ hq435 K gq405 hk406 p407 c408 p409 c410
     ·clear K hF
      intro g ih i436 i437 x hF K gq438 hk439 p440 c441 p442 c443
      refine at_round ?_
      refine sr (aw xl (nwq [25,24,23,22,16,15,14,6,2,1,0] ?_))
      refine qs ?_
      obtain ⟨h450,hF⟩|⟨h450,hF⟩:=oi hF
      ·refine ct h450 ?_
       refine sn (qs ?_)
       refine qb ?_
       refine sr ?_
       obtain ⟨h451,hF⟩:=gd hF
       obtain ⟨b453,o454,hp452⟩:=row_ptr (nz hg427 hn425 (zidx hz423 h418)) h451
       refine aw (r_idx underlying58 sizeOf38 rfl rfl h451 hp452) ?_
       refine aw (r_load_aggc (c:=c_api_Prefix) (z:=lget ((lget q360.f_c.f_Peers i403).f_Allowed) i436) isAgg38 sizeOf38 rfl (row_cell (fun _ h=>h.below) (nz hg427 hn425 (zidx hz423 h418)) h451 hp452)) ?_
       refine al (cs:=Cd.cs c_api_Prefix zv9) zeroValue38 ?_
       intro b455
       refine at_store (c:=c_api_Prefix) (z:=lget ((lget q360.f_c.f_Peers i403).f_Allowed) i436) .z lw sizeOf38 rfl rfl rfl ?_
       refine nwx [24,23,22,16,15,14,9,6,2,1,0] ?_
       refine am ?_
       refine aw (r_load_aggc (c:=c_api_Prefix) (z:=lget ((lget q360.f_c.f_Peers i403).f_Allowed) i436) isAgg38 sizeOf38 rfl (lens_cell .z lw)) ?_
       refine at_calleeC (caps:=[.pointer (some ⟨b383,0,none⟩)]) rfl ?_
       refine at_callI func48 rfl (by kernel_rfl) rfl rfl rfl rfl ?_
       refine sr ?_
       refine at_box (cs:=Cd.cs c_api_Prefix (lget ((lget q360.f_c.f_Peers i403).f_Allowed) i436)) rfl rfl rfl ?_
       intro b456
       refine aa (ns ?_)
       refine aw (r_load_cell isAgg85 rfl (fun w1 hw=>cells_get (hw.ok (Upd.mem (.s (.s .z)))) 0 _ rfl)) ?_
       refine aw (r_load_aggc (c:=c_api_Prefix) (z:=lget ((lget q360.f_c.f_Peers i403).f_Allowed) i436) isAgg38 sizeOf38 rfl (lens_cell .z lw)) ?_
       refine aw (r_lookup (d:=cBool) (va:=false) (k:=lget ((lget q360.f_c.f_Peers i403).f_Allowed) i436) (zv:=false) underlying85 (keylaw_of underlying38 (chk_struct (k:=2) underlying38 (fun n x hn=>(chkf_cons (c_api_Prefix_f_A x) rfl rfl isAgg36 sizeOf36 (.inl rfl) (chk_struct (k:=1) underlying36 (fun n x hn=>(chkf_cons (c_api_Addr_f_V x) rfl rfl isAgg3 sizeOf3 (.inr rfl) (chk_int underlying3) (by omega) (chkf_cons (c_api_Addr_f_B x) rfl rfl isAgg34 sizeOf34 (.inl rfl) (chk_vec underlying34 sizeOf5 isAgg5 (.inr rfl) (chk_int underlying5)) (by omega) chkf_nil)))) (by omega) (chkf_cons (c_api_Prefix_f_Bits x) rfl rfl isAgg3 sizeOf3 (.inr rfl) (chk_int underlying3) (by omega) chkf_nil)))) (by decide) (eq_api_Prefix_38) (by decide) plain_api_Prefix) zeroValue4 rfl rfl (fun w1 hw=>hw.ok (Upd.mem (.s (.s (.s .z)))))) ?_
       refine aw (r_not rfl) ?_
       refine aa (qn (dz (wq [3] ?_)))
       refine tn (qt ?_)
       refine at_retI1 rfl rfl ?_
       refine nwq [30,24,23,22,16,15,14,9,6,2,1,0] ?_
       obtain ⟨h457,hF⟩|⟨h457,hF⟩:=oi hF
       ·refine ct h457 ?_
        refine wq [24,23,22,16,15,14,9,6,2,1,0] ?_
        obtain ⟨h459,hF⟩:=gd hF
        refine at_inv [.q 31 (fun g462=>.pointer (some ⟨(g8 1).1,0,none⟩)) [] 0 2,.q 32 (fun g462=>.pointer (some ⟨(g8 1).1,0,none⟩)) [] 0 1,.q 33 (fun g462=>.pointer (some ⟨(g8 1).1,0,none⟩)) [1] 0 1,.q 34 (fun g462=>.pointer (some ⟨(g8 1).1,0+36,none⟩)) [2] 0 1,.q 35 (fun g462=>.slice p442 i437.f_out.length c443) [3] 0 1,.q 36 (fun g462=>.int .i64 5) [] 0 0,.q 37 (fun g462=>.int .i64 i403) [] 0 0,.q 38 (fun g462=>.agg (Cd.cs c_api_Prefix (lget ((lget q360.f_c.f_Peers i403).f_Allowed) i436)).toArray) [] 0 0,.q 39 (fun g462=>.agg (Cd.cs c_lint_Odd ({ { { zv12 with f_Kind:=5 } with f_Peer:=i403 } with f_P:=lget ((lget q360.f_c.f_Peers i403).f_Allowed) i436 })).toArray) [5,6,7] 0 0,.al 0 40 (fun g462=>.slice (some ⟨((g462 0).1),0,none⟩) ([{ { { zv12 with f_Kind:=5 } with f_Peer:=i403 } with f_P:=lget ((lget q360.f_c.f_Peers i403).f_Allowed) i436 }]:List S_lint_Odd).length 1) [8],.al 1 41 (fun g462=>.slice ((g462 1).2.1) (i437.f_out++[{ { { zv12 with f_Kind:=5 } with f_Peer:=i403 } with f_P:=lget ((lget q360.f_c.f_Peers i403).f_Allowed) i436 }]).length ((g462 1).2.2.1)) [4,9],.q 42 (fun g462=>.pointer (some ⟨(g8 1).1,0,none⟩)) [0] 2 2,.q 43 (fun g462=>.pointer (some ⟨(g8 1).1,0+36,none⟩)) [11] 2 2,.st 2 none [10,12]] (fun g462 s=>match s with | 0=>(Wd w [cellsE b455 (Cd.cs c_api_Prefix (lget ((lget q360.f_c.f_Peers i403).f_Allowed) i436)) 38,cellsE b383 [.map (some b382)] 85,mapE b382 c_api_Prefix cBool false q387,cellsE (g8 1).1 (Cd.cs c_lint_finder ((gq438,(p440,c441),(p442,c443)),i437)) 63,rowE c_api_Entry 49 p440 c441 i437.f_own,rowE c_lint_Odd 40 p442 c443 i437.f_out]) | 1=>(Wd w [cellsE ((g462 0).1) (c_lint_Odd.all ([{ { { zv12 with f_Kind:=5 } with f_Peer:=i403 } with f_P:=lget ((lget q360.f_c.f_Peers i403).f_Allowed) i436 }]:List S_lint_Odd)) 40,cellsE b455 (Cd.cs c_api_Prefix (lget ((lget q360.f_c.f_Peers i403).f_Allowed) i436)) 38,cellsE b383 [.map (some b382)] 85,mapE b382 c_api_Prefix cBool false q387,cellsE (g8 1).1 (Cd.cs c_lint_finder ((gq438,(p440,c441),(p442,c443)),i437)) 63,rowE c_api_Entry 49 p440 c441 i437.f_own,rowE c_lint_Odd 40 p442 c443 i437.f_out]) | 2=>(Wd w [cellsE ((g462 0).1) (c_lint_Odd.all ([{ { { zv12 with f_Kind:=5 } with f_Peer:=i403 } with f_P:=lget ((lget q360.f_c.f_Peers i403).f_Allowed) i436 }]:List S_lint_Odd)) 40,cellsE b455 (Cd.cs c_api_Prefix (lget ((lget q360.f_c.f_Peers i403).f_Allowed) i436)) 38,cellsE b383 [.map (some b382)] 85,mapE b382 c_api_Prefix cBool false q387,cellsE (g8 1).1 (Cd.cs c_lint_finder ((gq438,(p440,c441),(p442,c443)),i437)) 63,rowE c_api_Entry 49 p440 c441 i437.f_own,rowE c_lint_Odd 40 ((g462 1).2.1) ((g462 1).2.2.1) (i437.f_out++[{ { { zv12 with f_Kind:=5 } with f_Peer:=i403 } with f_P:=lget ((lget q360.f_c.f_Peers i403).f_Allowed) i436 }])]) | _=>(Wd w [cellsE ((g462 0).1) (c_lint_Odd.all ([{ { { zv12 with f_Kind:=5 } with f_Peer:=i403 } with f_P:=lget ((lget q360.f_c.f_Peers i403).f_Allowed) i436 }]:List S_lint_Odd)) 40,cellsE b455 (Cd.cs c_api_Prefix (lget ((lget q360.f_c.f_Peers i403).f_Allowed) i436)) 38,cellsE b383 [.map (some b382)] 85,mapE b382 c_api_Prefix cBool false q387,cellsE (g8 1).1 (Cd.cs c_lint_finder ((gq438,(p440,c441),(((g462 1).2.1),((g462 1).2.2.1))),{ i437 with f_out:=i437.f_out++[{ { { zv12 with f_Kind:=5 } with f_Peer:=i403 } with f_P:=lget ((lget q360.f_c.f_Peers i403).f_Allowed) i436 }] })) 63,rowE c_api_Entry 49 p440 c441 i437.f_own,rowE c_lint_Odd 40 ((g462 1).2.1) ((g462 1).2.2.1) (i437.f_out++[{ { { zv12 with f_Kind:=5 } with f_Peer:=i403 } with f_P:=lget ((lget q360.f_c.f_Peers i403).f_Allowed) i436 }])])) 3 (by kernel_rfl) (by kernel_rfl) (by kernel_rfl) (by kernel_rfl) (by kernel_rfl) ⟨fun _ _ _=>rfl,fun _ _ _=>rfl,fun _ _ _=>rfl,fun _ _ _=>rfl,fun _ _ _=>rfl,fun _ _ _=>rfl,fun _ _ _=>rfl,fun _ _ _=>rfl,fun _ _ _=>rfl,fun g462 g2 h=>by show (.slice (some ⟨((g462 0).1),0,none⟩) ([{ { { zv12 with f_Kind:=5 } with f_Peer:=i403 } with f_P:=lget ((lget q360.f_c.f_Peers i403).f_Allowed) i436 }]:List S_lint_Odd).length 1:Value)=.slice (some ⟨((g2 0).1),0,none⟩) ([{ { { zv12 with f_Kind:=5 } with f_Peer:=i403 } with f_P:=lget ((lget q360.f_c.f_Peers i403).f_Allowed) i436 }]:List S_lint_Odd).length 1;rw [h 0 (show 0<1 by decide)],fun g462 g2 h=>by show (.slice ((g462 1).2.1) (i437.f_out++[{ { { zv12 with f_Kind:=5 } with f_Peer:=i403 } with f_P:=lget ((lget q360.f_c.f_Peers i403).f_Allowed) i436 }]).length ((g462 1).2.2.1):Value)=.slice ((g2 1).2.1) (i437.f_out++[{ { { zv12 with f_Kind:=5 } with f_Peer:=i403 } with f_P:=lget ((lget q360.f_c.f_Peers i403).f_Allowed) i436 }]).length ((g2 1).2.2.1);rw [h 1 (show 1<2 by decide)],fun _ _ _=>rfl,fun _ _ _=>rfl,fun _ _ _=>rfl,trivial⟩ (by kernel_rfl) (fun w_ h=>⟨fun _=>g3 0 none 0 none w_,h.drew⟩) ⟨?_,?_,?_,?_,?_,?_,?_,?_,?_,?_,?_,?_,?_,?_,trivial⟩ ?_
        ·intro Lx g462 s K hl hh k
         show At 46 ((0,_)::(1,_)::(2,_)::(6,_)::(9,_)::(14,_)::(15,_)::(16,_)::(22,_)::(23,_)::(24,_)::Lx) _ _
         refine am ?_
         exact at_nil k
        ·intro Lx g462 s K hl hh k
         show At 46 ((0,_)::(1,_)::(2,_)::(6,_)::(9,_)::(14,_)::(15,_)::(16,_)::(22,_)::(23,_)::(24,_)::Lx) _ _
         refine am ?_
         exact at_nil k
        ·intro Lx g462 s K hl hh k
         show At 46 ((32,_)::(0,_)::(1,_)::(2,_)::(6,_)::(9,_)::(14,_)::(15,_)::(16,_)::(22,_)::(23,_)::(24,_)::Lx) _ _
         refine aw (r_nilCheck rfl) ?_
         exact at_nil k
        ·intro Lx g462 s K hl hh k
         show At 46 ((33,_)::(0,_)::(1,_)::(2,_)::(6,_)::(9,_)::(14,_)::(15,_)::(16,_)::(22,_)::(23,_)::(24,_)::Lx) _ _
         refine fa 36 underlying63 rfl sizeOf30 ?_
         exact at_nil k
        ·intro Lx g462 s K hl hh k
         show At 46 ((34,_)::(0,_)::(1,_)::(2,_)::(6,_)::(9,_)::(14,_)::(15,_)::(16,_)::(22,_)::(23,_)::(24,_)::Lx) _ _
         rcases (by omega:s=0∨s=1) with rfl | rfl
         ·skip
          refine aw (r_load_cell isAgg30 rfl (lens_cell0 (c:=cHd) (y:=⟨((gq438,(p440,c441),(p442,c443)).2.2).1,List.length i437.f_out,((gq438,(p440,c441),(p442,c443)).2.2).2⟩) (.s (.s (.s .z))) (c_lint_finder_f_out (gq438,(p440,c441),(p442,c443)) i437) rfl)) ?_
          exact at_nil k
         skip
         refine aw (r_load_cell isAgg30 rfl (lens_cell0 (c:=cHd) (y:=⟨((gq438,(p440,c441),(p442,c443)).2.2).1,List.length i437.f_out,((gq438,(p440,c441),(p442,c443)).2.2).2⟩) (.s (.s (.s (.s .z)))) (c_lint_finder_f_out (gq438,(p440,c441),(p442,c443)) i437) rfl)) ?_
         exact at_nil k
        ·intro Lx g462 s K hl hh k
         show At 46 ((0,_)::(1,_)::(2,_)::(6,_)::(9,_)::(14,_)::(15,_)::(16,_)::(22,_)::(23,_)::(24,_)::Lx) _ _
         refine am ?_
         exact at_nil k
        ·intro Lx g462 s K hl hh k
         show At 46 ((0,_)::(1,_)::(2,_)::(6,_)::(9,_)::(14,_)::(15,_)::(16,_)::(22,_)::(23,_)::(24,_)::Lx) _ _
         refine am ?_
         exact at_nil k
        ·intro Lx g462 s K hl hh k
         show At 46 ((0,_)::(1,_)::(2,_)::(6,_)::(9,_)::(14,_)::(15,_)::(16,_)::(22,_)::(23,_)::(24,_)::Lx) _ _
         obtain rfl:s=0:=by omega
         refine aw (r_load_aggc (c:=c_api_Prefix) (z:=lget ((lget q360.f_c.f_Peers i403).f_Allowed) i436) isAgg38 sizeOf38 rfl (lens_cell .z lw)) ?_
         exact at_nil k
        ·intro Lx g462 s K hl hh k
         show At 46 ((36,_)::(37,_)::(38,_)::(0,_)::(1,_)::(2,_)::(6,_)::(9,_)::(14,_)::(15,_)::(16,_)::(22,_)::(23,_)::(24,_)::Lx) _ _
         obtain rfl:s=0:=by omega
         refine aw (r_build_struct (zs:=Cd.cs c_lint_Odd zv12) (cs:=Cd.cs c_lint_Odd ({ { { zv12 with f_Kind:=5 } with f_Peer:=i403 } with f_P:=lget ((lget q360.f_c.f_Peers i403).f_Allowed) i436 })) underlying40 zeroValue40 rfl (places_lint_Odd_40) rfl (fill_step (c:=(cInt .i64)) (z:=5) rfl (c_lint_Odd_f_Kind zv12) rfl (fill_step (c:=(cInt .i64)) (z:=i403) rfl (c_lint_Odd_f_Peer ({ zv12 with f_Kind:=5 })) rfl (fill_step (c:=c_api_Prefix) (z:=lget ((lget q360.f_c.f_Peers i403).f_Allowed) i436) rfl (c_lint_Odd_f_P ({ { zv12 with f_Kind:=5 } with f_Peer:=i403 })) rfl rfl)))) ?_
         exact at_nil k
        ·intro Lx g462 K k
         show At 46 ((39,_)::(0,_)::(1,_)::(2,_)::(6,_)::(9,_)::(14,_)::(15,_)::(16,_)::(22,_)::(23,_)::(24,_)::Lx) _ _
         refine at_litL (c:=c_lint_Odd) ([zv12]:List S_lint_Odd) ([{ { { zv12 with f_Kind:=5 } with f_Peer:=i403 } with f_P:=lget ((lget q360.f_c.f_Peers i403).f_Allowed) i436 }]:List S_lint_Odd) underlying30 sizeOf40 zeroValue40 rfl rfl rfl (by kernel_rfl) (fill_step (c:=c_lint_Odd) (z:={ { { zv12 with f_Kind:=5 } with f_Peer:=i403 } with f_P:=lget ((lget q360.f_c.f_Peers i403).f_Allowed) i436 }) rfl (Lens.all c_lint_Odd ([zv12]:List S_lint_Odd) 0 (by first | decide | exact Nat.le_of_ble_eq_true rfl)) rfl rfl) rfl ?_
         intro b458
         exact at_nil (k (g3 b458 none 0 none w))
        ·intro Lx g462 K k
         show At 46 ((35,_)::(40,_)::(0,_)::(1,_)::(2,_)::(6,_)::(9,_)::(14,_)::(15,_)::(16,_)::(22,_)::(23,_)::(24,_)::Lx) _ _
         refine at_append (z:=.agg (Cd.cs c_lint_Odd zv12).toArray) (c:=c_lint_Odd) (ys:=([{ { { zv12 with f_Kind:=5 } with f_Peer:=i403 } with f_P:=lget ((lget q360.f_c.f_Peers i403).f_Allowed) i436 }]:List S_lint_Odd)) (.s (.s (.s (.s (.s (.s .z)))))) underlying30 infoV540 (by kernel_rfl) (by kernel_rfl) rfl rfl rfl rfl (fun _ hw=>cells_src (hw.ok (Upd.mem .z))) (by kernel_rfl) h459 (app_small h459) rfl ?_
         intro p460 c461
         exact at_nil (k (g3 0 p460 c461 none w))
        ·intro Lx g462 s K hl hh k
         show At 46 ((31,_)::(0,_)::(1,_)::(2,_)::(6,_)::(9,_)::(14,_)::(15,_)::(16,_)::(22,_)::(23,_)::(24,_)::Lx) _ _
         refine aw (r_nilCheck rfl) ?_
         exact at_nil k
        ·intro Lx g462 s K hl hh k
         show At 46 ((42,_)::(0,_)::(1,_)::(2,_)::(6,_)::(9,_)::(14,_)::(15,_)::(16,_)::(22,_)::(23,_)::(24,_)::Lx) _ _
         refine fa 36 underlying63 rfl sizeOf30 ?_
         exact at_nil k
        ·intro Lx g462 K k
         show At 46 ((41,_)::(43,_)::(0,_)::(1,_)::(2,_)::(6,_)::(9,_)::(14,_)::(15,_)::(16,_)::(22,_)::(23,_)::(24,_)::Lx) _ _
         refine at_store (c:=cSv S_lint_Odd) (z:=((((g462 1).2.1),((g462 1).2.2.1)),i437.f_out++[{ { { zv12 with f_Kind:=5 } with f_Peer:=i403 } with f_P:=lget ((lget q360.f_c.f_Peers i403).f_Allowed) i436 }])) (.s (.s (.s (.s .z)))) (c_lint_finder_f_out_sv (gq438,(p440,c441),(p442,c443)) i437) sizeOf30 rfl rfl rfl ?_
         exact at_nil k
        intro g462
        show At 46 [(31,_),(32,_),(33,_),(34,_),(35,_),(36,_),(37,_),(38,_),(39,_),(40,_),(41,_),(42,_),(43,_),(0,_),(1,_),(2,_),(6,_),(9,_),(14,_),(15,_),(16,_),(22,_),(23,_),(24,_)] _ _
        refine dz (dz (wq [24,23,22,16,15,14,6,2,1,0] ?_))
        refine bm ?_
        refine qr (aw xa (am (nwq [24,23,22,16,15,14,6,2,1,0] ?_)))
        exact at_weak_k (ih _ _ _ hF K gq438 hk439 p440 c441 (g462 1).2.1 (g462 1).2.2.1) ⟨rfl,rfl,rfl,rfl,rfl,rfl,rfl,rfl,rfl,rfl,trivial⟩
       refine cf h457 ?_
       refine at_skip ?_
       refine bm ?_
       refine qr (aw xa (am (qn (dz (wq [24,23,22,16,15,14,6,2,1,0] ?_)))))
       refine tn ?_
       exact at_weak_k (ih _ _ _ hF K gq438 hk439 p440 c441 p442 c443) ⟨rfl,rfl,rfl,rfl,rfl,rfl,rfl,rfl,rfl,rfl,trivial⟩
      refine cf h450 ?_
      refine at_exit ?_
      refine te (te ?_)
      obtain rfl:=os hF
      exact at_weak_k (K gq438 hk439 p440 c441 p442 c443) ⟨rfl,rfl,rfl,rfl,rfl,rfl,trivial⟩
    skip
    intro gq444 hk445 p446 c447 p448 c449
    refine at_blk_same ?_
    refine bm ?_
    refine qr (aw xa (am (nwq [16,15,14,2,1,0] ?_)))
    exact at_weak_k (ih _ _ _ hF K gq444 hk445 p446 c447 p448 c449) ⟨rfl,rfl,rfl,rfl,rfl,rfl,trivial⟩
   refine cf h417 ?_
   refine at_exit ?_
   refine te (te ?_)
   refine dz (dz ?_)
   obtain rfl:=os hF
   exact at_weak_k (K gq405 hk406 p407 c408 p409 c410) trivial
 skip
 intro gq411 hk412 p413 c414 p415 c416
 refine at_blk_same ?_
 refine at_retI0 rfl ?_
 refine nwx [3] ?_
 refine am (am ?_)
 refine aw (r_makeFuncB rfl) ?_
 refine at_callI func25 rfl (by kernel_rfl) rfl rfl rfl rfl ?_
 refine sr (am ?_)
 refine aw (r_nilCheck rfl) ?_
 refine fa 0 underlying63 rfl sizeOf27 (fa 34 underlying27 rfl sizeOf25 ?_)
 refine aw (r_load_cell isAgg25 rfl (lens_cell0 (c:=cHd) (y:=⟨gq411.1,List.length q402.f_c.f_Peers,gq411.2⟩) .z (Lens.comp0 (c_lint_finder_f_c (gq411,(p413,c414),(p415,c416)) q402) (c_api_Conf_f_Peers gq411 q402.f_c)) rfl)) ?_
 refine aw (r_len_sl underlying25 rfl) ?_
 refine am (nwq [16,15,14,2,1,0] ?_)
 refine qb ?_
 obtain ⟨q469,hq469,hF⟩:=bM hF
 refine wq [16,15,14,2,1,0] ?_
 refine at_loop_n (B:=0) (A:=fun Y=>∀ (gq478:G_api_Conf) (hk479:N_api_Conf w (gq478,q469.f_c)) (p480:Option Addr) (c481:Nat) (p482:Option Addr) (c483:Nat),At 46 [] (Wd w [cellsE (g8 1).1 (Cd.cs c_lint_finder ((gq478,(p480,c481),(p482,c483)),q469)) 63,rowE c_api_Entry 49 p480 c481 q469.f_own,rowE c_lint_Odd 40 p482 c483 q469.f_out]) Y) ?_ ?_
 ·intro K
  refine lint_All.l15.partial_correctness q402 (motive:=fun i470 i471 x=>KN (fun Y=>∀ (gq478:G_api_Conf) (hk479:N_api_Conf w (gq478,x.f_c)) (p480:Option Addr) (c481:Nat) (p482:Option Addr) (c483:Nat),At 46 [] (Wd w [cellsE (g8 1).1 (Cd.cs c_lint_finder ((gq478,(p480,c481),(p482,c483)),x)) 63,rowE c_api_Entry 49 p480 c481 x.f_own,rowE c_lint_Odd 40 p482 c483 x.f_out]) Y) _ 0→Round (fun Y=>∀ (gq472:G_api_Conf) (hk473:N_api_Conf w (gq472,i471.f_c)) (p474:Option Addr) (c475:Nat) (p476:Option Addr) (c477:Nat),At 46 [(0,.pointer (some ⟨(g8 1).1,0,none⟩)),(1,.int .i64 6),(2,.func (.func 27) #[.pointer (some ⟨(g8 1).1,0,none⟩)] #[]),(14,.slice gq411.1 q402.f_c.f_Peers.length gq411.2),(15,.int .i64 (q402.f_c.f_Peers.length:Int)),(16,.int .i64 i470)] (Wd w [cellsE (g8 1).1 (Cd.cs c_lint_finder ((gq472,(p474,c475),(p476,c477)),i471)) 63,rowE c_api_Entry 49 p474 c475 i471.f_own,rowE c_lint_Odd 40 p476 c477 i471.f_out]) Y) _ _ _) ?_ _ _ _ hq469 K gq411 hk412 p413 c414 p415 c416
  ·clear K hF
   intro g ih i470 i471 x hF K gq472 hk473 p474 c475 p476 c477
   refine at_round ?_
   refine sr (aw xl (nwq [17,16,15,14,2,1,0] ?_))
   refine qs ?_
   obtain ⟨h484,hF⟩|⟨h484,hF⟩:=oi hF
   ·refine ct h484 ?_
    refine sn (qs ?_)
    refine qb ?_
    refine sr (am ?_)
    obtain ⟨h485,hF⟩:=gd hF
    obtain ⟨zs489,hz490,hr491,hn492⟩:=id hk412
    obtain ⟨b487,o488,hp486⟩:=row_ptr hr491 (zidx hz490 h485)
    obtain ⟨g493,hg494⟩:=zget hz490 i470
    refine aw (r_idx underlying25 sizeOf60 rfl rfl h485 hp486) ?_
    refine aw (r_load_aggc (c:=c_api_Peer) (z:=(g493,lget q402.f_c.f_Peers i470)) isAgg60 sizeOf60 rfl (ncell (fun _ h=>h.below) hr491 (zidx hz490 h485) hp486 hg494)) ?_
    refine al (cs:=Cd.cs c_api_Peer zv14) zeroValue60 ?_
    intro b495
    refine aa ?_
    refine at_store (c:=c_api_Peer) (z:=(g493,lget q402.f_c.f_Peers i470)) .z lw sizeOf60 rfl rfl rfl ?_
    refine ns (fa 85 underlying60 rfl sizeOf58 ?_)
    refine aw (r_load_cell isAgg58 rfl (lens_cell0 (c:=cHd) (y:=⟨g493.1,List.length ((lget q402.f_c.f_Peers i470).f_Allowed),g493.2⟩) .z (c_api_Peer_f_Allowed g493 (lget q402.f_c.f_Peers i470)) rfl)) ?_
    refine aw (r_len_sl underlying58 rfl) ?_
    refine am (qn (dz (wq [24,23,22,16,15,14,6,2,1,0] ?_)))
    refine tn ?_
    refine qb ?_
    obtain ⟨q502,hq502,hF⟩:=bM hF
    refine wq [24,23,22,16,15,14,6,2,1,0] ?_
    refine at_loop_n (B:=2) (A:=fun Y=>∀ (gq511:G_api_Conf) (hk512:N_api_Conf w (gq511,q502.f_c)) (p513:Option Addr) (c514:Nat) (p515:Option Addr) (c516:Nat),At 46 [(0,.pointer (some ⟨(g8 1).1,0,none⟩)),(1,.int .i64 6),(2,.func (.func 27) #[.pointer (some ⟨(g8 1).1,0,none⟩)] #[]),(14,.slice gq411.1 q402.f_c.f_Peers.length gq411.2),(15,.int .i64 (q402.f_c.f_Peers.length:Int)),(16,.int .i64 i470)] (Wd w [cellsE (g8 1).1 (Cd.cs c_lint_finder ((gq511,(p513,c514),(p515,c516)),q502)) 63,rowE c_api_Entry 49 p513 c514 q502.f_own,rowE c_lint_Odd 40 p515 c516 q502.f_out]) Y) ?_ ?_
    ·intro K
     refine lint_All.l16.partial_correctness q402 i470 (motive:=fun i503 i504 x=>KN (fun Y=>∀ (gq511:G_api_Conf) (hk512:N_api_Conf w (gq511,x.f_c)) (p513:Option Addr) (c514:Nat) (p515:Option Addr) (c516:Nat),At 46 [(0,.pointer (some ⟨(g8 1).1,0,none⟩)),(1,.int .i64 6),(2,.func (.func 27) #[.pointer (some ⟨(g8 1).1,0,none⟩)] #[]),(14,.slice gq411.1 q402.f_c.f_Peers.length gq411.2),(15,.int .i64 (q402.f_c.f_Peers.length:Int)),(16,.int .i64 i470)] (Wd w [cellsE (g8 1).1 (Cd.cs c_lint_finder ((gq511,(p513,c514),(p515,c516)),x)) 63,rowE c_api_Entry 49 p513 c514 x.f_own,rowE c_lint_Odd 40 p515 c516 x.f_out]) Y) _ 2→Round (fun Y=>∀ (gq505:G_api_Conf) (hk506:N_api_Conf w (gq505,i504.f_c)) (p507:Option Addr) (c508:Nat) (p509:Option Addr) (c510:Nat),At 46 [(0,.pointer (some ⟨(g8 1).1,0,none⟩)),(1,.int .i64 6),(2,.func (.func 27) #[.pointer (some ⟨(g8 1).1,0,none⟩)] #[]),(6,.int .i64 i470),(14,.slice gq411.1 q402.f_c.f_Peers.length gq411.2),(15,.int .i64 (q402.f_c.f_Peers.length:Int)),(16,.int .i64 i470),(22,.slice g493.1 ((lget q402.f_c.f_Peers i470).f_Allowed).length g493.2),(23,.int .i64 (((lget q402.f_c.f_Peers i470).f_Allowed).length:Int)),(24,.int .i64 i503)] (Wd w [cellsE (g8 1).1 (Cd.cs c_lint_finder ((gq505,(p507,c508),(p509,c510)),i504)) 63,rowE c_api_Entry 49 p507 c508 i504.f_own,rowE c_lint_Odd 40 p509 c510 i504.f_out]) Y) _ _ _) ?_ _ _ _ hq502 K gq472 hk473 p474 c475 p476 c477
     ·clear K hF
      intro g ih i503 i504 x hF K gq505 hk506 p507 c508 p509 c510
      refine at_round ?_
      refine sr (aw xl (nwq [25,24,23,22,16,15,14,6,2,1,0] ?_))
      refine qs ?_
      obtain ⟨h517,hF⟩|⟨h517,hF⟩:=oi hF
      ·refine ct h517 ?_
       refine sn (qs ?_)
       refine qb ?_
       refine sr ?_
       obtain ⟨h518,hF⟩:=gd hF
       obtain ⟨b520,o521,hp519⟩:=row_ptr (nz hg494 hn492 (zidx hz490 h485)) h518
       refine aw (r_idx underlying58 sizeOf38 rfl rfl h518 hp519) ?_
       refine aw (r_load_aggc (c:=c_api_Prefix) (z:=lget ((lget q402.f_c.f_Peers i470).f_Allowed) i503) isAgg38 sizeOf38 rfl (row_cell (fun _ h=>h.below) (nz hg494 hn492 (zidx hz490 h485)) h518 hp519)) ?_
       refine al (cs:=Cd.cs c_api_Prefix zv9) zeroValue38 ?_
       intro b522
       refine at_store (c:=c_api_Prefix) (z:=lget ((lget q402.f_c.f_Peers i470).f_Allowed) i503) .z lw sizeOf38 rfl rfl rfl ?_
       refine nwx [24,23,22,16,15,14,9,6,2,1,0] ?_
       refine am ?_
       refine aw (r_load_aggc (c:=c_api_Prefix) (z:=lget ((lget q402.f_c.f_Peers i470).f_Allowed) i503) isAgg38 sizeOf38 rfl (lens_cell .z lw)) ?_
       refine at_calleeB (bnds:=[.pointer (some ⟨(g8 1).1,0,none⟩)]) rfl ?_
       refine at_callI func27 rfl (by kernel_rfl) rfl rfl rfl rfl ?_
       refine sr ?_
       refine at_box (cs:=Cd.cs c_api_Prefix (lget ((lget q402.f_c.f_Peers i470).f_Allowed) i503)) rfl rfl rfl ?_
       intro b523
       refine aa (ns (aa (nt (qs (sr (am ?_))))))
       refine aw (r_nilCheck rfl) ?_
       refine fa 35 underlying63 rfl sizeOf46 ?_
       refine aw (r_load_cell isAgg46 rfl (lens_cell0 (c:=cHd) (y:=⟨((gq505,(p507,c508),(p509,c510)).2.1).1,List.length i504.f_own,((gq505,(p507,c508),(p509,c510)).2.1).2⟩) (.s (.s .z)) (c_lint_finder_f_own (gq505,(p507,c508),(p509,c510)) i504) rfl)) ?_
       refine aw (r_len_sl underlying46 rfl) ?_
       refine am (nwq [14,13,12,5,3] ?_)
       refine qb ?_
       refine at_own_nil c_api_Prefix 38 ?_
       obtain ⟨q526,hq526,hF⟩:=bM hF
       refine wq [14,13,12,5,3] ?_
       refine at_loop_n (B:=0) (A:=fun Y=>∀ (p531:Option Addr) (c532:Nat),At 48 [(3,.pointer (some ⟨b523,0,none⟩)),(5,.slice p531 q526.length c532)] (Wd w [rowE c_api_Prefix 38 p531 c532 q526,cellsE b523 (Cd.cs c_api_Prefix (lget ((lget q402.f_c.f_Peers i470).f_Allowed) i503)) 38,cellsE b522 (Cd.cs c_api_Prefix (lget ((lget q402.f_c.f_Peers i470).f_Allowed) i503)) 38,cellsE (g8 1).1 (Cd.cs c_lint_finder ((gq505,(p507,c508),(p509,c510)),i504)) 63,rowE c_api_Entry 49 p507 c508 i504.f_own,rowE c_lint_Odd 40 p509 c510 i504.f_out]) Y) ?_ ?_
       ·intro K
        refine lint_All.l17.partial_correctness q402 i470 i503 i504 (motive:=fun i527 i528 x=>KN (fun Y=>∀ (p531:Option Addr) (c532:Nat),At 48 [(3,.pointer (some ⟨b523,0,none⟩)),(5,.slice p531 x.length c532)] (Wd w [rowE c_api_Prefix 38 p531 c532 x,cellsE b523 (Cd.cs c_api_Prefix (lget ((lget q402.f_c.f_Peers i470).f_Allowed) i503)) 38,cellsE b522 (Cd.cs c_api_Prefix (lget ((lget q402.f_c.f_Peers i470).f_Allowed) i503)) 38,cellsE (g8 1).1 (Cd.cs c_lint_finder ((gq505,(p507,c508),(p509,c510)),i504)) 63,rowE c_api_Entry 49 p507 c508 i504.f_own,rowE c_lint_Odd 40 p509 c510 i504.f_out]) Y) _ 0→Round (fun Y=>∀ (p529:Option Addr) (c530:Nat),At 48 [(3,.pointer (some ⟨b523,0,none⟩)),(5,.slice p529 i527.length c530),(12,.slice p507 i504.f_own.length c508),(13,.int .i64 (i504.f_own.length:Int)),(14,.int .i64 i528)] (Wd w [rowE c_api_Prefix 38 p529 c530 i527,cellsE b523 (Cd.cs c_api_Prefix (lget ((lget q402.f_c.f_Peers i470).f_Allowed) i503)) 38,cellsE b522 (Cd.cs c_api_Prefix (lget ((lget q402.f_c.f_Peers i470).f_Allowed) i503)) 38,cellsE (g8 1).1 (Cd.cs c_lint_finder ((gq505,(p507,c508),(p509,c510)),i504)) 63,rowE c_api_Entry 49 p507 c508 i504.f_own,rowE c_lint_Odd 40 p509 c510 i504.f_out]) Y) _ _ _) ?_ _ _ _ hq526 K none 0
        ·clear K hF
         intro g ih i527 i528 x hF K p529 c530
         refine at_round ?_
         refine sr (aw xl (nwq [15,14,13,12,5,3] ?_))
         refine qs ?_
         obtain ⟨h533,hF⟩|⟨h533,hF⟩:=oi hF
         ·refine ct h533 ?_
          refine sn (qs ?_)
          refine qb ?_
          refine sr ?_
          obtain ⟨h534,hF⟩:=gd hF
          refine at_pure (φ:=∃ b o,p507=some ⟨b,o,none⟩) (fun _ hw=>row_ptr (hw.own (.s (.s (.s (.s .z))))).row h534) ?_
          rintro ⟨b536,o537,hp535⟩
          refine aw (r_idx underlying46 sizeOf49 rfl rfl h534 hp535) ?_
          refine aw (r_load_aggc (c:=c_api_Entry) (z:=lget i504.f_own i528) isAgg49 sizeOf49 rfl (fun w1 hw=>row_cell (W:=fun w1=>w1=_) (fun w1 h=>by subst h;exact Below.refl _ _) (hw.own (.s (.s (.s (.s .z))))).row h534 hp535 _ rfl)) ?_
          refine al (cs:=Cd.cs c_api_Entry zv13) zeroValue49 ?_
          intro b538
          refine at_store (c:=c_api_Entry) (z:=lget i504.f_own i528) .z lw sizeOf49 rfl rfl rfl ?_
          refine nwx [14,13,12,7,5,3] ?_
          refine fa 0 underlying49 rfl sizeOf38 (fa 17 underlying38 rfl sizeOf3 ?_)
          refine aw (r_load_cell isAgg3 rfl (lens_cell0 (c:=(cInt .i64)) (y:=((lget i504.f_own i528).f_P).f_Bits) .z (Lens.comp (Lens.comp lw (fun z=>{ lget i504.f_own i528 with f_P:=z }) (c_api_Entry_f_P (lget i504.f_own i528))) (fun z=>{ (lget i504.f_own i528).f_P with f_Bits:=z }) (c_api_Prefix_f_Bits ((lget i504.f_own i528).f_P))) rfl)) ?_
          refine fa 17 underlying38 rfl sizeOf3 ?_
          refine aw (r_load_cell isAgg3 rfl (lens_cell0 (c:=(cInt .i64)) (y:=(lget ((lget q402.f_c.f_Peers i470).f_Allowed) i503).f_Bits) (.s (.s .z)) (Lens.comp lw (fun z=>{ lget ((lget q402.f_c.f_Peers i470).f_Allowed) i503 with f_Bits:=z }) (c_api_Prefix_f_Bits (lget ((lget q402.f_c.f_Peers i470).f_Allowed) i503))) rfl)) ?_
          refine aw (r_igtr rfl rfl) ?_
          refine am ?_
          obtain ⟨h539,hF⟩|⟨h539,hF⟩:=oi hF
          ·refine fx 24 h539 ?_
           refine gy ?_
           refine aw (r_load_aggc (c:=c_api_Prefix) (z:=lget ((lget q402.f_c.f_Peers i470).f_Allowed) i503) isAgg38 sizeOf38 rfl (lens_cell (.s (.s .z)) lw)) ?_
           refine gy ?_
           refine fa 0 underlying49 rfl sizeOf38 ?_
           refine gy ?_
           refine aw (r_load_aggc (c:=c_api_Prefix) (z:=(lget i504.f_own i528).f_P) isAgg38 sizeOf38 rfl (lens_cell .z (Lens.comp lw (fun z=>{ lget i504.f_own i528 with f_P:=z }) (c_api_Entry_f_P (lget i504.f_own i528))))) ?_
           refine gy ?_
           obtain ⟨t540,ht540,hF⟩:=bM hF
           refine cB func49 rfl (fun w hw=>cidr_Covers_ok _ _ _ ht540 w) ?_
           refine aw xp (nwq [29,14,13,12,7,5,3] ?_)
           obtain ⟨h541,hF⟩|⟨h541,hF⟩:=oi hF
           ·refine ct h541 ?_
            refine qr (am (fa 0 underlying49 rfl sizeOf38 ?_))
            refine aw (r_load_aggc (c:=c_api_Prefix) (z:=(lget i504.f_own i528).f_P) isAgg38 sizeOf38 rfl (lens_cell .z (Lens.comp lw (fun z=>{ lget i504.f_own i528 with f_P:=z }) (c_api_Entry_f_P (lget i504.f_own i528))))) ?_
            refine at_litL (c:=c_api_Prefix) ([zv9]:List S_api_Prefix) ([(lget i504.f_own i528).f_P]:List S_api_Prefix) underlying58 sizeOf38 zeroValue38 rfl rfl rfl (by kernel_rfl) (fill_step (c:=c_api_Prefix) (z:=(lget i504.f_own i528).f_P) rfl (Lens.all c_api_Prefix ([zv9]:List S_api_Prefix) 0 (by first | decide | exact Nat.le_of_ble_eq_true rfl)) rfl rfl) rfl ?_
            intro b542
            obtain ⟨h543,hF⟩:=gd hF
            refine at_append (z:=.agg (Cd.cs c_api_Prefix zv9).toArray) (c:=c_api_Prefix) (ys:=([(lget i504.f_own i528).f_P]:List S_api_Prefix)) (.s (.s .z)) underlying58 infoV538 (by kernel_rfl) (by kernel_rfl) rfl rfl rfl rfl (fun _ hw=>cells_src (hw.ok (Upd.mem .z))) (by kernel_rfl) h543 (app_small h543) rfl ?_
            intro p544 c545
            refine aa (qn (dz (dz (wq [14,13,12,5,3] ?_))))
            refine bm ?_
            refine qr (aw xa (am (nwq [14,13,12,5,3] ?_)))
            exact at_weak_k (ih _ _ _ hF K p544 c545) ⟨rfl,rfl,rfl,rfl,rfl,trivial⟩
           refine cf h541 ?_
           refine at_skip ?_
           refine bm ?_
           refine qr (aw xa (am (qn (dz (wq [14,13,12,5,3] ?_)))))
           refine tn ?_
           exact at_weak_k (ih _ _ _ hF K p529 c530) ⟨rfl,rfl,rfl,rfl,rfl,trivial⟩
          refine fx 24 h539 ?_
          refine gn ?_
          refine gn ?_
          refine gn ?_
          refine gn ?_
          refine aw xp (nwq [29,14,13,12,7,5,3] ?_)
          refine cf rfl ?_
          refine at_skip ?_
          refine bm ?_
          refine qr (aw xa (am (qn (dz (wq [14,13,12,5,3] ?_)))))
          refine tn ?_
          exact at_weak_k (ih _ _ _ hF K p529 c530) ⟨rfl,rfl,rfl,rfl,rfl,trivial⟩
         refine cf h533 ?_
         refine at_exit ?_
         refine te (te ?_)
         obtain rfl:=os hF
         exact at_weak_k (K p529 c530) ⟨rfl,rfl,trivial⟩
       skip
       intro p531 c532
       refine at_blk_same ?_
       refine tn (sr (am ?_))
       obtain ⟨t546,ht546,hF⟩:=bM hF
       refine at_callO (c:=c_api_Prefix) (e:=38) (ys:=t546) (V:=fun p cap=>.slice p t546.length cap) func50 rfl (by kernel_rfl) rfl rfl (fun w hw=>aggregate_Cover_ok _ _ _ _ ht546 w (hw.own .z).row) ?_
       intro p547 c548
       refine aa (qn ?_)
       refine at_drop (H:=_) (.s .z) ?_
       refine tn (qs (wq [8,3] ?_))
       obtain ⟨h549,hF⟩|⟨h549,hF⟩:=oi hF
       ·skip
        obtain ⟨h550,hF⟩:=gd hF
        refine at_pure (φ:=∃ b o,p547=some ⟨b,o,none⟩) (fun _ hw=>row_ptr (hw.own .z).row h550) ?_
        rintro ⟨b552,o553,hp551⟩
        refine at_inv [.q 38 (fun g554=>.slice p547 t546.length c548) [] 0 0,.q 39 (fun g554=>.int .i64 (t546.length:Int)) [0] 0 0,.q 40 (fun g554=>.bool ((t546.length:Int)==1)) [1] 0 0,.q 41 (fun g554=>.bool true) [2] 0 0,.q 42 (fun g554=>.slice p547 t546.length c548) [3] 0 0,.q 43 (fun g554=>.pointer (some ⟨b552,o553+Int.toNat 0*18,none⟩)) [3,4] 0 0,.q 44 (fun g554=>.agg (Cd.cs c_api_Prefix (lget t546 0)).toArray) [3,5] 0 0,.q 45 (fun g554=>.agg (Cd.cs c_api_Prefix (lget ((lget q402.f_c.f_Peers i470).f_Allowed) i503)).toArray) [3] 0 0,.q 46 (fun g554=>.bool (decide (lget t546 0=lget ((lget q402.f_c.f_Peers i470).f_Allowed) i503))) [3,6,7] 0 0,.q 47 (fun g554=>.bool (decide (lget t546 0=lget ((lget q402.f_c.f_Peers i470).f_Allowed) i503))) [3,8] 0 0,.q 4 (fun g554=>.bool (decide (lget t546 0=lget ((lget q402.f_c.f_Peers i470).f_Allowed) i503))) [9] 0 0] (fun g554 s=>match s with | _=>(Wd w [rowE c_api_Prefix 38 p547 c548 t546,cellsE b523 (Cd.cs c_api_Prefix (lget ((lget q402.f_c.f_Peers i470).f_Allowed) i503)) 38,cellsE b522 (Cd.cs c_api_Prefix (lget ((lget q402.f_c.f_Peers i470).f_Allowed) i503)) 38,cellsE (g8 1).1 (Cd.cs c_lint_finder ((gq505,(p507,c508),(p509,c510)),i504)) 63,rowE c_api_Entry 49 p507 c508 i504.f_own,rowE c_lint_Odd 40 p509 c510 i504.f_out])) 0 (by kernel_rfl) (by kernel_rfl) (by kernel_rfl) (by kernel_rfl) (by kernel_rfl) ⟨fun _ _ _=>rfl,fun _ _ _=>rfl,fun _ _ _=>rfl,fun _ _ _=>rfl,fun _ _ _=>rfl,fun _ _ _=>rfl,fun _ _ _=>rfl,fun _ _ _=>rfl,fun _ _ _=>rfl,fun _ _ _=>rfl,fun _ _ _=>rfl,trivial⟩ (by kernel_rfl) (fun w_ h=>⟨fun _=>g3 0 none 0 none w_,h.drew⟩) ⟨?_,?_,?_,?_,?_,?_,?_,?_,?_,?_,?_,trivial⟩ ?_
        ·intro Lx g554 s K hl hh k
         show At 48 ((3,_)::(8,_)::Lx) _ _
         refine am ?_
         exact at_nil k
        ·intro Lx g554 s K hl hh k
         show At 48 ((38,_)::(3,_)::(8,_)::Lx) _ _
         obtain rfl:s=0:=by omega
         refine aw (r_len_sl underlying58 rfl) ?_
         exact at_nil k
        ·intro Lx g554 s K hl hh k
         show At 48 ((39,_)::(3,_)::(8,_)::Lx) _ _
         refine aw xq ?_
         exact at_nil k
        ·intro Lx g554 s K hl hh k
         show At 48 ((40,_)::(3,_)::(8,_)::Lx) _ _
         refine am ?_
         exact at_nil (at_cast h549 k)
        ·intro Lx g554 s K hl hh k
         show At 48 ((41,_)::(3,_)::(8,_)::Lx) _ _
         refine gy ?_
         refine am ?_
         exact at_nil k
        ·intro Lx g554 s K hl hh k
         show At 48 ((41,_)::(42,_)::(3,_)::(8,_)::Lx) _ _
         refine gy ?_
         refine aw (r_idx underlying58 sizeOf38 rfl rfl h550 hp551) ?_
         exact at_nil k
        ·intro Lx g554 s K hl hh k
         show At 48 ((41,_)::(43,_)::(3,_)::(8,_)::Lx) _ _
         refine gy ?_
         obtain rfl:s=0:=by omega
         refine aw (r_load_aggc (c:=c_api_Prefix) (z:=lget t546 0) isAgg38 sizeOf38 rfl (fun w1 hw=>row_cell (W:=fun w1=>w1=_) (fun w1 h=>by subst h;exact Below.refl _ _) (hw.own .z).row h550 hp551 _ rfl)) ?_
         exact at_nil k
        ·intro Lx g554 s K hl hh k
         show At 48 ((41,_)::(3,_)::(8,_)::Lx) _ _
         refine gy ?_
         obtain rfl:s=0:=by omega
         refine aw (r_load_aggc (c:=c_api_Prefix) (z:=lget ((lget q402.f_c.f_Peers i470).f_Allowed) i503) isAgg38 sizeOf38 rfl (lens_cell (.s .z) lw)) ?_
         exact at_nil k
        ·intro Lx g554 s K hl hh k
         show At 48 ((41,_)::(44,_)::(45,_)::(3,_)::(8,_)::Lx) _ _
         refine gy ?_
         refine aw (r_eqagg (c:=c_api_Prefix) (a:=lget t546 0) (b:=lget ((lget q402.f_c.f_Peers i470).f_Allowed) i503) (eq_api_Prefix_38) rfl Tryz.eqGuardType38 rfl rfl (.inl rfl) rfl) ?_
         exact at_nil k
        ·intro Lx g554 s K hl hh k
         show At 48 ((41,_)::(46,_)::(3,_)::(8,_)::Lx) _ _
         refine aw xp ?_
         exact at_nil k
        ·intro Lx g554 s K hl hh k
         show At 48 ((47,_)::(3,_)::(8,_)::Lx) _ _
         refine aa ?_
         exact at_nil k
        intro g554
        show At 48 [(38,_),(39,_),(40,_),(41,_),(42,_),(43,_),(44,_),(45,_),(46,_),(47,_),(4,_),(3,_),(8,_)] _ _
        refine dz (dz (wq [4] ?_))
        refine tn (qt ?_)
        refine at_retI1 rfl rfl ?_
        refine nwq [30,24,23,22,16,15,14,9,6,2,1,0] ?_
        obtain ⟨h555,hF⟩|⟨h555,hF⟩:=oi hF
        ·refine ct h555 ?_
         refine wq [24,23,22,16,15,14,9,6,2,1,0] ?_
         obtain ⟨h557,hF⟩:=gd hF
         refine at_inv [.q 31 (fun g560=>.pointer (some ⟨(g8 1).1,0,none⟩)) [] 0 2,.q 32 (fun g560=>.pointer (some ⟨(g8 1).1,0,none⟩)) [] 0 1,.q 33 (fun g560=>.pointer (some ⟨(g8 1).1,0,none⟩)) [1] 0 1,.q 34 (fun g560=>.pointer (some ⟨(g8 1).1,0+36,none⟩)) [2] 0 1,.q 35 (fun g560=>.slice p509 i504.f_out.length c510) [3] 0 1,.q 36 (fun g560=>.int .i64 6) [] 0 0,.q 37 (fun g560=>.int .i64 i470) [] 0 0,.q 38 (fun g560=>.agg (Cd.cs c_api_Prefix (lget ((lget q402.f_c.f_Peers i470).f_Allowed) i503)).toArray) [] 0 0,.q 39 (fun g560=>.agg (Cd.cs c_lint_Odd ({ { { zv12 with f_Kind:=6 } with f_Peer:=i470 } with f_P:=lget ((lget q402.f_c.f_Peers i470).f_Allowed) i503 })).toArray) [5,6,7] 0 0,.al 0 40 (fun g560=>.slice (some ⟨((g560 0).1),0,none⟩) ([{ { { zv12 with f_Kind:=6 } with f_Peer:=i470 } with f_P:=lget ((lget q402.f_c.f_Peers i470).f_Allowed) i503 }]:List S_lint_Odd).length 1) [8],.al 1 41 (fun g560=>.slice ((g560 1).2.1) (i504.f_out++[{ { { zv12 with f_Kind:=6 } with f_Peer:=i470 } with f_P:=lget ((lget q402.f_c.f_Peers i470).f_Allowed) i503 }]).length ((g560 1).2.2.1)) [4,9],.q 42 (fun g560=>.pointer (some ⟨(g8 1).1,0,none⟩)) [0] 2 2,.q 43 (fun g560=>.pointer (some ⟨(g8 1).1,0+36,none⟩)) [11] 2 2,.st 2 none [10,12]] (fun g560 s=>match s with | 0=>(Wd w [cellsE b522 (Cd.cs c_api_Prefix (lget ((lget q402.f_c.f_Peers i470).f_Allowed) i503)) 38,cellsE (g8 1).1 (Cd.cs c_lint_finder ((gq505,(p507,c508),(p509,c510)),i504)) 63,rowE c_api_Entry 49 p507 c508 i504.f_own,rowE c_lint_Odd 40 p509 c510 i504.f_out]) | 1=>(Wd w [cellsE ((g560 0).1) (c_lint_Odd.all ([{ { { zv12 with f_Kind:=6 } with f_Peer:=i470 } with f_P:=lget ((lget q402.f_c.f_Peers i470).f_Allowed) i503 }]:List S_lint_Odd)) 40,cellsE b522 (Cd.cs c_api_Prefix (lget ((lget q402.f_c.f_Peers i470).f_Allowed) i503)) 38,cellsE (g8 1).1 (Cd.cs c_lint_finder ((gq505,(p507,c508),(p509,c510)),i504)) 63,rowE c_api_Entry 49 p507 c508 i504.f_own,rowE c_lint_Odd 40 p509 c510 i504.f_out]) | 2=>(Wd w [cellsE ((g560 0).1) (c_lint_Odd.all ([{ { { zv12 with f_Kind:=6 } with f_Peer:=i470 } with f_P:=lget ((lget q402.f_c.f_Peers i470).f_Allowed) i503 }]:List S_lint_Odd)) 40,cellsE b522 (Cd.cs c_api_Prefix (lget ((lget q402.f_c.f_Peers i470).f_Allowed) i503)) 38,cellsE (g8 1).1 (Cd.cs c_lint_finder ((gq505,(p507,c508),(p509,c510)),i504)) 63,rowE c_api_Entry 49 p507 c508 i504.f_own,rowE c_lint_Odd 40 ((g560 1).2.1) ((g560 1).2.2.1) (i504.f_out++[{ { { zv12 with f_Kind:=6 } with f_Peer:=i470 } with f_P:=lget ((lget q402.f_c.f_Peers i470).f_Allowed) i503 }])]) | _=>(Wd w [cellsE ((g560 0).1) (c_lint_Odd.all ([{ { { zv12 with f_Kind:=6 } with f_Peer:=i470 } with f_P:=lget ((lget q402.f_c.f_Peers i470).f_Allowed) i503 }]:List S_lint_Odd)) 40,cellsE b522 (Cd.cs c_api_Prefix (lget ((lget q402.f_c.f_Peers i470).f_Allowed) i503)) 38,cellsE (g8 1).1 (Cd.cs c_lint_finder ((gq505,(p507,c508),(((g560 1).2.1),((g560 1).2.2.1))),{ i504 with f_out:=i504.f_out++[{ { { zv12 with f_Kind:=6 } with f_Peer:=i470 } with f_P:=lget ((lget q402.f_c.f_Peers i470).f_Allowed) i503 }] })) 63,rowE c_api_Entry 49 p507 c508 i504.f_own,rowE c_lint_Odd 40 ((g560 1).2.1) ((g560 1).2.2.1) (i504.f_out++[{ { { zv12 with f_Kind:=6 } with f_Peer:=i470 } with f_P:=lget ((lget q402.f_c.f_Peers i470).f_Allowed) i503 }])])) 3 (by kernel_rfl) (by kernel_rfl) (by kernel_rfl) (by kernel_rfl) (by kernel_rfl) ⟨fun _ _ _=>rfl,fun _ _ _=>rfl,fun _ _ _=>rfl,fun _ _ _=>rfl,fun _ _ _=>rfl,fun _ _ _=>rfl,fun _ _ _=>rfl,fun _ _ _=>rfl,fun _ _ _=>rfl,fun g560 g2 h=>by show (.slice (some ⟨((g560 0).1),0,none⟩) ([{ { { zv12 with f_Kind:=6 } with f_Peer:=i470 } with f_P:=lget ((lget q402.f_c.f_Peers i470).f_Allowed) i503 }]:List S_lint_Odd).length 1:Value)=.slice (some ⟨((g2 0).1),0,none⟩) ([{ { { zv12 with f_Kind:=6 } with f_Peer:=i470 } with f_P:=lget ((lget q402.f_c.f_Peers i470).f_Allowed) i503 }]:List S_lint_Odd).length 1;rw [h 0 (show 0<1 by decide)],fun g560 g2 h=>by show (.slice ((g560 1).2.1) (i504.f_out++[{ { { zv12 with f_Kind:=6 } with f_Peer:=i470 } with f_P:=lget ((lget q402.f_c.f_Peers i470).f_Allowed) i503 }]).length ((g560 1).2.2.1):Value)=.slice ((g2 1).2.1) (i504.f_out++[{ { { zv12 with f_Kind:=6 } with f_Peer:=i470 } with f_P:=lget ((lget q402.f_c.f_Peers i470).f_Allowed) i503 }]).length ((g2 1).2.2.1);rw [h 1 (show 1<2 by decide)],fun _ _ _=>rfl,fun _ _ _=>rfl,fun _ _ _=>rfl,trivial⟩ (by kernel_rfl) (fun w_ h=>⟨fun _=>g3 0 none 0 none w_,h.drew⟩) ⟨?_,?_,?_,?_,?_,?_,?_,?_,?_,?_,?_,?_,?_,?_,trivial⟩ ?_
         ·intro Lx g560 s K hl hh k
          show At 46 ((0,_)::(1,_)::(2,_)::(6,_)::(9,_)::(14,_)::(15,_)::(16,_)::(22,_)::(23,_)::(24,_)::Lx) _ _
          refine am ?_
          exact at_nil k
         ·intro Lx g560 s K hl hh k
          show At 46 ((0,_)::(1,_)::(2,_)::(6,_)::(9,_)::(14,_)::(15,_)::(16,_)::(22,_)::(23,_)::(24,_)::Lx) _ _
          refine am ?_
          exact at_nil k
         ·intro Lx g560 s K hl hh k
          show At 46 ((32,_)::(0,_)::(1,_)::(2,_)::(6,_)::(9,_)::(14,_)::(15,_)::(16,_)::(22,_)::(23,_)::(24,_)::Lx) _ _
          refine aw (r_nilCheck rfl) ?_
          exact at_nil k
         ·intro Lx g560 s K hl hh k
          show At 46 ((33,_)::(0,_)::(1,_)::(2,_)::(6,_)::(9,_)::(14,_)::(15,_)::(16,_)::(22,_)::(23,_)::(24,_)::Lx) _ _
          refine fa 36 underlying63 rfl sizeOf30 ?_
          exact at_nil k
         ·intro Lx g560 s K hl hh k
          show At 46 ((34,_)::(0,_)::(1,_)::(2,_)::(6,_)::(9,_)::(14,_)::(15,_)::(16,_)::(22,_)::(23,_)::(24,_)::Lx) _ _
          rcases (by omega:s=0∨s=1) with rfl | rfl
          ·skip
           refine aw (r_load_cell isAgg30 rfl (lens_cell0 (c:=cHd) (y:=⟨((gq505,(p507,c508),(p509,c510)).2.2).1,List.length i504.f_out,((gq505,(p507,c508),(p509,c510)).2.2).2⟩) (.s .z) (c_lint_finder_f_out (gq505,(p507,c508),(p509,c510)) i504) rfl)) ?_
           exact at_nil k
          skip
          refine aw (r_load_cell isAgg30 rfl (lens_cell0 (c:=cHd) (y:=⟨((gq505,(p507,c508),(p509,c510)).2.2).1,List.length i504.f_out,((gq505,(p507,c508),(p509,c510)).2.2).2⟩) (.s (.s .z)) (c_lint_finder_f_out (gq505,(p507,c508),(p509,c510)) i504) rfl)) ?_
          exact at_nil k
         ·intro Lx g560 s K hl hh k
          show At 46 ((0,_)::(1,_)::(2,_)::(6,_)::(9,_)::(14,_)::(15,_)::(16,_)::(22,_)::(23,_)::(24,_)::Lx) _ _
          refine am ?_
          exact at_nil k
         ·intro Lx g560 s K hl hh k
          show At 46 ((0,_)::(1,_)::(2,_)::(6,_)::(9,_)::(14,_)::(15,_)::(16,_)::(22,_)::(23,_)::(24,_)::Lx) _ _
          refine am ?_
          exact at_nil k
         ·intro Lx g560 s K hl hh k
          show At 46 ((0,_)::(1,_)::(2,_)::(6,_)::(9,_)::(14,_)::(15,_)::(16,_)::(22,_)::(23,_)::(24,_)::Lx) _ _
          obtain rfl:s=0:=by omega
          refine aw (r_load_aggc (c:=c_api_Prefix) (z:=lget ((lget q402.f_c.f_Peers i470).f_Allowed) i503) isAgg38 sizeOf38 rfl (lens_cell .z lw)) ?_
          exact at_nil k
         ·intro Lx g560 s K hl hh k
          show At 46 ((36,_)::(37,_)::(38,_)::(0,_)::(1,_)::(2,_)::(6,_)::(9,_)::(14,_)::(15,_)::(16,_)::(22,_)::(23,_)::(24,_)::Lx) _ _
          obtain rfl:s=0:=by omega
          refine aw (r_build_struct (zs:=Cd.cs c_lint_Odd zv12) (cs:=Cd.cs c_lint_Odd ({ { { zv12 with f_Kind:=6 } with f_Peer:=i470 } with f_P:=lget ((lget q402.f_c.f_Peers i470).f_Allowed) i503 })) underlying40 zeroValue40 rfl (places_lint_Odd_40) rfl (fill_step (c:=(cInt .i64)) (z:=6) rfl (c_lint_Odd_f_Kind zv12) rfl (fill_step (c:=(cInt .i64)) (z:=i470) rfl (c_lint_Odd_f_Peer ({ zv12 with f_Kind:=6 })) rfl (fill_step (c:=c_api_Prefix) (z:=lget ((lget q402.f_c.f_Peers i470).f_Allowed) i503) rfl (c_lint_Odd_f_P ({ { zv12 with f_Kind:=6 } with f_Peer:=i470 })) rfl rfl)))) ?_
          exact at_nil k
         ·intro Lx g560 K k
          show At 46 ((39,_)::(0,_)::(1,_)::(2,_)::(6,_)::(9,_)::(14,_)::(15,_)::(16,_)::(22,_)::(23,_)::(24,_)::Lx) _ _
          refine at_litL (c:=c_lint_Odd) ([zv12]:List S_lint_Odd) ([{ { { zv12 with f_Kind:=6 } with f_Peer:=i470 } with f_P:=lget ((lget q402.f_c.f_Peers i470).f_Allowed) i503 }]:List S_lint_Odd) underlying30 sizeOf40 zeroValue40 rfl rfl rfl (by kernel_rfl) (fill_step (c:=c_lint_Odd) (z:={ { { zv12 with f_Kind:=6 } with f_Peer:=i470 } with f_P:=lget ((lget q402.f_c.f_Peers i470).f_Allowed) i503 }) rfl (Lens.all c_lint_Odd ([zv12]:List S_lint_Odd) 0 (by first | decide | exact Nat.le_of_ble_eq_true rfl)) rfl rfl) rfl ?_
          intro b556
          exact at_nil (k (g3 b556 none 0 none w))
         ·intro Lx g560 K k
          show At 46 ((35,_)::(40,_)::(0,_)::(1,_)::(2,_)::(6,_)::(9,_)::(14,_)::(15,_)::(16,_)::(22,_)::(23,_)::(24,_)::Lx) _ _
          refine at_append (z:=.agg (Cd.cs c_lint_Odd zv12).toArray) (c:=c_lint_Odd) (ys:=([{ { { zv12 with f_Kind:=6 } with f_Peer:=i470 } with f_P:=lget ((lget q402.f_c.f_Peers i470).f_Allowed) i503 }]:List S_lint_Odd)) (.s (.s (.s (.s .z)))) underlying30 infoV540 (by kernel_rfl) (by kernel_rfl) rfl rfl rfl rfl (fun _ hw=>cells_src (hw.ok (Upd.mem .z))) (by kernel_rfl) h557 (app_small h557) rfl ?_
          intro p558 c559
          exact at_nil (k (g3 0 p558 c559 none w))
         ·intro Lx g560 s K hl hh k
          show At 46 ((31,_)::(0,_)::(1,_)::(2,_)::(6,_)::(9,_)::(14,_)::(15,_)::(16,_)::(22,_)::(23,_)::(24,_)::Lx) _ _
          refine aw (r_nilCheck rfl) ?_
          exact at_nil k
         ·intro Lx g560 s K hl hh k
          show At 46 ((42,_)::(0,_)::(1,_)::(2,_)::(6,_)::(9,_)::(14,_)::(15,_)::(16,_)::(22,_)::(23,_)::(24,_)::Lx) _ _
          refine fa 36 underlying63 rfl sizeOf30 ?_
          exact at_nil k
         ·intro Lx g560 K k
          show At 46 ((41,_)::(43,_)::(0,_)::(1,_)::(2,_)::(6,_)::(9,_)::(14,_)::(15,_)::(16,_)::(22,_)::(23,_)::(24,_)::Lx) _ _
          refine at_store (c:=cSv S_lint_Odd) (z:=((((g560 1).2.1),((g560 1).2.2.1)),i504.f_out++[{ { { zv12 with f_Kind:=6 } with f_Peer:=i470 } with f_P:=lget ((lget q402.f_c.f_Peers i470).f_Allowed) i503 }])) (.s (.s .z)) (c_lint_finder_f_out_sv (gq505,(p507,c508),(p509,c510)) i504) sizeOf30 rfl rfl rfl ?_
          exact at_nil k
         intro g560
         show At 46 [(31,_),(32,_),(33,_),(34,_),(35,_),(36,_),(37,_),(38,_),(39,_),(40,_),(41,_),(42,_),(43,_),(0,_),(1,_),(2,_),(6,_),(9,_),(14,_),(15,_),(16,_),(22,_),(23,_),(24,_)] _ _
         refine dz (dz (wq [24,23,22,16,15,14,6,2,1,0] ?_))
         refine bm ?_
         refine qr (aw xa (am (nwq [24,23,22,16,15,14,6,2,1,0] ?_)))
         exact at_weak_k (ih _ _ _ hF K gq505 hk506 p507 c508 (g560 1).2.1 (g560 1).2.2.1) ⟨rfl,rfl,rfl,rfl,rfl,rfl,rfl,rfl,rfl,rfl,trivial⟩
        refine cf h555 ?_
        refine at_skip ?_
        refine bm ?_
        refine qr (aw xa (am (qn (dz (wq [24,23,22,16,15,14,6,2,1,0] ?_)))))
        refine tn ?_
        exact at_weak_k (ih _ _ _ hF K gq505 hk506 p507 c508 p509 c510) ⟨rfl,rfl,rfl,rfl,rfl,rfl,rfl,rfl,rfl,rfl,trivial⟩
       skip
       refine at_inv [.q 38 (fun g561=>.slice p547 t546.length c548) [] 0 0,.q 39 (fun g561=>.int .i64 (t546.length:Int)) [0] 0 0,.q 40 (fun g561=>.bool ((t546.length:Int)==1)) [1] 0 0,.q 41 (fun g561=>.bool false) [2] 0 0,.q 42 (fun g561=>undef) [3] 0 0,.q 43 (fun g561=>undef) [3,4] 0 0,.q 44 (fun g561=>undef) [3,5] 0 0,.q 45 (fun g561=>undef) [3] 0 0,.q 46 (fun g561=>undef) [3,6,7] 0 0,.q 47 (fun g561=>.bool false) [3,8] 0 0,.q 4 (fun g561=>.bool false) [9] 0 0] (fun g561 s=>match s with | _=>(Wd w [rowE c_api_Prefix 38 p547 c548 t546,cellsE b523 (Cd.cs c_api_Prefix (lget ((lget q402.f_c.f_Peers i470).f_Allowed) i503)) 38,cellsE b522 (Cd.cs c_api_Prefix (lget ((lget q402.f_c.f_Peers i470).f_Allowed) i503)) 38,cellsE (g8 1).1 (Cd.cs c_lint_finder ((gq505,(p507,c508),(p509,c510)),i504)) 63,rowE c_api_Entry 49 p507 c508 i504.f_own,rowE c_lint_Odd 40 p509 c510 i504.f_out])) 0 (by kernel_rfl) (by kernel_rfl) (by kernel_rfl) (by kernel_rfl) (by kernel_rfl) ⟨fun _ _ _=>rfl,fun _ _ _=>rfl,fun _ _ _=>rfl,fun _ _ _=>rfl,fun _ _ _=>rfl,fun _ _ _=>rfl,fun _ _ _=>rfl,fun _ _ _=>rfl,fun _ _ _=>rfl,fun _ _ _=>rfl,fun _ _ _=>rfl,trivial⟩ (by kernel_rfl) (fun w_ h=>⟨fun _=>g3 0 none 0 none w_,h.drew⟩) ⟨?_,?_,?_,?_,?_,?_,?_,?_,?_,?_,?_,trivial⟩ ?_
       ·intro Lx g561 s K hl hh k
        show At 48 ((3,_)::(8,_)::Lx) _ _
        refine am ?_
        exact at_nil k
       ·intro Lx g561 s K hl hh k
        show At 48 ((38,_)::(3,_)::(8,_)::Lx) _ _
        obtain rfl:s=0:=by omega
        refine aw (r_len_sl underlying58 rfl) ?_
        exact at_nil k
       ·intro Lx g561 s K hl hh k
        show At 48 ((39,_)::(3,_)::(8,_)::Lx) _ _
        refine aw xq ?_
        exact at_nil k
       ·intro Lx g561 s K hl hh k
        show At 48 ((40,_)::(3,_)::(8,_)::Lx) _ _
        refine am ?_
        exact at_nil (at_cast h549 k)
       ·intro Lx g561 s K hl hh k
        show At 48 ((41,_)::(3,_)::(8,_)::Lx) _ _
        refine gn ?_
        exact at_nil k
       ·intro Lx g561 s K hl hh k
        show At 48 ((41,_)::(42,_)::(3,_)::(8,_)::Lx) _ _
        refine gn ?_
        exact at_nil k
       ·intro Lx g561 s K hl hh k
        show At 48 ((41,_)::(43,_)::(3,_)::(8,_)::Lx) _ _
        obtain rfl:s=0:=by omega
        refine gn ?_
        exact at_nil k
       ·intro Lx g561 s K hl hh k
        show At 48 ((41,_)::(3,_)::(8,_)::Lx) _ _
        obtain rfl:s=0:=by omega
        refine gn ?_
        exact at_nil k
       ·intro Lx g561 s K hl hh k
        show At 48 ((41,_)::(44,_)::(45,_)::(3,_)::(8,_)::Lx) _ _
        refine gn ?_
        exact at_nil k
       ·intro Lx g561 s K hl hh k
        show At 48 ((41,_)::(46,_)::(3,_)::(8,_)::Lx) _ _
        refine aw xp ?_
        exact at_nil k
       ·intro Lx g561 s K hl hh k
        show At 48 ((47,_)::(3,_)::(8,_)::Lx) _ _
        refine aa ?_
        exact at_nil k
       intro g561
       show At 48 [(38,_),(39,_),(40,_),(41,_),(42,_),(43,_),(44,_),(45,_),(46,_),(47,_),(4,_),(3,_),(8,_)] _ _
       refine dz (dz (wq [4] ?_))
       refine tn (qt ?_)
       refine at_retI1 rfl rfl ?_
       refine nwq [30,24,23,22,16,15,14,9,6,2,1,0] ?_
       refine cf rfl ?_
       refine at_skip ?_
       refine bm ?_
       refine qr (aw xa (am (qn (dz (wq [24,23,22,16,15,14,6,2,1,0] ?_)))))
       refine tn ?_
       exact at_weak_k (ih _ _ _ hF K gq505 hk506 p507 c508 p509 c510) ⟨rfl,rfl,rfl,rfl,rfl,rfl,rfl,rfl,rfl,rfl,trivial⟩
      refine cf h517 ?_
      refine at_exit ?_
      refine te (te ?_)
      obtain rfl:=os hF
      exact at_weak_k (K gq505 hk506 p507 c508 p509 c510) ⟨rfl,rfl,rfl,rfl,rfl,rfl,trivial⟩
    skip
    intro gq511 hk512 p513 c514 p515 c516
    refine at_blk_same ?_
    refine bm ?_
    refine qr (aw xa (am (nwq [16,15,14,2,1,0] ?_)))
    exact at_weak_k (ih _ _ _ hF K gq511 hk512 p513 c514 p515 c516) ⟨rfl,rfl,rfl,rfl,rfl,rfl,trivial⟩
   refine cf h484 ?_
   refine at_exit ?_
   refine te (te ?_)
   obtain rfl:=os hF
   exact at_weak_k (K gq472 hk473 p474 c475 p476 c477) trivial
 skip
 intro gq478 hk479 p480 c481 p482 c483
 refine at_blk_same ?_
 refine at_retI0 rfl ?_
 refine ns (am ?_)
 refine aw (r_nilCheck rfl) ?_
 refine fa 36 underlying63 rfl sizeOf30 ?_
 refine aw (r_load_cell isAgg30 rfl (lens_cell0 (c:=cHd) (y:=⟨((gq478,(p480,c481),(p482,c483)).2.2).1,List.length q469.f_out,((gq478,(p480,c481),(p482,c483)).2.2).2⟩) .z (c_lint_finder_f_out (gq478,(p480,c481),(p482,c483)) q469) rfl)) ?_
 refine aa (qn (dz (dz (wq [2] ?_))))
 refine tn (qt ?_)
 have K:=os hF
 subst K
 exact r1 (fun w1 hw=>⟨p482,c483,rfl,hw.own .z,hw.below⟩)
end Go.Proofs.YtahlbjmafceoeaaGreatDoor
namespace Go.Proofs.YtahlbjmafceoeaaGreatDoor
open E Go.RowKit _root_.Go.Proofs.Tryz
theorem infoV69_is:(Tryz.prog.info? 9).isSome=true:=by kernel_rfl
noncomputable def infoV69_v:TypeInfo:=(Tryz.prog.info? 9).get infoV69_is
theorem infoV69:Tryz.prog.info? 9=some infoV69_v:=(Option.some_get _).symm
def lint_Texts.l0(x0:S_api_Conf)(t2:List S_lint_Odd)(i9:List ByteArray)(i10:Int):Option (List ByteArray) :=
 if (decide (i10<(t2.length:Int)))=true then (if (0:Int)≤i10∧i10<(t2.length:Int) then lint_Text x0 (lget t2 i10)>>=fun t21=>if (i9.length+1)*16≤140737488355328 then lint_Texts.l0 x0 t2 (i9++[t21]) (wr .i64 (i10+1)) else none else none) else (some i9)
 partial_fixpoint
def lint_Texts(x0:S_api_Conf):Option (ByteArray) :=
 lint_All x0>>=fun t2=>lint_Texts.l0 x0 t2 ([]:List ByteArray) 0>>=fun q7=>lines_Join q7>>=fun t26=>some t26
theorem lint_Texts_ok(g0_:G_api_Conf)(x0:S_api_Conf)(r:ByteArray)(hF:lint_Texts x0=some r)(w:World)(hn0:N_api_Conf w (g0_,x0))(hg_lint_words:GV_lint_words w)(hg_strconv_uint64pow10:GV_strconv_uint64pow10 w) :
    Calls Tryz.prog 11 #[.agg (Cd.cs c_api_Conf (g0_,x0)).toArray] w (fun e w'=>e=.returned (.string r)∧Below w.heap.size w w'):=by
 unfold lint_Texts at hF
 refine ce (l:=[.agg (Cd.cs c_api_Conf (g0_,x0)).toArray]) func11 rfl rfl ?_
 refine at_start ?_
 refine sr ?_
 refine at_box (cs:=Cd.cs c_api_Conf (g0_,x0)) rfl rfl rfl ?_
 intro b1
 refine aa (ns (aa (nt (qs (sr ?_)))))
 refine aw (r_load_aggc (c:=c_api_Conf) (z:=(g0_,x0)) isAgg27 sizeOf27 rfl (lens_cell .z lw)) ?_
 obtain ⟨t2,ht2,hF⟩:=bM hF
 refine at_callO (c:=c_lint_Odd) (e:=40) (ys:=t2) (V:=fun p cap=>.slice p t2.length cap) func8 rfl (by kernel_rfl) rfl rfl (fun w hw=>lint_All_ok _ _ _ ht2 w (N_api_Conf.below hn0 hw.below)) ?_
 intro p3 c4
 refine aw (r_len_sl underlying30 rfl) ?_
 refine am (nwq [9,8,7,3,1] ?_)
 refine qb ?_
 refine at_own_nil cStr 9 ?_
 obtain ⟨q7,hq7,hF⟩:=bM hF
 refine wq [9,8,7,3,1] ?_
 refine at_loop_n (B:=0) (A:=fun Y=>∀ (p13:Option Addr) (c14:Nat),At 22 [(3,.slice p13 q7.length c14)] (Wd w [rowE cStr 9 p13 c14 q7]) Y) ?_ ?_
 ·intro K
  refine lint_Texts.l0.partial_correctness x0 t2 (motive:=fun i9 i10 x=>KN (fun Y=>∀ (p13:Option Addr) (c14:Nat),At 22 [(3,.slice p13 x.length c14)] (Wd w [rowE cStr 9 p13 c14 x]) Y) _ 0→Round (fun Y=>∀ (p11:Option Addr) (c12:Nat),At 22 [(1,.pointer (some ⟨b1,0,none⟩)),(3,.slice p11 i9.length c12),(7,.slice p3 t2.length c4),(8,.int .i64 (t2.length:Int)),(9,.int .i64 i10)] (Wd w [rowE cStr 9 p11 c12 i9,rowE c_lint_Odd 40 p3 c4 t2,cellsE b1 (Cd.cs c_api_Conf (g0_,x0)) 27]) Y) _ _ _) ?_ _ _ _ hq7 K none 0
  ·clear K hF
   intro g ih i9 i10 x hF K p11 c12
   refine at_round ?_
   refine sr (aw xl (nwq [10,9,8,7,3,1] ?_))
   refine qs ?_
   obtain ⟨h15,hF⟩|⟨h15,hF⟩:=oi hF
   ·refine ct h15 ?_
    refine sn (qs ?_)
    refine qb ?_
    refine sr ?_
    obtain ⟨h16,hF⟩:=gd hF
    refine at_pure (φ:=∃ b o,p3=some ⟨b,o,none⟩) (fun _ hw=>row_ptr (hw.own (.s .z)).row h16) ?_
    rintro ⟨b18,o19,hp17⟩
    refine aw (r_idx underlying30 sizeOf40 rfl rfl h16 hp17) ?_
    refine aw (r_load_aggc (c:=c_lint_Odd) (z:=lget t2 i10) isAgg40 sizeOf40 rfl (fun w1 hw=>row_cell (W:=fun w1=>w1=_) (fun w1 h=>by subst h;exact Below.refl _ _) (hw.own (.s .z)).row h16 hp17 _ rfl)) ?_
    refine al (cs:=Cd.cs c_lint_Odd zv12) zeroValue40 ?_
    intro b20
    refine at_store (c:=c_lint_Odd) (z:=lget t2 i10) .z lw sizeOf40 rfl rfl rfl ?_
    refine nt (qr (am ?_))
    refine aw (r_load_aggc (c:=c_api_Conf) (z:=(g0_,x0)) isAgg27 sizeOf27 rfl (lens_cell (.s (.s (.s .z))) lw)) ?_
    refine aw (r_load_aggc (c:=c_lint_Odd) (z:=lget t2 i10) isAgg40 sizeOf40 rfl (lens_cell .z lw)) ?_
    obtain ⟨t21,ht21,hF⟩:=bM hF
    refine cB func12 rfl (fun w hw=>lint_Text_ok _ _ _ _ ht21 w (N_api_Conf.below hn0 hw.below) (hg_lint_words.on hw.below) (hg_strconv_uint64pow10.on hw.below)) ?_
    refine at_lit (cs:=cStr.all ([t21]:List ByteArray)) underlying72 sizeOf9 zeroValue9 rfl rfl rfl (by kernel_rfl) rfl ?_
    intro b22
    obtain ⟨h23,hF⟩:=gd hF
    refine at_append (z:=.string ⟨#[]⟩) (c:=cStr) (ys:=([t21]:List ByteArray)) (.s (.s .z)) underlying72 infoV69 (by kernel_rfl) (by kernel_rfl) rfl rfl rfl rfl (fun _ hw=>cells_src (hw.ok (Upd.mem .z))) (by kernel_rfl) h23 (app_small h23) rfl ?_
    intro p24 c25
    refine aa (qn (dz (dz (wq [9,8,7,3,1] ?_))))
    refine bm ?_
    refine qr (aw xa (am (nwq [9,8,7,3,1] ?_)))
    exact at_weak_k (ih _ _ _ hF K p24 c25) ⟨rfl,rfl,rfl,rfl,rfl,trivial⟩
   refine cf h15 ?_
   refine at_exit ?_
   refine te (te ?_)
   refine at_drop (H:=_) (.s .z) ?_
   refine at_drop (H:=_) (.s .z) ?_
   obtain rfl:=os hF
   exact at_weak_k (K p11 c12) ⟨rfl,trivial⟩
 skip
 intro p13 c14
 refine at_blk_same ?_
 refine tn (sr (am ?_))
 obtain ⟨t26,ht26,hF⟩:=bM hF
 refine cB func34 rfl (fun w hw=>lines_Join_ok _ _ _ _ ht26 w (hw.own .z).row) ?_
 refine aa (qn (dz (wq [2] ?_)))
 refine tn (qt ?_)
 have K:=os hF
 subst K
 exact r1 wb
def crawlwaylaw60_alive:Option (Bool) :=
 lint_Texts ({ f_Private:=(Vector.replicate 32 (0:Int):(Vector Int 32)),f_Port:=(0:Int),f_Mark:=(0:Int),f_Peers:=([]:List S_api_Peer) }:S_api_Conf)>>=fun t1=>some (bif (seq t1 (⟨#[107,101,121,108,101,115,115,10]⟩:ByteArray)) then true else false)
theorem crawlwaylaw60_alive_ok(r:Bool)(hF:crawlwaylaw60_alive =some r)(w:World)(hg_lint_words:GV_lint_words w)(hg_strconv_uint64pow10:GV_strconv_uint64pow10 w) :
    Calls Tryz.prog 7 #[] w (fun e w'=>e=.returned (.bool r)∧Below w.heap.size w w'):=by
 unfold crawlwaylaw60_alive at hF
 refine ce (l:=[]) func7 rfl rfl ?_
 refine at_start ?_
 refine at_weak [] trivial ?_
 refine sr (aa ?_)
 refine nws [] trivial ?_
 refine aw (r_build_struct (zs:=Cd.cs c_api_Conf (zv6,zv0)) (cs:=Cd.cs c_api_Conf (zv6,zv0)) underlying27 zeroValue27 rfl (places_api_Conf_27) rfl rfl) ?_
 obtain ⟨t1,ht1,hF⟩:=bM hF
 refine cB func11 rfl (fun w hw=>lint_Texts_ok _ _ _ ht1 w (NRow.nil ..) (hg_lint_words.on hw.below) (hg_strconv_uint64pow10.on hw.below)) ?_
 refine aw (r_seql rfl rfl) ?_
 refine am ?_
 refine aw (r_pickB rfl rfl rfl) ?_
 refine aa (nwq [0] ?_)
 refine qt ?_
 have K:=os hF
 subst K
 exact r1 wb
end Go.Proofs.YtahlbjmafceoeaaGreatDoor
set_option maxRecDepth 20000
namespace Go.Proofs.YtahlbjmafceoeaaGreatDoor.Lint
open E Go.RowKit Adr Cid
theorem bj1(a s:ByteArray):bjoin [a] s=a:=by
 cases a with | mk a=>cases s with | mk s =>
 unfold bjoin Lib.join
 apply ByteArray.ext
 show _=_
 simp [List.intercalate,List.intersperse]
theorem bj2(a b s:ByteArray):bjoin ([a]++[b]) s=(a++s)++b:=by
 cases a with | mk a=>cases b with | mk b=>cases s with | mk s =>
 unfold bjoin Lib.join
 apply ByteArray.ext
 show _=_
 simp [ByteArray.data_append,List.intercalate,List.intersperse]
theorem bj3(a b c s:ByteArray):bjoin (([a]++[b])++[c]) s=(((a++s)++b)++s)++c:=by
 cases a with | mk a=>cases b with | mk b=>cases c with | mk c=>cases s with | mk s =>
 unfold bjoin Lib.join
 apply ByteArray.ext
 show _=_
 simp [ByteArray.data_append,List.intercalate,List.intersperse]
theorem ktext(v:Vector Int 32)(hv:Key.IsB v):∃ T B,keys_Text v=some T∧crawlwayref07_Bytes v=some B∧crawlwayref04_Encode B=some T∧T.size≤60:=by
 obtain ⟨l,hl,h32⟩:=hv.ob
 refine ⟨Hex.str (Six.encP l),v.toList,?_,Key.bytes_eq v,?_,?_⟩
 ·unfold keys_Text
  rw [hl,Six.encode_eq _ (by omega),bindM_some]
 ·rw [hl];exact Six.refEncode_eq l (by omega)
 ·rw [Hex.str_size,Six.encP_length];omega
theorem ctext(P:S_api_Prefix)(h:ok_api_Prefix P):∃ T,cidr_Text P=some T∧crawlwayref11_Text P=some T∧T.size≤70:=by
 obtain ⟨V,l,b,rfl,hl,_⟩:=exists_mkP P h
 refine ⟨_,ctext_code hl,ctext_ref hl,?_⟩
 rw [bs_size]
 split
 ·next hr =>
  obtain ⟨⟨_,h0,h1⟩,_⟩:=rightP_iff.1 hr
  have:=width_le (V:=V) (l:=l)
  exact cidT_len hl _ (by omega)
 ·simp
theorem word(kd:Int)(h:1≤kd∧kd≤6):∃ W:ByteArray,vget gval_lint_words kd=W∧lget ([⟨#[]⟩,⟨#[107,101,121,108,101,115,115]⟩,⟨#[105,100,108,101]⟩,⟨#[100,111,117,98,108,101]⟩,⟨#[115,104,97,114,101,100]⟩,⟨#[115,112,97,114,101]⟩,⟨#[104,105,100,100,101,110]⟩]:List ByteArray) kd=W∧W.size≤10:=by
 have:kd=1∨kd=2∨kd=3∨kd=4∨kd=5∨kd=6:=by omega
 rcases this with rfl | rfl | rfl | rfl | rfl | rfl<;>exact ⟨_,rfl,rfl,by decide⟩
theorem sp1:(⟨#[32]⟩:ByteArray).size=1:=rfl
theorem text_both(c:S_api_Conf)(hk:∀ p∈c.f_Peers,Key.IsB p.f_Key)(kd pr:Int)(P:S_api_Prefix)(hP0:ok_api_Prefix P):∃ T,lint_Text c ⟨kd,pr,P⟩=some T∧crawlwayref60_Text c ⟨kd,pr,P⟩=some T∧T.size≤200:=by
 have h1:=sp1
 unfold lint_Text crawlwayref60_Text
 dsimp only
 by_cases hk1:kd<1
 ·rw [decide_eq_true hk1,if_pos rfl,if_pos rfl];exact ⟨_,rfl,rfl,by decide⟩
 by_cases hk2:kd>6
 ·rw [decide_eq_false hk1,decide_eq_true hk2,if_neg Bool.false_ne_true,if_neg Bool.false_ne_true,if_pos rfl,if_pos rfl];exact ⟨_,rfl,rfl,by decide⟩
 obtain ⟨W,w1,w2,w3⟩:=word kd (by omega)
 obtain ⟨C,c1,c2,c3⟩:=ctext P hP0
 have hlen:(0:Int)≤kd∧kd<(([⟨#[]⟩,⟨#[107,101,121,108,101,115,115]⟩,⟨#[105,100,108,101]⟩,⟨#[100,111,117,98,108,101]⟩,⟨#[115,104,97,114,101,100]⟩,⟨#[115,112,97,114,101]⟩,⟨#[104,105,100,100,101,110]⟩]:List ByteArray).length:Int):=⟨by omega,by show kd<7;omega⟩
 rw [decide_eq_false hk1,decide_eq_false hk2,if_neg Bool.false_ne_true,if_neg Bool.false_ne_true,if_neg Bool.false_ne_true,if_neg Bool.false_ne_true,if_pos (show (0:Int)≤kd∧kd<7 by omega),if_pos hlen,w1,w2]
 by_cases hpr:pr≥0∧pr<(c.f_Peers.length:Int)
 ·have hmem:lget c.f_Peers pr∈c.f_Peers:=List.mem_of_getElem? (lget_some hpr)
  obtain ⟨K,B,k1,k2,k3,k4⟩:=ktext _ (hk _ hmem)
  rw [decide_eq_true hpr.1,decide_eq_true hpr.2,if_pos rfl,if_pos rfl,if_pos rfl,if_pos rfl,if_pos hpr,if_pos hpr,k1,bindM_some,k2,bindM_some,k3,bindM_some,c1,c2]
  by_cases hz:P=({ f_A:=({ f_V:=(0:Int),f_B:=(Vector.replicate 16 (0:Int):(Vector Int 16)) }:S_api_Addr),f_Bits:=(0:Int) }:S_api_Prefix)
  ·have hd:(!decide (P=({ f_A:=({ f_V:=(0:Int),f_B:=(Vector.replicate 16 (0:Int):(Vector Int 16)) }:S_api_Addr),f_Bits:=(0:Int) }:S_api_Prefix)))=false:=by rw [decide_eq_true hz];rfl
   rw [hd]
   refine ⟨(W++(⟨#[32]⟩:ByteArray))++K,?_,?_,?_⟩
   ·rw [if_pos (by simp),if_neg Bool.false_ne_true,if_pos (by simp),bj2,if_pos (by simp only [ByteArray.size_append];omega)]
   ·rw [if_pos (by omega),if_pos (by simp only [ByteArray.size_append];omega),if_neg Bool.false_ne_true]
   ·simp only [ByteArray.size_append];omega
  ·have hd:(!decide (P=({ f_A:=({ f_V:=(0:Int),f_B:=(Vector.replicate 16 (0:Int):(Vector Int 16)) }:S_api_Addr),f_Bits:=(0:Int) }:S_api_Prefix)))=true:=by rw [decide_eq_false hz];rfl
   rw [hd]
   refine ⟨(((W++(⟨#[32]⟩:ByteArray))++K)++(⟨#[32]⟩:ByteArray))++C,?_,?_,?_⟩
   ·rw [if_pos (by simp),if_pos rfl,bindM_some,if_pos (by simp),if_pos (by simp),bj3,if_pos (by simp only [ByteArray.size_append];omega)]
   ·rw [if_pos (by omega),if_pos (by simp only [ByteArray.size_append];omega),if_pos rfl,if_pos (by simp only [ByteArray.size_append];omega),bindM_some,if_pos (by simp only [ByteArray.size_append];omega)]
   ·simp only [ByteArray.size_append];omega
 ·rw [c1,c2]
  have fin:∀ (X Y:Option ByteArray),X=(if (!decide (P=({ f_A:=({ f_V:=(0:Int),f_B:=(Vector.replicate 16 (0:Int):(Vector Int 16)) }:S_api_Addr),f_Bits:=(0:Int) }:S_api_Prefix)))=true then some ((W++(⟨#[32]⟩:ByteArray))++C) else some W)→Y=(if (!decide (P=({ f_A:=({ f_V:=(0:Int),f_B:=(Vector.replicate 16 (0:Int):(Vector Int 16)) }:S_api_Addr),f_Bits:=(0:Int) }:S_api_Prefix)))=true then some ((W++(⟨#[32]⟩:ByteArray))++C) else some W)→∃ T,X=some T∧Y=some T∧T.size≤200:=by
   intro X Y hX hY
   split at hX
   ·next hc=>rw [if_pos hc] at hY;exact ⟨_,hX,hY,by simp only [ByteArray.size_append];omega⟩
   ·next hc=>rw [if_neg hc] at hY;exact ⟨_,hX,hY,by omega⟩
  have l1:(if (!decide (P=({ f_A:=({ f_V:=(0:Int),f_B:=(Vector.replicate 16 (0:Int):(Vector Int 16)) }:S_api_Addr),f_Bits:=(0:Int) }:S_api_Prefix)))=true then (some C>>=fun t35=>if (([W]:List ByteArray).length+1)*16≤140737488355328 then if List.length (([W]:List ByteArray)++[t35])≤140737488355328 then if (bjoin (([W]:List ByteArray)++[t35]) (⟨#[32]⟩:ByteArray)).size≤140737488355328 then some (bjoin (([W]:List ByteArray)++[t35]) (⟨#[32]⟩:ByteArray)) else none else none else none) else (if List.length ([W]:List ByteArray)≤140737488355328 then if (bjoin ([W]:List ByteArray) (⟨#[32]⟩:ByteArray)).size≤140737488355328 then some (bjoin ([W]:List ByteArray) (⟨#[32]⟩:ByteArray)) else none else none))=(if (!decide (P=({ f_A:=({ f_V:=(0:Int),f_B:=(Vector.replicate 16 (0:Int):(Vector Int 16)) }:S_api_Addr),f_Bits:=(0:Int) }:S_api_Prefix)))=true then some ((W++(⟨#[32]⟩:ByteArray))++C) else some W):=by
   cases (!decide (P=({ f_A:=({ f_V:=(0:Int),f_B:=(Vector.replicate 16 (0:Int):(Vector Int 16)) }:S_api_Addr),f_Bits:=(0:Int) }:S_api_Prefix))) with
   | true=>rw [if_pos rfl,if_pos rfl,bindM_some,if_pos (by simp),if_pos (by simp),bj2,if_pos (by simp only [ByteArray.size_append];omega)]
   | false=>rw [if_neg Bool.false_ne_true,if_neg Bool.false_ne_true,if_pos (by simp),bj1,if_pos (by omega)]
  have l2:(if (!decide (P=({ f_A:=({ f_V:=(0:Int),f_B:=(Vector.replicate 16 (0:Int):(Vector Int 16)) }:S_api_Addr),f_Bits:=(0:Int) }:S_api_Prefix)))=true then (if W.size+(⟨#[32]⟩:ByteArray).size≤140737488355328 then some C>>=fun t31=>if (W++(⟨#[32]⟩:ByteArray)).size+t31.size≤140737488355328 then some ((W++(⟨#[32]⟩:ByteArray))++t31) else none else none) else (some W))=(if (!decide (P=({ f_A:=({ f_V:=(0:Int),f_B:=(Vector.replicate 16 (0:Int):(Vector Int 16)) }:S_api_Addr),f_Bits:=(0:Int) }:S_api_Prefix)))=true then some ((W++(⟨#[32]⟩:ByteArray))++C) else some W):=by
   cases (!decide (P=({ f_A:=({ f_V:=(0:Int),f_B:=(Vector.replicate 16 (0:Int):(Vector Int 16)) }:S_api_Addr),f_Bits:=(0:Int) }:S_api_Prefix))) with
   | true=>rw [if_pos rfl,if_pos rfl,if_pos (by omega),bindM_some,if_pos (by simp only [ByteArray.size_append];omega)]
   | false=>rw [if_neg Bool.false_ne_true,if_neg Bool.false_ne_true]
  by_cases h0:pr≥0
  ·rw [decide_eq_true h0,decide_eq_false (show ¬ pr<(c.f_Peers.length:Int) from fun h=>hpr ⟨h0,h⟩),if_pos rfl,if_pos rfl,if_neg Bool.false_ne_true,if_neg Bool.false_ne_true]
   exact fin _ _ l1 l2
  ·rw [decide_eq_false h0,if_neg Bool.false_ne_true,if_neg Bool.false_ne_true]
   exact fin _ _ l1 l2
abbrev eC:S_api_Conf:={ f_Private:=(Vector.replicate 32 (0:Int):(Vector Int 32)),f_Port:=(0:Int),f_Mark:=(0:Int),f_Peers:=([]:List S_api_Peer) }
theorem eRight:view_Right eC=some true:=by
 have h1:view_short 0=some true:=by decide
 unfold view_Right
 rw [h1,bindM_some,if_neg (by decide),if_neg (by decide),view_Right.l0.eq_def,if_neg (by decide)];rfl
theorem eEntries:lint_entries eC=some []:=by
 unfold lint_entries
 rw [lint_entries.l0.eq_def,if_neg (by decide)];rfl
theorem thin_nil:flat_Thin []=some []:=by
 have h1:flat_Own []=some []:=by
  unfold flat_Own
  rw [flat_Own.l0.eq_def,if_neg (by decide),bindM_some]
  rfl
 unfold flat_Thin
 rw [h1,bindM_some,flat_Thin.l0.eq_def,if_neg (by decide)];rfl
theorem e_l0(q:S_lint_finder):lint_All.l0 eC 0 q=some q:=by rw [lint_All.l0.eq_def,if_neg (by decide)]
theorem e_l1(q q':S_lint_finder)(h:q.f_c=eC):lint_All.l1 q 0 q'=some q':=by rw [lint_All.l1.eq_def,h,if_neg (by decide)]
theorem e_l2(q q':S_lint_finder)(h:q.f_c=eC):lint_All.l2 q 0 q'=some q':=by rw [lint_All.l2.eq_def,h,if_neg (by decide)]
theorem e_l3(m:List (S_api_Prefix×Bool)):lint_All.l3 [] 0 m=some m:=by rw [lint_All.l3.eq_def,if_neg (by decide)]
theorem e_l4(q q':S_lint_finder)(m:List (S_api_Prefix×Bool))(h:q.f_c=eC):lint_All.l4 q m 0 q'=some q':=by rw [lint_All.l4.eq_def,h,if_neg (by decide)]
theorem e_l6(q q':S_lint_finder)(h:q.f_c=eC):lint_All.l6 q 0 q'=some q':=by rw [lint_All.l6.eq_def,h,if_neg (by decide)]
theorem eAll:lint_All eC=some [lint_All.e0]:=by
 have hz:keys_Zero (Vector.replicate 32 (0:Int):Vector Int 32)=some true:=by unfold keys_Zero;rw [decide_eq_true rfl]
 unfold lint_All
 rw [eRight,bindM_some,if_neg (by decide),eEntries,bindM_some,hz,bindM_some,if_pos rfl,if_pos (by decide),e_l0,bindM_some,e_l1 _ _ rfl,bindM_some,e_l2 _ _ rfl,bindM_some]
 show (flat_Thin []>>=fun t110=>_)=_
 rw [thin_nil,bindM_some,e_l3,bindM_some,e_l4 _ _ _ rfl,bindM_some,e_l6 _ _ rfl,bindM_some];rfl
theorem eText:lint_Text eC lint_All.e0=some (⟨#[107,101,121,108,101,115,115]⟩:ByteArray):=by
 have hW:vget gval_lint_words 1=(⟨#[107,101,121,108,101,115,115]⟩:ByteArray):=rfl
 unfold lint_Text
 show (if (decide ((1:Int)<1))=true then _ else _)=_
 rw [if_neg (by decide)]
 show (if (decide ((1:Int)>6))=true then _ else _)=_
 rw [if_neg (by decide),if_pos (by decide)]
 show (if (decide ((-1:Int)≥0))=true then _ else _)=_
 rw [if_neg (by decide),if_neg (by decide)]
 show (if List.length ([vget gval_lint_words 1]:List ByteArray)≤140737488355328 then if (bjoin ([vget gval_lint_words 1]:List ByteArray) (⟨#[32]⟩:ByteArray)).size≤140737488355328 then some (bjoin ([vget gval_lint_words 1]:List ByteArray) (⟨#[32]⟩:ByteArray)) else none else none)=_
 rw [if_pos (by simp),bj1,hW,if_pos (by decide)]
theorem alive60:crawlwaylaw60_alive=some true:=by
 have hT:lint_Texts eC=some (⟨#[107,101,121,108,101,115,115,10]⟩:ByteArray):=by
  unfold lint_Texts
  rw [eAll,bindM_some,lint_Texts.l0.eq_def,if_pos (by decide),if_pos (by decide)]
  show (lint_Text eC lint_All.e0>>=fun t21=>_)>>=_=_
  rw [eText,bindM_some,if_pos (by decide),lint_Texts.l0.eq_def,if_neg (by decide),bindM_some]
  unfold lines_Join
  rw [lines_Join.l0.eq_def,if_pos (by decide),if_pos (by decide),if_pos (by decide),if_pos (by decide),lines_Join.l0.eq_def,if_neg (by decide)]
  rfl
 unfold crawlwaylaw60_alive
 rw [hT,bindM_some]
 decide +kernel
theorem alive_then60:(crawlwaylaw60_alive>>=fun t=>some t)=some true:=by rw [alive60];rfl
theorem large_loop(c:S_api_Conf)(hn:c.f_Peers.length≤20):∀ (k i:Nat),i+k=c.f_Peers.length→crawlwayref34_Large.l0 c (i:Int)=some (if (c.f_Peers.drop i).any (fun p=>decide (p.f_Allowed.length>80))=true then .ret true else .nx ())
 | 0,i,h=>by
  rw [crawlwayref34_Large.l0.eq_def,decide_eq_false (by omega),if_neg Bool.false_ne_true,List.drop_eq_nil_of_le (by omega)];rfl
 | k+1,i,h=>by
  have hi:i<c.f_Peers.length:=by omega
  have hg:lget c.f_Peers (i:Int)=c.f_Peers[i]:=by
   unfold lget
   rw [Int.toNat_natCast,List.getD_eq_getElem?_getD,List.getElem?_eq_getElem hi];rfl
  have hw:wr .i64 ((i:Int)+1)=((i+1:Nat):Int):=by rw [wr_i64 (by omega) (by omega)];omega
  rw [crawlwayref34_Large.l0.eq_def,decide_eq_true (by omega),if_pos rfl,if_pos (by omega),hg,hw,List.drop_eq_getElem_cons hi,List.any_cons]
  by_cases h80:c.f_Peers[i].f_Allowed.length>80
  ·rw [decide_eq_true (show ((c.f_Peers[i].f_Allowed.length:Nat):Int)>80 by omega),if_pos rfl,decide_eq_true h80,Bool.true_or,if_pos rfl]
  ·rw [decide_eq_false (show ¬ ((c.f_Peers[i].f_Allowed.length:Nat):Int)>80 by omega),if_neg Bool.false_ne_true,decide_eq_false h80,Bool.false_or]
   exact large_loop c hn k (i+1) (by omega)
theorem large_code(c:S_api_Conf):∃ b,crawlwayref34_Large c=some b∧(b=false→c.f_Peers.length≤20∧∀ p∈c.f_Peers,p.f_Allowed.length≤80):=by
 unfold crawlwayref34_Large
 by_cases h:(c.f_Peers.length:Int)>20
 ·rw [decide_eq_true h,if_pos rfl];exact ⟨true,rfl,fun h=>by cases h⟩
 ·rw [decide_eq_false h,if_neg Bool.false_ne_true]
  have:=large_loop c (by omega) c.f_Peers.length 0 (by omega)
  rw [show ((0:Nat):Int)=0 from rfl,List.drop_zero] at this
  rw [this,bindM_some]
  cases hb:c.f_Peers.any (fun p=>decide (p.f_Allowed.length>80)) with
  | true=>rw [if_pos rfl];exact ⟨true,rfl,fun h=>by cases h⟩
  | false =>
   rw [if_neg Bool.false_ne_true]
   refine ⟨false,rfl,fun _=>⟨by omega,fun p hp=>?_⟩⟩
   have:=List.any_eq_false.1 hb p hp
   rw [decide_eq_true_iff] at this
   omega
end Go.Proofs.YtahlbjmafceoeaaGreatDoor.Lint
namespace Go.Proofs.YtahlbjmafceoeaaGreatDoor
open E Go.RowKit _root_.Go.Proofs.Tryz
def crawlwaylaw60_LintTexts(x0:S_api_Conf)(x1:Int)(x2:Int)(x3:S_api_Prefix):Option (Bool) :=
 crawlwayref34_Large x0>>=fun t3=>if t3=true then (crawlwaylaw60_alive>>=fun t5=>some t5) else (lint_Text x0 ({ { { ({ f_Kind:=(0:Int),f_Peer:=(0:Int),f_P:=({ f_A:=({ f_V:=(0:Int),f_B:=(Vector.replicate 16 (0:Int):(Vector Int 16)) }:S_api_Addr),f_Bits:=(0:Int) }:S_api_Prefix) }:S_lint_Odd) with f_Kind:=x1 } with f_Peer:=x2 } with f_P:=x3 })>>=fun t6=>crawlwayref60_Text x0 ({ { { ({ f_Kind:=(0:Int),f_Peer:=(0:Int),f_P:=({ f_A:=({ f_V:=(0:Int),f_B:=(Vector.replicate 16 (0:Int):(Vector Int 16)) }:S_api_Addr),f_Bits:=(0:Int) }:S_api_Prefix) }:S_lint_Odd) with f_Kind:=x1 } with f_Peer:=x2 } with f_P:=x3 })>>=fun t7=>if (seq t6 t7)=true then (crawlwaylaw60_alive>>=fun t9=>some t9) else (some false))
theorem crawlwaylaw60_LintTexts_ok(g0_:G_api_Conf)(x0:S_api_Conf)(x1:Int)(x2:Int)(x3:S_api_Prefix)(r:Bool)(hF:crawlwaylaw60_LintTexts x0 x1 x2 x3=some r)(w:World)(hn0:N_api_Conf w (g0_,x0))(hg_lint_words:GV_lint_words w)(hg_strconv_uint64pow10:GV_strconv_uint64pow10 w) :
    Calls Tryz.prog 4 #[.agg (Cd.cs c_api_Conf (g0_,x0)).toArray,.int .i64 x1,.int .i64 x2,.agg (Cd.cs c_api_Prefix x3).toArray] w (fun e w'=>e=.returned (.bool r)∧Below w.heap.size w w'):=by
 unfold crawlwaylaw60_LintTexts at hF
 refine ce (l:=[.agg (Cd.cs c_api_Conf (g0_,x0)).toArray,.int .i64 x1,.int .i64 x2,.agg (Cd.cs c_api_Prefix x3).toArray]) func4 rfl rfl ?_
 refine at_start ?_
 refine sr ?_
 refine at_box (cs:=Cd.cs c_api_Conf (g0_,x0)) rfl rfl rfl ?_
 intro b1
 refine at_box (cs:=Cd.cs c_api_Prefix x3) rfl rfl rfl ?_
 intro b2
 refine aa (nt (qs (sr ?_)))
 refine aw (r_load_aggc (c:=c_api_Conf) (z:=(g0_,x0)) isAgg27 sizeOf27 rfl (lens_cell (.s .z) lw)) ?_
 obtain ⟨t3,ht3,hF⟩:=bM hF
 refine cB func6 rfl (fun w hw=>crawlwayref34_Large_ok _ _ _ ht3 w (N_api_Conf.below hn0 hw.below)) ?_
 refine nwq [10,7,4,2,1] ?_
 obtain ⟨h4,hF⟩|⟨h4,hF⟩:=oi hF
 ·refine ct h4 ?_
  refine sr ?_
  obtain ⟨t5,ht5,hF⟩:=bM hF
  refine cB func7 rfl (fun w hw=>crawlwaylaw60_alive_ok  _ ht5 w (hg_lint_words.on hw.below) (hg_strconv_uint64pow10.on hw.below)) ?_
  refine aa (qn (dz (dz (wq [8] ?_))))
  refine tn (rt ?_)
  have K:=os hF
  subst K
  exact r1 wb
 refine cf h4 ?_
 refine sn (qs ?_)
 refine at_draw (by kernel_rfl) (by kernel_rfl) (fun _ h=>h.drew) ?_
 refine atq_val rfl rfl rfl (r_load_aggc (c:=c_api_Conf) (z:=(g0_,x0)) isAgg27 sizeOf27 rfl (lens_cell (.s .z) lw)) ?_
 refine atq_val rfl rfl rfl (r_move rfl) ?_
 refine atq_val rfl rfl rfl (r_move rfl) ?_
 refine atq_val rfl rfl rfl (r_load_aggc (c:=c_api_Prefix) (z:=x3) isAgg38 sizeOf38 rfl (lens_cell .z lw)) ?_
 refine atq_val rfl rfl rfl (r_build_struct (zs:=Cd.cs c_lint_Odd zv12) (cs:=Cd.cs c_lint_Odd ({ { { zv12 with f_Kind:=x1 } with f_Peer:=x2 } with f_P:=x3 })) underlying40 zeroValue40 rfl (places_lint_Odd_40) rfl (fill_step (c:=(cInt .i64)) (z:=x1) rfl (c_lint_Odd_f_Kind zv12) rfl (fill_step (c:=(cInt .i64)) (z:=x2) rfl (c_lint_Odd_f_Peer ({ zv12 with f_Kind:=x1 })) rfl (fill_step (c:=c_api_Prefix) (z:=x3) rfl (c_lint_Odd_f_P ({ { zv12 with f_Kind:=x1 } with f_Peer:=x2 })) rfl rfl)))) ?_
 obtain ⟨t6,ht6,hF⟩:=bM hF
 refine atq_call func12 rfl (by kernel_rfl) rfl rfl (fun w hw=>(lint_Text_ok _ _ _ _ ht6 w (N_api_Conf.below hn0 hw.below) (hg_lint_words.on hw.below) (hg_strconv_uint64pow10.on hw.below)).mono fun _ _ h=>⟨h.1,hw.call h.2⟩) ?_
 refine atq_val rfl rfl rfl (r_load_aggc (c:=c_api_Conf) (z:=(g0_,x0)) isAgg27 sizeOf27 rfl (lens_cell (.s .z) lw)) ?_
 refine atq_val rfl rfl rfl (r_move rfl) ?_
 refine atq_val rfl rfl rfl (r_move rfl) ?_
 refine atq_val rfl rfl rfl (r_load_aggc (c:=c_api_Prefix) (z:=x3) isAgg38 sizeOf38 rfl (lens_cell .z lw)) ?_
 refine atq_val rfl rfl rfl (r_build_struct (zs:=Cd.cs c_lint_Odd zv12) (cs:=Cd.cs c_lint_Odd ({ { { zv12 with f_Kind:=x1 } with f_Peer:=x2 } with f_P:=x3 })) underlying41 zeroValue41 rfl (places_lint_Odd_41) rfl (fill_step (c:=(cInt .i64)) (z:=x1) rfl (c_lint_Odd_f_Kind zv12) rfl (fill_step (c:=(cInt .i64)) (z:=x2) rfl (c_lint_Odd_f_Peer ({ zv12 with f_Kind:=x1 })) rfl (fill_step (c:=c_api_Prefix) (z:=x3) rfl (c_lint_Odd_f_P ({ { zv12 with f_Kind:=x1 } with f_Peer:=x2 })) rfl rfl)))) ?_
 obtain ⟨t7,ht7,hF⟩:=bM hF
 refine atq_call func10 rfl (by kernel_rfl) rfl rfl (fun w hw=>(crawlwayref60_Text_ok _ _ _ _ ht7 w (N_api_Conf.below hn0 hw.below)).mono fun _ _ h=>⟨h.1,hw.call h.2⟩) ?_
 refine atq_val rfl rfl rfl (r_seql rfl rfl) ?_
 refine atq_val rfl rfl rfl (r_move rfl) ?_
 obtain ⟨h8,hF⟩|⟨h8,hF⟩:=oi hF
 ·refine atq_fix (g:=25) rfl h8 ?_
  refine atq_guard_yes rfl rfl rfl ?_
  obtain ⟨t9,ht9,hF⟩:=bM hF
  refine atq_call func7 rfl (by kernel_rfl) rfl rfl (fun w hw=>(crawlwaylaw60_alive_ok  _ ht9 w (hg_lint_words.on hw.below) (hg_strconv_uint64pow10.on hw.below)).mono fun _ _ h=>⟨h.1,hw.call h.2⟩) ?_
  refine atq_val rfl rfl rfl (r_pick rfl rfl rfl) ?_
  refine atq_val rfl rfl rfl (r_assign rfl) ?_
  refine atq_nil ?_
  refine dz (dz (wq [8] ?_))
  refine tn (qt ?_)
  have K:=os hF
  subst K
  exact r1 wb
 refine atq_fix (g:=25) rfl h8 ?_
 refine atq_guard_no rfl rfl rfl rfl rfl ?_
 refine atq_val rfl rfl rfl (r_pick rfl rfl rfl) ?_
 refine atq_val rfl rfl rfl (r_assign rfl) ?_
 refine atq_nil ?_
 refine dz (dz (wq [8] ?_))
 refine tn (qt ?_)
 have K:=os hF
 subst K
 exact r1 wb
end Go.Proofs.YtahlbjmafceoeaaGreatDoor
namespace Go.Proofs.YtahlbjmafceoeaaGreatDoor.Lint
open E Go.RowKit Adr Cid
theorem LintTexts_pure(x0:S_api_Conf)(w0:ok_api_Conf x0)(x1:Int)(_:(Lit.int .i64 x1).wf=true)(x2:Int)(_:(Lit.int .i64 x2).wf=true)(x3:S_api_Prefix)(w3:ok_api_Prefix x3):crawlwaylaw60_LintTexts x0 x1 x2 x3=some true:=by
 obtain ⟨b,hb,hn⟩:=large_code x0
 unfold crawlwaylaw60_LintTexts
 rw [hb,bindM_some]
 cases b with
 | true=>rw [if_pos rfl];exact alive_then60
 | false =>
  obtain ⟨T,t1,t2,t3⟩:=text_both x0 (fun p hp=>(w0.2.2.2 p hp).1) x1 x2 x3 w3
  rw [if_neg Bool.false_ne_true]
  show (lint_Text x0 ⟨x1,x2,x3⟩>>=fun t6=>crawlwayref60_Text x0 ⟨x1,x2,x3⟩>>=fun t7=>if (seq t6 t7)=true then (crawlwaylaw60_alive>>=fun t9=>some t9) else (some false))=_
  rw [t1,bindM_some,t2,bindM_some,if_pos ((seq_iff T T).2 rfl)]
  exact alive_then60
end Go.Proofs.YtahlbjmafceoeaaGreatDoor.Lint
