/- Texts of this claim, those in one that belong together; printed by a program of this project. -/
import Derived.Test.YtahlbjmafceoeaaGreatDoorProg
import Derived.Test.YtahlbjmafceoeaaGreatDoorKLintHides2
set_option linter.unusedVariables false
set_option linter.unusedSimpArgs false
set_option maxRecDepth 20000
namespace Go.Proofs.YtahlbjmafceoeaaGreatDoor
open E Go.RowKit _root_.Go.Proofs.Tryz
theorem infoV29_is:(Tryz.prog.info? 9).isSome=true:=by kernel_rfl
noncomputable def infoV29_v:TypeInfo:=(Tryz.prog.info? 9).get infoV29_is
theorem infoV29:Tryz.prog.info? 9=some infoV29_v:=(Option.some_get _).symm
theorem infoV249_is:(Tryz.prog.info? 49).isSome=true:=by kernel_rfl
noncomputable def infoV249_v:TypeInfo:=(Tryz.prog.info? 49).get infoV249_is
theorem infoV249:Tryz.prog.info? 49=some infoV249_v:=(Option.some_get _).symm
def lint_entries.l1(x0:S_api_Conf)(i6:Int)(i26:List S_api_Entry)(i27:Int):Option (List S_api_Entry) :=
 if (decide (i27<(((lget x0.f_Peers i6).f_Allowed).length:Int)))=true then (if (0:Int)≤i27∧i27<(((lget x0.f_Peers i6).f_Allowed).length:Int) then if (i26.length+1)*40≤140737488355328 then lint_entries.l1 x0 i6 (i26++[{ { ({ f_P:=({ f_A:=({ f_V:=(0:Int),f_B:=(Vector.replicate 16 (0:Int):(Vector Int 16)) }:S_api_Addr),f_Bits:=(0:Int) }:S_api_Prefix),f_Owner:=(0:Int) }:S_api_Entry) with f_P:=lget ((lget x0.f_Peers i6).f_Allowed) i27 } with f_Owner:=i6 }]) (wr .i64 (i27+1)) else none else none) else (some i26)
 partial_fixpoint
def lint_entries.l0(x0:S_api_Conf)(i5:List S_api_Entry)(i6:Int):Option (List S_api_Entry) :=
 if (decide (i6<(x0.f_Peers.length:Int)))=true then (if (0:Int)≤i6∧i6<(x0.f_Peers.length:Int) then lint_entries.l1 x0 i6 i5 0>>=fun q25=>lint_entries.l0 x0 q25 (wr .i64 (i6+1)) else none) else (some i5)
 partial_fixpoint
def lint_entries(x0:S_api_Conf):Option (List S_api_Entry) :=
 lint_entries.l0 x0 ([]:List S_api_Entry) 0>>=fun q4=>some q4
theorem lint_entries_ok(g0_:G_api_Conf)(x0:S_api_Conf)(r:List S_api_Entry)(hF:lint_entries x0=some r)(w:World)(hn0:N_api_Conf w (g0_,x0)) :
    Calls Tryz.prog 19 #[.agg (Cd.cs c_api_Conf (g0_,x0)).toArray] w (fun e w'=>∃ p cap,e=.returned (.slice p r.length cap)∧Own c_api_Entry 49 w.heap.size w' p cap r∧Below w.heap.size w w'):=by
 unfold lint_entries at hF
 refine ce (l:=[.agg (Cd.cs c_api_Conf (g0_,x0)).toArray]) func19 rfl rfl ?_
 refine at_start ?_
 refine sr ?_
 refine at_box (cs:=Cd.cs c_api_Conf (g0_,x0)) rfl rfl rfl ?_
 intro b1
 refine aa (ns (aa (nt (qs (sr (fa 34 underlying27 rfl sizeOf25 ?_))))))
 refine aw (r_load_cell isAgg25 rfl (lens_cell0 (c:=cHd) (y:=⟨g0_.1,List.length x0.f_Peers,g0_.2⟩) .z (c_api_Conf_f_Peers g0_ x0) rfl)) ?_
 refine aw (r_len_sl underlying25 rfl) ?_
 refine am (qn (dz (wq [11,10,9,3] ?_)))
 refine tn ?_
 refine qb ?_
 refine at_own_nil c_api_Entry 49 ?_
 obtain ⟨q4,hq4,hF⟩:=bM hF
 refine wq [11,10,9,3] ?_
 refine at_loop_n (B:=0) (A:=fun Y=>∀ (p9:Option Addr) (c10:Nat),At 32 [(3,.slice p9 q4.length c10)] (Wd w [rowE c_api_Entry 49 p9 c10 q4]) Y) ?_ ?_
 ·intro K
  refine lint_entries.l0.partial_correctness x0 (motive:=fun i5 i6 x=>KN (fun Y=>∀ (p9:Option Addr) (c10:Nat),At 32 [(3,.slice p9 x.length c10)] (Wd w [rowE c_api_Entry 49 p9 c10 x]) Y) _ 0→Round (fun Y=>∀ (p7:Option Addr) (c8:Nat),At 32 [(3,.slice p7 i5.length c8),(9,.slice g0_.1 x0.f_Peers.length g0_.2),(10,.int .i64 (x0.f_Peers.length:Int)),(11,.int .i64 i6)] (Wd w [rowE c_api_Entry 49 p7 c8 i5]) Y) _ _ _) ?_ _ _ _ hq4 K none 0
  ·clear K hF
   intro g ih i5 i6 x hF K p7 c8
   refine at_round ?_
   refine sr (aw xl (nwq [12,11,10,9,3] ?_))
   refine qs ?_
   obtain ⟨h11,hF⟩|⟨h11,hF⟩:=oi hF
   ·refine ct h11 ?_
    refine sn (qs ?_)
    refine qb ?_
    refine sr (am ?_)
    obtain ⟨h12,hF⟩:=gd hF
    obtain ⟨zs16,hz17,hr18,hn19⟩:=id hn0
    obtain ⟨b14,o15,hp13⟩:=row_ptr hr18 (zidx hz17 h12)
    obtain ⟨g20,hg21⟩:=zget hz17 i6
    refine aw (r_idx underlying25 sizeOf60 rfl rfl h12 hp13) ?_
    refine aw (r_load_aggc (c:=c_api_Peer) (z:=(g20,lget x0.f_Peers i6)) isAgg60 sizeOf60 rfl (ncell (fun _ h=>h.below) hr18 (zidx hz17 h12) hp13 hg21)) ?_
    refine al (cs:=Cd.cs c_api_Peer zv13) zeroValue60 ?_
    intro b22
    refine aa ?_
    refine at_store (c:=c_api_Peer) (z:=(g20,lget x0.f_Peers i6)) .z lw sizeOf60 rfl rfl rfl ?_
    refine ns (fa 85 underlying60 rfl sizeOf58 ?_)
    refine aw (r_load_cell isAgg58 rfl (lens_cell0 (c:=cHd) (y:=⟨g20.1,List.length ((lget x0.f_Peers i6).f_Allowed),g20.2⟩) .z (c_api_Peer_f_Allowed g20 (lget x0.f_Peers i6)) rfl)) ?_
    refine aw (r_len_sl underlying58 rfl) ?_
    refine am (qn (dz (wq [19,18,17,11,10,9,4,3] ?_)))
    refine tn ?_
    refine qb ?_
    obtain ⟨q25,hq25,hF⟩:=bM hF
    refine wq [19,18,17,11,10,9,4,3] ?_
    refine at_loop_n (B:=2) (A:=fun Y=>∀ (p30:Option Addr) (c31:Nat),At 32 [(3,.slice p30 q25.length c31),(9,.slice g0_.1 x0.f_Peers.length g0_.2),(10,.int .i64 (x0.f_Peers.length:Int)),(11,.int .i64 i6)] (Wd w [rowE c_api_Entry 49 p30 c31 q25]) Y) ?_ ?_
    ·intro K
     refine lint_entries.l1.partial_correctness x0 i6 (motive:=fun i26 i27 x=>KN (fun Y=>∀ (p30:Option Addr) (c31:Nat),At 32 [(3,.slice p30 x.length c31),(9,.slice g0_.1 x0.f_Peers.length g0_.2),(10,.int .i64 (x0.f_Peers.length:Int)),(11,.int .i64 i6)] (Wd w [rowE c_api_Entry 49 p30 c31 x]) Y) _ 2→Round (fun Y=>∀ (p28:Option Addr) (c29:Nat),At 32 [(3,.slice p28 i26.length c29),(4,.int .i64 i6),(9,.slice g0_.1 x0.f_Peers.length g0_.2),(10,.int .i64 (x0.f_Peers.length:Int)),(11,.int .i64 i6),(17,.slice g20.1 ((lget x0.f_Peers i6).f_Allowed).length g20.2),(18,.int .i64 (((lget x0.f_Peers i6).f_Allowed).length:Int)),(19,.int .i64 i27)] (Wd w [rowE c_api_Entry 49 p28 c29 i26]) Y) _ _ _) ?_ _ _ _ hq25 K p7 c8
     ·clear K hF
      intro g ih i26 i27 x hF K p28 c29
      refine at_round ?_
      refine sr (aw xl (nwq [20,19,18,17,11,10,9,4,3] ?_))
      refine qs ?_
      obtain ⟨h32,hF⟩|⟨h32,hF⟩:=oi hF
      ·refine ct h32 ?_
       refine sn (qs ?_)
       refine qb ?_
       refine sr ?_
       obtain ⟨h33,hF⟩:=gd hF
       obtain ⟨b35,o36,hp34⟩:=row_ptr (nz hg21 hn19 (zidx hz17 h12)) h33
       refine aw (r_idx underlying58 sizeOf38 rfl rfl h33 hp34) ?_
       refine aw (r_load_aggc (c:=c_api_Prefix) (z:=lget ((lget x0.f_Peers i6).f_Allowed) i27) isAgg38 sizeOf38 rfl (row_cell (fun _ h=>h.below) (nz hg21 hn19 (zidx hz17 h12)) h33 hp34)) ?_
       refine al (cs:=Cd.cs c_api_Prefix zv8) zeroValue38 ?_
       intro b37
       refine at_store (c:=c_api_Prefix) (z:=lget ((lget x0.f_Peers i6).f_Allowed) i27) .z lw sizeOf38 rfl rfl rfl ?_
       refine nt (qr (am ?_))
       refine aw (r_load_aggc (c:=c_api_Prefix) (z:=lget ((lget x0.f_Peers i6).f_Allowed) i27) isAgg38 sizeOf38 rfl (lens_cell .z lw)) ?_
       refine am ?_
       refine aw (r_build_struct (zs:=Cd.cs c_api_Entry zv12) (cs:=Cd.cs c_api_Entry ({ { zv12 with f_P:=lget ((lget x0.f_Peers i6).f_Allowed) i27 } with f_Owner:=i6 })) underlying49 zeroValue49 rfl (places_api_Entry_49) rfl (fill_step (c:=c_api_Prefix) (z:=lget ((lget x0.f_Peers i6).f_Allowed) i27) rfl (c_api_Entry_f_P zv12) rfl (fill_step (c:=(cInt .i64)) (z:=i6) rfl (c_api_Entry_f_Owner ({ zv12 with f_P:=lget ((lget x0.f_Peers i6).f_Allowed) i27 })) rfl rfl))) ?_
       refine at_litL (c:=c_api_Entry) ([zv12]:List S_api_Entry) ([{ { zv12 with f_P:=lget ((lget x0.f_Peers i6).f_Allowed) i27 } with f_Owner:=i6 }]:List S_api_Entry) underlying46 sizeOf49 zeroValue49 rfl rfl rfl (by kernel_rfl) (fill_step (c:=c_api_Entry) (z:={ { zv12 with f_P:=lget ((lget x0.f_Peers i6).f_Allowed) i27 } with f_Owner:=i6 }) rfl (Lens.all c_api_Entry ([zv12]:List S_api_Entry) 0 (by first | decide | exact Nat.le_of_ble_eq_true rfl)) rfl rfl) rfl ?_
       intro b38
       obtain ⟨h39,hF⟩:=gd hF
       refine at_append (z:=.agg (Cd.cs c_api_Entry zv12).toArray) (c:=c_api_Entry) (ys:=([{ { zv12 with f_P:=lget ((lget x0.f_Peers i6).f_Allowed) i27 } with f_Owner:=i6 }]:List S_api_Entry)) (.s (.s .z)) underlying46 infoV249 (by kernel_rfl) (by kernel_rfl) rfl rfl rfl rfl (fun _ hw=>cells_src (hw.ok (Upd.mem .z))) (by kernel_rfl) h39 (app_small h39) rfl ?_
       intro p40 c41
       refine aa (qn (dz (dz (wq [19,18,17,11,10,9,4,3] ?_))))
       refine bm ?_
       refine qr (aw xa (am (nwq [19,18,17,11,10,9,4,3] ?_)))
       exact at_weak_k (ih _ _ _ hF K p40 c41) ⟨rfl,rfl,rfl,rfl,rfl,rfl,rfl,rfl,trivial⟩
      refine cf h32 ?_
      refine at_exit ?_
      refine te (te ?_)
      obtain rfl:=os hF
      exact at_weak_k (K p28 c29) ⟨rfl,rfl,rfl,rfl,trivial⟩
    skip
    intro p30 c31
    refine at_blk_same ?_
    refine bm ?_
    refine qr (aw xa (am (nwq [11,10,9,3] ?_)))
    exact at_weak_k (ih _ _ _ hF K p30 c31) ⟨rfl,rfl,rfl,rfl,trivial⟩
   refine cf h11 ?_
   refine at_exit ?_
   refine te (te ?_)
   obtain rfl:=os hF
   exact at_weak_k (K p7 c8) ⟨rfl,trivial⟩
 skip
 intro p9 c10
 refine at_blk_same ?_
 refine tn (sr (am (aa (nwq [2] ?_))))
 refine qt ?_
 have K:=os hF
 subst K
 exact r1 (fun w1 hw=>⟨p9,c10,rfl,hw.own .z,hw.below⟩)
def crawlwayref60_Entries.l1(x0:S_api_Conf)(i6:Int)(i15:List S_api_Entry)(i17:Int):Option (List S_api_Entry) :=
 if (0:Int)≤i6∧i6<(x0.f_Peers.length:Int) then if (decide (i17<(((lget x0.f_Peers i6).f_Allowed).length:Int)))=true then (if (0:Int)≤i6∧i6<(x0.f_Peers.length:Int) then if (0:Int)≤i17∧i17<(((lget x0.f_Peers i6).f_Allowed).length:Int) then if (i15.length+1)*40≤140737488355328 then crawlwayref60_Entries.l1 x0 i6 (i15++[{ { ({ f_P:=({ f_A:=({ f_V:=(0:Int),f_B:=(Vector.replicate 16 (0:Int):(Vector Int 16)) }:S_api_Addr),f_Bits:=(0:Int) }:S_api_Prefix),f_Owner:=(0:Int) }:S_api_Entry) with f_P:=lget ((lget x0.f_Peers i6).f_Allowed) i17 } with f_Owner:=i6 }]) (wr .i64 (i17+1)) else none else none else none) else (some i15) else none
 partial_fixpoint
def crawlwayref60_Entries.l0(x0:S_api_Conf)(i5:List S_api_Entry)(i6:Int):Option (List S_api_Entry) :=
 if (decide (i6<(x0.f_Peers.length:Int)))=true then (crawlwayref60_Entries.l1 x0 i6 i5 0>>=fun q14=>crawlwayref60_Entries.l0 x0 q14 (wr .i64 (i6+1))) else (some i5)
 partial_fixpoint
def crawlwayref60_Entries(x0:S_api_Conf):Option (List S_api_Entry) :=
 crawlwayref60_Entries.l0 x0 ([]:List S_api_Entry) 0>>=fun q4=>some q4
theorem crawlwayref60_Entries_ok(g0_:G_api_Conf)(x0:S_api_Conf)(r:List S_api_Entry)(hF:crawlwayref60_Entries x0=some r)(w:World)(hn0:N_api_Conf w (g0_,x0)) :
    Calls Tryz.prog 14 #[.agg (Cd.cs c_api_Conf (g0_,x0)).toArray] w (fun e w'=>∃ p cap,e=.returned (.slice p r.length cap)∧Own c_api_Entry 49 w.heap.size w' p cap r∧Below w.heap.size w w'):=by
 unfold crawlwayref60_Entries at hF
 refine ce (l:=[.agg (Cd.cs c_api_Conf (g0_,x0)).toArray]) func14 rfl rfl ?_
 refine at_start ?_
 refine sr ?_
 refine at_box (cs:=Cd.cs c_api_Conf (g0_,x0)) rfl rfl rfl ?_
 intro b1
 refine aa (ns (aa (nt (qs (sr (aa (nwq [4,3,1] ?_)))))))
 refine qb ?_
 refine at_own_nil c_api_Entry 49 ?_
 obtain ⟨q4,hq4,hF⟩:=bM hF
 refine wq [4,3,1] ?_
 refine at_loop_n (B:=0) (A:=fun Y=>∀ (p9:Option Addr) (c10:Nat),At 39 [(3,.slice p9 q4.length c10)] (Wd w [rowE c_api_Entry 49 p9 c10 q4]) Y) ?_ ?_
 ·intro K
  refine crawlwayref60_Entries.l0.partial_correctness x0 (motive:=fun i5 i6 x=>KN (fun Y=>∀ (p9:Option Addr) (c10:Nat),At 39 [(3,.slice p9 x.length c10)] (Wd w [rowE c_api_Entry 49 p9 c10 x]) Y) _ 0→Round (fun Y=>∀ (p7:Option Addr) (c8:Nat),At 39 [(1,.pointer (some ⟨b1,0,none⟩)),(3,.slice p7 i5.length c8),(4,.int .i64 i6)] (Wd w [rowE c_api_Entry 49 p7 c8 i5,cellsE b1 (Cd.cs c_api_Conf (g0_,x0)) 27]) Y) _ _ _) ?_ _ _ _ hq4 K none 0
  ·clear K hF
   intro g ih i5 i6 x hF K p7 c8
   refine at_round ?_
   refine qs (sr (am (fa 34 underlying27 rfl sizeOf25 ?_)))
   refine aw (r_load_cell isAgg25 rfl (lens_cell0 (c:=cHd) (y:=⟨g0_.1,List.length x0.f_Peers,g0_.2⟩) (.s .z) (c_api_Conf_f_Peers g0_ x0) rfl)) ?_
   refine aw (r_len_sl underlying25 rfl) ?_
   refine aw xl (nwq [10,4,3,1] ?_)
   obtain ⟨h11,hF⟩|⟨h11,hF⟩:=oi hF
   ·refine ct h11 ?_
    refine sn (qs ?_)
    refine qb ?_
    refine sr (aa (nwq [5,4,3,1] ?_))
    refine qb ?_
    obtain ⟨q14,hq14,hF⟩:=bM hF
    refine wq [5,4,3,1] ?_
    refine at_loop_n (B:=2) (A:=fun Y=>∀ (p20:Option Addr) (c21:Nat),At 39 [(1,.pointer (some ⟨b1,0,none⟩)),(3,.slice p20 q14.length c21),(4,.int .i64 i6)] (Wd w [rowE c_api_Entry 49 p20 c21 q14,cellsE b1 (Cd.cs c_api_Conf (g0_,x0)) 27]) Y) ?_ ?_
    ·intro K
     refine crawlwayref60_Entries.l1.partial_correctness x0 i6 (motive:=fun i15 i17 x=>KN (fun Y=>∀ (p20:Option Addr) (c21:Nat),At 39 [(1,.pointer (some ⟨b1,0,none⟩)),(3,.slice p20 x.length c21),(4,.int .i64 i6)] (Wd w [rowE c_api_Entry 49 p20 c21 x,cellsE b1 (Cd.cs c_api_Conf (g0_,x0)) 27]) Y) _ 2→Round (fun Y=>∀ (p18:Option Addr) (c19:Nat),At 39 [(1,.pointer (some ⟨b1,0,none⟩)),(3,.slice p18 i15.length c19),(4,.int .i64 i6),(5,.int .i64 i17)] (Wd w [rowE c_api_Entry 49 p18 c19 i15,cellsE b1 (Cd.cs c_api_Conf (g0_,x0)) 27]) Y) _ _ _) ?_ _ _ _ hq14 K p7 c8
     ·clear K hF
      intro g ih i15 i17 x hF K p18 c19
      refine at_round ?_
      refine qs (sr (am (fa 34 underlying27 rfl sizeOf25 ?_)))
      refine aw (r_load_cell isAgg25 rfl (lens_cell0 (c:=cHd) (y:=⟨g0_.1,List.length x0.f_Peers,g0_.2⟩) (.s .z) (c_api_Conf_f_Peers g0_ x0) rfl)) ?_
      refine am ?_
      obtain ⟨h22,hF⟩:=gd hF
      obtain ⟨zs26,hz27,hr28,hn29⟩:=id hn0
      obtain ⟨b24,o25,hp23⟩:=row_ptr hr28 (zidx hz27 h22)
      obtain ⟨g30,hg31⟩:=zget hz27 i6
      refine aw (r_idx underlying25 sizeOf60 rfl rfl h22 hp23) ?_
      refine fa 85 underlying60 rfl sizeOf58 ?_
      refine aw (r_load_cell isAgg58 rfl (nlens0 (c':=cHd) (y:=⟨g30.1,List.length ((lget x0.f_Peers i6).f_Allowed),g30.2⟩) (fun _ h=>h.below) hr28 (zidx hz27 h22) hp23 hg31 (c_api_Peer_f_Allowed g30 (lget x0.f_Peers i6)) rfl)) ?_
      refine aw (r_len_sl underlying58 rfl) ?_
      refine aw xl (nwq [21,5,4,3,1] ?_)
      obtain ⟨h32,hF⟩|⟨h32,hF⟩:=oi hF
      ·refine ct h32 ?_
       refine sn (qs ?_)
       refine qb ?_
       refine qr (am (fa 34 underlying27 rfl sizeOf25 ?_))
       refine aw (r_load_cell isAgg25 rfl (lens_cell0 (c:=cHd) (y:=⟨g0_.1,List.length x0.f_Peers,g0_.2⟩) (.s .z) (c_api_Conf_f_Peers g0_ x0) rfl)) ?_
       refine am ?_
       obtain ⟨h33,hF⟩:=gd hF
       obtain ⟨zs37,hz38,hr39,hn40⟩:=id hn0
       obtain ⟨b35,o36,hp34⟩:=row_ptr hr39 (zidx hz38 h33)
       obtain ⟨g41,hg42⟩:=zget hz38 i6
       refine aw (r_idx underlying25 sizeOf60 rfl rfl h33 hp34) ?_
       refine fa 85 underlying60 rfl sizeOf58 ?_
       refine aw (r_load_cell isAgg58 rfl (nlens0 (c':=cHd) (y:=⟨g41.1,List.length ((lget x0.f_Peers i6).f_Allowed),g41.2⟩) (fun _ h=>h.below) hr39 (zidx hz38 h33) hp34 hg42 (c_api_Peer_f_Allowed g41 (lget x0.f_Peers i6)) rfl)) ?_
       refine am ?_
       obtain ⟨h43,hF⟩:=gd hF
       obtain ⟨b45,o46,hp44⟩:=row_ptr (nz hg42 hn40 (zidx hz38 h33)) h43
       refine aw (r_idx underlying58 sizeOf38 rfl rfl h43 hp44) ?_
       refine aw (r_load_aggc (c:=c_api_Prefix) (z:=lget ((lget x0.f_Peers i6).f_Allowed) i17) isAgg38 sizeOf38 rfl (row_cell (fun _ h=>h.below) (nz hg42 hn40 (zidx hz38 h33)) h43 hp44)) ?_
       refine am ?_
       refine aw (r_build_struct (zs:=Cd.cs c_api_Entry zv12) (cs:=Cd.cs c_api_Entry ({ { zv12 with f_P:=lget ((lget x0.f_Peers i6).f_Allowed) i17 } with f_Owner:=i6 })) underlying49 zeroValue49 rfl (places_api_Entry_49) rfl (fill_step (c:=c_api_Prefix) (z:=lget ((lget x0.f_Peers i6).f_Allowed) i17) rfl (c_api_Entry_f_P zv12) rfl (fill_step (c:=(cInt .i64)) (z:=i6) rfl (c_api_Entry_f_Owner ({ zv12 with f_P:=lget ((lget x0.f_Peers i6).f_Allowed) i17 })) rfl rfl))) ?_
       refine at_litL (c:=c_api_Entry) ([zv12]:List S_api_Entry) ([{ { zv12 with f_P:=lget ((lget x0.f_Peers i6).f_Allowed) i17 } with f_Owner:=i6 }]:List S_api_Entry) underlying46 sizeOf49 zeroValue49 rfl rfl rfl (by kernel_rfl) (fill_step (c:=c_api_Entry) (z:={ { zv12 with f_P:=lget ((lget x0.f_Peers i6).f_Allowed) i17 } with f_Owner:=i6 }) rfl (Lens.all c_api_Entry ([zv12]:List S_api_Entry) 0 (by first | decide | exact Nat.le_of_ble_eq_true rfl)) rfl rfl) rfl ?_
       intro b47
       obtain ⟨h48,hF⟩:=gd hF
       refine at_append (z:=.agg (Cd.cs c_api_Entry zv12).toArray) (c:=c_api_Entry) (ys:=([{ { zv12 with f_P:=lget ((lget x0.f_Peers i6).f_Allowed) i17 } with f_Owner:=i6 }]:List S_api_Entry)) (.s .z) underlying46 infoV249 (by kernel_rfl) (by kernel_rfl) rfl rfl rfl rfl (fun _ hw=>cells_src (hw.ok (Upd.mem .z))) (by kernel_rfl) h48 (app_small h48) rfl ?_
       intro p49 c50
       refine aa (qn (dz (wq [5,4,3,1] ?_)))
       refine bm ?_
       refine qr (am (aw xa (aa (nwq [5,4,3,1] ?_))))
       exact at_weak_k (ih _ _ _ hF K p49 c50) ⟨rfl,rfl,rfl,rfl,trivial⟩
      refine cf h32 ?_
      refine at_exit ?_
      refine te (te ?_)
      obtain rfl:=os hF
      exact at_weak_k (K p18 c19) ⟨rfl,rfl,rfl,trivial⟩
    skip
    intro p20 c21
    refine at_blk_same ?_
    refine bm ?_
    refine qr (am (aw xa (aa (nwq [4,3,1] ?_))))
    exact at_weak_k (ih _ _ _ hF K p20 c21) ⟨rfl,rfl,rfl,trivial⟩
   refine cf h11 ?_
   refine at_exit ?_
   refine te (te ?_)
   refine at_drop (H:=_) (.s .z) ?_
   obtain rfl:=os hF
   exact at_weak_k (K p7 c8) ⟨rfl,trivial⟩
 skip
 intro p9 c10
 refine at_blk_same ?_
 refine tn (sr (am (aa (nwq [2] ?_))))
 refine qt ?_
 have K:=os hF
 subst K
 exact r1 (fun w1 hw=>⟨p9,c10,rfl,hw.own .z,hw.below⟩)
def crawlwayref60_before.l0(x0:S_api_Conf)(x1:Int)(x2:Bool)(i3:Int):Option (Ctl (Bool) (Unit)) :=
 if (decide (i3<x1))=true then (if x2=true then (if (0:Int)≤i3∧i3<(x0.f_Peers.length:Int) then if (0:Int)≤x1∧x1<(x0.f_Peers.length:Int) then if (decide ((lget x0.f_Peers i3).f_Psk=(lget x0.f_Peers x1).f_Psk))=true then (some (.ret true)) else (if (!x2)=true then (if (0:Int)≤i3∧i3<(x0.f_Peers.length:Int) then if (0:Int)≤x1∧x1<(x0.f_Peers.length:Int) then if (decide ((lget x0.f_Peers i3).f_End=(lget x0.f_Peers x1).f_End))=true then (some (.ret true)) else (crawlwayref60_before.l0 x0 x1 x2 (wr .i64 (i3+1))) else none else none) else (crawlwayref60_before.l0 x0 x1 x2 (wr .i64 (i3+1)))) else none else none) else (if (!x2)=true then (if (0:Int)≤i3∧i3<(x0.f_Peers.length:Int) then if (0:Int)≤x1∧x1<(x0.f_Peers.length:Int) then if (decide ((lget x0.f_Peers i3).f_End=(lget x0.f_Peers x1).f_End))=true then (some (.ret true)) else (crawlwayref60_before.l0 x0 x1 x2 (wr .i64 (i3+1))) else none else none) else (crawlwayref60_before.l0 x0 x1 x2 (wr .i64 (i3+1))))) else (some (.nx ()))
 partial_fixpoint
def crawlwayref60_before(x0:S_api_Conf)(x1:Int)(x2:Bool):Option (Bool) :=
 crawlwayref60_before.l0 x0 x1 x2 0>>=fun q2=>match q2 with | .ret r'=>some r' | .nx sq2=>(some false)
def crawlwayref60_hidden.l0(x0:List S_api_Entry)(x1:S_api_Prefix)(i5:List S_api_Prefix)(i6:Int):Option (List S_api_Prefix) :=
 if (decide (i6<(x0.length:Int)))=true then (if (0:Int)≤i6∧i6<(x0.length:Int) then if (decide (((lget x0 i6).f_P).f_Bits>x1.f_Bits))=true then (if (0:Int)≤i6∧i6<(x0.length:Int) then crawlwayref11_Covers x1 ((lget x0 i6).f_P)>>=fun t21=>if t21=true then (if (0:Int)≤i6∧i6<(x0.length:Int) then if (i5.length+1)*32≤140737488355328 then crawlwayref60_hidden.l0 x0 x1 (i5++[(lget x0 i6).f_P]) (wr .i64 (i6+1)) else none else none) else (crawlwayref60_hidden.l0 x0 x1 i5 (wr .i64 (i6+1))) else none) else (crawlwayref60_hidden.l0 x0 x1 i5 (wr .i64 (i6+1))) else none) else (some i5)
 partial_fixpoint
def crawlwayref60_hidden(x0:List S_api_Entry)(x1:S_api_Prefix):Option (Bool) :=
 crawlwayref60_hidden.l0 x0 x1 ([]:List S_api_Prefix) 0>>=fun q4=>crawlwayref53_Cover q4>>=fun t31=>if ((t31.length:Int)==1)=true then (if (0:Int)≤0∧0<(t31.length:Int) then some (decide (lget t31 0=x1)) else none) else (some false)
def crawlwayref60_is(x0:List S_api_Entry)(x1:Int)(x2:S_api_Entry):Option (Bool) :=
 if (x1==6)=true then (crawlwayref60_hidden x0 x2.f_P>>=fun t3=>some t3) else (crawlwayref59_Thin x0>>=fun t4=>crawlwayref25_Place t4 x2.f_P>>=fun t7=>some (decide (t7<0)))
def lint_Text(x0:S_api_Conf)(x1:S_lint_Odd):Option (ByteArray) :=
 if (decide (x1.f_Kind<1))=true then (some (⟨#[]⟩)) else (if (decide (x1.f_Kind>6))=true then (some (⟨#[]⟩)) else (if (0:Int)≤x1.f_Kind∧x1.f_Kind<7 then if (decide (x1.f_Peer≥0))=true then (if (decide (x1.f_Peer<(x0.f_Peers.length:Int)))=true then (if (0:Int)≤x1.f_Peer∧x1.f_Peer<(x0.f_Peers.length:Int) then keys_Text ((lget x0.f_Peers x1.f_Peer).f_Key)>>=fun t19=>if (([vget gval_lint_words x1.f_Kind]:List ByteArray).length+1)*16≤140737488355328 then if (!decide (x1.f_P=({ f_A:=({ f_V:=(0:Int),f_B:=(Vector.replicate 16 (0:Int):(Vector Int 16)) }:S_api_Addr),f_Bits:=(0:Int) }:S_api_Prefix)))=true then (cidr_Text x1.f_P>>=fun t25=>if ((([vget gval_lint_words x1.f_Kind]:List ByteArray)++[t19]).length+1)*16≤140737488355328 then if List.length ((([vget gval_lint_words x1.f_Kind]:List ByteArray)++[t19])++[t25])≤140737488355328 then if (bjoin ((([vget gval_lint_words x1.f_Kind]:List ByteArray)++[t19])++[t25]) (⟨#[32]⟩:ByteArray)).size≤140737488355328 then some (bjoin ((([vget gval_lint_words x1.f_Kind]:List ByteArray)++[t19])++[t25]) (⟨#[32]⟩:ByteArray)) else none else none else none) else (if List.length (([vget gval_lint_words x1.f_Kind]:List ByteArray)++[t19])≤140737488355328 then if (bjoin (([vget gval_lint_words x1.f_Kind]:List ByteArray)++[t19]) (⟨#[32]⟩:ByteArray)).size≤140737488355328 then some (bjoin (([vget gval_lint_words x1.f_Kind]:List ByteArray)++[t19]) (⟨#[32]⟩:ByteArray)) else none else none) else none else none) else (if (!decide (x1.f_P=({ f_A:=({ f_V:=(0:Int),f_B:=(Vector.replicate 16 (0:Int):(Vector Int 16)) }:S_api_Addr),f_Bits:=(0:Int) }:S_api_Prefix)))=true then (cidr_Text x1.f_P>>=fun t35=>if (([vget gval_lint_words x1.f_Kind]:List ByteArray).length+1)*16≤140737488355328 then if List.length (([vget gval_lint_words x1.f_Kind]:List ByteArray)++[t35])≤140737488355328 then if (bjoin (([vget gval_lint_words x1.f_Kind]:List ByteArray)++[t35]) (⟨#[32]⟩:ByteArray)).size≤140737488355328 then some (bjoin (([vget gval_lint_words x1.f_Kind]:List ByteArray)++[t35]) (⟨#[32]⟩:ByteArray)) else none else none else none) else (if List.length ([vget gval_lint_words x1.f_Kind]:List ByteArray)≤140737488355328 then if (bjoin ([vget gval_lint_words x1.f_Kind]:List ByteArray) (⟨#[32]⟩:ByteArray)).size≤140737488355328 then some (bjoin ([vget gval_lint_words x1.f_Kind]:List ByteArray) (⟨#[32]⟩:ByteArray)) else none else none))) else (if (!decide (x1.f_P=({ f_A:=({ f_V:=(0:Int),f_B:=(Vector.replicate 16 (0:Int):(Vector Int 16)) }:S_api_Addr),f_Bits:=(0:Int) }:S_api_Prefix)))=true then (cidr_Text x1.f_P>>=fun t45=>if (([vget gval_lint_words x1.f_Kind]:List ByteArray).length+1)*16≤140737488355328 then if List.length (([vget gval_lint_words x1.f_Kind]:List ByteArray)++[t45])≤140737488355328 then if (bjoin (([vget gval_lint_words x1.f_Kind]:List ByteArray)++[t45]) (⟨#[32]⟩:ByteArray)).size≤140737488355328 then some (bjoin (([vget gval_lint_words x1.f_Kind]:List ByteArray)++[t45]) (⟨#[32]⟩:ByteArray)) else none else none else none) else (if List.length ([vget gval_lint_words x1.f_Kind]:List ByteArray)≤140737488355328 then if (bjoin ([vget gval_lint_words x1.f_Kind]:List ByteArray) (⟨#[32]⟩:ByteArray)).size≤140737488355328 then some (bjoin ([vget gval_lint_words x1.f_Kind]:List ByteArray) (⟨#[32]⟩:ByteArray)) else none else none)) else none))
theorem lint_Text_ok(g0_:G_api_Conf)(x0:S_api_Conf)(x1:S_lint_Odd)(r:ByteArray)(hF:lint_Text x0 x1=some r)(w:World)(hn0:N_api_Conf w (g0_,x0))(hg_lint_words:GV_lint_words w)(hg_strconv_uint64pow10:GV_strconv_uint64pow10 w) :
    Calls Tryz.prog 12 #[.agg (Cd.cs c_api_Conf (g0_,x0)).toArray,.agg (Cd.cs c_lint_Odd x1).toArray] w (fun e w'=>e=.returned (.string r)∧Below w.heap.size w w'):=by
 unfold lint_Text at hF
 refine ce (l:=[.agg (Cd.cs c_api_Conf (g0_,x0)).toArray,.agg (Cd.cs c_lint_Odd x1).toArray]) func12 rfl rfl ?_
 refine at_start ?_
 refine sr ?_
 refine at_box (cs:=Cd.cs c_api_Conf (g0_,x0)) rfl rfl rfl ?_
 intro b1
 refine at_box (cs:=Cd.cs c_lint_Odd x1) rfl rfl rfl ?_
 intro b2
 refine aa (nwq [3,2] ?_)
 refine qs (sr (fa 0 underlying40 rfl sizeOf3 ?_))
 refine aw (r_load_cell isAgg3 rfl (lens_cell0 (c:=(cInt .i64)) (y:=x1.f_Kind) .z (Lens.comp lw (fun z=>{ x1 with f_Kind:=z }) (c_lint_Odd_f_Kind x1)) rfl)) ?_
 refine aw xl (am ?_)
 obtain ⟨h3,hF⟩|⟨h3,hF⟩:=oi hF
 ·refine fx 9 h3 ?_
  refine gn ?_
  refine gn ?_
  refine gn ?_
  refine aw xp (nwq [13,3,2] ?_)
  refine ct rfl ?_
  refine sr (aa (qn (dz (dz (wq [4] ?_)))))
  refine tn (rt ?_)
  have K:=os hF
  subst K
  exact r1 wb
 refine fx 9 h3 ?_
 refine gy ?_
 refine fa 0 underlying40 rfl sizeOf3 ?_
 refine gy ?_
 refine aw (r_load_cell isAgg3 rfl (lens_cell0 (c:=(cInt .i64)) (y:=x1.f_Kind) .z (Lens.comp lw (fun z=>{ x1 with f_Kind:=z }) (c_lint_Odd_f_Kind x1)) rfl)) ?_
 refine gy ?_
 refine aw (r_igtr rfl rfl) ?_
 refine aw xp (nwq [13,3,2] ?_)
 obtain ⟨h4,hF⟩|⟨h4,hF⟩:=oi hF
 ·refine ct h4 ?_
  refine sr (aa (qn (dz (dz (wq [4] ?_)))))
  refine tn (rt ?_)
  have K:=os hF
  subst K
  exact r1 wb
 refine cf h4 ?_
 refine sns (fa 0 underlying40 rfl sizeOf3 ?_)
 refine aw (r_load_cell isAgg3 rfl (lens_cell0 (c:=(cInt .i64)) (y:=x1.f_Kind) .z (Lens.comp lw (fun z=>{ x1 with f_Kind:=z }) (c_lint_Odd_f_Kind x1)) rfl)) ?_
 obtain ⟨h5,hF⟩:=gd hF
 refine aw (r_idxArr underlying78 sizeOf9 rfl rfl h5) ?_
 refine aw (r_load_cell isAgg9 rfl (glob_cell0 (c':=cStr) (y:=vget gval_lint_words x1.f_Kind) (fun _ h=>h.below) hg_lint_words g_lint_words (Lens.comp lw (fun z=>vset gval_lint_words x1.f_Kind z) (Lens.vec cStr (by decide) gval_lint_words x1.f_Kind h5)) rfl)) ?_
 refine at_lit (cs:=cStr.all ([vget gval_lint_words x1.f_Kind]:List ByteArray)) underlying72 sizeOf9 zeroValue9 rfl rfl rfl (by kernel_rfl) rfl ?_
 intro b6
 refine aa (nwq [5,3,2] ?_)
 refine qs (sr (fa 1 underlying40 rfl sizeOf3 ?_))
 refine aw (r_load_cell isAgg3 rfl (lens_cell0 (c:=(cInt .i64)) (y:=x1.f_Peer) (.s .z) (Lens.comp lw (fun z=>{ x1 with f_Peer:=z }) (c_lint_Odd_f_Peer x1)) rfl)) ?_
 refine aw (r_igeq rfl rfl) ?_
 refine am ?_
 obtain ⟨h7,hF⟩|⟨h7,hF⟩:=oi hF
 ·refine fx 22 h7 ?_
  refine gy ?_
  refine fa 1 underlying40 rfl sizeOf3 ?_
  refine gy ?_
  refine aw (r_load_cell isAgg3 rfl (lens_cell0 (c:=(cInt .i64)) (y:=x1.f_Peer) (.s .z) (Lens.comp lw (fun z=>{ x1 with f_Peer:=z }) (c_lint_Odd_f_Peer x1)) rfl)) ?_
  refine gy ?_
  refine fa 34 underlying27 rfl sizeOf25 ?_
  refine gy ?_
  refine aw (r_load_cell isAgg25 rfl (lens_cell0 (c:=cHd) (y:=⟨g0_.1,List.length x0.f_Peers,g0_.2⟩) (.s (.s .z)) (c_api_Conf_f_Peers g0_ x0) rfl)) ?_
  refine gy ?_
  refine aw (r_len_sl underlying25 rfl) ?_
  refine gy ?_
  refine aw xl (aw xp (nwq [29,5,3,2] ?_))
  obtain ⟨h8,hF⟩|⟨h8,hF⟩:=oi hF
  ·refine ct h8 ?_
   refine qr (am (fa 34 underlying27 rfl sizeOf25 ?_))
   refine aw (r_load_cell isAgg25 rfl (lens_cell0 (c:=cHd) (y:=⟨g0_.1,List.length x0.f_Peers,g0_.2⟩) (.s (.s .z)) (c_api_Conf_f_Peers g0_ x0) rfl)) ?_
   refine fa 1 underlying40 rfl sizeOf3 ?_
   refine aw (r_load_cell isAgg3 rfl (lens_cell0 (c:=(cInt .i64)) (y:=x1.f_Peer) (.s .z) (Lens.comp lw (fun z=>{ x1 with f_Peer:=z }) (c_lint_Odd_f_Peer x1)) rfl)) ?_
   obtain ⟨h9,hF⟩:=gd hF
   obtain ⟨zs13,hz14,hr15,hn16⟩:=id hn0
   obtain ⟨b11,o12,hp10⟩:=row_ptr hr15 (zidx hz14 h9)
   obtain ⟨g17,hg18⟩:=zget hz14 x1.f_Peer
   refine aw (r_idx underlying25 sizeOf60 rfl rfl h9 hp10) ?_
   refine fa 0 underlying60 rfl sizeOf23 ?_
   refine aw (r_load_aggc (c:=(cVec (cInt .u8) 32 (by decide))) (z:=(lget x0.f_Peers x1.f_Peer).f_Key) isAgg23 sizeOf23 rfl (nlens (y:=(lget x0.f_Peers x1.f_Peer).f_Key) (fun _ h=>h.below) hr15 (zidx hz14 h9) hp10 hg18 (c_api_Peer_f_Key g17 (lget x0.f_Peers x1.f_Peer)))) ?_
   obtain ⟨t19,ht19,hF⟩:=bM hF
   refine cB func35 rfl (fun w hw=>keys_Text_ok _ _ ht19 w) ?_
   refine at_lit (cs:=cStr.all ([t19]:List ByteArray)) underlying72 sizeOf9 zeroValue9 rfl rfl rfl (by kernel_rfl) rfl ?_
   intro b20
   refine at_lit_row (c:=cStr) (xs:=([vget gval_lint_words x1.f_Kind]:List ByteArray)) (m:=1) (.s .z) rfl rfl ?_
   obtain ⟨h21,hF⟩:=gd hF
   refine at_append (z:=.string ⟨#[]⟩) (c:=cStr) (ys:=([t19]:List ByteArray)) (.s .z) underlying72 infoV29 (by kernel_rfl) (by kernel_rfl) rfl rfl rfl rfl (fun _ hw=>cells_src (hw.ok (Upd.mem .z))) (by kernel_rfl) h21 (app_small h21) rfl ?_
   intro p22 c23
   refine aa (qn (dz ?_))
   refine at_drop (H:=_) (.s (.s .z)) ?_
   refine tn (qs (sr (fa 2 underlying40 rfl sizeOf38 ?_)))
   refine aw (r_load_aggc (c:=c_api_Prefix) (z:=x1.f_P) isAgg38 sizeOf38 rfl (lens_cell (.s .z) (Lens.comp lw (fun z=>{ x1 with f_P:=z }) (c_lint_Odd_f_P x1)))) ?_
   refine aw (r_build_struct (zs:=Cd.cs c_api_Prefix zv8) (cs:=Cd.cs c_api_Prefix zv8) underlying38 zeroValue38 rfl (places_api_Prefix_38) rfl rfl) ?_
   refine aw (r_eqagg (c:=c_api_Prefix) (a:=x1.f_P) (b:=zv8) (eq_api_Prefix_38) rfl Tryz.eqGuardType38 rfl rfl (.inr rfl) rfl) ?_
   refine nwq [44,5,3] ?_
   obtain ⟨h24,hF⟩|⟨h24,hF⟩:=oi hF
   ·refine ct h24 ?_
    refine qr (am (fa 2 underlying40 rfl sizeOf38 ?_))
    refine aw (r_load_aggc (c:=c_api_Prefix) (z:=x1.f_P) isAgg38 sizeOf38 rfl (lens_cell (.s .z) (Lens.comp lw (fun z=>{ x1 with f_P:=z }) (c_lint_Odd_f_P x1)))) ?_
    obtain ⟨t25,ht25,hF⟩:=bM hF
    refine cB func36 rfl (fun w hw=>cidr_Text_ok _ _ ht25 w (hg_strconv_uint64pow10.on hw.below)) ?_
    refine at_lit (cs:=cStr.all ([t25]:List ByteArray)) underlying72 sizeOf9 zeroValue9 rfl rfl rfl (by kernel_rfl) rfl ?_
    intro b26
    obtain ⟨h27,hF⟩:=gd hF
    refine at_append (z:=.string ⟨#[]⟩) (c:=cStr) (ys:=([t25]:List ByteArray)) (.s .z) underlying72 infoV29 (by kernel_rfl) (by kernel_rfl) rfl rfl rfl rfl (fun _ hw=>cells_src (hw.ok (Upd.mem .z))) (by kernel_rfl) h27 (app_small h27) rfl ?_
    intro p28 c29
    refine aa (qn (dz ?_))
    refine at_drop (H:=_) (.s .z) ?_
    refine tn (sr (am ?_))
    obtain ⟨h30,hF⟩:=gd hF
    obtain ⟨h31,hF⟩:=gd hF
    refine cB func37 rfl (fun w1 hw=>join_ok _ _ h30 h31 _ _ w1 (hw.own .z).row) ?_
    refine aa (qn (dz (wq [4] ?_)))
    refine tn (qt ?_)
    have K:=os hF
    subst K
    exact r1 wb
   refine cf h24 ?_
   refine sns (am ?_)
   obtain ⟨h32,hF⟩:=gd hF
   obtain ⟨h33,hF⟩:=gd hF
   refine cB func37 rfl (fun w1 hw=>join_ok _ _ h32 h33 _ _ w1 (hw.own .z).row) ?_
   refine aa (qn (dz (dz (wq [4] ?_))))
   refine tn (qt ?_)
   have K:=os hF
   subst K
   exact r1 wb
  refine cf h8 ?_
  refine sn (qs (sr (fa 2 underlying40 rfl sizeOf38 ?_)))
  refine aw (r_load_aggc (c:=c_api_Prefix) (z:=x1.f_P) isAgg38 sizeOf38 rfl (lens_cell (.s .z) (Lens.comp lw (fun z=>{ x1 with f_P:=z }) (c_lint_Odd_f_P x1)))) ?_
  refine aw (r_build_struct (zs:=Cd.cs c_api_Prefix zv8) (cs:=Cd.cs c_api_Prefix zv8) underlying38 zeroValue38 rfl (places_api_Prefix_38) rfl rfl) ?_
  refine aw (r_eqagg (c:=c_api_Prefix) (a:=x1.f_P) (b:=zv8) (eq_api_Prefix_38) rfl Tryz.eqGuardType38 rfl rfl (.inr rfl) rfl) ?_
  refine qn ?_
  refine at_drop (H:=_) (.s (.s .z)) ?_
  refine wq [44,5,3] ?_
  refine tn ?_
  obtain ⟨h34,hF⟩|⟨h34,hF⟩:=oi hF
  ·refine ct h34 ?_
   refine qr (am (fa 2 underlying40 rfl sizeOf38 ?_))
   refine aw (r_load_aggc (c:=c_api_Prefix) (z:=x1.f_P) isAgg38 sizeOf38 rfl (lens_cell (.s .z) (Lens.comp lw (fun z=>{ x1 with f_P:=z }) (c_lint_Odd_f_P x1)))) ?_
   obtain ⟨t35,ht35,hF⟩:=bM hF
   refine cB func36 rfl (fun w hw=>cidr_Text_ok _ _ ht35 w (hg_strconv_uint64pow10.on hw.below)) ?_
   refine at_lit (cs:=cStr.all ([t35]:List ByteArray)) underlying72 sizeOf9 zeroValue9 rfl rfl rfl (by kernel_rfl) rfl ?_
   intro b36
   refine at_lit_row (c:=cStr) (xs:=([vget gval_lint_words x1.f_Kind]:List ByteArray)) (m:=1) (.s .z) rfl rfl ?_
   obtain ⟨h37,hF⟩:=gd hF
   refine at_append (z:=.string ⟨#[]⟩) (c:=cStr) (ys:=([t35]:List ByteArray)) (.s .z) underlying72 infoV29 (by kernel_rfl) (by kernel_rfl) rfl rfl rfl rfl (fun _ hw=>cells_src (hw.ok (Upd.mem .z))) (by kernel_rfl) h37 (app_small h37) rfl ?_
   intro p38 c39
   refine aa (qn (dz ?_))
   refine at_drop (H:=_) (.s .z) ?_
   refine tn (sr (am ?_))
   obtain ⟨h40,hF⟩:=gd hF
   obtain ⟨h41,hF⟩:=gd hF
   refine cB func37 rfl (fun w1 hw=>join_ok _ _ h40 h41 _ _ w1 (hw.own .z).row) ?_
   refine aa (qn (dz (wq [4] ?_)))
   refine tn (qt ?_)
   have K:=os hF
   subst K
   exact r1 wb
  refine cf h34 ?_
  refine sns (am ?_)
  obtain ⟨h42,hF⟩:=gd hF
  obtain ⟨h43,hF⟩:=gd hF
  refine cB func37 rfl (fun w1 hw=>join_ok _ _ h42 h43 _ _ w1 (cells_row (hw.ok (Upd.mem .z)))) ?_
  refine aa (qn (dz (dz (wq [4] ?_))))
  refine tn (qt ?_)
  have K:=os hF
  subst K
  exact r1 wb
 refine fx 22 h7 ?_
 refine gn ?_
 refine gn ?_
 refine gn ?_
 refine gn ?_
 refine gn ?_
 refine gn ?_
 refine aw xp (nwq [29,5,3,2] ?_)
 refine cf rfl ?_
 refine sn (qs (sr (fa 2 underlying40 rfl sizeOf38 ?_)))
 refine aw (r_load_aggc (c:=c_api_Prefix) (z:=x1.f_P) isAgg38 sizeOf38 rfl (lens_cell (.s .z) (Lens.comp lw (fun z=>{ x1 with f_P:=z }) (c_lint_Odd_f_P x1)))) ?_
 refine aw (r_build_struct (zs:=Cd.cs c_api_Prefix zv8) (cs:=Cd.cs c_api_Prefix zv8) underlying38 zeroValue38 rfl (places_api_Prefix_38) rfl rfl) ?_
 refine aw (r_eqagg (c:=c_api_Prefix) (a:=x1.f_P) (b:=zv8) (eq_api_Prefix_38) rfl Tryz.eqGuardType38 rfl rfl (.inr rfl) rfl) ?_
 refine qn ?_
 refine at_drop (H:=_) (.s (.s .z)) ?_
 refine wq [44,5,3] ?_
 refine tn ?_
 obtain ⟨h44,hF⟩|⟨h44,hF⟩:=oi hF
 ·refine ct h44 ?_
  refine qr (am (fa 2 underlying40 rfl sizeOf38 ?_))
  refine aw (r_load_aggc (c:=c_api_Prefix) (z:=x1.f_P) isAgg38 sizeOf38 rfl (lens_cell (.s .z) (Lens.comp lw (fun z=>{ x1 with f_P:=z }) (c_lint_Odd_f_P x1)))) ?_
  obtain ⟨t45,ht45,hF⟩:=bM hF
  refine cB func36 rfl (fun w hw=>cidr_Text_ok _ _ ht45 w (hg_strconv_uint64pow10.on hw.below)) ?_
  refine at_lit (cs:=cStr.all ([t45]:List ByteArray)) underlying72 sizeOf9 zeroValue9 rfl rfl rfl (by kernel_rfl) rfl ?_
  intro b46
  refine at_lit_row (c:=cStr) (xs:=([vget gval_lint_words x1.f_Kind]:List ByteArray)) (m:=1) (.s .z) rfl rfl ?_
  obtain ⟨h47,hF⟩:=gd hF
  refine at_append (z:=.string ⟨#[]⟩) (c:=cStr) (ys:=([t45]:List ByteArray)) (.s .z) underlying72 infoV29 (by kernel_rfl) (by kernel_rfl) rfl rfl rfl rfl (fun _ hw=>cells_src (hw.ok (Upd.mem .z))) (by kernel_rfl) h47 (app_small h47) rfl ?_
  intro p48 c49
  refine aa (qn (dz ?_))
  refine at_drop (H:=_) (.s .z) ?_
  refine tn (sr (am ?_))
  obtain ⟨h50,hF⟩:=gd hF
  obtain ⟨h51,hF⟩:=gd hF
  refine cB func37 rfl (fun w1 hw=>join_ok _ _ h50 h51 _ _ w1 (hw.own .z).row) ?_
  refine aa (qn (dz (wq [4] ?_)))
  refine tn (qt ?_)
  have K:=os hF
  subst K
  exact r1 wb
 refine cf h44 ?_
 refine sns (am ?_)
 obtain ⟨h52,hF⟩:=gd hF
 obtain ⟨h53,hF⟩:=gd hF
 refine cB func37 rfl (fun w1 hw=>join_ok _ _ h52 h53 _ _ w1 (cells_row (hw.ok (Upd.mem .z)))) ?_
 refine aa (qn (dz (dz (wq [4] ?_))))
 refine tn (qt ?_)
 have K:=os hF
 subst K
 exact r1 wb
def lines_Join.l0(x0:List ByteArray)(i4:Int)(i5:ByteArray):Option (ByteArray) :=
 if (decide (i4<(x0.length:Int)))=true then (if (0:Int)≤i4∧i4<(x0.length:Int) then if i5.size+(lget x0 i4).size≤140737488355328 then if (i5++(lget x0 i4)).size+(⟨#[10]⟩:ByteArray).size≤140737488355328 then lines_Join.l0 x0 (wr .i64 (i4+1)) ((i5++(lget x0 i4))++(⟨#[10]⟩:ByteArray)) else none else none else none) else (some i5)
 partial_fixpoint
def lines_Join(x0:List ByteArray):Option (ByteArray) :=
 lines_Join.l0 x0 0 ByteArray.empty>>=fun q3=>some q3
theorem lines_Join_ok(x0:List ByteArray)(p0_:Option Addr)(c0_:Nat)(r:ByteArray)(hF:lines_Join x0=some r)(w:World)(hr0:Row cStr w p0_ c0_ x0) :
    Calls Tryz.prog 34 #[.slice p0_ x0.length c0_] w (fun e w'=>e=.returned (.string r)∧Below w.heap.size w w'):=by
 unfold lines_Join at hF
 refine ce (l:=[.slice p0_ x0.length c0_]) func34 rfl rfl ?_
 refine at_start ?_
 refine sr (aa (ns ?_))
 refine at_alloc_bld (e:=5) zeroValue97 rfl ?_
 intro b1
 refine nt (qs (sr (am ?_)))
 refine aw (r_len_sl underlying72 rfl) ?_
 refine am (nwq [8,7,6,3] ?_)
 refine qb ?_
 obtain ⟨q3,hq3,hF⟩:=bM hF
 refine wq [8,7,6,3] ?_
 refine at_loop_n (B:=0) (A:=fun Y=>∀ (g7:Option Nat),At 17 [(3,.pointer (some ⟨b1,0,none⟩))] (Wd w [bldE 97 5 b1 g7 q3]) Y) ?_ ?_
 ·intro K
  refine lines_Join.l0.partial_correctness x0 (motive:=fun i4 i5 x=>KN (fun Y=>∀ (g7:Option Nat),At 17 [(3,.pointer (some ⟨b1,0,none⟩))] (Wd w [bldE 97 5 b1 g7 x]) Y) _ 0→Round (fun Y=>∀ (g6:Option Nat),At 17 [(3,.pointer (some ⟨b1,0,none⟩)),(6,.slice p0_ x0.length c0_),(7,.int .i64 (x0.length:Int)),(8,.int .i64 i4)] (Wd w [bldE 97 5 b1 g6 i5]) Y) _ _ _) ?_ _ _ _ hq3 K none
  ·clear K hF
   intro g ih i4 i5 x hF K g6
   refine at_round ?_
   refine sr (aw xl (nwq [9,8,7,6,3] ?_))
   refine qs ?_
   obtain ⟨h8,hF⟩|⟨h8,hF⟩:=oi hF
   ·refine ct h8 ?_
    refine sn (qs ?_)
    refine qb ?_
    refine sr ?_
    obtain ⟨h9,hF⟩:=gd hF
    obtain ⟨b11,o12,hp10⟩:=row_ptr hr0 h9
    refine aw (r_idx underlying72 sizeOf9 rfl rfl h9 hp10) ?_
    refine aw (r_load_cell isAgg9 rfl (row_cell0 (fun _ h=>h.below) hr0 h9 hp10 rfl)) ?_
    refine aa (nwx [8,7,6,5,3] ?_)
    refine am ?_
    obtain ⟨h14,hF⟩:=gd hF
    refine at_bld_str (s:=(lget x0 i4)) .z trivial func58 rfl (by kernel_rfl) rfl rfl h14 Tryz.Builder_WriteString_k ?_
    intro g13
    refine nwq [8,7,6,3] ?_
    refine qr ?_
    obtain ⟨h16,hF⟩:=gd hF
    refine at_bld_str (s:=(⟨#[10]⟩:ByteArray)) .z trivial func58 rfl (by kernel_rfl) rfl rfl h16 Tryz.Builder_WriteString_k ?_
    intro g15
    refine qn (wq [8,7,6,3] ?_)
    refine bm ?_
    refine qr (aw xa (am (nwq [8,7,6,3] ?_)))
    exact at_weak_k (ih _ _ _ hF K g15) ⟨rfl,rfl,rfl,rfl,trivial⟩
   refine cf h8 ?_
   refine at_exit ?_
   refine te (te ?_)
   obtain rfl:=os hF
   exact at_weak_k (K g6) ⟨rfl,trivial⟩
 skip
 intro g7
 refine at_blk_same ?_
 refine tn (sr ?_)
 refine at_bld_string .z trivial func59 rfl (by kernel_rfl) rfl rfl Tryz.Builder_String_any_k ?_
 intro g17
 refine aa (qn (dz (wq [2] ?_)))
 refine tn (qt ?_)
 have K:=os hF
 subst K
 exact r1 wb
end Go.Proofs.YtahlbjmafceoeaaGreatDoor
namespace Go.Proofs.YtahlbjmafceoeaaGreatDoor
open E Go.RowKit _root_.Go.Proofs.Tryz
abbrev crawlwayref60_All.e0:S_lint_Odd:={ { ({ f_Kind:=(0:Int),f_Peer:=(0:Int),f_P:=({ f_A:=({ f_V:=(0:Int),f_B:=(Vector.replicate 16 (0:Int):(Vector Int 16)) }:S_api_Addr),f_Bits:=(0:Int) }:S_api_Prefix) }:S_lint_Odd) with f_Kind:=1 } with f_Peer:=(-1) }
def crawlwayref60_All.l0(x0:S_api_Conf)(i18:List S_lint_Odd)(i19:Int):Option (List S_lint_Odd) :=
 if (decide (i19<(x0.f_Peers.length:Int)))=true then (if (0:Int)≤i19∧i19<(x0.f_Peers.length:Int) then if ((((lget x0.f_Peers i19).f_Allowed).length:Int)==0)=true then (if (i18.length+1)*48≤140737488355328 then crawlwayref60_All.l0 x0 (i18++[{ { ({ f_Kind:=(0:Int),f_Peer:=(0:Int),f_P:=({ f_A:=({ f_V:=(0:Int),f_B:=(Vector.replicate 16 (0:Int):(Vector Int 16)) }:S_api_Addr),f_Bits:=(0:Int) }:S_api_Prefix) }:S_lint_Odd) with f_Kind:=2 } with f_Peer:=i19 }]) (wr .i64 (i19+1)) else none) else (crawlwayref60_All.l0 x0 i18 (wr .i64 (i19+1))) else none) else (some i18)
 partial_fixpoint
def crawlwayref60_All.l1(x0:S_api_Conf)(i43:List S_lint_Odd)(i44:Int):Option (List S_lint_Odd) :=
 if (decide (i44<(x0.f_Peers.length:Int)))=true then (if (0:Int)≤i44∧i44<(x0.f_Peers.length:Int) then if (!decide ((lget x0.f_Peers i44).f_End=({ f_A:=({ f_V:=(0:Int),f_B:=(Vector.replicate 16 (0:Int):(Vector Int 16)) }:S_api_Addr),f_Port:=(0:Int) }:S_api_Endpoint)))=true then (crawlwayref60_before x0 i44 false>>=fun t61=>if t61=true then (if (i43.length+1)*48≤140737488355328 then crawlwayref60_All.l1 x0 (i43++[{ { ({ f_Kind:=(0:Int),f_Peer:=(0:Int),f_P:=({ f_A:=({ f_V:=(0:Int),f_B:=(Vector.replicate 16 (0:Int):(Vector Int 16)) }:S_api_Addr),f_Bits:=(0:Int) }:S_api_Prefix) }:S_lint_Odd) with f_Kind:=3 } with f_Peer:=i44 }]) (wr .i64 (i44+1)) else none) else (crawlwayref60_All.l1 x0 i43 (wr .i64 (i44+1)))) else (crawlwayref60_All.l1 x0 i43 (wr .i64 (i44+1))) else none) else (some i43)
 partial_fixpoint
def crawlwayref60_All.l2(x0:S_api_Conf)(i70:List S_lint_Odd)(i71:Int):Option (List S_lint_Odd) :=
 if (decide (i71<(x0.f_Peers.length:Int)))=true then (if (0:Int)≤i71∧i71<(x0.f_Peers.length:Int) then crawlwayref07_Zero ((lget x0.f_Peers i71).f_Psk)>>=fun t87=>if (!t87)=true then (crawlwayref60_before x0 i71 true>>=fun t89=>if t89=true then (if (i70.length+1)*48≤140737488355328 then crawlwayref60_All.l2 x0 (i70++[{ { ({ f_Kind:=(0:Int),f_Peer:=(0:Int),f_P:=({ f_A:=({ f_V:=(0:Int),f_B:=(Vector.replicate 16 (0:Int):(Vector Int 16)) }:S_api_Addr),f_Bits:=(0:Int) }:S_api_Prefix) }:S_lint_Odd) with f_Kind:=4 } with f_Peer:=i71 }]) (wr .i64 (i71+1)) else none) else (crawlwayref60_All.l2 x0 i70 (wr .i64 (i71+1)))) else (crawlwayref60_All.l2 x0 i70 (wr .i64 (i71+1))) else none) else (some i70)
 partial_fixpoint
def crawlwayref60_All.l4(t95:List S_api_Entry)(i102:Int)(i111:List S_lint_Odd)(i112:Int):Option (List S_lint_Odd) :=
 if (decide (i112<(t95.length:Int)))=true then (if (0:Int)≤i112∧i112<(t95.length:Int) then crawlwayref60_is t95 i102 (lget t95 i112)>>=fun t122=>if t122=true then (if (0:Int)≤i112∧i112<(t95.length:Int) then if (0:Int)≤i112∧i112<(t95.length:Int) then if (i111.length+1)*48≤140737488355328 then crawlwayref60_All.l4 t95 i102 (i111++[{ { { ({ f_Kind:=(0:Int),f_Peer:=(0:Int),f_P:=({ f_A:=({ f_V:=(0:Int),f_B:=(Vector.replicate 16 (0:Int):(Vector Int 16)) }:S_api_Addr),f_Bits:=(0:Int) }:S_api_Prefix) }:S_lint_Odd) with f_Kind:=i102 } with f_Peer:=(lget t95 i112).f_Owner } with f_P:=(lget t95 i112).f_P }]) (wr .i64 (i112+1)) else none else none else none) else (crawlwayref60_All.l4 t95 i102 i111 (wr .i64 (i112+1))) else none) else (some i111)
 partial_fixpoint
def crawlwayref60_All.l3(t95:List S_api_Entry)(i101:List S_lint_Odd)(i102:Int):Option (List S_lint_Odd) :=
 if (decide (i102≤6))=true then (crawlwayref60_All.l4 t95 i102 i101 0>>=fun q110=>crawlwayref60_All.l3 t95 q110 (wr .i64 (i102+1))) else (some i101)
 partial_fixpoint
def crawlwayref60_All(x0:S_api_Conf):Option (List S_lint_Odd) :=
 crawlwayref34_Right x0>>=fun t2=>if (!t2)=true then (some ([])) else ((crawlwayref07_Zero x0.f_Private>>=fun t9=>if t9=true then (if (([]:List S_lint_Odd).length+1)*48≤140737488355328 then some (([]:List S_lint_Odd)++[crawlwayref60_All.e0]) else none) else (some ([]:List S_lint_Odd)))>>=fun q5=>crawlwayref60_All.l0 x0 q5 0>>=fun q17=>crawlwayref60_All.l1 x0 q17 0>>=fun q42=>crawlwayref60_All.l2 x0 q42 0>>=fun q69=>crawlwayref60_Entries x0>>=fun t95=>crawlwayref60_All.l3 t95 q69 5>>=fun q100=>some q100)
end Go.Proofs.YtahlbjmafceoeaaGreatDoor
namespace Go.Proofs.YtahlbjmafceoeaaGreatDoor
open E Go.RowKit _root_.Go.Proofs.Tryz
def lint_finder_double.l0(x0:S_lint_finder)(x1:Int)(i14:Int):Option (Ctl (Bool) (Unit)) :=
 if (decide (i14<((lsub x0.f_c.f_Peers 0 x1).length:Int)))=true then (if (0:Int)≤i14∧i14<((lsub x0.f_c.f_Peers 0 x1).length:Int) then if (decide ((lget (lsub x0.f_c.f_Peers 0 x1) i14).f_End=(lget x0.f_c.f_Peers x1).f_End))=true then (hostport_None ((lget x0.f_c.f_Peers x1).f_End)>>=fun t28=>if (!t28)=true then (some (.ret true)) else (lint_finder_double.l0 x0 x1 (wr .i64 (i14+1)))) else (lint_finder_double.l0 x0 x1 (wr .i64 (i14+1))) else none) else (some (.nx ()))
 partial_fixpoint
def lint_finder_double(x0:S_lint_finder)(x1:Int):Option (Bool) :=
 if (0:Int)≤x1∧x1<(x0.f_c.f_Peers.length:Int) then if (0:Int)≤0∧0≤x1∧x1≤(x0.f_c.f_Peers.length:Int) then lint_finder_double.l0 x0 x1 0>>=fun q13=>match q13 with | .ret r'=>some r' | .nx sq13=>(some false) else none else none
theorem lint_finder_double_ok{x0:S_lint_finder}{x1:Int}{r:Bool}(hF:lint_finder_double x0 x1=some r):∀ {w0 w:World} {G_:List Ent} {b0_:Nat} {g0f_c_:G_api_Conf} {p0f_own_:Option Addr} {c0f_own_:Nat} {p0f_out_:Option Addr} {c0f_out_:Nat} (hw_:Wd w0 (cellsE b0_ (Cd.cs c_lint_finder ((g0f_c_,(p0f_own_,c0f_own_),(p0f_out_,c0f_out_)),x0)) 63::rowE c_api_Entry 49 p0f_own_ c0f_own_ x0.f_own::rowE c_lint_Odd 40 p0f_out_ c0f_out_ x0.f_out::G_) w) (hn0f_c_:N_api_Conf w0 (g0f_c_,x0.f_c)),
    Calls Tryz.prog 23 #[.pointer (some ⟨b0_,0,none⟩),.int .i64 x1] w (fun e w'=>e=.returned (.bool r)∧Wd w0 (cellsE b0_ (Cd.cs c_lint_finder ((g0f_c_,(p0f_own_,c0f_own_),(p0f_out_,c0f_out_)),x0)) 63::rowE c_api_Entry 49 p0f_own_ c0f_own_ x0.f_own::rowE c_lint_Odd 40 p0f_out_ c0f_out_ x0.f_out::G_) w'):=by
 intro w0 w G_ b0_ g0f_c_ p0f_own_ c0f_own_ p0f_out_ c0f_out_ hw_ hn0f_c_
 unfold lint_finder_double at hF
 refine ce (l:=[.pointer (some ⟨b0_,0,none⟩),.int .i64 x1]) func23 rfl rfl ?_
 refine at_enterF hw_ ?_
 refine sr (aa (ns (am ?_)))
 refine aw (r_nilCheck rfl) ?_
 refine fa 0 underlying63 rfl sizeOf27 (fa 34 underlying27 rfl sizeOf25 ?_)
 refine aw (r_load_cell isAgg25 rfl (lens_cell0 (c:=cHd) (y:=⟨g0f_c_.1,List.length x0.f_c.f_Peers,g0f_c_.2⟩) .z (Lens.comp0 (c_lint_finder_f_c (g0f_c_,(p0f_own_,c0f_own_),(p0f_out_,c0f_out_)) x0) (c_api_Conf_f_Peers g0f_c_ x0.f_c)) rfl)) ?_
 refine am ?_
 obtain ⟨h1,hF⟩:=gd hF
 obtain ⟨zs5,hz6,hr7,hn8⟩:=id hn0f_c_
 obtain ⟨b3,o4,hp2⟩:=row_ptr hr7 (zidx hz6 h1)
 obtain ⟨g9,hg10⟩:=zget hz6 x1
 refine aw (r_idx underlying25 sizeOf60 rfl rfl h1 hp2) ?_
 refine fa 64 underlying60 rfl sizeOf56 ?_
 refine aw (r_load_aggc (c:=c_api_Endpoint) (z:=(lget x0.f_c.f_Peers x1).f_End) isAgg56 sizeOf56 rfl (nlens (y:=(lget x0.f_c.f_Peers x1).f_End) (fun _ h=>h.below) hr7 (zidx hz6 h1) hp2 hg10 (c_api_Peer_f_End g9 (lget x0.f_c.f_Peers x1)))) ?_
 refine al (cs:=Cd.cs c_api_Endpoint zv7) zeroValue56 ?_
 intro b11
 refine at_store (c:=c_api_Endpoint) (z:=(lget x0.f_c.f_Peers x1).f_End) .z lw sizeOf56 rfl rfl rfl ?_
 refine nt (qs (sr (am ?_)))
 refine aw (r_nilCheck rfl) ?_
 refine fa 0 underlying63 rfl sizeOf27 (fa 34 underlying27 rfl sizeOf25 ?_)
 refine aw (r_load_cell isAgg25 rfl (lens_cell0 (c:=cHd) (y:=⟨g0f_c_.1,List.length x0.f_c.f_Peers,g0f_c_.2⟩) (.s .z) (Lens.comp0 (c_lint_finder_f_c (g0f_c_,(p0f_own_,c0f_own_),(p0f_out_,c0f_out_)) x0) (c_api_Conf_f_Peers g0f_c_ x0.f_c)) rfl)) ?_
 refine am ?_
 obtain ⟨h12,hF⟩:=gd hF
 refine aw (r_resliceN (c:=c_api_Peer) underlying25 sizeOf60 rfl (NRow.len hn0f_c_) rfl ⟨_,rfl⟩ h12) ?_
 refine aw (r_len_sl underlying25 rfl) ?_
 refine am (nwq [25,24,23,5] ?_)
 refine qb ?_
 obtain ⟨q13,hq13,hF⟩:=bM hF
 refine wq [25,24,23,5] ?_
 refine at_loop_r (B:=0) (r:=r) (q:=q13) (A:=fun (_:Unit) Y=>At 39 [] (Wd w0 (cellsE b0_ (Cd.cs c_lint_finder ((g0f_c_,(p0f_own_,c0f_own_),(p0f_out_,c0f_out_)),x0)) 63::rowE c_api_Entry 49 p0f_own_ c0f_own_ x0.f_own::rowE c_lint_Odd 40 p0f_out_ c0f_out_ x0.f_out::G_)) Y) ?_ ?_
 ·intro K
  refine lint_finder_double.l0.partial_correctness x0 x1 (motive:=fun i14 x=>KR (fun (_:Unit) Y=>At 39 [] (Wd w0 (cellsE b0_ (Cd.cs c_lint_finder ((g0f_c_,(p0f_own_,c0f_own_),(p0f_out_,c0f_out_)),x0)) 63::rowE c_api_Entry 49 p0f_own_ c0f_own_ x0.f_own::rowE c_lint_Odd 40 p0f_out_ c0f_out_ x0.f_out::G_)) Y) _ 0 r x→Round (fun Y=>At 39 [(5,.pointer (some ⟨b11,0,none⟩)),(23,.slice (rsp g0f_c_.1 g0f_c_.2 0 (Cd.sz c_api_Peer)) (lsub x0.f_c.f_Peers 0 x1).length (g0f_c_.2-Int.toNat 0)),(24,.int .i64 ((lsub x0.f_c.f_Peers 0 x1).length:Int)),(25,.int .i64 i14)] (Wd w0 (cellsE b11 (Cd.cs c_api_Endpoint ((lget x0.f_c.f_Peers x1).f_End)) 56::cellsE b0_ (Cd.cs c_lint_finder ((g0f_c_,(p0f_own_,c0f_own_),(p0f_out_,c0f_out_)),x0)) 63::rowE c_api_Entry 49 p0f_own_ c0f_own_ x0.f_own::rowE c_lint_Odd 40 p0f_out_ c0f_out_ x0.f_out::G_)) Y) _ _ _) ?_ _ _ hq13 K
  ·clear K hF
   intro g ih i14 x hF K
   refine at_round ?_
   refine sr (aw xl (nwq [26,25,24,23,5] ?_))
   refine qs ?_
   obtain ⟨h15,hF⟩|⟨h15,hF⟩:=oi hF
   ·refine ct h15 ?_
    refine sn (qs ?_)
    refine qb ?_
    refine sr ?_
    obtain ⟨h16,hF⟩:=gd hF
    obtain ⟨zs20,hz21,hr22,hn23⟩:=id (NRow.sub hn0f_c_ h12)
    obtain ⟨b18,o19,hp17⟩:=row_ptr hr22 (zidx hz21 h16)
    obtain ⟨g24,hg25⟩:=zget hz21 i14
    refine aw (r_idx underlying25 sizeOf60 rfl rfl h16 hp17) ?_
    refine aw (r_load_aggc (c:=c_api_Peer) (z:=(g24,lget (lsub x0.f_c.f_Peers 0 x1) i14)) isAgg60 sizeOf60 rfl (ncell (fun _ h=>h.below) hr22 (zidx hz21 h16) hp17 hg25)) ?_
    refine al (cs:=Cd.cs c_api_Peer zv13) zeroValue60 ?_
    intro b26
    refine at_store (c:=c_api_Peer) (z:=(g24,lget (lsub x0.f_c.f_Peers 0 x1) i14)) .z lw sizeOf60 rfl rfl rfl ?_
    refine nwx [25,24,23,7,5] ?_
    refine fa 64 underlying60 rfl sizeOf56 ?_
    refine aw (r_load_aggc (c:=c_api_Endpoint) (z:=(lget (lsub x0.f_c.f_Peers 0 x1) i14).f_End) isAgg56 sizeOf56 rfl (lens_cell .z (c_api_Peer_f_End g24 (lget (lsub x0.f_c.f_Peers 0 x1) i14)))) ?_
    refine aw (r_load_aggc (c:=c_api_Endpoint) (z:=(lget x0.f_c.f_Peers x1).f_End) isAgg56 sizeOf56 rfl (lens_cell (.s .z) lw)) ?_
    refine aw (r_eqagg (c:=c_api_Endpoint) (a:=(lget (lsub x0.f_c.f_Peers 0 x1) i14).f_End) (b:=(lget x0.f_c.f_Peers x1).f_End) (eq_api_Endpoint_56) rfl Tryz.eqGuardType56 rfl rfl (.inl rfl) rfl) ?_
    refine am ?_
    obtain ⟨h27,hF⟩|⟨h27,hF⟩:=oi hF
    ·refine fx 33 h27 ?_
     refine gy ?_
     refine aw (r_load_aggc (c:=c_api_Endpoint) (z:=(lget x0.f_c.f_Peers x1).f_End) isAgg56 sizeOf56 rfl (lens_cell (.s .z) lw)) ?_
     refine gy ?_
     obtain ⟨t28,ht28,hF⟩:=bM hF
     refine cB func45 rfl (fun w hw=>hostport_None_ok _ _ ht28 w) ?_
     refine gy ?_
     refine aw (r_not rfl) ?_
     refine aw xp (qn (dz (wq [37,25,24,23,5] ?_)))
     refine tn ?_
     obtain ⟨h29,hF⟩|⟨h29,hF⟩:=oi hF
     ·refine ct h29 ?_
      refine sr (aa (qn (dz (wq [4] ?_))))
      refine tn (qt ?_)
      refine br (tr (tr (br (tr ?_))))
      obtain rfl:=os hF
      subst K
      exact r1 (fun w1 hw=>⟨rfl,hw⟩)
     refine cf h29 ?_
     refine at_skip ?_
     refine bm ?_
     refine qr (aw xa (am (nwq [25,24,23,5] ?_)))
     exact at_weak_k (ih _ _ hF K) ⟨rfl,rfl,rfl,rfl,trivial⟩
    refine fx 33 h27 ?_
    refine gn ?_
    refine gn ?_
    refine gn ?_
    refine aw xp (qn (dz (wq [37,25,24,23,5] ?_)))
    refine tn ?_
    refine cf rfl ?_
    refine at_skip ?_
    refine bm ?_
    refine qr (aw xa (am (nwq [25,24,23,5] ?_)))
    exact at_weak_k (ih _ _ hF K) ⟨rfl,rfl,rfl,rfl,trivial⟩
   refine cf h15 ?_
   refine at_exit ?_
   refine te (te ?_)
   refine dz ?_
   obtain rfl:=os hF
   exact at_weak_k K trivial
 cases q13 with
 | ret r'=>exact os hF
 | nx sq13 =>
  skip
  refine at_blk_same ?_
  refine tn (sr (aa (nwq [4] ?_)))
  refine qt ?_
  have K:=os hF
  subst K
  exact r1 (fun w1 hw=>⟨rfl,hw⟩)
def lint_finder_shared.l0(x0:S_lint_finder)(x1:Int)(i14:Int):Option (Ctl (Bool) (Unit)) :=
 if (decide (i14<((lsub x0.f_c.f_Peers 0 x1).length:Int)))=true then (if (0:Int)≤i14∧i14<((lsub x0.f_c.f_Peers 0 x1).length:Int) then if (decide ((lget (lsub x0.f_c.f_Peers 0 x1) i14).f_Psk=(lget x0.f_c.f_Peers x1).f_Psk))=true then (keys_Zero ((lget x0.f_c.f_Peers x1).f_Psk)>>=fun t28=>if (!t28)=true then (some (.ret true)) else (lint_finder_shared.l0 x0 x1 (wr .i64 (i14+1)))) else (lint_finder_shared.l0 x0 x1 (wr .i64 (i14+1))) else none) else (some (.nx ()))
 partial_fixpoint
def lint_finder_shared(x0:S_lint_finder)(x1:Int):Option (Bool) :=
 if (0:Int)≤x1∧x1<(x0.f_c.f_Peers.length:Int) then if (0:Int)≤0∧0≤x1∧x1≤(x0.f_c.f_Peers.length:Int) then lint_finder_shared.l0 x0 x1 0>>=fun q13=>match q13 with | .ret r'=>some r' | .nx sq13=>(some false) else none else none
theorem lint_finder_shared_ok{x0:S_lint_finder}{x1:Int}{r:Bool}(hF:lint_finder_shared x0 x1=some r):∀ {w0 w:World} {G_:List Ent} {b0_:Nat} {g0f_c_:G_api_Conf} {p0f_own_:Option Addr} {c0f_own_:Nat} {p0f_out_:Option Addr} {c0f_out_:Nat} (hw_:Wd w0 (cellsE b0_ (Cd.cs c_lint_finder ((g0f_c_,(p0f_own_,c0f_own_),(p0f_out_,c0f_out_)),x0)) 63::rowE c_api_Entry 49 p0f_own_ c0f_own_ x0.f_own::rowE c_lint_Odd 40 p0f_out_ c0f_out_ x0.f_out::G_) w) (hn0f_c_:N_api_Conf w0 (g0f_c_,x0.f_c)),
    Calls Tryz.prog 24 #[.pointer (some ⟨b0_,0,none⟩),.int .i64 x1] w (fun e w'=>e=.returned (.bool r)∧Wd w0 (cellsE b0_ (Cd.cs c_lint_finder ((g0f_c_,(p0f_own_,c0f_own_),(p0f_out_,c0f_out_)),x0)) 63::rowE c_api_Entry 49 p0f_own_ c0f_own_ x0.f_own::rowE c_lint_Odd 40 p0f_out_ c0f_out_ x0.f_out::G_) w'):=by
 intro w0 w G_ b0_ g0f_c_ p0f_own_ c0f_own_ p0f_out_ c0f_out_ hw_ hn0f_c_
 unfold lint_finder_shared at hF
 refine ce (l:=[.pointer (some ⟨b0_,0,none⟩),.int .i64 x1]) func24 rfl rfl ?_
 refine at_enterF hw_ ?_
 refine sr (aa (ns (am ?_)))
 refine aw (r_nilCheck rfl) ?_
 refine fa 0 underlying63 rfl sizeOf27 (fa 34 underlying27 rfl sizeOf25 ?_)
 refine aw (r_load_cell isAgg25 rfl (lens_cell0 (c:=cHd) (y:=⟨g0f_c_.1,List.length x0.f_c.f_Peers,g0f_c_.2⟩) .z (Lens.comp0 (c_lint_finder_f_c (g0f_c_,(p0f_own_,c0f_own_),(p0f_out_,c0f_out_)) x0) (c_api_Conf_f_Peers g0f_c_ x0.f_c)) rfl)) ?_
 refine am ?_
 obtain ⟨h1,hF⟩:=gd hF
 obtain ⟨zs5,hz6,hr7,hn8⟩:=id hn0f_c_
 obtain ⟨b3,o4,hp2⟩:=row_ptr hr7 (zidx hz6 h1)
 obtain ⟨g9,hg10⟩:=zget hz6 x1
 refine aw (r_idx underlying25 sizeOf60 rfl rfl h1 hp2) ?_
 refine fa 32 underlying60 rfl sizeOf23 ?_
 refine aw (r_load_aggc (c:=(cVec (cInt .u8) 32 (by decide))) (z:=(lget x0.f_c.f_Peers x1).f_Psk) isAgg23 sizeOf23 rfl (nlens (y:=(lget x0.f_c.f_Peers x1).f_Psk) (fun _ h=>h.below) hr7 (zidx hz6 h1) hp2 hg10 (c_api_Peer_f_Psk g9 (lget x0.f_c.f_Peers x1)))) ?_
 refine al (cs:=Cd.cs (cVec (cInt .u8) 32 (by decide)) zv3) zeroValue23 ?_
 intro b11
 refine at_store (c:=(cVec (cInt .u8) 32 (by decide))) (z:=(lget x0.f_c.f_Peers x1).f_Psk) .z lw sizeOf23 rfl rfl rfl ?_
 refine nt (qs (sr (am ?_)))
 refine aw (r_nilCheck rfl) ?_
 refine fa 0 underlying63 rfl sizeOf27 (fa 34 underlying27 rfl sizeOf25 ?_)
 refine aw (r_load_cell isAgg25 rfl (lens_cell0 (c:=cHd) (y:=⟨g0f_c_.1,List.length x0.f_c.f_Peers,g0f_c_.2⟩) (.s .z) (Lens.comp0 (c_lint_finder_f_c (g0f_c_,(p0f_own_,c0f_own_),(p0f_out_,c0f_out_)) x0) (c_api_Conf_f_Peers g0f_c_ x0.f_c)) rfl)) ?_
 refine am ?_
 obtain ⟨h12,hF⟩:=gd hF
 refine aw (r_resliceN (c:=c_api_Peer) underlying25 sizeOf60 rfl (NRow.len hn0f_c_) rfl ⟨_,rfl⟩ h12) ?_
 refine aw (r_len_sl underlying25 rfl) ?_
 refine am (nwq [25,24,23,5] ?_)
 refine qb ?_
 obtain ⟨q13,hq13,hF⟩:=bM hF
 refine wq [25,24,23,5] ?_
 refine at_loop_r (B:=0) (r:=r) (q:=q13) (A:=fun (_:Unit) Y=>At 39 [] (Wd w0 (cellsE b0_ (Cd.cs c_lint_finder ((g0f_c_,(p0f_own_,c0f_own_),(p0f_out_,c0f_out_)),x0)) 63::rowE c_api_Entry 49 p0f_own_ c0f_own_ x0.f_own::rowE c_lint_Odd 40 p0f_out_ c0f_out_ x0.f_out::G_)) Y) ?_ ?_
 ·intro K
  refine lint_finder_shared.l0.partial_correctness x0 x1 (motive:=fun i14 x=>KR (fun (_:Unit) Y=>At 39 [] (Wd w0 (cellsE b0_ (Cd.cs c_lint_finder ((g0f_c_,(p0f_own_,c0f_own_),(p0f_out_,c0f_out_)),x0)) 63::rowE c_api_Entry 49 p0f_own_ c0f_own_ x0.f_own::rowE c_lint_Odd 40 p0f_out_ c0f_out_ x0.f_out::G_)) Y) _ 0 r x→Round (fun Y=>At 39 [(5,.pointer (some ⟨b11,0,none⟩)),(23,.slice (rsp g0f_c_.1 g0f_c_.2 0 (Cd.sz c_api_Peer)) (lsub x0.f_c.f_Peers 0 x1).length (g0f_c_.2-Int.toNat 0)),(24,.int .i64 ((lsub x0.f_c.f_Peers 0 x1).length:Int)),(25,.int .i64 i14)] (Wd w0 (cellsE b11 (Cd.cs (cVec (cInt .u8) 32 (by decide)) ((lget x0.f_c.f_Peers x1).f_Psk)) 23::cellsE b0_ (Cd.cs c_lint_finder ((g0f_c_,(p0f_own_,c0f_own_),(p0f_out_,c0f_out_)),x0)) 63::rowE c_api_Entry 49 p0f_own_ c0f_own_ x0.f_own::rowE c_lint_Odd 40 p0f_out_ c0f_out_ x0.f_out::G_)) Y) _ _ _) ?_ _ _ hq13 K
  ·clear K hF
   intro g ih i14 x hF K
   refine at_round ?_
   refine sr (aw xl (nwq [26,25,24,23,5] ?_))
   refine qs ?_
   obtain ⟨h15,hF⟩|⟨h15,hF⟩:=oi hF
   ·refine ct h15 ?_
    refine sn (qs ?_)
    refine qb ?_
    refine sr ?_
    obtain ⟨h16,hF⟩:=gd hF
    obtain ⟨zs20,hz21,hr22,hn23⟩:=id (NRow.sub hn0f_c_ h12)
    obtain ⟨b18,o19,hp17⟩:=row_ptr hr22 (zidx hz21 h16)
    obtain ⟨g24,hg25⟩:=zget hz21 i14
    refine aw (r_idx underlying25 sizeOf60 rfl rfl h16 hp17) ?_
    refine aw (r_load_aggc (c:=c_api_Peer) (z:=(g24,lget (lsub x0.f_c.f_Peers 0 x1) i14)) isAgg60 sizeOf60 rfl (ncell (fun _ h=>h.below) hr22 (zidx hz21 h16) hp17 hg25)) ?_
    refine al (cs:=Cd.cs c_api_Peer zv13) zeroValue60 ?_
    intro b26
    refine at_store (c:=c_api_Peer) (z:=(g24,lget (lsub x0.f_c.f_Peers 0 x1) i14)) .z lw sizeOf60 rfl rfl rfl ?_
    refine nwx [25,24,23,7,5] ?_
    refine fa 32 underlying60 rfl sizeOf23 ?_
    refine aw (r_load_aggc (c:=(cVec (cInt .u8) 32 (by decide))) (z:=(lget (lsub x0.f_c.f_Peers 0 x1) i14).f_Psk) isAgg23 sizeOf23 rfl (lens_cell .z (c_api_Peer_f_Psk g24 (lget (lsub x0.f_c.f_Peers 0 x1) i14)))) ?_
    refine aw (r_load_aggc (c:=(cVec (cInt .u8) 32 (by decide))) (z:=(lget x0.f_c.f_Peers x1).f_Psk) isAgg23 sizeOf23 rfl (lens_cell (.s .z) lw)) ?_
    refine aw (r_eqagg (c:=(cVec (cInt .u8) 32 (by decide))) (a:=(lget (lsub x0.f_c.f_Peers 0 x1) i14).f_Psk) (b:=(lget x0.f_c.f_Peers x1).f_Psk) (eqs_vec underlying23 infoT5 sizeOf5 isAgg5 (.inr rfl) (eqs_int underlying5)) rfl Tryz.eqGuardType23 rfl rfl (.inl rfl) rfl) ?_
    refine am ?_
    obtain ⟨h27,hF⟩|⟨h27,hF⟩:=oi hF
    ·refine fx 33 h27 ?_
     refine gy ?_
     refine aw (r_load_aggc (c:=(cVec (cInt .u8) 32 (by decide))) (z:=(lget x0.f_c.f_Peers x1).f_Psk) isAgg23 sizeOf23 rfl (lens_cell (.s .z) lw)) ?_
     refine gy ?_
     obtain ⟨t28,ht28,hF⟩:=bM hF
     refine cB func20 rfl (fun w hw=>keys_Zero_ok _ _ ht28 w) ?_
     refine gy ?_
     refine aw (r_not rfl) ?_
     refine aw xp (qn (dz (wq [37,25,24,23,5] ?_)))
     refine tn ?_
     obtain ⟨h29,hF⟩|⟨h29,hF⟩:=oi hF
     ·refine ct h29 ?_
      refine sr (aa (qn (dz (wq [4] ?_))))
      refine tn (qt ?_)
      refine br (tr (tr (br (tr ?_))))
      obtain rfl:=os hF
      subst K
      exact r1 (fun w1 hw=>⟨rfl,hw⟩)
     refine cf h29 ?_
     refine at_skip ?_
     refine bm ?_
     refine qr (aw xa (am (nwq [25,24,23,5] ?_)))
     exact at_weak_k (ih _ _ hF K) ⟨rfl,rfl,rfl,rfl,trivial⟩
    refine fx 33 h27 ?_
    refine gn ?_
    refine gn ?_
    refine gn ?_
    refine aw xp (qn (dz (wq [37,25,24,23,5] ?_)))
    refine tn ?_
    refine cf rfl ?_
    refine at_skip ?_
    refine bm ?_
    refine qr (aw xa (am (nwq [25,24,23,5] ?_)))
    exact at_weak_k (ih _ _ hF K) ⟨rfl,rfl,rfl,rfl,trivial⟩
   refine cf h15 ?_
   refine at_exit ?_
   refine te (te ?_)
   refine dz ?_
   obtain rfl:=os hF
   exact at_weak_k K trivial
 cases q13 with
 | ret r'=>exact os hF
 | nx sq13 =>
  skip
  refine at_blk_same ?_
  refine tn (sr (aa (nwq [4] ?_)))
  refine qt ?_
  have K:=os hF
  subst K
  exact r1 (fun w1 hw=>⟨rfl,hw⟩)
end Go.Proofs.YtahlbjmafceoeaaGreatDoor
namespace Go.Proofs.YtahlbjmafceoeaaGreatDoor
open E Go.RowKit _root_.Go.Proofs.Tryz
theorem infoV538_is:(Tryz.prog.info? 38).isSome=true:=by kernel_rfl
noncomputable def infoV538_v:TypeInfo:=(Tryz.prog.info? 38).get infoV538_is
theorem infoV538:Tryz.prog.info? 38=some infoV538_v:=(Option.some_get _).symm
theorem infoV540_is:(Tryz.prog.info? 40).isSome=true:=by kernel_rfl
noncomputable def infoV540_v:TypeInfo:=(Tryz.prog.info? 40).get infoV540_is
theorem infoV540:Tryz.prog.info? 40=some infoV540_v:=(Option.some_get _).symm
abbrev lint_All.e0:S_lint_Odd:={ { ({ f_Kind:=(0:Int),f_Peer:=(0:Int),f_P:=({ f_A:=({ f_V:=(0:Int),f_B:=(Vector.replicate 16 (0:Int):(Vector Int 16)) }:S_api_Addr),f_Bits:=(0:Int) }:S_api_Prefix) }:S_lint_Odd) with f_Kind:=1 } with f_Peer:=(-1) }
def lint_All.l0(q11:S_lint_finder)(i33:Int)(i34:S_lint_finder):Option (S_lint_finder) :=
 if (decide (i33<(q11.f_c.f_Peers.length:Int)))=true then (if (0:Int)≤i33∧i33<(i34.f_c.f_Peers.length:Int) then if ((((lget i34.f_c.f_Peers i33).f_Allowed).length:Int)==0)=true then (if (i34.f_out.length+1)*48≤140737488355328 then lint_All.l0 q11 (wr .i64 (i33+1)) ({ i34 with f_out:=i34.f_out++[{ { ({ f_Kind:=(0:Int),f_Peer:=(0:Int),f_P:=({ f_A:=({ f_V:=(0:Int),f_B:=(Vector.replicate 16 (0:Int):(Vector Int 16)) }:S_api_Addr),f_Bits:=(0:Int) }:S_api_Prefix) }:S_lint_Odd) with f_Kind:=2 } with f_Peer:=i33 }] }) else none) else (lint_All.l0 q11 (wr .i64 (i33+1)) i34) else none) else (some i34)
 partial_fixpoint
def lint_All.l1(q31:S_lint_finder)(i70:Int)(i71:S_lint_finder):Option (S_lint_finder) :=
 if (decide (i70<(q31.f_c.f_Peers.length:Int)))=true then (lint_finder_double i71 i70>>=fun t85=>if t85=true then (if (i71.f_out.length+1)*48≤140737488355328 then lint_All.l1 q31 (wr .i64 (i70+1)) ({ i71 with f_out:=i71.f_out++[{ { ({ f_Kind:=(0:Int),f_Peer:=(0:Int),f_P:=({ f_A:=({ f_V:=(0:Int),f_B:=(Vector.replicate 16 (0:Int):(Vector Int 16)) }:S_api_Addr),f_Bits:=(0:Int) }:S_api_Prefix) }:S_lint_Odd) with f_Kind:=3 } with f_Peer:=i70 }] }) else none) else (lint_All.l1 q31 (wr .i64 (i70+1)) i71)) else (some i71)
 partial_fixpoint
def lint_All.l2(q69:S_lint_finder)(i98:Int)(i99:S_lint_finder):Option (S_lint_finder) :=
 if (decide (i98<(q69.f_c.f_Peers.length:Int)))=true then (lint_finder_shared i99 i98>>=fun t113=>if t113=true then (if (i99.f_out.length+1)*48≤140737488355328 then lint_All.l2 q69 (wr .i64 (i98+1)) ({ i99 with f_out:=i99.f_out++[{ { ({ f_Kind:=(0:Int),f_Peer:=(0:Int),f_P:=({ f_A:=({ f_V:=(0:Int),f_B:=(Vector.replicate 16 (0:Int):(Vector Int 16)) }:S_api_Addr),f_Bits:=(0:Int) }:S_api_Prefix) }:S_lint_Odd) with f_Kind:=4 } with f_Peer:=i98 }] }) else none) else (lint_All.l2 q69 (wr .i64 (i98+1)) i99)) else (some i99)
 partial_fixpoint
def lint_All.l3(t121:List S_api_Entry)(i125:Int)(i126:List (S_api_Prefix×Bool)):Option (List (S_api_Prefix×Bool)) :=
 if (decide (i125<(t121.length:Int)))=true then (if (0:Int)≤i125∧i125<(t121.length:Int) then lint_All.l3 t121 (wr .i64 (i125+1)) (mput i126 ((lget t121 i125).f_P) true) else none) else (some i126)
 partial_fixpoint
def lint_All.l5(q97:S_lint_finder)(q124:List (S_api_Prefix×Bool))(i140:Int)(i173:Int)(i174:S_lint_finder):Option (S_lint_finder) :=
 if (decide (i173<(((lget q97.f_c.f_Peers i140).f_Allowed).length:Int)))=true then (if (0:Int)≤i173∧i173<(((lget q97.f_c.f_Peers i140).f_Allowed).length:Int) then if (!(mget q124 (lget ((lget q97.f_c.f_Peers i140).f_Allowed) i173) false))=true then (if (i174.f_out.length+1)*48≤140737488355328 then lint_All.l5 q97 q124 i140 (wr .i64 (i173+1)) ({ i174 with f_out:=i174.f_out++[{ { { ({ f_Kind:=(0:Int),f_Peer:=(0:Int),f_P:=({ f_A:=({ f_V:=(0:Int),f_B:=(Vector.replicate 16 (0:Int):(Vector Int 16)) }:S_api_Addr),f_Bits:=(0:Int) }:S_api_Prefix) }:S_lint_Odd) with f_Kind:=5 } with f_Peer:=i140 } with f_P:=lget ((lget q97.f_c.f_Peers i140).f_Allowed) i173 }] }) else none) else (lint_All.l5 q97 q124 i140 (wr .i64 (i173+1)) i174) else none) else (some i174)
 partial_fixpoint
def lint_All.l4(q97:S_lint_finder)(q124:List (S_api_Prefix×Bool))(i140:Int)(i141:S_lint_finder):Option (S_lint_finder) :=
 if (decide (i140<(q97.f_c.f_Peers.length:Int)))=true then (if (0:Int)≤i140∧i140<(q97.f_c.f_Peers.length:Int) then lint_All.l5 q97 q124 i140 0 i141>>=fun q172=>lint_All.l4 q97 q124 (wr .i64 (i140+1)) q172 else none) else (some i141)
 partial_fixpoint
def lint_All.l8(q139:S_lint_finder)(i207:Int)(i240:Int)(i241:S_lint_finder)(i264:List S_api_Prefix)(i265:Int):Option (List S_api_Prefix) :=
 if (decide (i265<(i241.f_own.length:Int)))=true then (if (0:Int)≤i265∧i265<(i241.f_own.length:Int) then if (decide (((lget i241.f_own i265).f_P).f_Bits>(lget ((lget q139.f_c.f_Peers i207).f_Allowed) i240).f_Bits))=true then (cidr_Covers (lget ((lget q139.f_c.f_Peers i207).f_Allowed) i240) ((lget i241.f_own i265).f_P)>>=fun t277=>if t277=true then (if (i264.length+1)*32≤140737488355328 then lint_All.l8 q139 i207 i240 i241 (i264++[(lget i241.f_own i265).f_P]) (wr .i64 (i265+1)) else none) else (lint_All.l8 q139 i207 i240 i241 i264 (wr .i64 (i265+1)))) else (lint_All.l8 q139 i207 i240 i241 i264 (wr .i64 (i265+1))) else none) else (some i264)
 partial_fixpoint
def lint_All.l7(q139:S_lint_finder)(i207:Int)(i240:Int)(i241:S_lint_finder):Option (S_lint_finder) :=
 if (decide (i240<(((lget q139.f_c.f_Peers i207).f_Allowed).length:Int)))=true then (if (0:Int)≤i240∧i240<(((lget q139.f_c.f_Peers i207).f_Allowed).length:Int) then lint_All.l8 q139 i207 i240 i241 ([]:List S_api_Prefix) 0>>=fun q263=>aggregate_Cover q263>>=fun t283=>if ((t283.length:Int)==1)=true then (if (0:Int)≤0∧0<(t283.length:Int) then if (decide (lget t283 0=lget ((lget q139.f_c.f_Peers i207).f_Allowed) i240))=true then (if (i241.f_out.length+1)*48≤140737488355328 then lint_All.l7 q139 i207 (wr .i64 (i240+1)) ({ i241 with f_out:=i241.f_out++[{ { { ({ f_Kind:=(0:Int),f_Peer:=(0:Int),f_P:=({ f_A:=({ f_V:=(0:Int),f_B:=(Vector.replicate 16 (0:Int):(Vector Int 16)) }:S_api_Addr),f_Bits:=(0:Int) }:S_api_Prefix) }:S_lint_Odd) with f_Kind:=6 } with f_Peer:=i207 } with f_P:=lget ((lget q139.f_c.f_Peers i207).f_Allowed) i240 }] }) else none) else (lint_All.l7 q139 i207 (wr .i64 (i240+1)) i241) else none) else (lint_All.l7 q139 i207 (wr .i64 (i240+1)) i241) else none) else (some i241)
 partial_fixpoint
def lint_All.l6(q139:S_lint_finder)(i207:Int)(i208:S_lint_finder):Option (S_lint_finder) :=
 if (decide (i207<(q139.f_c.f_Peers.length:Int)))=true then (if (0:Int)≤i207∧i207<(q139.f_c.f_Peers.length:Int) then lint_All.l7 q139 i207 0 i208>>=fun q239=>lint_All.l6 q139 (wr .i64 (i207+1)) q239 else none) else (some i208)
 partial_fixpoint
def lint_All(x0:S_api_Conf):Option (List S_lint_Odd) :=
 view_Right x0>>=fun t2=>if (!t2)=true then (some ([])) else (lint_entries x0>>=fun t4=>(keys_Zero x0.f_Private>>=fun t19=>if t19=true then (if (([]:List S_lint_Odd).length+1)*48≤140737488355328 then some ({ { { ({ f_c:=({ f_Private:=(Vector.replicate 32 (0:Int):(Vector Int 32)),f_Port:=(0:Int),f_Mark:=(0:Int),f_Peers:=([]:List S_api_Peer) }:S_api_Conf),f_own:=([]:List S_api_Entry),f_out:=([]:List S_lint_Odd) }:S_lint_finder) with f_c:=x0 } with f_own:=t4 } with f_out:=([]:List S_lint_Odd)++[lint_All.e0] }) else none) else (some ({ { ({ f_c:=({ f_Private:=(Vector.replicate 32 (0:Int):(Vector Int 32)),f_Port:=(0:Int),f_Mark:=(0:Int),f_Peers:=([]:List S_api_Peer) }:S_api_Conf),f_own:=([]:List S_api_Entry),f_out:=([]:List S_lint_Odd) }:S_lint_finder) with f_c:=x0 } with f_own:=t4 })))>>=fun q11=>lint_All.l0 q11 0 q11>>=fun q31=>lint_All.l1 q31 0 q31>>=fun q69=>lint_All.l2 q69 0 q69>>=fun q97=>flat_Thin q97.f_own>>=fun t121=>lint_All.l3 t121 0 ([]:List (S_api_Prefix×Bool))>>=fun q124=>lint_All.l4 q97 q124 0 q97>>=fun q139=>lint_All.l6 q139 0 q139>>=fun q206=>some q206.f_out)
set_option maxRecDepth 20000 in
set_option maxHeartbeats 3200000 in
theorem lint_All_ok(g0_:G_api_Conf)(x0:S_api_Conf)(r:List S_lint_Odd)(hF:lint_All x0=some r)(w:World)(hn0:N_api_Conf w (g0_,x0)) :
    Calls Tryz.prog 8 #[.agg (Cd.cs c_api_Conf (g0_,x0)).toArray] w (fun e w'=>∃ p cap,e=.returned (.slice p r.length cap)∧Own c_lint_Odd 40 w.heap.size w' p cap r∧Below w.heap.size w w'):=by
 unfold lint_All at hF
 refine ce (l:=[.agg (Cd.cs c_api_Conf (g0_,x0)).toArray]) func8 rfl rfl ?_
 refine at_start ?_
 refine sr ?_
 refine at_box (cs:=Cd.cs c_api_Conf (g0_,x0)) rfl rfl rfl ?_
 intro b1
 refine aa (nt (qs (sr ?_)))
 refine aw (r_load_aggc (c:=c_api_Conf) (z:=(g0_,x0)) isAgg27 sizeOf27 rfl (lens_cell .z lw)) ?_
 obtain ⟨t2,ht2,hF⟩:=bM hF
 refine cB func18 rfl (fun w hw=>view_Right_ok _ _ _ ht2 w (N_api_Conf.below hn0 hw.below)) ?_
 refine aw (r_not rfl) ?_
 refine nwq [6,1] ?_
 obtain ⟨h3,hF⟩|⟨h3,hF⟩:=oi hF
 ·refine ct h3 ?_
  refine sr (aa (qn (dz (wq [2] ?_))))
  refine tn (rt ?_)
  have K:=os hF
  subst K
  exact r1 (fun w1 hw=>⟨none,0,rfl,Own.nil _ _ _ _,hw.below⟩)
 refine cf h3 ?_
 refine sn (qs (wq [1] ?_))
 obtain ⟨t4,ht4,hF⟩:=bM hF
 refine at_inv [.q 7 (fun g8=>.agg (Cd.cs c_api_Conf (g0_,x0)).toArray) [] 0 1,.q 8 (fun g8=>.agg (Cd.cs c_api_Conf (g0_,x0)).toArray) [] 0 0,.al 0 9 (fun g8=>.slice ((g8 0).2.1) t4.length ((g8 0).2.2.1)) [1],.q 10 (fun g8=>.agg (Cd.cs c_lint_finder ((g0_,(((g8 0).2.1),((g8 0).2.2.1)),zv5),{ { zv6 with f_c:=x0 } with f_own:=t4 })).toArray) [0,2] 1 1,.al 1 11 (fun g8=>.pointer (some ⟨((g8 1).1),0,none⟩)) [3],.q 3 (fun g8=>.pointer (some ⟨((g8 1).1),0,none⟩)) [4] 2 2] (fun g8 s=>match s with | 0=>(Wd w [cellsE b1 (Cd.cs c_api_Conf (g0_,x0)) 27]) | 1=>(Wd w [rowE c_api_Entry 49 ((g8 0).2.1) ((g8 0).2.2.1) t4,cellsE b1 (Cd.cs c_api_Conf (g0_,x0)) 27]) | _=>(Wd w [cellsE ((g8 1).1) (Cd.cs c_lint_finder ((g0_,(((g8 0).2.1),((g8 0).2.2.1)),zv5),{ { zv6 with f_c:=x0 } with f_own:=t4 })) 63,rowE c_api_Entry 49 ((g8 0).2.1) ((g8 0).2.2.1) t4,cellsE b1 (Cd.cs c_api_Conf (g0_,x0)) 27])) 2 (by kernel_rfl) (by kernel_rfl) (by kernel_rfl) (by kernel_rfl) (by kernel_rfl) ⟨fun _ _ _=>rfl,fun _ _ _=>rfl,fun g8 g2 h=>by show (.slice ((g8 0).2.1) t4.length ((g8 0).2.2.1):Value)=.slice ((g2 0).2.1) t4.length ((g2 0).2.2.1);rw [h 0 (show 0<1 by decide)],fun g8 g2 h=>by show (.agg (Cd.cs c_lint_finder ((g0_,(((g8 0).2.1),((g8 0).2.2.1)),zv5),{ { zv6 with f_c:=x0 } with f_own:=t4 })).toArray:Value)=.agg (Cd.cs c_lint_finder ((g0_,(((g2 0).2.1),((g2 0).2.2.1)),zv5),{ { zv6 with f_c:=x0 } with f_own:=t4 })).toArray;rw [h 0 (show 0<1 by decide)],fun g8 g2 h=>by show (.pointer (some ⟨((g8 1).1),0,none⟩):Value)=.pointer (some ⟨((g2 1).1),0,none⟩);rw [h 1 (show 1<2 by decide)],fun g8 g2 h=>by show (.pointer (some ⟨((g8 1).1),0,none⟩):Value)=.pointer (some ⟨((g2 1).1),0,none⟩);rw [h 1 (show 1<2 by decide)],trivial⟩ (by kernel_rfl) (fun w_ h=>⟨fun _=>g3 0 none 0 none w_,h.drew⟩) ⟨?_,?_,?_,?_,?_,?_,trivial⟩ ?_
 ·intro Lx g8 s K hl hh k
  show At 49 ((1,_)::Lx) _ _
  rcases (by omega:s=0∨s=1) with rfl | rfl
  ·skip
   refine aw (r_load_aggc (c:=c_api_Conf) (z:=(g0_,x0)) isAgg27 sizeOf27 rfl (lens_cell .z lw)) ?_
   exact at_nil k
  skip
  refine aw (r_load_aggc (c:=c_api_Conf) (z:=(g0_,x0)) isAgg27 sizeOf27 rfl (lens_cell (.s .z) lw)) ?_
  exact at_nil k
 ·intro Lx g8 s K hl hh k
  show At 49 ((1,_)::Lx) _ _
  obtain rfl:s=0:=by omega
  refine aw (r_load_aggc (c:=c_api_Conf) (z:=(g0_,x0)) isAgg27 sizeOf27 rfl (lens_cell .z lw)) ?_
  exact at_nil k
 ·intro Lx g8 K k
  show At 49 ((8,_)::(1,_)::Lx) _ _
  refine at_callO (c:=c_api_Entry) (e:=49) (ys:=t4) (V:=fun p cap=>.slice p t4.length cap) func19 rfl (by kernel_rfl) rfl rfl (fun w hw=>lint_entries_ok _ _ _ ht4 w (N_api_Conf.below hn0 hw.below)) ?_
  intro p5 c6
  exact at_nil (k (g3 0 p5 c6 none w))
 ·intro Lx g8 s K hl hh k
  show At 49 ((7,_)::(9,_)::(1,_)::Lx) _ _
  obtain rfl:s=1:=by omega
  refine aw (r_build_struct (zs:=Cd.cs c_lint_finder ((zv5,zv5,zv5),zv6)) (cs:=Cd.cs c_lint_finder ((g0_,(((g8 0).2.1),((g8 0).2.2.1)),zv5),{ { zv6 with f_c:=x0 } with f_own:=t4 })) underlying63 zeroValue63 rfl (places_lint_finder_63) rfl (fill_step (c:=c_api_Conf) (z:=(g0_,x0)) rfl (c_lint_finder_f_c (zv5,zv5,zv5) zv6) rfl (fill_step (c:=cHd) (z:=⟨((g8 0).2.1),List.length t4,((g8 0).2.2.1)⟩) rfl (c_lint_finder_f_own (g0_,zv5,zv5) ({ zv6 with f_c:=x0 })) rfl rfl))) ?_
  exact at_nil k
 ·intro Lx g8 K k
  show At 49 ((10,_)::(1,_)::Lx) _ _
  refine at_box (cs:=Cd.cs c_lint_finder ((g0_,(((g8 0).2.1),((g8 0).2.2.1)),zv5),{ { zv6 with f_c:=x0 } with f_own:=t4 })) rfl rfl rfl ?_
  intro b7
  exact at_nil (k (g3 b7 none 0 none w))
 ·intro Lx g8 s K hl hh k
  show At 49 ((11,_)::(1,_)::Lx) _ _
  refine aa ?_
  exact at_nil k
 intro g8
 show At 49 [(7,_),(8,_),(9,_),(10,_),(11,_),(3,_),(1,_)] _ _
 refine wq [3,1] ?_
 refine tn ?_
 refine at_own_nil c_lint_Odd 40 ?_
 obtain ⟨q11,hq11,hF⟩:=bM hF
 refine at_joinp (A:=fun Y=>∀ (gq13:G_api_Conf) (hk14:N_api_Conf w (gq13,q11.f_c)) (p15:Option Addr) (c16:Nat) (p17:Option Addr) (c18:Nat),At 49 [(3,.pointer (some ⟨(g8 1).1,0,none⟩))] (Wd w [cellsE (g8 1).1 (Cd.cs c_lint_finder ((gq13,(p15,c16),(p17,c18)),q11)) 63,rowE c_api_Entry 49 p15 c16 q11.f_own,rowE c_lint_Odd 40 p17 c18 q11.f_out]) Y) ?_ ?_
 ·intro Y K
  replace hF:=hq11
  refine sr (fa 0 underlying27 rfl sizeOf23 ?_)
  refine aw (r_load_aggc (c:=(cVec (cInt .u8) 32 (by decide))) (z:=x0.f_Private) isAgg23 sizeOf23 rfl (lens_cell (.s (.s (.s .z))) (c_api_Conf_f_Private g0_ x0))) ?_
  obtain ⟨t19,ht19,hF⟩:=bM hF
  refine cB func20 rfl (fun w hw=>keys_Zero_ok _ _ ht19 w) ?_
  refine qn ?_
  refine at_drop (H:=_) (.s (.s (.s .z))) ?_
  refine wq [14,3] ?_
  refine tn ?_
  obtain ⟨h20,hF⟩|⟨h20,hF⟩:=oi hF
  ·refine ct h20 ?_
   refine qr (am (am ?_))
   refine aw (r_nilCheck rfl) ?_
   refine fa 36 underlying63 rfl sizeOf30 ?_
   refine aw (r_load_cell isAgg30 rfl (lens_cell0 (c:=cHd) (y:=⟨((g0_,((g8 0).2.1,(g8 0).2.2.1),((nn 10),(0:Nat))).2.2).1,List.length (({ { zv6 with f_c:=x0 } with f_own:=t4 }).f_out),((g0_,((g8 0).2.1,(g8 0).2.2.1),((nn 10),(0:Nat))).2.2).2⟩) (.s .z) (c_lint_finder_f_out (g0_,((g8 0).2.1,(g8 0).2.2.1),((nn 10),(0:Nat))) ({ { zv6 with f_c:=x0 } with f_own:=t4 })) rfl)) ?_
   refine aw (r_build_struct (zs:=Cd.cs c_lint_Odd zv11) (cs:=Cd.cs c_lint_Odd ({ { zv11 with f_Kind:=1 } with f_Peer:=(-1) })) underlying40 zeroValue40 rfl (places_lint_Odd_40) rfl (fill_step (c:=(cInt .i64)) (z:=1) rfl (c_lint_Odd_f_Kind zv11) rfl (fill_step (c:=(cInt .i64)) (z:=(-1)) rfl (c_lint_Odd_f_Peer ({ zv11 with f_Kind:=1 })) rfl rfl))) ?_
   refine at_litL (c:=c_lint_Odd) ([zv11]:List S_lint_Odd) ([lint_All.e0]:List S_lint_Odd) underlying30 sizeOf40 zeroValue40 rfl rfl rfl (by kernel_rfl) (fill_step (c:=c_lint_Odd) (z:=lint_All.e0) rfl (Lens.all c_lint_Odd ([zv11]:List S_lint_Odd) 0 (by first | decide | exact Nat.le_of_ble_eq_true rfl)) rfl rfl) rfl ?_
   intro b21
   obtain ⟨h22,hF⟩:=gd hF
   refine at_append (z:=.agg (Cd.cs c_lint_Odd zv11).toArray) (c:=c_lint_Odd) (ys:=([lint_All.e0]:List S_lint_Odd)) (.s .z) underlying30 infoV540 (by kernel_rfl) (by kernel_rfl) rfl rfl rfl rfl (fun _ hw=>cells_src (hw.ok (Upd.mem .z))) (by kernel_rfl) h22 (app_small h22) rfl ?_
   intro p23 c24
   refine aw (r_nilCheck rfl) ?_
   refine fa 36 underlying63 rfl sizeOf30 ?_
   refine at_store (c:=cSv S_lint_Odd) (z:=((p23,c24),([]:List S_lint_Odd)++[lint_All.e0])) (.s (.s .z)) (c_lint_finder_f_out_sv (g0_,((g8 0).2.1,(g8 0).2.2.1),((nn 10),(0:Nat))) ({ { zv6 with f_c:=x0 } with f_own:=t4 })) sizeOf30 rfl rfl rfl ?_
   refine qn (dz (wq [3] ?_))
   refine tn ?_
   obtain rfl:=os hF
   refine at_front (.s (.s .z)) ?_
   refine at_front (.s (.s .z)) ?_
   exact at_weak_k (K g0_ hn0 (g8 0).2.1 (g8 0).2.2.1 p23 c24) ⟨rfl,trivial⟩
  refine cf h20 ?_
  refine sn ?_
  obtain rfl:=os hF
  refine at_front (.s (.s .z)) ?_
  refine at_front (.s (.s .z)) ?_
  exact at_weak_k (K g0_ hn0 (g8 0).2.1 (g8 0).2.2.1 (nn 10) 0) ⟨rfl,trivial⟩
 skip
 intro gq13 hk14 p15 c16 p17 c18
 refine sr (am (am ?_))
 refine aw (r_makeFuncB rfl) ?_
 refine at_callI func21 rfl (by kernel_rfl) rfl rfl rfl rfl ?_
 refine sr (am ?_)
 refine aw (r_nilCheck rfl) ?_
 refine fa 0 underlying63 rfl sizeOf27 (fa 34 underlying27 rfl sizeOf25 ?_)
 refine aw (r_load_cell isAgg25 rfl (lens_cell0 (c:=cHd) (y:=⟨gq13.1,List.length q11.f_c.f_Peers,gq13.2⟩) .z (Lens.comp0 (c_lint_finder_f_c (gq13,(p15,c16),(p17,c18)) q11) (c_api_Conf_f_Peers gq13 q11.f_c)) rfl)) ?_
 refine aw (r_len_sl underlying25 rfl) ?_
 refine am (nwq [13,12,2,1,0] ?_)
 refine qb ?_
 obtain ⟨q31,hq31,hF⟩:=bM hF
 refine wq [13,12,2,1,0] ?_
 refine at_loop_n (B:=0) (A:=fun Y=>∀ (gq41:G_api_Conf) (hk42:N_api_Conf w (gq41,q31.f_c)) (p43:Option Addr) (c44:Nat) (p45:Option Addr) (c46:Nat),At 32 [] (Wd w [cellsE (g8 1).1 (Cd.cs c_lint_finder ((gq41,(p43,c44),(p45,c46)),q31)) 63,rowE c_api_Entry 49 p43 c44 q31.f_own,rowE c_lint_Odd 40 p45 c46 q31.f_out]) Y) ?_ ?_
 ·intro K
  refine lint_All.l0.partial_correctness q11 (motive:=fun i33 i34 x=>KN (fun Y=>∀ (gq41:G_api_Conf) (hk42:N_api_Conf w (gq41,x.f_c)) (p43:Option Addr) (c44:Nat) (p45:Option Addr) (c46:Nat),At 32 [] (Wd w [cellsE (g8 1).1 (Cd.cs c_lint_finder ((gq41,(p43,c44),(p45,c46)),x)) 63,rowE c_api_Entry 49 p43 c44 x.f_own,rowE c_lint_Odd 40 p45 c46 x.f_out]) Y) _ 0→Round (fun Y=>∀ (gq35:G_api_Conf) (hk36:N_api_Conf w (gq35,i34.f_c)) (p37:Option Addr) (c38:Nat) (p39:Option Addr) (c40:Nat),At 32 [(0,.pointer (some ⟨(g8 1).1,0,none⟩)),(1,.int .i64 2),(2,.func (.func 22) #[.pointer (some ⟨(g8 1).1,0,none⟩)] #[]),(12,.int .i64 (q11.f_c.f_Peers.length:Int)),(13,.int .i64 i33)] (Wd w [cellsE (g8 1).1 (Cd.cs c_lint_finder ((gq35,(p37,c38),(p39,c40)),i34)) 63,rowE c_api_Entry 49 p37 c38 i34.f_own,rowE c_lint_Odd 40 p39 c40 i34.f_out]) Y) _ _ _) ?_ _ _ _ hq31 K gq13 hk14 p15 c16 p17 c18
  ·clear K hF
   intro g ih i33 i34 x hF K gq35 hk36 p37 c38 p39 c40
   refine at_round ?_
   refine sr (aw xl (nwq [14,13,12,2,1,0] ?_))
   refine qs ?_
   obtain ⟨h47,hF⟩|⟨h47,hF⟩:=oi hF
   ·refine ct h47 ?_
    refine sn (qs ?_)
    refine qb ?_
    refine sr (am (aa (nwx [13,12,6,2,1,0] ?_)))
    refine am (am ?_)
    refine at_calleeB (bnds:=[.pointer (some ⟨(g8 1).1,0,none⟩)]) rfl ?_
    refine at_callI func22 rfl (by kernel_rfl) rfl rfl rfl rfl ?_
    refine sr (aa (ns (am ?_)))
    refine aw (r_nilCheck rfl) ?_
    refine fa 0 underlying63 rfl sizeOf27 (fa 34 underlying27 rfl sizeOf25 ?_)
    refine aw (r_load_cell isAgg25 rfl (lens_cell0 (c:=cHd) (y:=⟨gq35.1,List.length i34.f_c.f_Peers,gq35.2⟩) .z (Lens.comp0 (c_lint_finder_f_c (gq35,(p37,c38),(p39,c40)) i34) (c_api_Conf_f_Peers gq35 i34.f_c)) rfl)) ?_
    refine am ?_
    obtain ⟨h48,hF⟩:=gd hF
    obtain ⟨zs52,hz53,hr54,hn55⟩:=id hk36
    obtain ⟨b50,o51,hp49⟩:=row_ptr hr54 (zidx hz53 h48)
    obtain ⟨g56,hg57⟩:=zget hz53 i33
    refine aw (r_idx underlying25 sizeOf60 rfl rfl h48 hp49) ?_
    refine fa 85 underlying60 rfl sizeOf58 ?_
    refine aw (r_load_cell isAgg58 rfl (nlens0 (c':=cHd) (y:=⟨g56.1,List.length ((lget i34.f_c.f_Peers i33).f_Allowed),g56.2⟩) (fun _ h=>h.below) hr54 (zidx hz53 h48) hp49 hg57 (c_api_Peer_f_Allowed g56 (lget i34.f_c.f_Peers i33)) rfl)) ?_
    refine aw (r_len_sl underlying58 rfl) ?_
    refine aw xq (aa (nwq [4] ?_))
    refine qt ?_
    refine at_retI1 rfl rfl ?_
    refine nwq [18,13,12,6,2,1,0] ?_
    obtain ⟨h58,hF⟩|⟨h58,hF⟩:=oi hF
    ·refine ct h58 ?_
     refine qr (am (am ?_))
     refine aw (r_nilCheck rfl) ?_
     refine fa 36 underlying63 rfl sizeOf30 ?_
     refine aw (r_load_cell isAgg30 rfl (lens_cell0 (c:=cHd) (y:=⟨((gq35,(p37,c38),(p39,c40)).2.2).1,List.length i34.f_out,((gq35,(p37,c38),(p39,c40)).2.2).2⟩) .z (c_lint_finder_f_out (gq35,(p37,c38),(p39,c40)) i34) rfl)) ?_
     refine am (am ?_)
     refine aw (r_build_struct (zs:=Cd.cs c_lint_Odd zv11) (cs:=Cd.cs c_lint_Odd ({ { zv11 with f_Kind:=2 } with f_Peer:=i33 })) underlying40 zeroValue40 rfl (places_lint_Odd_40) rfl (fill_step (c:=(cInt .i64)) (z:=2) rfl (c_lint_Odd_f_Kind zv11) rfl (fill_step (c:=(cInt .i64)) (z:=i33) rfl (c_lint_Odd_f_Peer ({ zv11 with f_Kind:=2 })) rfl rfl))) ?_
     refine at_litL (c:=c_lint_Odd) ([zv11]:List S_lint_Odd) ([{ { zv11 with f_Kind:=2 } with f_Peer:=i33 }]:List S_lint_Odd) underlying30 sizeOf40 zeroValue40 rfl rfl rfl (by kernel_rfl) (fill_step (c:=c_lint_Odd) (z:={ { zv11 with f_Kind:=2 } with f_Peer:=i33 }) rfl (Lens.all c_lint_Odd ([zv11]:List S_lint_Odd) 0 (by first | decide | exact Nat.le_of_ble_eq_true rfl)) rfl rfl) rfl ?_
     intro b59
     obtain ⟨h60,hF⟩:=gd hF
     refine at_append (z:=.agg (Cd.cs c_lint_Odd zv11).toArray) (c:=c_lint_Odd) (ys:=([{ { zv11 with f_Kind:=2 } with f_Peer:=i33 }]:List S_lint_Odd)) (.s (.s (.s .z))) underlying30 infoV540 (by kernel_rfl) (by kernel_rfl) rfl rfl rfl rfl (fun _ hw=>cells_src (hw.ok (Upd.mem .z))) (by kernel_rfl) h60 (app_small h60) rfl ?_
     intro p61 c62
     refine aw (r_nilCheck rfl) ?_
     refine fa 36 underlying63 rfl sizeOf30 ?_
     refine at_store (c:=cSv S_lint_Odd) (z:=((p61,c62),i34.f_out++[{ { zv11 with f_Kind:=2 } with f_Peer:=i33 }])) (.s .z) (c_lint_finder_f_out_sv (gq35,(p37,c38),(p39,c40)) i34) sizeOf30 rfl rfl rfl ?_
     refine qn (dz (wq [13,12,2,1,0] ?_))
     refine bm ?_
     refine qr (aw xa (am (nwq [13,12,2,1,0] ?_)))
     exact at_weak_k (ih _ _ _ hF K gq35 hk36 p37 c38 p61 c62) ⟨rfl,rfl,rfl,rfl,rfl,trivial⟩
    refine cf h58 ?_
    refine at_skip ?_
    refine bm ?_
    refine qr (aw xa (am (nwq [13,12,2,1,0] ?_)))
    exact at_weak_k (ih _ _ _ hF K gq35 hk36 p37 c38 p39 c40) ⟨rfl,rfl,rfl,rfl,rfl,trivial⟩
   refine cf h47 ?_
   refine at_exit ?_
   refine te (te ?_)
   obtain rfl:=os hF
   exact at_weak_k (K gq35 hk36 p37 c38 p39 c40) trivial
 skip
 intro gq41 hk42 p43 c44 p45 c46
 refine at_blk_same ?_
 refine at_retI0 rfl ?_
 refine nwx [3] ?_
 refine am (am ?_)
 refine aw (r_makeFuncB rfl) ?_
 refine at_callI func21 rfl (by kernel_rfl) rfl rfl rfl rfl ?_
 refine sr (am ?_)
 refine aw (r_nilCheck rfl) ?_
 refine fa 0 underlying63 rfl sizeOf27 (fa 34 underlying27 rfl sizeOf25 ?_)
 refine aw (r_load_cell isAgg25 rfl (lens_cell0 (c:=cHd) (y:=⟨gq41.1,List.length q31.f_c.f_Peers,gq41.2⟩) .z (Lens.comp0 (c_lint_finder_f_c (gq41,(p43,c44),(p45,c46)) q31) (c_api_Conf_f_Peers gq41 q31.f_c)) rfl)) ?_
 refine aw (r_len_sl underlying25 rfl) ?_
 refine am (nwq [13,12,2,1,0] ?_)
 refine qb ?_
 obtain ⟨q69,hq69,hF⟩:=bM hF
 refine wq [13,12,2,1,0] ?_
 refine at_loop_n (B:=0) (A:=fun Y=>∀ (gq78:G_api_Conf) (hk79:N_api_Conf w (gq78,q69.f_c)) (p80:Option Addr) (c81:Nat) (p82:Option Addr) (c83:Nat),At 32 [] (Wd w [cellsE (g8 1).1 (Cd.cs c_lint_finder ((gq78,(p80,c81),(p82,c83)),q69)) 63,rowE c_api_Entry 49 p80 c81 q69.f_own,rowE c_lint_Odd 40 p82 c83 q69.f_out]) Y) ?_ ?_
 ·intro K
  refine lint_All.l1.partial_correctness q31 (motive:=fun i70 i71 x=>KN (fun Y=>∀ (gq78:G_api_Conf) (hk79:N_api_Conf w (gq78,x.f_c)) (p80:Option Addr) (c81:Nat) (p82:Option Addr) (c83:Nat),At 32 [] (Wd w [cellsE (g8 1).1 (Cd.cs c_lint_finder ((gq78,(p80,c81),(p82,c83)),x)) 63,rowE c_api_Entry 49 p80 c81 x.f_own,rowE c_lint_Odd 40 p82 c83 x.f_out]) Y) _ 0→Round (fun Y=>∀ (gq72:G_api_Conf) (hk73:N_api_Conf w (gq72,i71.f_c)) (p74:Option Addr) (c75:Nat) (p76:Option Addr) (c77:Nat),At 32 [(0,.pointer (some ⟨(g8 1).1,0,none⟩)),(1,.int .i64 3),(2,.func (.func 23) #[.pointer (some ⟨(g8 1).1,0,none⟩)] #[]),(12,.int .i64 (q31.f_c.f_Peers.length:Int)),(13,.int .i64 i70)] (Wd w [cellsE (g8 1).1 (Cd.cs c_lint_finder ((gq72,(p74,c75),(p76,c77)),i71)) 63,rowE c_api_Entry 49 p74 c75 i71.f_own,rowE c_lint_Odd 40 p76 c77 i71.f_out]) Y) _ _ _) ?_ _ _ _ hq69 K gq41 hk42 p43 c44 p45 c46
  ·clear K hF
   intro g ih i70 i71 x hF K gq72 hk73 p74 c75 p76 c77
   refine at_round ?_
   refine sr (aw xl (nwq [14,13,12,2,1,0] ?_))
   refine qs ?_
   obtain ⟨h84,hF⟩|⟨h84,hF⟩:=oi hF
   ·refine ct h84 ?_
    refine sn (qs ?_)
    refine qb ?_
    refine sr (am (aa (nwx [13,12,6,2,1,0] ?_)))
    refine am (am ?_)
    refine at_calleeB (bnds:=[.pointer (some ⟨(g8 1).1,0,none⟩)]) rfl ?_
    obtain ⟨t85,ht85,hF⟩:=bM hF
    refine at_callN (v:=.bool t85) (T:=[cellsE (g8 1).1 (Cd.cs c_lint_finder ((gq72,(p74,c75),(p76,c77)),i71)) 63,rowE c_api_Entry 49 p74 c75 i71.f_own,rowE c_lint_Odd 40 p76 c77 i71.f_out]) func23 rfl (by kernel_rfl) rfl rfl (fun w hw=>lint_finder_double_ok ht85 hw hk73) ?_
    refine nwq [18,13,12,6,2,1,0] ?_
    obtain ⟨h86,hF⟩|⟨h86,hF⟩:=oi hF
    ·refine ct h86 ?_
     refine qr (am (am ?_))
     refine aw (r_nilCheck rfl) ?_
     refine fa 36 underlying63 rfl sizeOf30 ?_
     refine aw (r_load_cell isAgg30 rfl (lens_cell0 (c:=cHd) (y:=⟨((gq72,(p74,c75),(p76,c77)).2.2).1,List.length i71.f_out,((gq72,(p74,c75),(p76,c77)).2.2).2⟩) .z (c_lint_finder_f_out (gq72,(p74,c75),(p76,c77)) i71) rfl)) ?_
     refine am (am ?_)
     refine aw (r_build_struct (zs:=Cd.cs c_lint_Odd zv11) (cs:=Cd.cs c_lint_Odd ({ { zv11 with f_Kind:=3 } with f_Peer:=i70 })) underlying40 zeroValue40 rfl (places_lint_Odd_40) rfl (fill_step (c:=(cInt .i64)) (z:=3) rfl (c_lint_Odd_f_Kind zv11) rfl (fill_step (c:=(cInt .i64)) (z:=i70) rfl (c_lint_Odd_f_Peer ({ zv11 with f_Kind:=3 })) rfl rfl))) ?_
     refine at_litL (c:=c_lint_Odd) ([zv11]:List S_lint_Odd) ([{ { zv11 with f_Kind:=3 } with f_Peer:=i70 }]:List S_lint_Odd) underlying30 sizeOf40 zeroValue40 rfl rfl rfl (by kernel_rfl) (fill_step (c:=c_lint_Odd) (z:={ { zv11 with f_Kind:=3 } with f_Peer:=i70 }) rfl (Lens.all c_lint_Odd ([zv11]:List S_lint_Odd) 0 (by first | decide | exact Nat.le_of_ble_eq_true rfl)) rfl rfl) rfl ?_
     intro b87
     obtain ⟨h88,hF⟩:=gd hF
     refine at_append (z:=.agg (Cd.cs c_lint_Odd zv11).toArray) (c:=c_lint_Odd) (ys:=([{ { zv11 with f_Kind:=3 } with f_Peer:=i70 }]:List S_lint_Odd)) (.s (.s (.s .z))) underlying30 infoV540 (by kernel_rfl) (by kernel_rfl) rfl rfl rfl rfl (fun _ hw=>cells_src (hw.ok (Upd.mem .z))) (by kernel_rfl) h88 (app_small h88) rfl ?_
     intro p89 c90
     refine aw (r_nilCheck rfl) ?_
     refine fa 36 underlying63 rfl sizeOf30 ?_
     refine at_store (c:=cSv S_lint_Odd) (z:=((p89,c90),i71.f_out++[{ { zv11 with f_Kind:=3 } with f_Peer:=i70 }])) (.s .z) (c_lint_finder_f_out_sv (gq72,(p74,c75),(p76,c77)) i71) sizeOf30 rfl rfl rfl ?_
     refine qn (dz (wq [13,12,2,1,0] ?_))
     refine bm ?_
     refine qr (aw xa (am (nwq [13,12,2,1,0] ?_)))
     exact at_weak_k (ih _ _ _ hF K gq72 hk73 p74 c75 p89 c90) ⟨rfl,rfl,rfl,rfl,rfl,trivial⟩
    refine cf h86 ?_
    refine at_skip ?_
    refine bm ?_
    refine qr (aw xa (am (nwq [13,12,2,1,0] ?_)))
    exact at_weak_k (ih _ _ _ hF K gq72 hk73 p74 c75 p76 c77) ⟨rfl,rfl,rfl,rfl,rfl,trivial⟩
   refine cf h84 ?_
   refine at_exit ?_
   refine te (te ?_)
   obtain rfl:=os hF
   exact at_weak_k (K gq72 hk73 p74 c75 p76 c77) trivial
 skip
 intro gq78 hk79 p80 c81 p82 c83
 refine at_blk_same ?_
 refine at_retI0 rfl ?_
 refine nwx [3] ?_
 refine am (am ?_)
 refine aw (r_makeFuncB rfl) ?_
 refine at_callI func21 rfl (by kernel_rfl) rfl rfl rfl rfl ?_
 refine sr (am ?_)
 refine aw (r_nilCheck rfl) ?_
 refine fa 0 underlying63 rfl sizeOf27 (fa 34 underlying27 rfl sizeOf25 ?_)
 refine aw (r_load_cell isAgg25 rfl (lens_cell0 (c:=cHd) (y:=⟨gq78.1,List.length q69.f_c.f_Peers,gq78.2⟩) .z (Lens.comp0 (c_lint_finder_f_c (gq78,(p80,c81),(p82,c83)) q69) (c_api_Conf_f_Peers gq78 q69.f_c)) rfl)) ?_
 refine aw (r_len_sl underlying25 rfl) ?_
 refine am (nwq [13,12,2,1,0] ?_)
 refine qb ?_
 obtain ⟨q97,hq97,hF⟩:=bM hF
 refine wq [13,12,2,1,0] ?_
 refine at_loop_n (B:=0) (A:=fun Y=>∀ (gq106:G_api_Conf) (hk107:N_api_Conf w (gq106,q97.f_c)) (p108:Option Addr) (c109:Nat) (p110:Option Addr) (c111:Nat),At 32 [] (Wd w [cellsE (g8 1).1 (Cd.cs c_lint_finder ((gq106,(p108,c109),(p110,c111)),q97)) 63,rowE c_api_Entry 49 p108 c109 q97.f_own,rowE c_lint_Odd 40 p110 c111 q97.f_out]) Y) ?_ ?_
 ·intro K
  refine lint_All.l2.partial_correctness q69 (motive:=fun i98 i99 x=>KN (fun Y=>∀ (gq106:G_api_Conf) (hk107:N_api_Conf w (gq106,x.f_c)) (p108:Option Addr) (c109:Nat) (p110:Option Addr) (c111:Nat),At 32 [] (Wd w [cellsE (g8 1).1 (Cd.cs c_lint_finder ((gq106,(p108,c109),(p110,c111)),x)) 63,rowE c_api_Entry 49 p108 c109 x.f_own,rowE c_lint_Odd 40 p110 c111 x.f_out]) Y) _ 0→Round (fun Y=>∀ (gq100:G_api_Conf) (hk101:N_api_Conf w (gq100,i99.f_c)) (p102:Option Addr) (c103:Nat) (p104:Option Addr) (c105:Nat),At 32 [(0,.pointer (some ⟨(g8 1).1,0,none⟩)),(1,.int .i64 4),(2,.func (.func 24) #[.pointer (some ⟨(g8 1).1,0,none⟩)] #[]),(12,.int .i64 (q69.f_c.f_Peers.length:Int)),(13,.int .i64 i98)] (Wd w [cellsE (g8 1).1 (Cd.cs c_lint_finder ((gq100,(p102,c103),(p104,c105)),i99)) 63,rowE c_api_Entry 49 p102 c103 i99.f_own,rowE c_lint_Odd 40 p104 c105 i99.f_out]) Y) _ _ _) ?_ _ _ _ hq97 K gq78 hk79 p80 c81 p82 c83
  ·clear K hF
   intro g ih i98 i99 x hF K gq100 hk101 p102 c103 p104 c105
   refine at_round ?_
   refine sr (aw xl (nwq [14,13,12,2,1,0] ?_))
   refine qs ?_
   obtain ⟨h112,hF⟩|⟨h112,hF⟩:=oi hF
   ·refine ct h112 ?_
    refine sn (qs ?_)
    refine qb ?_
    refine sr (am (aa (nwx [13,12,6,2,1,0] ?_)))
    refine am (am ?_)
    refine at_calleeB (bnds:=[.pointer (some ⟨(g8 1).1,0,none⟩)]) rfl ?_
    obtain ⟨t113,ht113,hF⟩:=bM hF
    refine at_callN (v:=.bool t113) (T:=[cellsE (g8 1).1 (Cd.cs c_lint_finder ((gq100,(p102,c103),(p104,c105)),i99)) 63,rowE c_api_Entry 49 p102 c103 i99.f_own,rowE c_lint_Odd 40 p104 c105 i99.f_out]) func24 rfl (by kernel_rfl) rfl rfl (fun w hw=>lint_finder_shared_ok ht113 hw hk101) ?_
    refine nwq [18,13,12,6,2,1,0] ?_
    obtain ⟨h114,hF⟩|⟨h114,hF⟩:=oi hF
    ·refine ct h114 ?_
     refine qr (am (am ?_))
     refine aw (r_nilCheck rfl) ?_
     refine fa 36 underlying63 rfl sizeOf30 ?_
     refine aw (r_load_cell isAgg30 rfl (lens_cell0 (c:=cHd) (y:=⟨((gq100,(p102,c103),(p104,c105)).2.2).1,List.length i99.f_out,((gq100,(p102,c103),(p104,c105)).2.2).2⟩) .z (c_lint_finder_f_out (gq100,(p102,c103),(p104,c105)) i99) rfl)) ?_
     refine am (am ?_)
     refine aw (r_build_struct (zs:=Cd.cs c_lint_Odd zv11) (cs:=Cd.cs c_lint_Odd ({ { zv11 with f_Kind:=4 } with f_Peer:=i98 })) underlying40 zeroValue40 rfl (places_lint_Odd_40) rfl (fill_step (c:=(cInt .i64)) (z:=4) rfl (c_lint_Odd_f_Kind zv11) rfl (fill_step (c:=(cInt .i64)) (z:=i98) rfl (c_lint_Odd_f_Peer ({ zv11 with f_Kind:=4 })) rfl rfl))) ?_
     refine at_litL (c:=c_lint_Odd) ([zv11]:List S_lint_Odd) ([{ { zv11 with f_Kind:=4 } with f_Peer:=i98 }]:List S_lint_Odd) underlying30 sizeOf40 zeroValue40 rfl rfl rfl (by kernel_rfl) (fill_step (c:=c_lint_Odd) (z:={ { zv11 with f_Kind:=4 } with f_Peer:=i98 }) rfl (Lens.all c_lint_Odd ([zv11]:List S_lint_Odd) 0 (by first | decide | exact Nat.le_of_ble_eq_true rfl)) rfl rfl) rfl ?_
     intro b115
     obtain ⟨h116,hF⟩:=gd hF
     refine at_append (z:=.agg (Cd.cs c_lint_Odd zv11).toArray) (c:=c_lint_Odd) (ys:=([{ { zv11 with f_Kind:=4 } with f_Peer:=i98 }]:List S_lint_Odd)) (.s (.s (.s .z))) underlying30 infoV540 (by kernel_rfl) (by kernel_rfl) rfl rfl rfl rfl (fun _ hw=>cells_src (hw.ok (Upd.mem .z))) (by kernel_rfl) h116 (app_small h116) rfl ?_
     intro p117 c118
     refine aw (r_nilCheck rfl) ?_
     refine fa 36 underlying63 rfl sizeOf30 ?_
     refine at_store (c:=cSv S_lint_Odd) (z:=((p117,c118),i99.f_out++[{ { zv11 with f_Kind:=4 } with f_Peer:=i98 }])) (.s .z) (c_lint_finder_f_out_sv (gq100,(p102,c103),(p104,c105)) i99) sizeOf30 rfl rfl rfl ?_
     refine qn (dz (wq [13,12,2,1,0] ?_))
     refine bm ?_
     refine qr (aw xa (am (nwq [13,12,2,1,0] ?_)))
     exact at_weak_k (ih _ _ _ hF K gq100 hk101 p102 c103 p117 c118) ⟨rfl,rfl,rfl,rfl,rfl,trivial⟩
    refine cf h114 ?_
    refine at_skip ?_
    refine bm ?_
    refine qr (aw xa (am (nwq [13,12,2,1,0] ?_)))
    exact at_weak_k (ih _ _ _ hF K gq100 hk101 p102 c103 p104 c105) ⟨rfl,rfl,rfl,rfl,rfl,trivial⟩
   refine cf h112 ?_
   refine at_exit ?_
   refine te (te ?_)
   obtain rfl:=os hF
   exact at_weak_k (K gq100 hk101 p102 c103 p104 c105) trivial
 skip
 intro gq106 hk107 p108 c109 p110 c111
 refine at_blk_same ?_
 refine at_retI0 rfl ?_
 refine nwx [3] ?_
 refine am (am ?_)
 refine at_callI func26 rfl (by kernel_rfl) rfl rfl rfl rfl ?_
 refine sr (aa (nwx [0] ?_))
 refine at_makeMap c_api_Prefix cBool false rfl ?_
 intro b119
 refine al (cs:=[.map none]) zeroValue85 ?_
 intro b120
 refine sa 1 ([.map (some b119)]) .z rfl rfl sizeOf85 rfl rfl rfl ?_
 refine nt (qs (sr (am ?_)))
 refine aw (r_nilCheck rfl) ?_
 refine fa 35 underlying63 rfl sizeOf46 ?_
 refine aw (r_load_cell isAgg46 rfl (lens_cell0 (c:=cHd) (y:=⟨((gq106,(p108,c109),(p110,c111)).2.1).1,List.length q97.f_own,((gq106,(p108,c109),(p110,c111)).2.1).2⟩) (.s (.s .z)) (c_lint_finder_f_own (gq106,(p108,c109),(p110,c111)) q97) rfl)) ?_
 obtain ⟨t121,ht121,hF⟩:=bM hF
 refine at_callO (c:=c_api_Entry) (e:=49) (ys:=t121) (V:=fun p cap=>.slice p t121.length cap) func47 rfl (by kernel_rfl) rfl rfl (fun w hw=>flat_Thin_ok _ _ _ _ ht121 w (hw.own (.s (.s (.s .z)))).row) ?_
 intro p122 c123
 refine aw (r_len_sl underlying46 rfl) ?_
 refine am (nwq [13,12,11,3] ?_)
 refine qb ?_
 obtain ⟨q124,hq124,hF⟩:=bM hF
 refine wq [13,12,11,3] ?_
 refine at_loop_n (B:=0) (A:=fun Y=>At 22 [(3,.pointer (some ⟨b120,0,none⟩))] (Wd w [cellsE b120 [.map (some b119)] 85,mapE b119 c_api_Prefix cBool false q124,cellsE (g8 1).1 (Cd.cs c_lint_finder ((gq106,(p108,c109),(p110,c111)),q97)) 63,rowE c_api_Entry 49 p108 c109 q97.f_own,rowE c_lint_Odd 40 p110 c111 q97.f_out]) Y) ?_ ?_
 ·intro K
  refine lint_All.l3.partial_correctness t121 (motive:=fun i125 i126 x=>KN (fun Y=>At 22 [(3,.pointer (some ⟨b120,0,none⟩))] (Wd w [cellsE b120 [.map (some b119)] 85,mapE b119 c_api_Prefix cBool false x,cellsE (g8 1).1 (Cd.cs c_lint_finder ((gq106,(p108,c109),(p110,c111)),q97)) 63,rowE c_api_Entry 49 p108 c109 q97.f_own,rowE c_lint_Odd 40 p110 c111 q97.f_out]) Y) _ 0→Round (fun Y=>At 22 [(3,.pointer (some ⟨b120,0,none⟩)),(11,.slice p122 t121.length c123),(12,.int .i64 (t121.length:Int)),(13,.int .i64 i125)] (Wd w [rowE c_api_Entry 49 p122 c123 t121,cellsE b120 [.map (some b119)] 85,mapE b119 c_api_Prefix cBool false i126,cellsE (g8 1).1 (Cd.cs c_lint_finder ((gq106,(p108,c109),(p110,c111)),q97)) 63,rowE c_api_Entry 49 p108 c109 q97.f_own,rowE c_lint_Odd 40 p110 c111 q97.f_out]) Y) _ _ _) ?_ _ _ _ hq124 K
  ·clear K hF
   intro g ih i125 i126 x hF K
   refine at_round ?_
   refine sr (aw xl (nwq [14,13,12,11,3] ?_))
   refine qs ?_
   obtain ⟨h127,hF⟩|⟨h127,hF⟩:=oi hF
   ·refine ct h127 ?_
    refine sn (qs ?_)
    refine qb ?_
    refine sr ?_
    obtain ⟨h128,hF⟩:=gd hF
    refine at_pure (φ:=∃ b o,p122=some ⟨b,o,none⟩) (fun _ hw=>row_ptr (hw.own .z).row h128) ?_
    rintro ⟨b130,o131,hp129⟩
    refine aw (r_idx underlying46 sizeOf49 rfl rfl h128 hp129) ?_
    refine aw (r_load_aggc (c:=c_api_Entry) (z:=lget t121 i125) isAgg49 sizeOf49 rfl (fun w1 hw=>row_cell (W:=fun w1=>w1=_) (fun w1 h=>by subst h;exact Below.refl _ _) (hw.own .z).row h128 hp129 _ rfl)) ?_
    refine al (cs:=Cd.cs c_api_Entry zv12) zeroValue49 ?_
    intro b132
    refine at_store (c:=c_api_Entry) (z:=lget t121 i125) .z lw sizeOf49 rfl rfl rfl ?_
    refine nwq [13,12,11,5,3] ?_
    refine qr ?_
    refine aw (r_load_cell isAgg85 rfl (fun w1 hw=>cells_get (hw.ok (Upd.mem (.s (.s .z)))) 0 _ rfl)) ?_
    refine fa 0 underlying49 rfl sizeOf38 ?_
    refine aw (r_load_aggc (c:=c_api_Prefix) (z:=(lget t121 i125).f_P) isAgg38 sizeOf38 rfl (lens_cell .z (Lens.comp lw (fun z=>{ lget t121 i125 with f_P:=z }) (c_api_Entry_f_P (lget t121 i125))))) ?_
    refine at_mapUpdate (k:=(lget t121 i125).f_P) (v:=true) (.s (.s (.s .z))) underlying85 (keylaw_of underlying38 (chk_struct (k:=2) underlying38 (fun n x hn=>(chkf_cons (c_api_Prefix_f_A x) rfl rfl isAgg36 sizeOf36 (.inl rfl) (chk_struct (k:=1) underlying36 (fun n x hn=>(chkf_cons (c_api_Addr_f_V x) rfl rfl isAgg3 sizeOf3 (.inr rfl) (chk_int underlying3) (by omega) (chkf_cons (c_api_Addr_f_B x) rfl rfl isAgg34 sizeOf34 (.inl rfl) (chk_vec underlying34 sizeOf5 isAgg5 (.inr rfl) (chk_int underlying5)) (by omega) chkf_nil)))) (by omega) (chkf_cons (c_api_Prefix_f_Bits x) rfl rfl isAgg3 sizeOf3 (.inr rfl) (chk_int underlying3) (by omega) chkf_nil)))) (by decide) (eq_api_Prefix_38) (by decide) plain_api_Prefix) rfl rfl rfl rfl ?_
    refine qn (dz (wq [13,12,11,3] ?_))
    refine bm ?_
    refine qr (aw xa (am (nwq [13,12,11,3] ?_)))
    exact at_weak_k (ih _ _ _ hF K) ⟨rfl,rfl,rfl,rfl,trivial⟩
   refine cf h127 ?_
   refine at_exit ?_
   refine te (te ?_)
   refine dz ?_
   obtain rfl:=os hF
   exact at_weak_k K ⟨rfl,trivial⟩
 skip
 skip
 refine at_blk_same ?_
 refine tn (sr ?_)
 refine aw (r_makeFunc rfl) ?_
 refine aa (nwq [2] ?_)
 refine qt ?_
 refine at_retI1 rfl rfl ?_
 refine at_callI func25 rfl (by kernel_rfl) rfl rfl rfl rfl ?_
 refine sr (am ?_)
 refine aw (r_nilCheck rfl) ?_
 refine fa 0 underlying63 rfl sizeOf27 (fa 34 underlying27 rfl sizeOf25 ?_)
 refine aw (r_load_cell isAgg25 rfl (lens_cell0 (c:=cHd) (y:=⟨gq106.1,List.length q97.f_c.f_Peers,gq106.2⟩) (.s (.s .z)) (Lens.comp0 (c_lint_finder_f_c (gq106,(p108,c109),(p110,c111)) q97) (c_api_Conf_f_Peers gq106 q97.f_c)) rfl)) ?_
 refine aw (r_len_sl underlying25 rfl) ?_
 refine am (nwq [16,15,14,2,1,0] ?_)
 refine qb ?_
 obtain ⟨q139,hq139,hF⟩:=bM hF
 refine wq [16,15,14,2,1,0] ?_
 refine at_loop_n (B:=0) (A:=fun Y=>∀ (gq148:G_api_Conf) (hk149:N_api_Conf w (gq148,q139.f_c)) (p150:Option Addr) (c151:Nat) (p152:Option Addr) (c153:Nat),At 46 [] (Wd w [cellsE (g8 1).1 (Cd.cs c_lint_finder ((gq148,(p150,c151),(p152,c153)),q139)) 63,rowE c_api_Entry 49 p150 c151 q139.f_own,rowE c_lint_Odd 40 p152 c153 q139.f_out]) Y) ?_ ?_
 ·intro K
  refine lint_All.l4.partial_correctness q97 q124 (motive:=fun i140 i141 x=>KN (fun Y=>∀ (gq148:G_api_Conf) (hk149:N_api_Conf w (gq148,x.f_c)) (p150:Option Addr) (c151:Nat) (p152:Option Addr) (c153:Nat),At 46 [] (Wd w [cellsE (g8 1).1 (Cd.cs c_lint_finder ((gq148,(p150,c151),(p152,c153)),x)) 63,rowE c_api_Entry 49 p150 c151 x.f_own,rowE c_lint_Odd 40 p152 c153 x.f_out]) Y) _ 0→Round (fun Y=>∀ (gq142:G_api_Conf) (hk143:N_api_Conf w (gq142,i141.f_c)) (p144:Option Addr) (c145:Nat) (p146:Option Addr) (c147:Nat),At 46 [(0,.pointer (some ⟨(g8 1).1,0,none⟩)),(1,.int .i64 5),(2,.func (.func 48) #[] #[.pointer (some ⟨b120,0,none⟩)]),(14,.slice gq106.1 q97.f_c.f_Peers.length gq106.2),(15,.int .i64 (q97.f_c.f_Peers.length:Int)),(16,.int .i64 i140)] (Wd w [cellsE b120 [.map (some b119)] 85,mapE b119 c_api_Prefix cBool false q124,cellsE (g8 1).1 (Cd.cs c_lint_finder ((gq142,(p144,c145),(p146,c147)),i141)) 63,rowE c_api_Entry 49 p144 c145 i141.f_own,rowE c_lint_Odd 40 p146 c147 i141.f_out]) Y) _ _ _) ?_ _ _ _ hq139 K gq106 hk107 p108 c109 p110 c111
  ·clear K hF
   intro g ih i140 i141 x hF K gq142 hk143 p144 c145 p146 c147
   refine at_round ?_
   refine sr (aw xl (nwq [17,16,15,14,2,1,0] ?_))
   refine qs ?_
   obtain ⟨h154,hF⟩|⟨h154,hF⟩:=oi hF
   ·refine ct h154 ?_
    refine sn (qs ?_)
    refine qb ?_
    refine sr (am ?_)
    obtain ⟨h155,hF⟩:=gd hF
    obtain ⟨zs159,hz160,hr161,hn162⟩:=id hk107
    obtain ⟨b157,o158,hp156⟩:=row_ptr hr161 (zidx hz160 h155)
    obtain ⟨g163,hg164⟩:=zget hz160 i140
    refine aw (r_idx underlying25 sizeOf60 rfl rfl h155 hp156) ?_
    refine aw (r_load_aggc (c:=c_api_Peer) (z:=(g163,lget q97.f_c.f_Peers i140)) isAgg60 sizeOf60 rfl (ncell (fun _ h=>h.below) hr161 (zidx hz160 h155) hp156 hg164)) ?_
    refine al (cs:=Cd.cs c_api_Peer zv13) zeroValue60 ?_
    intro b165
    refine aa ?_
    refine at_store (c:=c_api_Peer) (z:=(g163,lget q97.f_c.f_Peers i140)) .z lw sizeOf60 rfl rfl rfl ?_
    refine ns (fa 85 underlying60 rfl sizeOf58 ?_)
    refine aw (r_load_cell isAgg58 rfl (lens_cell0 (c:=cHd) (y:=⟨g163.1,List.length ((lget q97.f_c.f_Peers i140).f_Allowed),g163.2⟩) .z (c_api_Peer_f_Allowed g163 (lget q97.f_c.f_Peers i140)) rfl)) ?_
    refine aw (r_len_sl underlying58 rfl) ?_
    refine am (qn (dz (wq [24,23,22,16,15,14,6,2,1,0] ?_)))
    refine tn ?_
    refine qb ?_
    obtain ⟨q172,hq172,hF⟩:=bM hF
    refine wq [24,23,22,16,15,14,6,2,1,0] ?_
    refine at_loop_n (B:=2) (A:=fun Y=>∀ (gq181:G_api_Conf) (hk182:N_api_Conf w (gq181,q172.f_c)) (p183:Option Addr) (c184:Nat) (p185:Option Addr) (c186:Nat),At 46 [(0,.pointer (some ⟨(g8 1).1,0,none⟩)),(1,.int .i64 5),(2,.func (.func 48) #[] #[.pointer (some ⟨b120,0,none⟩)]),(14,.slice gq106.1 q97.f_c.f_Peers.length gq106.2),(15,.int .i64 (q97.f_c.f_Peers.length:Int)),(16,.int .i64 i140)] (Wd w [cellsE b120 [.map (some b119)] 85,mapE b119 c_api_Prefix cBool false q124,cellsE (g8 1).1 (Cd.cs c_lint_finder ((gq181,(p183,c184),(p185,c186)),q172)) 63,rowE c_api_Entry 49 p183 c184 q172.f_own,rowE c_lint_Odd 40 p185 c186 q172.f_out]) Y) ?_ ?_
    ·intro K
     refine lint_All.l5.partial_correctness q97 q124 i140 (motive:=fun i173 i174 x=>KN (fun Y=>∀ (gq181:G_api_Conf) (hk182:N_api_Conf w (gq181,x.f_c)) (p183:Option Addr) (c184:Nat) (p185:Option Addr) (c186:Nat),At 46 [(0,.pointer (some ⟨(g8 1).1,0,none⟩)),(1,.int .i64 5),(2,.func (.func 48) #[] #[.pointer (some ⟨b120,0,none⟩)]),(14,.slice gq106.1 q97.f_c.f_Peers.length gq106.2),(15,.int .i64 (q97.f_c.f_Peers.length:Int)),(16,.int .i64 i140)] (Wd w [cellsE b120 [.map (some b119)] 85,mapE b119 c_api_Prefix cBool false q124,cellsE (g8 1).1 (Cd.cs c_lint_finder ((gq181,(p183,c184),(p185,c186)),x)) 63,rowE c_api_Entry 49 p183 c184 x.f_own,rowE c_lint_Odd 40 p185 c186 x.f_out]) Y) _ 2→Round (fun Y=>∀ (gq175:G_api_Conf) (hk176:N_api_Conf w (gq175,i174.f_c)) (p177:Option Addr) (c178:Nat) (p179:Option Addr) (c180:Nat),At 46 [(0,.pointer (some ⟨(g8 1).1,0,none⟩)),(1,.int .i64 5),(2,.func (.func 48) #[] #[.pointer (some ⟨b120,0,none⟩)]),(6,.int .i64 i140),(14,.slice gq106.1 q97.f_c.f_Peers.length gq106.2),(15,.int .i64 (q97.f_c.f_Peers.length:Int)),(16,.int .i64 i140),(22,.slice g163.1 ((lget q97.f_c.f_Peers i140).f_Allowed).length g163.2),(23,.int .i64 (((lget q97.f_c.f_Peers i140).f_Allowed).length:Int)),(24,.int .i64 i173)] (Wd w [cellsE b120 [.map (some b119)] 85,mapE b119 c_api_Prefix cBool false q124,cellsE (g8 1).1 (Cd.cs c_lint_finder ((gq175,(p177,c178),(p179,c180)),i174)) 63,rowE c_api_Entry 49 p177 c178 i174.f_own,rowE c_lint_Odd 40 p179 c180 i174.f_out]) Y) _ _ _) ?_ _ _ _ hq172 K gq142 hk143 p144 c145 p146 c147
     ·clear K hF
      intro g ih i173 i174 x hF K gq175 hk176 p177 c178 p179 c180
      refine at_round ?_
      refine sr (aw xl (nwq [25,24,23,22,16,15,14,6,2,1,0] ?_))
      refine qs ?_
      obtain ⟨h187,hF⟩|⟨h187,hF⟩:=oi hF
      ·refine ct h187 ?_
       refine sn (qs ?_)
       refine qb ?_
       refine sr ?_
       obtain ⟨h188,hF⟩:=gd hF
       obtain ⟨b190,o191,hp189⟩:=row_ptr (nz hg164 hn162 (zidx hz160 h155)) h188
       refine aw (r_idx underlying58 sizeOf38 rfl rfl h188 hp189) ?_
       refine aw (r_load_aggc (c:=c_api_Prefix) (z:=lget ((lget q97.f_c.f_Peers i140).f_Allowed) i173) isAgg38 sizeOf38 rfl (row_cell (fun _ h=>h.below) (nz hg164 hn162 (zidx hz160 h155)) h188 hp189)) ?_
       refine al (cs:=Cd.cs c_api_Prefix zv8) zeroValue38 ?_
       intro b192
       refine at_store (c:=c_api_Prefix) (z:=lget ((lget q97.f_c.f_Peers i140).f_Allowed) i173) .z lw sizeOf38 rfl rfl rfl ?_
       refine nwx [24,23,22,16,15,14,9,6,2,1,0] ?_
       refine am ?_
       refine aw (r_load_aggc (c:=c_api_Prefix) (z:=lget ((lget q97.f_c.f_Peers i140).f_Allowed) i173) isAgg38 sizeOf38 rfl (lens_cell .z lw)) ?_
       refine at_calleeC (caps:=[.pointer (some ⟨b120,0,none⟩)]) rfl ?_
       refine at_callI func48 rfl (by kernel_rfl) rfl rfl rfl rfl ?_
       refine sr ?_
       refine at_box (cs:=Cd.cs c_api_Prefix (lget ((lget q97.f_c.f_Peers i140).f_Allowed) i173)) rfl rfl rfl ?_
       intro b193
       refine aa (ns ?_)
       refine aw (r_load_cell isAgg85 rfl (fun w1 hw=>cells_get (hw.ok (Upd.mem (.s (.s .z)))) 0 _ rfl)) ?_
       refine aw (r_load_aggc (c:=c_api_Prefix) (z:=lget ((lget q97.f_c.f_Peers i140).f_Allowed) i173) isAgg38 sizeOf38 rfl (lens_cell .z lw)) ?_
       refine aw (r_lookup (d:=cBool) (va:=false) (k:=lget ((lget q97.f_c.f_Peers i140).f_Allowed) i173) (zv:=false) underlying85 (keylaw_of underlying38 (chk_struct (k:=2) underlying38 (fun n x hn=>(chkf_cons (c_api_Prefix_f_A x) rfl rfl isAgg36 sizeOf36 (.inl rfl) (chk_struct (k:=1) underlying36 (fun n x hn=>(chkf_cons (c_api_Addr_f_V x) rfl rfl isAgg3 sizeOf3 (.inr rfl) (chk_int underlying3) (by omega) (chkf_cons (c_api_Addr_f_B x) rfl rfl isAgg34 sizeOf34 (.inl rfl) (chk_vec underlying34 sizeOf5 isAgg5 (.inr rfl) (chk_int underlying5)) (by omega) chkf_nil)))) (by omega) (chkf_cons (c_api_Prefix_f_Bits x) rfl rfl isAgg3 sizeOf3 (.inr rfl) (chk_int underlying3) (by omega) chkf_nil)))) (by decide) (eq_api_Prefix_38) (by decide) plain_api_Prefix) zeroValue4 rfl rfl (fun w1 hw=>hw.ok (Upd.mem (.s (.s (.s .z)))))) ?_
       refine aw (r_not rfl) ?_
       refine aa (qn (dz (wq [3] ?_)))
       refine tn (qt ?_)
       refine at_retI1 rfl rfl ?_
       refine nwq [30,24,23,22,16,15,14,9,6,2,1,0] ?_
       obtain ⟨h194,hF⟩|⟨h194,hF⟩:=oi hF
       ·refine ct h194 ?_
        refine wq [24,23,22,16,15,14,9,6,2,1,0] ?_
        obtain ⟨h196,hF⟩:=gd hF
        refine at_inv [.q 31 (fun g199=>.pointer (some ⟨(g8 1).1,0,none⟩)) [] 0 2,.q 32 (fun g199=>.pointer (some ⟨(g8 1).1,0,none⟩)) [] 0 1,.q 33 (fun g199=>.pointer (some ⟨(g8 1).1,0,none⟩)) [1] 0 1,.q 34 (fun g199=>.pointer (some ⟨(g8 1).1,0+36,none⟩)) [2] 0 1,.q 35 (fun g199=>.slice p179 i174.f_out.length c180) [3] 0 1,.q 36 (fun g199=>.int .i64 5) [] 0 0,.q 37 (fun g199=>.int .i64 i140) [] 0 0,.q 38 (fun g199=>.agg (Cd.cs c_api_Prefix (lget ((lget q97.f_c.f_Peers i140).f_Allowed) i173)).toArray) [] 0 0,.q 39 (fun g199=>.agg (Cd.cs c_lint_Odd ({ { { zv11 with f_Kind:=5 } with f_Peer:=i140 } with f_P:=lget ((lget q97.f_c.f_Peers i140).f_Allowed) i173 })).toArray) [5,6,7] 0 0,.al 0 40 (fun g199=>.slice (some ⟨((g199 0).1),0,none⟩) ([{ { { zv11 with f_Kind:=5 } with f_Peer:=i140 } with f_P:=lget ((lget q97.f_c.f_Peers i140).f_Allowed) i173 }]:List S_lint_Odd).length 1) [8],.al 1 41 (fun g199=>.slice ((g199 1).2.1) (i174.f_out++[{ { { zv11 with f_Kind:=5 } with f_Peer:=i140 } with f_P:=lget ((lget q97.f_c.f_Peers i140).f_Allowed) i173 }]).length ((g199 1).2.2.1)) [4,9],.q 42 (fun g199=>.pointer (some ⟨(g8 1).1,0,none⟩)) [0] 2 2,.q 43 (fun g199=>.pointer (some ⟨(g8 1).1,0+36,none⟩)) [11] 2 2,.st 2 none [10,12]] (fun g199 s=>match s with | 0=>(Wd w [cellsE b192 (Cd.cs c_api_Prefix (lget ((lget q97.f_c.f_Peers i140).f_Allowed) i173)) 38,cellsE b120 [.map (some b119)] 85,mapE b119 c_api_Prefix cBool false q124,cellsE (g8 1).1 (Cd.cs c_lint_finder ((gq175,(p177,c178),(p179,c180)),i174)) 63,rowE c_api_Entry 49 p177 c178 i174.f_own,rowE c_lint_Odd 40 p179 c180 i174.f_out]) | 1=>(Wd w [cellsE ((g199 0).1) (c_lint_Odd.all ([{ { { zv11 with f_Kind:=5 } with f_Peer:=i140 } with f_P:=lget ((lget q97.f_c.f_Peers i140).f_Allowed) i173 }]:List S_lint_Odd)) 40,cellsE b192 (Cd.cs c_api_Prefix (lget ((lget q97.f_c.f_Peers i140).f_Allowed) i173)) 38,cellsE b120 [.map (some b119)] 85,mapE b119 c_api_Prefix cBool false q124,cellsE (g8 1).1 (Cd.cs c_lint_finder ((gq175,(p177,c178),(p179,c180)),i174)) 63,rowE c_api_Entry 49 p177 c178 i174.f_own,rowE c_lint_Odd 40 p179 c180 i174.f_out]) | 2=>(Wd w [cellsE ((g199 0).1) (c_lint_Odd.all ([{ { { zv11 with f_Kind:=5 } with f_Peer:=i140 } with f_P:=lget ((lget q97.f_c.f_Peers i140).f_Allowed) i173 }]:List S_lint_Odd)) 40,cellsE b192 (Cd.cs c_api_Prefix (lget ((lget q97.f_c.f_Peers i140).f_Allowed) i173)) 38,cellsE b120 [.map (some b119)] 85,mapE b119 c_api_Prefix cBool false q124,cellsE (g8 1).1 (Cd.cs c_lint_finder ((gq175,(p177,c178),(p179,c180)),i174)) 63,rowE c_api_Entry 49 p177 c178 i174.f_own,rowE c_lint_Odd 40 ((g199 1).2.1) ((g199 1).2.2.1) (i174.f_out++[{ { { zv11 with f_Kind:=5 } with f_Peer:=i140 } with f_P:=lget ((lget q97.f_c.f_Peers i140).f_Allowed) i173 }])]) | _=>(Wd w [cellsE ((g199 0).1) (c_lint_Odd.all ([{ { { zv11 with f_Kind:=5 } with f_Peer:=i140 } with f_P:=lget ((lget q97.f_c.f_Peers i140).f_Allowed) i173 }]:List S_lint_Odd)) 40,cellsE b192 (Cd.cs c_api_Prefix (lget ((lget q97.f_c.f_Peers i140).f_Allowed) i173)) 38,cellsE b120 [.map (some b119)] 85,mapE b119 c_api_Prefix cBool false q124,cellsE (g8 1).1 (Cd.cs c_lint_finder ((gq175,(p177,c178),(((g199 1).2.1),((g199 1).2.2.1))),{ i174 with f_out:=i174.f_out++[{ { { zv11 with f_Kind:=5 } with f_Peer:=i140 } with f_P:=lget ((lget q97.f_c.f_Peers i140).f_Allowed) i173 }] })) 63,rowE c_api_Entry 49 p177 c178 i174.f_own,rowE c_lint_Odd 40 ((g199 1).2.1) ((g199 1).2.2.1) (i174.f_out++[{ { { zv11 with f_Kind:=5 } with f_Peer:=i140 } with f_P:=lget ((lget q97.f_c.f_Peers i140).f_Allowed) i173 }])])) 3 (by kernel_rfl) (by kernel_rfl) (by kernel_rfl) (by kernel_rfl) (by kernel_rfl) ⟨fun _ _ _=>rfl,fun _ _ _=>rfl,fun _ _ _=>rfl,fun _ _ _=>rfl,fun _ _ _=>rfl,fun _ _ _=>rfl,fun _ _ _=>rfl,fun _ _ _=>rfl,fun _ _ _=>rfl,fun g199 g2 h=>by show (.slice (some ⟨((g199 0).1),0,none⟩) ([{ { { zv11 with f_Kind:=5 } with f_Peer:=i140 } with f_P:=lget ((lget q97.f_c.f_Peers i140).f_Allowed) i173 }]:List S_lint_Odd).length 1:Value)=.slice (some ⟨((g2 0).1),0,none⟩) ([{ { { zv11 with f_Kind:=5 } with f_Peer:=i140 } with f_P:=lget ((lget q97.f_c.f_Peers i140).f_Allowed) i173 }]:List S_lint_Odd).length 1;rw [h 0 (show 0<1 by decide)],fun g199 g2 h=>by show (.slice ((g199 1).2.1) (i174.f_out++[{ { { zv11 with f_Kind:=5 } with f_Peer:=i140 } with f_P:=lget ((lget q97.f_c.f_Peers i140).f_Allowed) i173 }]).length ((g199 1).2.2.1):Value)=.slice ((g2 1).2.1) (i174.f_out++[{ { { zv11 with f_Kind:=5 } with f_Peer:=i140 } with f_P:=lget ((lget q97.f_c.f_Peers i140).f_Allowed) i173 }]).length ((g2 1).2.2.1);rw [h 1 (show 1<2 by decide)],fun _ _ _=>rfl,fun _ _ _=>rfl,fun _ _ _=>rfl,trivial⟩ (by kernel_rfl) (fun w_ h=>⟨fun _=>g3 0 none 0 none w_,h.drew⟩) ⟨?_,?_,?_,?_,?_,?_,?_,?_,?_,?_,?_,?_,?_,?_,trivial⟩ ?_
        ·intro Lx g199 s K hl hh k
         show At 46 ((0,_)::(1,_)::(2,_)::(6,_)::(9,_)::(14,_)::(15,_)::(16,_)::(22,_)::(23,_)::(24,_)::Lx) _ _
         refine am ?_
         exact at_nil k
        ·intro Lx g199 s K hl hh k
         show At 46 ((0,_)::(1,_)::(2,_)::(6,_)::(9,_)::(14,_)::(15,_)::(16,_)::(22,_)::(23,_)::(24,_)::Lx) _ _
         refine am ?_
         exact at_nil k
        ·intro Lx g199 s K hl hh k
         show At 46 ((32,_)::(0,_)::(1,_)::(2,_)::(6,_)::(9,_)::(14,_)::(15,_)::(16,_)::(22,_)::(23,_)::(24,_)::Lx) _ _
         refine aw (r_nilCheck rfl) ?_
         exact at_nil k
        ·intro Lx g199 s K hl hh k
         show At 46 ((33,_)::(0,_)::(1,_)::(2,_)::(6,_)::(9,_)::(14,_)::(15,_)::(16,_)::(22,_)::(23,_)::(24,_)::Lx) _ _
         refine fa 36 underlying63 rfl sizeOf30 ?_
         exact at_nil k
        ·intro Lx g199 s K hl hh k
         show At 46 ((34,_)::(0,_)::(1,_)::(2,_)::(6,_)::(9,_)::(14,_)::(15,_)::(16,_)::(22,_)::(23,_)::(24,_)::Lx) _ _
         rcases (by omega:s=0∨s=1) with rfl | rfl
         ·skip
          refine aw (r_load_cell isAgg30 rfl (lens_cell0 (c:=cHd) (y:=⟨((gq175,(p177,c178),(p179,c180)).2.2).1,List.length i174.f_out,((gq175,(p177,c178),(p179,c180)).2.2).2⟩) (.s (.s (.s .z))) (c_lint_finder_f_out (gq175,(p177,c178),(p179,c180)) i174) rfl)) ?_
          exact at_nil k
         skip
         refine aw (r_load_cell isAgg30 rfl (lens_cell0 (c:=cHd) (y:=⟨((gq175,(p177,c178),(p179,c180)).2.2).1,List.length i174.f_out,((gq175,(p177,c178),(p179,c180)).2.2).2⟩) (.s (.s (.s (.s .z)))) (c_lint_finder_f_out (gq175,(p177,c178),(p179,c180)) i174) rfl)) ?_
         exact at_nil k
        ·intro Lx g199 s K hl hh k
         show At 46 ((0,_)::(1,_)::(2,_)::(6,_)::(9,_)::(14,_)::(15,_)::(16,_)::(22,_)::(23,_)::(24,_)::Lx) _ _
         refine am ?_
         exact at_nil k
        ·intro Lx g199 s K hl hh k
         show At 46 ((0,_)::(1,_)::(2,_)::(6,_)::(9,_)::(14,_)::(15,_)::(16,_)::(22,_)::(23,_)::(24,_)::Lx) _ _
         refine am ?_
         exact at_nil k
        ·intro Lx g199 s K hl hh k
         show At 46 ((0,_)::(1,_)::(2,_)::(6,_)::(9,_)::(14,_)::(15,_)::(16,_)::(22,_)::(23,_)::(24,_)::Lx) _ _
         obtain rfl:s=0:=by omega
         refine aw (r_load_aggc (c:=c_api_Prefix) (z:=lget ((lget q97.f_c.f_Peers i140).f_Allowed) i173) isAgg38 sizeOf38 rfl (lens_cell .z lw)) ?_
         exact at_nil k
        ·intro Lx g199 s K hl hh k
         show At 46 ((36,_)::(37,_)::(38,_)::(0,_)::(1,_)::(2,_)::(6,_)::(9,_)::(14,_)::(15,_)::(16,_)::(22,_)::(23,_)::(24,_)::Lx) _ _
         obtain rfl:s=0:=by omega
         refine aw (r_build_struct (zs:=Cd.cs c_lint_Odd zv11) (cs:=Cd.cs c_lint_Odd ({ { { zv11 with f_Kind:=5 } with f_Peer:=i140 } with f_P:=lget ((lget q97.f_c.f_Peers i140).f_Allowed) i173 })) underlying40 zeroValue40 rfl (places_lint_Odd_40) rfl (fill_step (c:=(cInt .i64)) (z:=5) rfl (c_lint_Odd_f_Kind zv11) rfl (fill_step (c:=(cInt .i64)) (z:=i140) rfl (c_lint_Odd_f_Peer ({ zv11 with f_Kind:=5 })) rfl (fill_step (c:=c_api_Prefix) (z:=lget ((lget q97.f_c.f_Peers i140).f_Allowed) i173) rfl (c_lint_Odd_f_P ({ { zv11 with f_Kind:=5 } with f_Peer:=i140 })) rfl rfl)))) ?_
         exact at_nil k
        ·intro Lx g199 K k
         show At 46 ((39,_)::(0,_)::(1,_)::(2,_)::(6,_)::(9,_)::(14,_)::(15,_)::(16,_)::(22,_)::(23,_)::(24,_)::Lx) _ _
         refine at_litL (c:=c_lint_Odd) ([zv11]:List S_lint_Odd) ([{ { { zv11 with f_Kind:=5 } with f_Peer:=i140 } with f_P:=lget ((lget q97.f_c.f_Peers i140).f_Allowed) i173 }]:List S_lint_Odd) underlying30 sizeOf40 zeroValue40 rfl rfl rfl (by kernel_rfl) (fill_step (c:=c_lint_Odd) (z:={ { { zv11 with f_Kind:=5 } with f_Peer:=i140 } with f_P:=lget ((lget q97.f_c.f_Peers i140).f_Allowed) i173 }) rfl (Lens.all c_lint_Odd ([zv11]:List S_lint_Odd) 0 (by first | decide | exact Nat.le_of_ble_eq_true rfl)) rfl rfl) rfl ?_
         intro b195
         exact at_nil (k (g3 b195 none 0 none w))
        ·intro Lx g199 K k
         show At 46 ((35,_)::(40,_)::(0,_)::(1,_)::(2,_)::(6,_)::(9,_)::(14,_)::(15,_)::(16,_)::(22,_)::(23,_)::(24,_)::Lx) _ _
         refine at_append (z:=.agg (Cd.cs c_lint_Odd zv11).toArray) (c:=c_lint_Odd) (ys:=([{ { { zv11 with f_Kind:=5 } with f_Peer:=i140 } with f_P:=lget ((lget q97.f_c.f_Peers i140).f_Allowed) i173 }]:List S_lint_Odd)) (.s (.s (.s (.s (.s (.s .z)))))) underlying30 infoV540 (by kernel_rfl) (by kernel_rfl) rfl rfl rfl rfl (fun _ hw=>cells_src (hw.ok (Upd.mem .z))) (by kernel_rfl) h196 (app_small h196) rfl ?_
         intro p197 c198
         exact at_nil (k (g3 0 p197 c198 none w))
        ·intro Lx g199 s K hl hh k
         show At 46 ((31,_)::(0,_)::(1,_)::(2,_)::(6,_)::(9,_)::(14,_)::(15,_)::(16,_)::(22,_)::(23,_)::(24,_)::Lx) _ _
         refine aw (r_nilCheck rfl) ?_
         exact at_nil k
        ·intro Lx g199 s K hl hh k
         show At 46 ((42,_)::(0,_)::(1,_)::(2,_)::(6,_)::(9,_)::(14,_)::(15,_)::(16,_)::(22,_)::(23,_)::(24,_)::Lx) _ _
         refine fa 36 underlying63 rfl sizeOf30 ?_
         exact at_nil k
        ·intro Lx g199 K k
         show At 46 ((41,_)::(43,_)::(0,_)::(1,_)::(2,_)::(6,_)::(9,_)::(14,_)::(15,_)::(16,_)::(22,_)::(23,_)::(24,_)::Lx) _ _
         refine at_store (c:=cSv S_lint_Odd) (z:=((((g199 1).2.1),((g199 1).2.2.1)),i174.f_out++[{ { { zv11 with f_Kind:=5 } with f_Peer:=i140 } with f_P:=lget ((lget q97.f_c.f_Peers i140).f_Allowed) i173 }])) (.s (.s (.s (.s .z)))) (c_lint_finder_f_out_sv (gq175,(p177,c178),(p179,c180)) i174) sizeOf30 rfl rfl rfl ?_
         exact at_nil k
        intro g199
        show At 46 [(31,_),(32,_),(33,_),(34,_),(35,_),(36,_),(37,_),(38,_),(39,_),(40,_),(41,_),(42,_),(43,_),(0,_),(1,_),(2,_),(6,_),(9,_),(14,_),(15,_),(16,_),(22,_),(23,_),(24,_)] _ _
        refine dz (dz (wq [24,23,22,16,15,14,6,2,1,0] ?_))
        refine bm ?_
        refine qr (aw xa (am (nwq [24,23,22,16,15,14,6,2,1,0] ?_)))
        exact at_weak_k (ih _ _ _ hF K gq175 hk176 p177 c178 (g199 1).2.1 (g199 1).2.2.1) ⟨rfl,rfl,rfl,rfl,rfl,rfl,rfl,rfl,rfl,rfl,trivial⟩
       refine cf h194 ?_
       refine at_skip ?_
       refine bm ?_
       refine qr (aw xa (am (qn (dz (wq [24,23,22,16,15,14,6,2,1,0] ?_)))))
       refine tn ?_
       exact at_weak_k (ih _ _ _ hF K gq175 hk176 p177 c178 p179 c180) ⟨rfl,rfl,rfl,rfl,rfl,rfl,rfl,rfl,rfl,rfl,trivial⟩
      refine cf h187 ?_
      refine at_exit ?_
      refine te (te ?_)
      obtain rfl:=os hF
      exact at_weak_k (K gq175 hk176 p177 c178 p179 c180) ⟨rfl,rfl,rfl,rfl,rfl,rfl,trivial⟩
    skip
    intro gq181 hk182 p183 c184 p185 c186
    refine at_blk_same ?_
    refine bm ?_
    refine qr (aw xa (am (nwq [16,15,14,2,1,0] ?_)))
    exact at_weak_k (ih _ _ _ hF K gq181 hk182 p183 c184 p185 c186) ⟨rfl,rfl,rfl,rfl,rfl,rfl,trivial⟩
   refine cf h154 ?_
   refine at_exit ?_
   refine te (te ?_)
   refine dz (dz ?_)
   obtain rfl:=os hF
   exact at_weak_k (K gq142 hk143 p144 c145 p146 c147) trivial
 skip
 intro gq148 hk149 p150 c151 p152 c153
 refine at_blk_same ?_
 refine at_retI0 rfl ?_
 refine nwx [3] ?_
 refine am (am ?_)
 refine aw (r_makeFuncB rfl) ?_
 refine at_callI func25 rfl (by kernel_rfl) rfl rfl rfl rfl ?_
 refine sr (am ?_)
 refine aw (r_nilCheck rfl) ?_
 refine fa 0 underlying63 rfl sizeOf27 (fa 34 underlying27 rfl sizeOf25 ?_)
 refine aw (r_load_cell isAgg25 rfl (lens_cell0 (c:=cHd) (y:=⟨gq148.1,List.length q139.f_c.f_Peers,gq148.2⟩) .z (Lens.comp0 (c_lint_finder_f_c (gq148,(p150,c151),(p152,c153)) q139) (c_api_Conf_f_Peers gq148 q139.f_c)) rfl)) ?_
 refine aw (r_len_sl underlying25 rfl) ?_
 refine am (nwq [16,15,14,2,1,0] ?_)
 refine qb ?_
 obtain ⟨q206,hq206,hF⟩:=bM hF
 refine wq [16,15,14,2,1,0] ?_
 refine at_loop_n (B:=0) (A:=fun Y=>∀ (gq215:G_api_Conf) (hk216:N_api_Conf w (gq215,q206.f_c)) (p217:Option Addr) (c218:Nat) (p219:Option Addr) (c220:Nat),At 46 [] (Wd w [cellsE (g8 1).1 (Cd.cs c_lint_finder ((gq215,(p217,c218),(p219,c220)),q206)) 63,rowE c_api_Entry 49 p217 c218 q206.f_own,rowE c_lint_Odd 40 p219 c220 q206.f_out]) Y) ?_ ?_
 ·intro K
  refine lint_All.l6.partial_correctness q139 (motive:=fun i207 i208 x=>KN (fun Y=>∀ (gq215:G_api_Conf) (hk216:N_api_Conf w (gq215,x.f_c)) (p217:Option Addr) (c218:Nat) (p219:Option Addr) (c220:Nat),At 46 [] (Wd w [cellsE (g8 1).1 (Cd.cs c_lint_finder ((gq215,(p217,c218),(p219,c220)),x)) 63,rowE c_api_Entry 49 p217 c218 x.f_own,rowE c_lint_Odd 40 p219 c220 x.f_out]) Y) _ 0→Round (fun Y=>∀ (gq209:G_api_Conf) (hk210:N_api_Conf w (gq209,i208.f_c)) (p211:Option Addr) (c212:Nat) (p213:Option Addr) (c214:Nat),At 46 [(0,.pointer (some ⟨(g8 1).1,0,none⟩)),(1,.int .i64 6),(2,.func (.func 27) #[.pointer (some ⟨(g8 1).1,0,none⟩)] #[]),(14,.slice gq148.1 q139.f_c.f_Peers.length gq148.2),(15,.int .i64 (q139.f_c.f_Peers.length:Int)),(16,.int .i64 i207)] (Wd w [cellsE (g8 1).1 (Cd.cs c_lint_finder ((gq209,(p211,c212),(p213,c214)),i208)) 63,rowE c_api_Entry 49 p211 c212 i208.f_own,rowE c_lint_Odd 40 p213 c214 i208.f_out]) Y) _ _ _) ?_ _ _ _ hq206 K gq148 hk149 p150 c151 p152 c153
  ·clear K hF
   intro g ih i207 i208 x hF K gq209 hk210 p211 c212 p213 c214
   refine at_round ?_
   refine sr (aw xl (nwq [17,16,15,14,2,1,0] ?_))
   refine qs ?_
   obtain ⟨h221,hF⟩|⟨h221,hF⟩:=oi hF
   ·refine ct h221 ?_
    refine sn (qs ?_)
    refine qb ?_
    refine sr (am ?_)
    obtain ⟨h222,hF⟩:=gd hF
    obtain ⟨zs226,hz227,hr228,hn229⟩:=id hk149
    obtain ⟨b224,o225,hp223⟩:=row_ptr hr228 (zidx hz227 h222)
    obtain ⟨g230,hg231⟩:=zget hz227 i207
    refine aw (r_idx underlying25 sizeOf60 rfl rfl h222 hp223) ?_
    refine aw (r_load_aggc (c:=c_api_Peer) (z:=(g230,lget q139.f_c.f_Peers i207)) isAgg60 sizeOf60 rfl (ncell (fun _ h=>h.below) hr228 (zidx hz227 h222) hp223 hg231)) ?_
    refine al (cs:=Cd.cs c_api_Peer zv13) zeroValue60 ?_
    intro b232
    refine aa ?_
    refine at_store (c:=c_api_Peer) (z:=(g230,lget q139.f_c.f_Peers i207)) .z lw sizeOf60 rfl rfl rfl ?_
    refine ns (fa 85 underlying60 rfl sizeOf58 ?_)
    refine aw (r_load_cell isAgg58 rfl (lens_cell0 (c:=cHd) (y:=⟨g230.1,List.length ((lget q139.f_c.f_Peers i207).f_Allowed),g230.2⟩) .z (c_api_Peer_f_Allowed g230 (lget q139.f_c.f_Peers i207)) rfl)) ?_
    refine aw (r_len_sl underlying58 rfl) ?_
    refine am (qn (dz (wq [24,23,22,16,15,14,6,2,1,0] ?_)))
    refine tn ?_
    refine qb ?_
    obtain ⟨q239,hq239,hF⟩:=bM hF
    refine wq [24,23,22,16,15,14,6,2,1,0] ?_
    refine at_loop_n (B:=2) (A:=fun Y=>∀ (gq248:G_api_Conf) (hk249:N_api_Conf w (gq248,q239.f_c)) (p250:Option Addr) (c251:Nat) (p252:Option Addr) (c253:Nat),At 46 [(0,.pointer (some ⟨(g8 1).1,0,none⟩)),(1,.int .i64 6),(2,.func (.func 27) #[.pointer (some ⟨(g8 1).1,0,none⟩)] #[]),(14,.slice gq148.1 q139.f_c.f_Peers.length gq148.2),(15,.int .i64 (q139.f_c.f_Peers.length:Int)),(16,.int .i64 i207)] (Wd w [cellsE (g8 1).1 (Cd.cs c_lint_finder ((gq248,(p250,c251),(p252,c253)),q239)) 63,rowE c_api_Entry 49 p250 c251 q239.f_own,rowE c_lint_Odd 40 p252 c253 q239.f_out]) Y) ?_ ?_
    ·intro K
     refine lint_All.l7.partial_correctness q139 i207 (motive:=fun i240 i241 x=>KN (fun Y=>∀ (gq248:G_api_Conf) (hk249:N_api_Conf w (gq248,x.f_c)) (p250:Option Addr) (c251:Nat) (p252:Option Addr) (c253:Nat),At 46 [(0,.pointer (some ⟨(g8 1).1,0,none⟩)),(1,.int .i64 6),(2,.func (.func 27) #[.pointer (some ⟨(g8 1).1,0,none⟩)] #[]),(14,.slice gq148.1 q139.f_c.f_Peers.length gq148.2),(15,.int .i64 (q139.f_c.f_Peers.length:Int)),(16,.int .i64 i207)] (Wd w [cellsE (g8 1).1 (Cd.cs c_lint_finder ((gq248,(p250,c251),(p252,c253)),x)) 63,rowE c_api_Entry 49 p250 c251 x.f_own,rowE c_lint_Odd 40 p252 c253 x.f_out]) Y) _ 2→Round (fun Y=>∀ (gq242:G_api_Conf) (hk243:N_api_Conf w (gq242,i241.f_c)) (p244:Option Addr) (c245:Nat) (p246:Option Addr) (c247:Nat),At 46 [(0,.pointer (some ⟨(g8 1).1,0,none⟩)),(1,.int .i64 6),(2,.func (.func 27) #[.pointer (some ⟨(g8 1).1,0,none⟩)] #[]),(6,.int .i64 i207),(14,.slice gq148.1 q139.f_c.f_Peers.length gq148.2),(15,.int .i64 (q139.f_c.f_Peers.length:Int)),(16,.int .i64 i207),(22,.slice g230.1 ((lget q139.f_c.f_Peers i207).f_Allowed).length g230.2),(23,.int .i64 (((lget q139.f_c.f_Peers i207).f_Allowed).length:Int)),(24,.int .i64 i240)] (Wd w [cellsE (g8 1).1 (Cd.cs c_lint_finder ((gq242,(p244,c245),(p246,c247)),i241)) 63,rowE c_api_Entry 49 p244 c245 i241.f_own,rowE c_lint_Odd 40 p246 c247 i241.f_out]) Y) _ _ _) ?_ _ _ _ hq239 K gq209 hk210 p211 c212 p213 c214
     ·clear K hF
      intro g ih i240 i241 x hF K gq242 hk243 p244 c245 p246 c247
      refine at_round ?_
      refine sr (aw xl (nwq [25,24,23,22,16,15,14,6,2,1,0] ?_))
      refine qs ?_
      obtain ⟨h254,hF⟩|⟨h254,hF⟩:=oi hF
      ·refine ct h254 ?_
       refine sn (qs ?_)
       refine qb ?_
       refine sr ?_
       obtain ⟨h255,hF⟩:=gd hF
       obtain ⟨b257,o258,hp256⟩:=row_ptr (nz hg231 hn229 (zidx hz227 h222)) h255
       refine aw (r_idx underlying58 sizeOf38 rfl rfl h255 hp256) ?_
       refine aw (r_load_aggc (c:=c_api_Prefix) (z:=lget ((lget q139.f_c.f_Peers i207).f_Allowed) i240) isAgg38 sizeOf38 rfl (row_cell (fun _ h=>h.below) (nz hg231 hn229 (zidx hz227 h222)) h255 hp256)) ?_
       refine al (cs:=Cd.cs c_api_Prefix zv8) zeroValue38 ?_
       intro b259
       refine at_store (c:=c_api_Prefix) (z:=lget ((lget q139.f_c.f_Peers i207).f_Allowed) i240) .z lw sizeOf38 rfl rfl rfl ?_
       refine nwx [24,23,22,16,15,14,9,6,2,1,0] ?_
       refine am ?_
       refine aw (r_load_aggc (c:=c_api_Prefix) (z:=lget ((lget q139.f_c.f_Peers i207).f_Allowed) i240) isAgg38 sizeOf38 rfl (lens_cell .z lw)) ?_
       refine at_calleeB (bnds:=[.pointer (some ⟨(g8 1).1,0,none⟩)]) rfl ?_
       refine at_callI func27 rfl (by kernel_rfl) rfl rfl rfl rfl ?_
       refine sr ?_
       refine at_box (cs:=Cd.cs c_api_Prefix (lget ((lget q139.f_c.f_Peers i207).f_Allowed) i240)) rfl rfl rfl ?_
       intro b260
       refine aa (ns (aa (nt (qs (sr (am ?_))))))
       refine aw (r_nilCheck rfl) ?_
       refine fa 35 underlying63 rfl sizeOf46 ?_
       refine aw (r_load_cell isAgg46 rfl (lens_cell0 (c:=cHd) (y:=⟨((gq242,(p244,c245),(p246,c247)).2.1).1,List.length i241.f_own,((gq242,(p244,c245),(p246,c247)).2.1).2⟩) (.s (.s .z)) (c_lint_finder_f_own (gq242,(p244,c245),(p246,c247)) i241) rfl)) ?_
       refine aw (r_len_sl underlying46 rfl) ?_
       refine am (nwq [14,13,12,5,3] ?_)
       refine qb ?_
       refine at_own_nil c_api_Prefix 38 ?_
       obtain ⟨q263,hq263,hF⟩:=bM hF
       refine wq [14,13,12,5,3] ?_
       refine at_loop_n (B:=0) (A:=fun Y=>∀ (p268:Option Addr) (c269:Nat),At 48 [(3,.pointer (some ⟨b260,0,none⟩)),(5,.slice p268 q263.length c269)] (Wd w [rowE c_api_Prefix 38 p268 c269 q263,cellsE b260 (Cd.cs c_api_Prefix (lget ((lget q139.f_c.f_Peers i207).f_Allowed) i240)) 38,cellsE b259 (Cd.cs c_api_Prefix (lget ((lget q139.f_c.f_Peers i207).f_Allowed) i240)) 38,cellsE (g8 1).1 (Cd.cs c_lint_finder ((gq242,(p244,c245),(p246,c247)),i241)) 63,rowE c_api_Entry 49 p244 c245 i241.f_own,rowE c_lint_Odd 40 p246 c247 i241.f_out]) Y) ?_ ?_
       ·intro K
        refine lint_All.l8.partial_correctness q139 i207 i240 i241 (motive:=fun i264 i265 x=>KN (fun Y=>∀ (p268:Option Addr) (c269:Nat),At 48 [(3,.pointer (some ⟨b260,0,none⟩)),(5,.slice p268 x.length c269)] (Wd w [rowE c_api_Prefix 38 p268 c269 x,cellsE b260 (Cd.cs c_api_Prefix (lget ((lget q139.f_c.f_Peers i207).f_Allowed) i240)) 38,cellsE b259 (Cd.cs c_api_Prefix (lget ((lget q139.f_c.f_Peers i207).f_Allowed) i240)) 38,cellsE (g8 1).1 (Cd.cs c_lint_finder ((gq242,(p244,c245),(p246,c247)),i241)) 63,rowE c_api_Entry 49 p244 c245 i241.f_own,rowE c_lint_Odd 40 p246 c247 i241.f_out]) Y) _ 0→Round (fun Y=>∀ (p266:Option Addr) (c267:Nat),At 48 [(3,.pointer (some ⟨b260,0,none⟩)),(5,.slice p266 i264.length c267),(12,.slice p244 i241.f_own.length c245),(13,.int .i64 (i241.f_own.length:Int)),(14,.int .i64 i265)] (Wd w [rowE c_api_Prefix 38 p266 c267 i264,cellsE b260 (Cd.cs c_api_Prefix (lget ((lget q139.f_c.f_Peers i207).f_Allowed) i240)) 38,cellsE b259 (Cd.cs c_api_Prefix (lget ((lget q139.f_c.f_Peers i207).f_Allowed) i240)) 38,cellsE (g8 1).1 (Cd.cs c_lint_finder ((gq242,(p244,c245),(p246,c247)),i241)) 63,rowE c_api_Entry 49 p244 c245 i241.f_own,rowE c_lint_Odd 40 p246 c247 i241.f_out]) Y) _ _ _) ?_ _ _ _ hq263 K none 0
        ·clear K hF
         intro g ih i264 i265 x hF K p266 c267
         refine at_round ?_
         refine sr (aw xl (nwq [15,14,13,12,5,3] ?_))
         refine qs ?_
         obtain ⟨h270,hF⟩|⟨h270,hF⟩:=oi hF
         ·refine ct h270 ?_
          refine sn (qs ?_)
          refine qb ?_
          refine sr ?_
          obtain ⟨h271,hF⟩:=gd hF
          refine at_pure (φ:=∃ b o,p244=some ⟨b,o,none⟩) (fun _ hw=>row_ptr (hw.own (.s (.s (.s (.s .z))))).row h271) ?_
          rintro ⟨b273,o274,hp272⟩
          refine aw (r_idx underlying46 sizeOf49 rfl rfl h271 hp272) ?_
          refine aw (r_load_aggc (c:=c_api_Entry) (z:=lget i241.f_own i265) isAgg49 sizeOf49 rfl (fun w1 hw=>row_cell (W:=fun w1=>w1=_) (fun w1 h=>by subst h;exact Below.refl _ _) (hw.own (.s (.s (.s (.s .z))))).row h271 hp272 _ rfl)) ?_
          refine al (cs:=Cd.cs c_api_Entry zv12) zeroValue49 ?_
          intro b275
          refine at_store (c:=c_api_Entry) (z:=lget i241.f_own i265) .z lw sizeOf49 rfl rfl rfl ?_
          refine nwx [14,13,12,7,5,3] ?_
          refine fa 0 underlying49 rfl sizeOf38 (fa 17 underlying38 rfl sizeOf3 ?_)
          refine aw (r_load_cell isAgg3 rfl (lens_cell0 (c:=(cInt .i64)) (y:=((lget i241.f_own i265).f_P).f_Bits) .z (Lens.comp (Lens.comp lw (fun z=>{ lget i241.f_own i265 with f_P:=z }) (c_api_Entry_f_P (lget i241.f_own i265))) (fun z=>{ (lget i241.f_own i265).f_P with f_Bits:=z }) (c_api_Prefix_f_Bits ((lget i241.f_own i265).f_P))) rfl)) ?_
          refine fa 17 underlying38 rfl sizeOf3 ?_
          refine aw (r_load_cell isAgg3 rfl (lens_cell0 (c:=(cInt .i64)) (y:=(lget ((lget q139.f_c.f_Peers i207).f_Allowed) i240).f_Bits) (.s (.s .z)) (Lens.comp lw (fun z=>{ lget ((lget q139.f_c.f_Peers i207).f_Allowed) i240 with f_Bits:=z }) (c_api_Prefix_f_Bits (lget ((lget q139.f_c.f_Peers i207).f_Allowed) i240))) rfl)) ?_
          refine aw (r_igtr rfl rfl) ?_
          refine am ?_
          obtain ⟨h276,hF⟩|⟨h276,hF⟩:=oi hF
          ·refine fx 24 h276 ?_
           refine gy ?_
           refine aw (r_load_aggc (c:=c_api_Prefix) (z:=lget ((lget q139.f_c.f_Peers i207).f_Allowed) i240) isAgg38 sizeOf38 rfl (lens_cell (.s (.s .z)) lw)) ?_
           refine gy ?_
           refine fa 0 underlying49 rfl sizeOf38 ?_
           refine gy ?_
           refine aw (r_load_aggc (c:=c_api_Prefix) (z:=(lget i241.f_own i265).f_P) isAgg38 sizeOf38 rfl (lens_cell .z (Lens.comp lw (fun z=>{ lget i241.f_own i265 with f_P:=z }) (c_api_Entry_f_P (lget i241.f_own i265))))) ?_
           refine gy ?_
           obtain ⟨t277,ht277,hF⟩:=bM hF
           refine cB func49 rfl (fun w hw=>cidr_Covers_ok _ _ _ ht277 w) ?_
           refine aw xp (nwq [29,14,13,12,7,5,3] ?_)
           obtain ⟨h278,hF⟩|⟨h278,hF⟩:=oi hF
           ·refine ct h278 ?_
            refine qr (am (fa 0 underlying49 rfl sizeOf38 ?_))
            refine aw (r_load_aggc (c:=c_api_Prefix) (z:=(lget i241.f_own i265).f_P) isAgg38 sizeOf38 rfl (lens_cell .z (Lens.comp lw (fun z=>{ lget i241.f_own i265 with f_P:=z }) (c_api_Entry_f_P (lget i241.f_own i265))))) ?_
            refine at_litL (c:=c_api_Prefix) ([zv8]:List S_api_Prefix) ([(lget i241.f_own i265).f_P]:List S_api_Prefix) underlying58 sizeOf38 zeroValue38 rfl rfl rfl (by kernel_rfl) (fill_step (c:=c_api_Prefix) (z:=(lget i241.f_own i265).f_P) rfl (Lens.all c_api_Prefix ([zv8]:List S_api_Prefix) 0 (by first | decide | exact Nat.le_of_ble_eq_true rfl)) rfl rfl) rfl ?_
            intro b279
            obtain ⟨h280,hF⟩:=gd hF
            refine at_append (z:=.agg (Cd.cs c_api_Prefix zv8).toArray) (c:=c_api_Prefix) (ys:=([(lget i241.f_own i265).f_P]:List S_api_Prefix)) (.s (.s .z)) underlying58 infoV538 (by kernel_rfl) (by kernel_rfl) rfl rfl rfl rfl (fun _ hw=>cells_src (hw.ok (Upd.mem .z))) (by kernel_rfl) h280 (app_small h280) rfl ?_
            intro p281 c282
            refine aa (qn (dz (dz (wq [14,13,12,5,3] ?_))))
            refine bm ?_
            refine qr (aw xa (am (nwq [14,13,12,5,3] ?_)))
            exact at_weak_k (ih _ _ _ hF K p281 c282) ⟨rfl,rfl,rfl,rfl,rfl,trivial⟩
           refine cf h278 ?_
           refine at_skip ?_
           refine bm ?_
           refine qr (aw xa (am (qn (dz (wq [14,13,12,5,3] ?_)))))
           refine tn ?_
           exact at_weak_k (ih _ _ _ hF K p266 c267) ⟨rfl,rfl,rfl,rfl,rfl,trivial⟩
          refine fx 24 h276 ?_
          refine gn ?_
          refine gn ?_
          refine gn ?_
          refine gn ?_
          refine aw xp (nwq [29,14,13,12,7,5,3] ?_)
          refine cf rfl ?_
          refine at_skip ?_
          refine bm ?_
          refine qr (aw xa (am (qn (dz (wq [14,13,12,5,3] ?_)))))
          refine tn ?_
          exact at_weak_k (ih _ _ _ hF K p266 c267) ⟨rfl,rfl,rfl,rfl,rfl,trivial⟩
         refine cf h270 ?_
         refine at_exit ?_
         refine te (te ?_)
         obtain rfl:=os hF
         exact at_weak_k (K p266 c267) ⟨rfl,rfl,trivial⟩
       skip
       intro p268 c269
       refine at_blk_same ?_
       refine tn (sr (am ?_))
       obtain ⟨t283,ht283,hF⟩:=bM hF
       refine at_callO (c:=c_api_Prefix) (e:=38) (ys:=t283) (V:=fun p cap=>.slice p t283.length cap) func50 rfl (by kernel_rfl) rfl rfl (fun w hw=>aggregate_Cover_ok _ _ _ _ ht283 w (hw.own .z).row) ?_
       intro p284 c285
       refine aa (qn ?_)
       refine at_drop (H:=_) (.s .z) ?_
       refine tn (qs (wq [8,3] ?_))
       obtain ⟨h286,hF⟩|⟨h286,hF⟩:=oi hF
       ·skip
        obtain ⟨h287,hF⟩:=gd hF
        refine at_pure (φ:=∃ b o,p284=some ⟨b,o,none⟩) (fun _ hw=>row_ptr (hw.own .z).row h287) ?_
        rintro ⟨b289,o290,hp288⟩
        refine at_inv [.q 38 (fun g291=>.slice p284 t283.length c285) [] 0 0,.q 39 (fun g291=>.int .i64 (t283.length:Int)) [0] 0 0,.q 40 (fun g291=>.bool ((t283.length:Int)==1)) [1] 0 0,.q 41 (fun g291=>.bool true) [2] 0 0,.q 42 (fun g291=>.slice p284 t283.length c285) [3] 0 0,.q 43 (fun g291=>.pointer (some ⟨b289,o290+Int.toNat 0*18,none⟩)) [3,4] 0 0,.q 44 (fun g291=>.agg (Cd.cs c_api_Prefix (lget t283 0)).toArray) [3,5] 0 0,.q 45 (fun g291=>.agg (Cd.cs c_api_Prefix (lget ((lget q139.f_c.f_Peers i207).f_Allowed) i240)).toArray) [3] 0 0,.q 46 (fun g291=>.bool (decide (lget t283 0=lget ((lget q139.f_c.f_Peers i207).f_Allowed) i240))) [3,6,7] 0 0,.q 47 (fun g291=>.bool (decide (lget t283 0=lget ((lget q139.f_c.f_Peers i207).f_Allowed) i240))) [3,8] 0 0,.q 4 (fun g291=>.bool (decide (lget t283 0=lget ((lget q139.f_c.f_Peers i207).f_Allowed) i240))) [9] 0 0] (fun g291 s=>match s with | _=>(Wd w [rowE c_api_Prefix 38 p284 c285 t283,cellsE b260 (Cd.cs c_api_Prefix (lget ((lget q139.f_c.f_Peers i207).f_Allowed) i240)) 38,cellsE b259 (Cd.cs c_api_Prefix (lget ((lget q139.f_c.f_Peers i207).f_Allowed) i240)) 38,cellsE (g8 1).1 (Cd.cs c_lint_finder ((gq242,(p244,c245),(p246,c247)),i241)) 63,rowE c_api_Entry 49 p244 c245 i241.f_own,rowE c_lint_Odd 40 p246 c247 i241.f_out])) 0 (by kernel_rfl) (by kernel_rfl) (by kernel_rfl) (by kernel_rfl) (by kernel_rfl) ⟨fun _ _ _=>rfl,fun _ _ _=>rfl,fun _ _ _=>rfl,fun _ _ _=>rfl,fun _ _ _=>rfl,fun _ _ _=>rfl,fun _ _ _=>rfl,fun _ _ _=>rfl,fun _ _ _=>rfl,fun _ _ _=>rfl,fun _ _ _=>rfl,trivial⟩ (by kernel_rfl) (fun w_ h=>⟨fun _=>g3 0 none 0 none w_,h.drew⟩) ⟨?_,?_,?_,?_,?_,?_,?_,?_,?_,?_,?_,trivial⟩ ?_
        ·intro Lx g291 s K hl hh k
         show At 48 ((3,_)::(8,_)::Lx) _ _
         refine am ?_
         exact at_nil k
        ·intro Lx g291 s K hl hh k
         show At 48 ((38,_)::(3,_)::(8,_)::Lx) _ _
         obtain rfl:s=0:=by omega
         refine aw (r_len_sl underlying58 rfl) ?_
         exact at_nil k
        ·intro Lx g291 s K hl hh k
         show At 48 ((39,_)::(3,_)::(8,_)::Lx) _ _
         refine aw xq ?_
         exact at_nil k
        ·intro Lx g291 s K hl hh k
         show At 48 ((40,_)::(3,_)::(8,_)::Lx) _ _
         refine am ?_
         exact at_nil (at_cast h286 k)
        ·intro Lx g291 s K hl hh k
         show At 48 ((41,_)::(3,_)::(8,_)::Lx) _ _
         refine gy ?_
         refine am ?_
         exact at_nil k
        ·intro Lx g291 s K hl hh k
         show At 48 ((41,_)::(42,_)::(3,_)::(8,_)::Lx) _ _
         refine gy ?_
         refine aw (r_idx underlying58 sizeOf38 rfl rfl h287 hp288) ?_
         exact at_nil k
        ·intro Lx g291 s K hl hh k
         show At 48 ((41,_)::(43,_)::(3,_)::(8,_)::Lx) _ _
         refine gy ?_
         obtain rfl:s=0:=by omega
         refine aw (r_load_aggc (c:=c_api_Prefix) (z:=lget t283 0) isAgg38 sizeOf38 rfl (fun w1 hw=>row_cell (W:=fun w1=>w1=_) (fun w1 h=>by subst h;exact Below.refl _ _) (hw.own .z).row h287 hp288 _ rfl)) ?_
         exact at_nil k
        ·intro Lx g291 s K hl hh k
         show At 48 ((41,_)::(3,_)::(8,_)::Lx) _ _
         refine gy ?_
         obtain rfl:s=0:=by omega
         refine aw (r_load_aggc (c:=c_api_Prefix) (z:=lget ((lget q139.f_c.f_Peers i207).f_Allowed) i240) isAgg38 sizeOf38 rfl (lens_cell (.s .z) lw)) ?_
         exact at_nil k
        ·intro Lx g291 s K hl hh k
         show At 48 ((41,_)::(44,_)::(45,_)::(3,_)::(8,_)::Lx) _ _
         refine gy ?_
         refine aw (r_eqagg (c:=c_api_Prefix) (a:=lget t283 0) (b:=lget ((lget q139.f_c.f_Peers i207).f_Allowed) i240) (eq_api_Prefix_38) rfl Tryz.eqGuardType38 rfl rfl (.inl rfl) rfl) ?_
         exact at_nil k
        ·intro Lx g291 s K hl hh k
         show At 48 ((41,_)::(46,_)::(3,_)::(8,_)::Lx) _ _
         refine aw xp ?_
         exact at_nil k
        ·intro Lx g291 s K hl hh k
         show At 48 ((47,_)::(3,_)::(8,_)::Lx) _ _
         refine aa ?_
         exact at_nil k
        intro g291
        show At 48 [(38,_),(39,_),(40,_),(41,_),(42,_),(43,_),(44,_),(45,_),(46,_),(47,_),(4,_),(3,_),(8,_)] _ _
        refine dz (dz (wq [4] ?_))
        refine tn (qt ?_)
        refine at_retI1 rfl rfl ?_
        refine nwq [30,24,23,22,16,15,14,9,6,2,1,0] ?_
        obtain ⟨h292,hF⟩|⟨h292,hF⟩:=oi hF
        ·refine ct h292 ?_
         refine wq [24,23,22,16,15,14,9,6,2,1,0] ?_
         obtain ⟨h294,hF⟩:=gd hF
         refine at_inv [.q 31 (fun g297=>.pointer (some ⟨(g8 1).1,0,none⟩)) [] 0 2,.q 32 (fun g297=>.pointer (some ⟨(g8 1).1,0,none⟩)) [] 0 1,.q 33 (fun g297=>.pointer (some ⟨(g8 1).1,0,none⟩)) [1] 0 1,.q 34 (fun g297=>.pointer (some ⟨(g8 1).1,0+36,none⟩)) [2] 0 1,.q 35 (fun g297=>.slice p246 i241.f_out.length c247) [3] 0 1,.q 36 (fun g297=>.int .i64 6) [] 0 0,.q 37 (fun g297=>.int .i64 i207) [] 0 0,.q 38 (fun g297=>.agg (Cd.cs c_api_Prefix (lget ((lget q139.f_c.f_Peers i207).f_Allowed) i240)).toArray) [] 0 0,.q 39 (fun g297=>.agg (Cd.cs c_lint_Odd ({ { { zv11 with f_Kind:=6 } with f_Peer:=i207 } with f_P:=lget ((lget q139.f_c.f_Peers i207).f_Allowed) i240 })).toArray) [5,6,7] 0 0,.al 0 40 (fun g297=>.slice (some ⟨((g297 0).1),0,none⟩) ([{ { { zv11 with f_Kind:=6 } with f_Peer:=i207 } with f_P:=lget ((lget q139.f_c.f_Peers i207).f_Allowed) i240 }]:List S_lint_Odd).length 1) [8],.al 1 41 (fun g297=>.slice ((g297 1).2.1) (i241.f_out++[{ { { zv11 with f_Kind:=6 } with f_Peer:=i207 } with f_P:=lget ((lget q139.f_c.f_Peers i207).f_Allowed) i240 }]).length ((g297 1).2.2.1)) [4,9],.q 42 (fun g297=>.pointer (some ⟨(g8 1).1,0,none⟩)) [0] 2 2,.q 43 (fun g297=>.pointer (some ⟨(g8 1).1,0+36,none⟩)) [11] 2 2,.st 2 none [10,12]] (fun g297 s=>match s with | 0=>(Wd w [cellsE b259 (Cd.cs c_api_Prefix (lget ((lget q139.f_c.f_Peers i207).f_Allowed) i240)) 38,cellsE (g8 1).1 (Cd.cs c_lint_finder ((gq242,(p244,c245),(p246,c247)),i241)) 63,rowE c_api_Entry 49 p244 c245 i241.f_own,rowE c_lint_Odd 40 p246 c247 i241.f_out]) | 1=>(Wd w [cellsE ((g297 0).1) (c_lint_Odd.all ([{ { { zv11 with f_Kind:=6 } with f_Peer:=i207 } with f_P:=lget ((lget q139.f_c.f_Peers i207).f_Allowed) i240 }]:List S_lint_Odd)) 40,cellsE b259 (Cd.cs c_api_Prefix (lget ((lget q139.f_c.f_Peers i207).f_Allowed) i240)) 38,cellsE (g8 1).1 (Cd.cs c_lint_finder ((gq242,(p244,c245),(p246,c247)),i241)) 63,rowE c_api_Entry 49 p244 c245 i241.f_own,rowE c_lint_Odd 40 p246 c247 i241.f_out]) | 2=>(Wd w [cellsE ((g297 0).1) (c_lint_Odd.all ([{ { { zv11 with f_Kind:=6 } with f_Peer:=i207 } with f_P:=lget ((lget q139.f_c.f_Peers i207).f_Allowed) i240 }]:List S_lint_Odd)) 40,cellsE b259 (Cd.cs c_api_Prefix (lget ((lget q139.f_c.f_Peers i207).f_Allowed) i240)) 38,cellsE (g8 1).1 (Cd.cs c_lint_finder ((gq242,(p244,c245),(p246,c247)),i241)) 63,rowE c_api_Entry 49 p244 c245 i241.f_own,rowE c_lint_Odd 40 ((g297 1).2.1) ((g297 1).2.2.1) (i241.f_out++[{ { { zv11 with f_Kind:=6 } with f_Peer:=i207 } with f_P:=lget ((lget q139.f_c.f_Peers i207).f_Allowed) i240 }])]) | _=>(Wd w [cellsE ((g297 0).1) (c_lint_Odd.all ([{ { { zv11 with f_Kind:=6 } with f_Peer:=i207 } with f_P:=lget ((lget q139.f_c.f_Peers i207).f_Allowed) i240 }]:List S_lint_Odd)) 40,cellsE b259 (Cd.cs c_api_Prefix (lget ((lget q139.f_c.f_Peers i207).f_Allowed) i240)) 38,cellsE (g8 1).1 (Cd.cs c_lint_finder ((gq242,(p244,c245),(((g297 1).2.1),((g297 1).2.2.1))),{ i241 with f_out:=i241.f_out++[{ { { zv11 with f_Kind:=6 } with f_Peer:=i207 } with f_P:=lget ((lget q139.f_c.f_Peers i207).f_Allowed) i240 }] })) 63,rowE c_api_Entry 49 p244 c245 i241.f_own,rowE c_lint_Odd 40 ((g297 1).2.1) ((g297 1).2.2.1) (i241.f_out++[{ { { zv11 with f_Kind:=6 } with f_Peer:=i207 } with f_P:=lget ((lget q139.f_c.f_Peers i207).f_Allowed) i240 }])])) 3 (by kernel_rfl) (by kernel_rfl) (by kernel_rfl) (by kernel_rfl) (by kernel_rfl) ⟨fun _ _ _=>rfl,fun _ _ _=>rfl,fun _ _ _=>rfl,fun _ _ _=>rfl,fun _ _ _=>rfl,fun _ _ _=>rfl,fun _ _ _=>rfl,fun _ _ _=>rfl,fun _ _ _=>rfl,fun g297 g2 h=>by show (.slice (some ⟨((g297 0).1),0,none⟩) ([{ { { zv11 with f_Kind:=6 } with f_Peer:=i207 } with f_P:=lget ((lget q139.f_c.f_Peers i207).f_Allowed) i240 }]:List S_lint_Odd).length 1:Value)=.slice (some ⟨((g2 0).1),0,none⟩) ([{ { { zv11 with f_Kind:=6 } with f_Peer:=i207 } with f_P:=lget ((lget q139.f_c.f_Peers i207).f_Allowed) i240 }]:List S_lint_Odd).length 1;rw [h 0 (show 0<1 by decide)],fun g297 g2 h=>by show (.slice ((g297 1).2.1) (i241.f_out++[{ { { zv11 with f_Kind:=6 } with f_Peer:=i207 } with f_P:=lget ((lget q139.f_c.f_Peers i207).f_Allowed) i240 }]).length ((g297 1).2.2.1):Value)=.slice ((g2 1).2.1) (i241.f_out++[{ { { zv11 with f_Kind:=6 } with f_Peer:=i207 } with f_P:=lget ((lget q139.f_c.f_Peers i207).f_Allowed) i240 }]).length ((g2 1).2.2.1);rw [h 1 (show 1<2 by decide)],fun _ _ _=>rfl,fun _ _ _=>rfl,fun _ _ _=>rfl,trivial⟩ (by kernel_rfl) (fun w_ h=>⟨fun _=>g3 0 none 0 none w_,h.drew⟩) ⟨?_,?_,?_,?_,?_,?_,?_,?_,?_,?_,?_,?_,?_,?_,trivial⟩ ?_
         ·intro Lx g297 s K hl hh k
          show At 46 ((0,_)::(1,_)::(2,_)::(6,_)::(9,_)::(14,_)::(15,_)::(16,_)::(22,_)::(23,_)::(24,_)::Lx) _ _
          refine am ?_
          exact at_nil k
         ·intro Lx g297 s K hl hh k
          show At 46 ((0,_)::(1,_)::(2,_)::(6,_)::(9,_)::(14,_)::(15,_)::(16,_)::(22,_)::(23,_)::(24,_)::Lx) _ _
          refine am ?_
          exact at_nil k
         ·intro Lx g297 s K hl hh k
          show At 46 ((32,_)::(0,_)::(1,_)::(2,_)::(6,_)::(9,_)::(14,_)::(15,_)::(16,_)::(22,_)::(23,_)::(24,_)::Lx) _ _
          refine aw (r_nilCheck rfl) ?_
          exact at_nil k
         ·intro Lx g297 s K hl hh k
          show At 46 ((33,_)::(0,_)::(1,_)::(2,_)::(6,_)::(9,_)::(14,_)::(15,_)::(16,_)::(22,_)::(23,_)::(24,_)::Lx) _ _
          refine fa 36 underlying63 rfl sizeOf30 ?_
          exact at_nil k
         ·intro Lx g297 s K hl hh k
          show At 46 ((34,_)::(0,_)::(1,_)::(2,_)::(6,_)::(9,_)::(14,_)::(15,_)::(16,_)::(22,_)::(23,_)::(24,_)::Lx) _ _
          rcases (by omega:s=0∨s=1) with rfl | rfl
          ·skip
           refine aw (r_load_cell isAgg30 rfl (lens_cell0 (c:=cHd) (y:=⟨((gq242,(p244,c245),(p246,c247)).2.2).1,List.length i241.f_out,((gq242,(p244,c245),(p246,c247)).2.2).2⟩) (.s .z) (c_lint_finder_f_out (gq242,(p244,c245),(p246,c247)) i241) rfl)) ?_
           exact at_nil k
          skip
          refine aw (r_load_cell isAgg30 rfl (lens_cell0 (c:=cHd) (y:=⟨((gq242,(p244,c245),(p246,c247)).2.2).1,List.length i241.f_out,((gq242,(p244,c245),(p246,c247)).2.2).2⟩) (.s (.s .z)) (c_lint_finder_f_out (gq242,(p244,c245),(p246,c247)) i241) rfl)) ?_
          exact at_nil k
         ·intro Lx g297 s K hl hh k
          show At 46 ((0,_)::(1,_)::(2,_)::(6,_)::(9,_)::(14,_)::(15,_)::(16,_)::(22,_)::(23,_)::(24,_)::Lx) _ _
          refine am ?_
          exact at_nil k
         ·intro Lx g297 s K hl hh k
          show At 46 ((0,_)::(1,_)::(2,_)::(6,_)::(9,_)::(14,_)::(15,_)::(16,_)::(22,_)::(23,_)::(24,_)::Lx) _ _
          refine am ?_
          exact at_nil k
         ·intro Lx g297 s K hl hh k
          show At 46 ((0,_)::(1,_)::(2,_)::(6,_)::(9,_)::(14,_)::(15,_)::(16,_)::(22,_)::(23,_)::(24,_)::Lx) _ _
          obtain rfl:s=0:=by omega
          refine aw (r_load_aggc (c:=c_api_Prefix) (z:=lget ((lget q139.f_c.f_Peers i207).f_Allowed) i240) isAgg38 sizeOf38 rfl (lens_cell .z lw)) ?_
          exact at_nil k
         ·intro Lx g297 s K hl hh k
          show At 46 ((36,_)::(37,_)::(38,_)::(0,_)::(1,_)::(2,_)::(6,_)::(9,_)::(14,_)::(15,_)::(16,_)::(22,_)::(23,_)::(24,_)::Lx) _ _
          obtain rfl:s=0:=by omega
          refine aw (r_build_struct (zs:=Cd.cs c_lint_Odd zv11) (cs:=Cd.cs c_lint_Odd ({ { { zv11 with f_Kind:=6 } with f_Peer:=i207 } with f_P:=lget ((lget q139.f_c.f_Peers i207).f_Allowed) i240 })) underlying40 zeroValue40 rfl (places_lint_Odd_40) rfl (fill_step (c:=(cInt .i64)) (z:=6) rfl (c_lint_Odd_f_Kind zv11) rfl (fill_step (c:=(cInt .i64)) (z:=i207) rfl (c_lint_Odd_f_Peer ({ zv11 with f_Kind:=6 })) rfl (fill_step (c:=c_api_Prefix) (z:=lget ((lget q139.f_c.f_Peers i207).f_Allowed) i240) rfl (c_lint_Odd_f_P ({ { zv11 with f_Kind:=6 } with f_Peer:=i207 })) rfl rfl)))) ?_
          exact at_nil k
         ·intro Lx g297 K k
          show At 46 ((39,_)::(0,_)::(1,_)::(2,_)::(6,_)::(9,_)::(14,_)::(15,_)::(16,_)::(22,_)::(23,_)::(24,_)::Lx) _ _
          refine at_litL (c:=c_lint_Odd) ([zv11]:List S_lint_Odd) ([{ { { zv11 with f_Kind:=6 } with f_Peer:=i207 } with f_P:=lget ((lget q139.f_c.f_Peers i207).f_Allowed) i240 }]:List S_lint_Odd) underlying30 sizeOf40 zeroValue40 rfl rfl rfl (by kernel_rfl) (fill_step (c:=c_lint_Odd) (z:={ { { zv11 with f_Kind:=6 } with f_Peer:=i207 } with f_P:=lget ((lget q139.f_c.f_Peers i207).f_Allowed) i240 }) rfl (Lens.all c_lint_Odd ([zv11]:List S_lint_Odd) 0 (by first | decide | exact Nat.le_of_ble_eq_true rfl)) rfl rfl) rfl ?_
          intro b293
          exact at_nil (k (g3 b293 none 0 none w))
         ·intro Lx g297 K k
          show At 46 ((35,_)::(40,_)::(0,_)::(1,_)::(2,_)::(6,_)::(9,_)::(14,_)::(15,_)::(16,_)::(22,_)::(23,_)::(24,_)::Lx) _ _
          refine at_append (z:=.agg (Cd.cs c_lint_Odd zv11).toArray) (c:=c_lint_Odd) (ys:=([{ { { zv11 with f_Kind:=6 } with f_Peer:=i207 } with f_P:=lget ((lget q139.f_c.f_Peers i207).f_Allowed) i240 }]:List S_lint_Odd)) (.s (.s (.s (.s .z)))) underlying30 infoV540 (by kernel_rfl) (by kernel_rfl) rfl rfl rfl rfl (fun _ hw=>cells_src (hw.ok (Upd.mem .z))) (by kernel_rfl) h294 (app_small h294) rfl ?_
          intro p295 c296
          exact at_nil (k (g3 0 p295 c296 none w))
         ·intro Lx g297 s K hl hh k
          show At 46 ((31,_)::(0,_)::(1,_)::(2,_)::(6,_)::(9,_)::(14,_)::(15,_)::(16,_)::(22,_)::(23,_)::(24,_)::Lx) _ _
          refine aw (r_nilCheck rfl) ?_
          exact at_nil k
         ·intro Lx g297 s K hl hh k
          show At 46 ((42,_)::(0,_)::(1,_)::(2,_)::(6,_)::(9,_)::(14,_)::(15,_)::(16,_)::(22,_)::(23,_)::(24,_)::Lx) _ _
          refine fa 36 underlying63 rfl sizeOf30 ?_
          exact at_nil k
         ·intro Lx g297 K k
          show At 46 ((41,_)::(43,_)::(0,_)::(1,_)::(2,_)::(6,_)::(9,_)::(14,_)::(15,_)::(16,_)::(22,_)::(23,_)::(24,_)::Lx) _ _
          refine at_store (c:=cSv S_lint_Odd) (z:=((((g297 1).2.1),((g297 1).2.2.1)),i241.f_out++[{ { { zv11 with f_Kind:=6 } with f_Peer:=i207 } with f_P:=lget ((lget q139.f_c.f_Peers i207).f_Allowed) i240 }])) (.s (.s .z)) (c_lint_finder_f_out_sv (gq242,(p244,c245),(p246,c247)) i241) sizeOf30 rfl rfl rfl ?_
          exact at_nil k
         intro g297
         show At 46 [(31,_),(32,_),(33,_),(34,_),(35,_),(36,_),(37,_),(38,_),(39,_),(40,_),(41,_),(42,_),(43,_),(0,_),(1,_),(2,_),(6,_),(9,_),(14,_),(15,_),(16,_),(22,_),(23,_),(24,_)] _ _
         refine dz (dz (wq [24,23,22,16,15,14,6,2,1,0] ?_))
         refine bm ?_
         refine qr (aw xa (am (nwq [24,23,22,16,15,14,6,2,1,0] ?_)))
         exact at_weak_k (ih _ _ _ hF K gq242 hk243 p244 c245 (g297 1).2.1 (g297 1).2.2.1) ⟨rfl,rfl,rfl,rfl,rfl,rfl,rfl,rfl,rfl,rfl,trivial⟩
        refine cf h292 ?_
        refine at_skip ?_
        refine bm ?_
        refine qr (aw xa (am (qn (dz (wq [24,23,22,16,15,14,6,2,1,0] ?_)))))
        refine tn ?_
        exact at_weak_k (ih _ _ _ hF K gq242 hk243 p244 c245 p246 c247) ⟨rfl,rfl,rfl,rfl,rfl,rfl,rfl,rfl,rfl,rfl,trivial⟩
       skip
       refine at_inv [.q 38 (fun g298=>.slice p284 t283.length c285) [] 0 0,.q 39 (fun g298=>.int .i64 (t283.length:Int)) [0] 0 0,.q 40 (fun g298=>.bool ((t283.length:Int)==1)) [1] 0 0,.q 41 (fun g298=>.bool false) [2] 0 0,.q 42 (fun g298=>undef) [3] 0 0,.q 43 (fun g298=>undef) [3,4] 0 0,.q 44 (fun g298=>undef) [3,5] 0 0,.q 45 (fun g298=>undef) [3] 0 0,.q 46 (fun g298=>undef) [3,6,7] 0 0,.q 47 (fun g298=>.bool false) [3,8] 0 0,.q 4 (fun g298=>.bool false) [9] 0 0] (fun g298 s=>match s with | _=>(Wd w [rowE c_api_Prefix 38 p284 c285 t283,cellsE b260 (Cd.cs c_api_Prefix (lget ((lget q139.f_c.f_Peers i207).f_Allowed) i240)) 38,cellsE b259 (Cd.cs c_api_Prefix (lget ((lget q139.f_c.f_Peers i207).f_Allowed) i240)) 38,cellsE (g8 1).1 (Cd.cs c_lint_finder ((gq242,(p244,c245),(p246,c247)),i241)) 63,rowE c_api_Entry 49 p244 c245 i241.f_own,rowE c_lint_Odd 40 p246 c247 i241.f_out])) 0 (by kernel_rfl) (by kernel_rfl) (by kernel_rfl) (by kernel_rfl) (by kernel_rfl) ⟨fun _ _ _=>rfl,fun _ _ _=>rfl,fun _ _ _=>rfl,fun _ _ _=>rfl,fun _ _ _=>rfl,fun _ _ _=>rfl,fun _ _ _=>rfl,fun _ _ _=>rfl,fun _ _ _=>rfl,fun _ _ _=>rfl,fun _ _ _=>rfl,trivial⟩ (by kernel_rfl) (fun w_ h=>⟨fun _=>g3 0 none 0 none w_,h.drew⟩) ⟨?_,?_,?_,?_,?_,?_,?_,?_,?_,?_,?_,trivial⟩ ?_
       ·intro Lx g298 s K hl hh k
        show At 48 ((3,_)::(8,_)::Lx) _ _
        refine am ?_
        exact at_nil k
       ·intro Lx g298 s K hl hh k
        show At 48 ((38,_)::(3,_)::(8,_)::Lx) _ _
        obtain rfl:s=0:=by omega
        refine aw (r_len_sl underlying58 rfl) ?_
        exact at_nil k
       ·intro Lx g298 s K hl hh k
        show At 48 ((39,_)::(3,_)::(8,_)::Lx) _ _
        refine aw xq ?_
        exact at_nil k
       ·intro Lx g298 s K hl hh k
        show At 48 ((40,_)::(3,_)::(8,_)::Lx) _ _
        refine am ?_
        exact at_nil (at_cast h286 k)
       ·intro Lx g298 s K hl hh k
        show At 48 ((41,_)::(3,_)::(8,_)::Lx) _ _
        refine gn ?_
        exact at_nil k
       ·intro Lx g298 s K hl hh k
        show At 48 ((41,_)::(42,_)::(3,_)::(8,_)::Lx) _ _
        refine gn ?_
        exact at_nil k
       ·intro Lx g298 s K hl hh k
        show At 48 ((41,_)::(43,_)::(3,_)::(8,_)::Lx) _ _
        obtain rfl:s=0:=by omega
        refine gn ?_
        exact at_nil k
       ·intro Lx g298 s K hl hh k
        show At 48 ((41,_)::(3,_)::(8,_)::Lx) _ _
        obtain rfl:s=0:=by omega
        refine gn ?_
        exact at_nil k
       ·intro Lx g298 s K hl hh k
        show At 48 ((41,_)::(44,_)::(45,_)::(3,_)::(8,_)::Lx) _ _
        refine gn ?_
        exact at_nil k
       ·intro Lx g298 s K hl hh k
        show At 48 ((41,_)::(46,_)::(3,_)::(8,_)::Lx) _ _
        refine aw xp ?_
        exact at_nil k
       ·intro Lx g298 s K hl hh k
        show At 48 ((47,_)::(3,_)::(8,_)::Lx) _ _
        refine aa ?_
        exact at_nil k
       intro g298
       show At 48 [(38,_),(39,_),(40,_),(41,_),(42,_),(43,_),(44,_),(45,_),(46,_),(47,_),(4,_),(3,_),(8,_)] _ _
       refine dz (dz (wq [4] ?_))
       refine tn (qt ?_)
       refine at_retI1 rfl rfl ?_
       refine nwq [30,24,23,22,16,15,14,9,6,2,1,0] ?_
       refine cf rfl ?_
       refine at_skip ?_
       refine bm ?_
       refine qr (aw xa (am (qn (dz (wq [24,23,22,16,15,14,6,2,1,0] ?_)))))
       refine tn ?_
       exact at_weak_k (ih _ _ _ hF K gq242 hk243 p244 c245 p246 c247) ⟨rfl,rfl,rfl,rfl,rfl,rfl,rfl,rfl,rfl,rfl,trivial⟩
      refine cf h254 ?_
      refine at_exit ?_
      refine te (te ?_)
      obtain rfl:=os hF
      exact at_weak_k (K gq242 hk243 p244 c245 p246 c247) ⟨rfl,rfl,rfl,rfl,rfl,rfl,trivial⟩
    skip
    intro gq248 hk249 p250 c251 p252 c253
    refine at_blk_same ?_
    refine bm ?_
    refine qr (aw xa (am (nwq [16,15,14,2,1,0] ?_)))
    exact at_weak_k (ih _ _ _ hF K gq248 hk249 p250 c251 p252 c253) ⟨rfl,rfl,rfl,rfl,rfl,rfl,trivial⟩
   refine cf h221 ?_
   refine at_exit ?_
   refine te (te ?_)
   obtain rfl:=os hF
   exact at_weak_k (K gq209 hk210 p211 c212 p213 c214) trivial
 skip
 intro gq215 hk216 p217 c218 p219 c220
 refine at_blk_same ?_
 refine at_retI0 rfl ?_
 refine ns (am ?_)
 refine aw (r_nilCheck rfl) ?_
 refine fa 36 underlying63 rfl sizeOf30 ?_
 refine aw (r_load_cell isAgg30 rfl (lens_cell0 (c:=cHd) (y:=⟨((gq215,(p217,c218),(p219,c220)).2.2).1,List.length q206.f_out,((gq215,(p217,c218),(p219,c220)).2.2).2⟩) .z (c_lint_finder_f_out (gq215,(p217,c218),(p219,c220)) q206) rfl)) ?_
 refine aa (qn (dz (dz (wq [2] ?_))))
 refine tn (qt ?_)
 have K:=os hF
 subst K
 exact r1 (fun w1 hw=>⟨p219,c220,rfl,hw.own .z,hw.below⟩)
end Go.Proofs.YtahlbjmafceoeaaGreatDoor
namespace Go.Proofs.YtahlbjmafceoeaaGreatDoor
open E Go.RowKit _root_.Go.Proofs.Tryz
theorem infoV69_is:(Tryz.prog.info? 9).isSome=true:=by kernel_rfl
noncomputable def infoV69_v:TypeInfo:=(Tryz.prog.info? 9).get infoV69_is
theorem infoV69:Tryz.prog.info? 9=some infoV69_v:=(Option.some_get _).symm
def lint_Texts.l0(x0:S_api_Conf)(t2:List S_lint_Odd)(i9:List ByteArray)(i10:Int):Option (List ByteArray) :=
 if (decide (i10<(t2.length:Int)))=true then (if (0:Int)≤i10∧i10<(t2.length:Int) then lint_Text x0 (lget t2 i10)>>=fun t21=>if (i9.length+1)*16≤140737488355328 then lint_Texts.l0 x0 t2 (i9++[t21]) (wr .i64 (i10+1)) else none else none) else (some i9)
 partial_fixpoint
def lint_Texts(x0:S_api_Conf):Option (ByteArray) :=
 lint_All x0>>=fun t2=>lint_Texts.l0 x0 t2 ([]:List ByteArray) 0>>=fun q7=>lines_Join q7>>=fun t26=>some t26
theorem lint_Texts_ok(g0_:G_api_Conf)(x0:S_api_Conf)(r:ByteArray)(hF:lint_Texts x0=some r)(w:World)(hn0:N_api_Conf w (g0_,x0))(hg_lint_words:GV_lint_words w)(hg_strconv_uint64pow10:GV_strconv_uint64pow10 w) :
    Calls Tryz.prog 11 #[.agg (Cd.cs c_api_Conf (g0_,x0)).toArray] w (fun e w'=>e=.returned (.string r)∧Below w.heap.size w w'):=by
 unfold lint_Texts at hF
 refine ce (l:=[.agg (Cd.cs c_api_Conf (g0_,x0)).toArray]) func11 rfl rfl ?_
 refine at_start ?_
 refine sr ?_
 refine at_box (cs:=Cd.cs c_api_Conf (g0_,x0)) rfl rfl rfl ?_
 intro b1
 refine aa (ns (aa (nt (qs (sr ?_)))))
 refine aw (r_load_aggc (c:=c_api_Conf) (z:=(g0_,x0)) isAgg27 sizeOf27 rfl (lens_cell .z lw)) ?_
 obtain ⟨t2,ht2,hF⟩:=bM hF
 refine at_callO (c:=c_lint_Odd) (e:=40) (ys:=t2) (V:=fun p cap=>.slice p t2.length cap) func8 rfl (by kernel_rfl) rfl rfl (fun w hw=>lint_All_ok _ _ _ ht2 w (N_api_Conf.below hn0 hw.below)) ?_
 intro p3 c4
 refine aw (r_len_sl underlying30 rfl) ?_
 refine am (nwq [9,8,7,3,1] ?_)
 refine qb ?_
 refine at_own_nil cStr 9 ?_
 obtain ⟨q7,hq7,hF⟩:=bM hF
 refine wq [9,8,7,3,1] ?_
 refine at_loop_n (B:=0) (A:=fun Y=>∀ (p13:Option Addr) (c14:Nat),At 22 [(3,.slice p13 q7.length c14)] (Wd w [rowE cStr 9 p13 c14 q7]) Y) ?_ ?_
 ·intro K
  refine lint_Texts.l0.partial_correctness x0 t2 (motive:=fun i9 i10 x=>KN (fun Y=>∀ (p13:Option Addr) (c14:Nat),At 22 [(3,.slice p13 x.length c14)] (Wd w [rowE cStr 9 p13 c14 x]) Y) _ 0→Round (fun Y=>∀ (p11:Option Addr) (c12:Nat),At 22 [(1,.pointer (some ⟨b1,0,none⟩)),(3,.slice p11 i9.length c12),(7,.slice p3 t2.length c4),(8,.int .i64 (t2.length:Int)),(9,.int .i64 i10)] (Wd w [rowE cStr 9 p11 c12 i9,rowE c_lint_Odd 40 p3 c4 t2,cellsE b1 (Cd.cs c_api_Conf (g0_,x0)) 27]) Y) _ _ _) ?_ _ _ _ hq7 K none 0
  ·clear K hF
   intro g ih i9 i10 x hF K p11 c12
   refine at_round ?_
   refine sr (aw xl (nwq [10,9,8,7,3,1] ?_))
   refine qs ?_
   obtain ⟨h15,hF⟩|⟨h15,hF⟩:=oi hF
   ·refine ct h15 ?_
    refine sn (qs ?_)
    refine qb ?_
    refine sr ?_
    obtain ⟨h16,hF⟩:=gd hF
    refine at_pure (φ:=∃ b o,p3=some ⟨b,o,none⟩) (fun _ hw=>row_ptr (hw.own (.s .z)).row h16) ?_
    rintro ⟨b18,o19,hp17⟩
    refine aw (r_idx underlying30 sizeOf40 rfl rfl h16 hp17) ?_
    refine aw (r_load_aggc (c:=c_lint_Odd) (z:=lget t2 i10) isAgg40 sizeOf40 rfl (fun w1 hw=>row_cell (W:=fun w1=>w1=_) (fun w1 h=>by subst h;exact Below.refl _ _) (hw.own (.s .z)).row h16 hp17 _ rfl)) ?_
    refine al (cs:=Cd.cs c_lint_Odd zv11) zeroValue40 ?_
    intro b20
    refine at_store (c:=c_lint_Odd) (z:=lget t2 i10) .z lw sizeOf40 rfl rfl rfl ?_
    refine nt (qr (am ?_))
    refine aw (r_load_aggc (c:=c_api_Conf) (z:=(g0_,x0)) isAgg27 sizeOf27 rfl (lens_cell (.s (.s (.s .z))) lw)) ?_
    refine aw (r_load_aggc (c:=c_lint_Odd) (z:=lget t2 i10) isAgg40 sizeOf40 rfl (lens_cell .z lw)) ?_
    obtain ⟨t21,ht21,hF⟩:=bM hF
    refine cB func12 rfl (fun w hw=>lint_Text_ok _ _ _ _ ht21 w (N_api_Conf.below hn0 hw.below) (hg_lint_words.on hw.below) (hg_strconv_uint64pow10.on hw.below)) ?_
    refine at_lit (cs:=cStr.all ([t21]:List ByteArray)) underlying72 sizeOf9 zeroValue9 rfl rfl rfl (by kernel_rfl) rfl ?_
    intro b22
    obtain ⟨h23,hF⟩:=gd hF
    refine at_append (z:=.string ⟨#[]⟩) (c:=cStr) (ys:=([t21]:List ByteArray)) (.s (.s .z)) underlying72 infoV69 (by kernel_rfl) (by kernel_rfl) rfl rfl rfl rfl (fun _ hw=>cells_src (hw.ok (Upd.mem .z))) (by kernel_rfl) h23 (app_small h23) rfl ?_
    intro p24 c25
    refine aa (qn (dz (dz (wq [9,8,7,3,1] ?_))))
    refine bm ?_
    refine qr (aw xa (am (nwq [9,8,7,3,1] ?_)))
    exact at_weak_k (ih _ _ _ hF K p24 c25) ⟨rfl,rfl,rfl,rfl,rfl,trivial⟩
   refine cf h15 ?_
   refine at_exit ?_
   refine te (te ?_)
   refine at_drop (H:=_) (.s .z) ?_
   refine at_drop (H:=_) (.s .z) ?_
   obtain rfl:=os hF
   exact at_weak_k (K p11 c12) ⟨rfl,trivial⟩
 skip
 intro p13 c14
 refine at_blk_same ?_
 refine tn (sr (am ?_))
 obtain ⟨t26,ht26,hF⟩:=bM hF
 refine cB func34 rfl (fun w hw=>lines_Join_ok _ _ _ _ ht26 w (hw.own .z).row) ?_
 refine aa (qn (dz (wq [2] ?_)))
 refine tn (qt ?_)
 have K:=os hF
 subst K
 exact r1 wb
def crawlwaylaw60_alive:Option (Bool) :=
 lint_Texts ({ f_Private:=(Vector.replicate 32 (0:Int):(Vector Int 32)),f_Port:=(0:Int),f_Mark:=(0:Int),f_Peers:=([]:List S_api_Peer) }:S_api_Conf)>>=fun t1=>some (bif (seq t1 (⟨#[107,101,121,108,101,115,115,10]⟩:ByteArray)) then true else false)
theorem crawlwaylaw60_alive_ok(r:Bool)(hF:crawlwaylaw60_alive =some r)(w:World)(hg_lint_words:GV_lint_words w)(hg_strconv_uint64pow10:GV_strconv_uint64pow10 w) :
    Calls Tryz.prog 7 #[] w (fun e w'=>e=.returned (.bool r)∧Below w.heap.size w w'):=by
 unfold crawlwaylaw60_alive at hF
 refine ce (l:=[]) func7 rfl rfl ?_
 refine at_start ?_
 refine at_weak [] trivial ?_
 refine sr (aa ?_)
 refine nws [] trivial ?_
 refine aw (r_build_struct (zs:=Cd.cs c_api_Conf (zv5,zv0)) (cs:=Cd.cs c_api_Conf (zv5,zv0)) underlying27 zeroValue27 rfl (places_api_Conf_27) rfl rfl) ?_
 obtain ⟨t1,ht1,hF⟩:=bM hF
 refine cB func11 rfl (fun w hw=>lint_Texts_ok _ _ _ ht1 w (NRow.nil ..) (hg_lint_words.on hw.below) (hg_strconv_uint64pow10.on hw.below)) ?_
 refine aw (r_seql rfl rfl) ?_
 refine am ?_
 refine aw (r_pickB rfl rfl rfl) ?_
 refine aa (nwq [0] ?_)
 refine qt ?_
 have K:=os hF
 subst K
 exact r1 wb
end Go.Proofs.YtahlbjmafceoeaaGreatDoor
set_option maxRecDepth 20000
namespace Go.Proofs.YtahlbjmafceoeaaGreatDoor.Lint
open E Go.RowKit Adr Cid
theorem bj1(a s:ByteArray):bjoin [a] s=a:=by
 cases a with | mk a=>cases s with | mk s =>
 unfold bjoin Lib.join
 apply ByteArray.ext
 show _=_
 simp [List.intercalate,List.intersperse]
abbrev eC:S_api_Conf:={ f_Private:=(Vector.replicate 32 (0:Int):(Vector Int 32)),f_Port:=(0:Int),f_Mark:=(0:Int),f_Peers:=([]:List S_api_Peer) }
theorem eRight:view_Right eC=some true:=by
 have h1:view_short 0=some true:=by decide
 unfold view_Right
 rw [h1,bindM_some,if_neg (by decide),if_neg (by decide),bindM_some]
 dsimp only
 rw [view_Right.l0.eq_def,if_neg (by decide)];rfl
theorem eEntries:lint_entries eC=some []:=by
 unfold lint_entries
 rw [lint_entries.l0.eq_def,if_neg (by decide)];rfl
theorem thin_nil:flat_Thin []=some []:=by
 have h1:flat_Own []=some []:=by
  unfold flat_Own
  rw [flat_Own.l0.eq_def,if_neg (by decide),bindM_some]
  rfl
 unfold flat_Thin
 rw [h1,bindM_some,flat_Thin.l0.eq_def,if_neg (by decide)];rfl
theorem e_l0(q q':S_lint_finder)(h:q.f_c=eC):lint_All.l0 q 0 q'=some q':=by rw [lint_All.l0.eq_def,h,if_neg (by decide)]
theorem e_l1(q q':S_lint_finder)(h:q.f_c=eC):lint_All.l1 q 0 q'=some q':=by rw [lint_All.l1.eq_def,h,if_neg (by decide)]
theorem e_l2(q q':S_lint_finder)(h:q.f_c=eC):lint_All.l2 q 0 q'=some q':=by rw [lint_All.l2.eq_def,h,if_neg (by decide)]
theorem e_l3(m:List (S_api_Prefix×Bool)):lint_All.l3 [] 0 m=some m:=by rw [lint_All.l3.eq_def,if_neg (by decide)]
theorem e_l4(q q':S_lint_finder)(m:List (S_api_Prefix×Bool))(h:q.f_c=eC):lint_All.l4 q m 0 q'=some q':=by rw [lint_All.l4.eq_def,h,if_neg (by decide)]
theorem e_l6(q q':S_lint_finder)(h:q.f_c=eC):lint_All.l6 q 0 q'=some q':=by rw [lint_All.l6.eq_def,h,if_neg (by decide)]
theorem eAll:lint_All eC=some [lint_All.e0]:=by
 have hz:keys_Zero (Vector.replicate 32 (0:Int):Vector Int 32)=some true:=by unfold keys_Zero;rw [decide_eq_true rfl]
 unfold lint_All
 rw [eRight,bindM_some,if_neg (by decide),eEntries,bindM_some,hz,bindM_some,if_pos rfl,if_pos (by decide),bindM_some,e_l0 _ _ rfl,bindM_some,e_l1 _ _ rfl,bindM_some,e_l2 _ _ rfl,bindM_some]
 show (flat_Thin []>>=fun t110=>_)=_
 rw [thin_nil,bindM_some,e_l3,bindM_some,e_l4 _ _ _ rfl,bindM_some,e_l6 _ _ rfl,bindM_some];rfl
theorem eText:lint_Text eC lint_All.e0=some (⟨#[107,101,121,108,101,115,115]⟩:ByteArray):=by
 have hW:vget gval_lint_words 1=(⟨#[107,101,121,108,101,115,115]⟩:ByteArray):=rfl
 unfold lint_Text
 show (if (decide ((1:Int)<1))=true then _ else _)=_
 rw [if_neg (by decide)]
 show (if (decide ((1:Int)>6))=true then _ else _)=_
 rw [if_neg (by decide),if_pos (by decide)]
 show (if (decide ((-1:Int)≥0))=true then _ else _)=_
 rw [if_neg (by decide),if_neg (by decide)]
 show (if List.length ([vget gval_lint_words 1]:List ByteArray)≤140737488355328 then if (bjoin ([vget gval_lint_words 1]:List ByteArray) (⟨#[32]⟩:ByteArray)).size≤140737488355328 then some (bjoin ([vget gval_lint_words 1]:List ByteArray) (⟨#[32]⟩:ByteArray)) else none else none)=_
 rw [if_pos (by simp),bj1,hW,if_pos (by decide)]
theorem alive60:crawlwaylaw60_alive=some true:=by
 have hT:lint_Texts eC=some (⟨#[107,101,121,108,101,115,115,10]⟩:ByteArray):=by
  unfold lint_Texts
  rw [eAll,bindM_some,lint_Texts.l0.eq_def,if_pos (by decide),if_pos (by decide)]
  show (lint_Text eC lint_All.e0>>=fun t21=>_)>>=_=_
  rw [eText,bindM_some,if_pos (by decide),lint_Texts.l0.eq_def,if_neg (by decide),bindM_some]
  unfold lines_Join
  rw [lines_Join.l0.eq_def,if_pos (by decide),if_pos (by decide),if_pos (by decide),if_pos (by decide),lines_Join.l0.eq_def,if_neg (by decide)]
  rfl
 unfold crawlwaylaw60_alive
 rw [hT,bindM_some]
 decide +kernel
theorem alive_then60:(crawlwaylaw60_alive>>=fun t=>some t)=some true:=by rw [alive60];rfl
theorem large_loop(c:S_api_Conf)(hn:c.f_Peers.length≤20):∀ (k i:Nat),i+k=c.f_Peers.length→crawlwayref34_Large.l0 c (i:Int)=some (if (c.f_Peers.drop i).any (fun p=>decide (p.f_Allowed.length>80))=true then .ret true else .nx ())
 | 0,i,h=>by
  rw [crawlwayref34_Large.l0.eq_def,decide_eq_false (by omega),if_neg Bool.false_ne_true,List.drop_eq_nil_of_le (by omega)];rfl
 | k+1,i,h=>by
  have hi:i<c.f_Peers.length:=by omega
  have hg:lget c.f_Peers (i:Int)=c.f_Peers[i]:=by
   unfold lget
   rw [Int.toNat_natCast,List.getD_eq_getElem?_getD,List.getElem?_eq_getElem hi];rfl
  have hw:wr .i64 ((i:Int)+1)=((i+1:Nat):Int):=by rw [wr_i64 (by omega) (by omega)];omega
  rw [crawlwayref34_Large.l0.eq_def,decide_eq_true (by omega),if_pos rfl,if_pos (by omega),hg,hw,List.drop_eq_getElem_cons hi,List.any_cons]
  by_cases h80:c.f_Peers[i].f_Allowed.length>80
  ·rw [decide_eq_true (show ((c.f_Peers[i].f_Allowed.length:Nat):Int)>80 by omega),if_pos rfl,decide_eq_true h80,Bool.true_or,if_pos rfl]
  ·rw [decide_eq_false (show ¬ ((c.f_Peers[i].f_Allowed.length:Nat):Int)>80 by omega),if_neg Bool.false_ne_true,decide_eq_false h80,Bool.false_or]
   exact large_loop c hn k (i+1) (by omega)
theorem large_code(c:S_api_Conf):∃ b,crawlwayref34_Large c=some b∧(b=false→c.f_Peers.length≤20∧∀ p∈c.f_Peers,p.f_Allowed.length≤80):=by
 unfold crawlwayref34_Large
 by_cases h:(c.f_Peers.length:Int)>20
 ·rw [decide_eq_true h,if_pos rfl];exact ⟨true,rfl,fun h=>by cases h⟩
 ·rw [decide_eq_false h,if_neg Bool.false_ne_true]
  have:=large_loop c (by omega) c.f_Peers.length 0 (by omega)
  rw [show ((0:Nat):Int)=0 from rfl,List.drop_zero] at this
  rw [this,bindM_some]
  cases hb:c.f_Peers.any (fun p=>decide (p.f_Allowed.length>80)) with
  | true=>rw [if_pos rfl];exact ⟨true,rfl,fun h=>by cases h⟩
  | false =>
   rw [if_neg Bool.false_ne_true]
   refine ⟨false,rfl,fun _=>⟨by omega,fun p hp=>?_⟩⟩
   have:=List.any_eq_false.1 hb p hp
   rw [decide_eq_true_iff] at this
   omega
end Go.Proofs.YtahlbjmafceoeaaGreatDoor.Lint
namespace Go.Proofs.YtahlbjmafceoeaaGreatDoor.Adr
open E Go.RowKit Cid
theorem bit_code{V i:Int}{l:List UInt8}(hl:l.length=16)(hi : -9223372036854775808≤i∧i<9223372036854775808) :
  addr_Bit (mkA V l) i=some (if 0≤i∧i<(widthL V l:Int) then ((bit l i.toNat:Nat):Int) else -1):=by
 unfold addr_Bit
 rw [width_code hl,bindM_some]
 have hw:=width_le (V:=V) (l:=l)
 by_cases h0:i<0
 ·rw [if_pos (decide_eq_true h0),if_neg (by omega)]
 ·rw [if_neg (by rw [decide_eq_true_eq];exact h0)]
  by_cases h1:i≥(widthL V l:Int)
  ·rw [if_pos (decide_eq_true h1),if_neg (by omega)]
  ·rw [if_neg (by rw [decide_eq_true_eq];exact h1)]
   obtain ⟨n,rfl⟩:=Int.eq_ofNat_of_zero_le (show 0≤i by omega)
   have hn:n<128:=by omega
   have e1:ishr .i64 (n:Int) 3=((n/8:Nat):Int):=ishr_nat .i64 n 3 (by decide)
   have e2:iand .i64 (n:Int) 7=((n%8:Nat):Int):=by
    unfold iand
    have h7:(BitVec.ofInt IntKind.i64.bits (7:Int)).toNat=7:=by decide
    have hb:(BitVec.ofInt IntKind.i64.bits (n:Int)).toNat=n:=toNat_ofInt 64 n (by omega)
    rw [BitVec.toNat_and,h7,hb,show (7:Nat)=2 ^ 3-1 from rfl,Nat.and_two_pow_sub_one_eq_mod]
    have:=wr_i64 (x:=((n%2 ^ 3:Nat):Int)) (by omega) (by omega)
    exact this
   have e3:wr .u64 (wr .i64 (7-((n%8:Nat):Int)))=((7-n%8:Nat):Int):=by rw [wr_i64 (by omega) (by omega),wr_u64 (by omega) (by omega)];omega
   have hb:=bg_lt l (n/8)
   have h3:(0:Int)≤(n:Int)∧(n:Int)<(widthL V l:Int):=by omega
   rw [e1,e2,e3,if_pos (by omega),if_pos (by omega),if_pos h3]
   refine congrArg some ?_
   show iand .i64 (wr .i64 (ishr .u8 (vget (vb l) ((n/8:Nat):Int)) ((7-n%8:Nat):Int))) 1=_
   rw [vget_vb hl _ (by omega),ishr_nat .u8 _ _ (by show 7-n%8≤8;omega)]
   have hdl:bg l (n/8)/2 ^ (7-n%8)<256:=Nat.lt_of_le_of_lt (Nat.div_le_self _ _) hb
   generalize hx:bg l (n/8)/2 ^ (7-n%8)=x at hdl
   rw [wr_i64 (by omega) (by omega)]
   have e4:iand .i64 (x:Int) 1=((x%2:Nat):Int):=by
    unfold iand
    have h1:(BitVec.ofInt IntKind.i64.bits (1:Int)).toNat=1:=by decide
    have hb:(BitVec.ofInt IntKind.i64.bits (x:Int)).toNat=x:=toNat_ofInt 64 x (by omega)
    rw [BitVec.toNat_and,h1,hb,Nat.and_one_is_mod]
    have:=wr_i64 (x:=((x%2:Nat):Int)) (by omega) (by omega)
    exact this
   rw [e4]
   unfold bit
   rw [Int.toNat_natCast,hx]
def fd(p:Nat→Bool):Nat→Nat→Nat
 | 0,i=>i
 | f+1,i=>if p i=true then fd p f (i+1) else i
theorem fd_all(p:Nat→Bool):∀ (f i j:Nat),i≤j→j<fd p f i→p j=true
 | 0,i,j,h1,h2=>by unfold fd at h2;omega
 | f+1,i,j,h1,h2=>by
  unfold fd at h2
  by_cases hp:p i=true
  ·rw [if_pos hp] at h2
   by_cases hj:j=i
   ·subst hj;exact hp
   ·exact fd_all p f (i+1) j (by omega) h2
  ·rw [if_neg hp] at h2;omega
theorem fd_stop(p:Nat→Bool):∀ (f i:Nat),fd p f i<i+f→p (fd p f i)=false
 | 0,i,h=>by unfold fd at h;omega
 | f+1,i,h=>by
  unfold fd at h ⊢
  by_cases hp:p i=true
  ·rw [if_pos hp] at h ⊢
   exact fd_stop p f (i+1) (by omega)
  ·rw [if_neg hp];simpa using hp
def alikeB(l k:List UInt8)(i:Nat):Bool:=decide (bit l i=bit k i)
theorem refCommon_loop{V W:Int}{l k:List UInt8}(hl:l.length=16)(hk:k.length=16)(t:Nat)(ht:t≤128):∀ (f i:Nat),i+f=t →
  crawlwayref10_Common.l0 (mkA V l) (mkA W k) (t:Int) (i:Int)=some ((fd (alikeB l k) f i:Nat):Int):=by
 intro f
 induction f with
 | zero =>
  intro i hi
  rw [crawlwayref10_Common.l0.eq_def,if_neg (by rw [decide_eq_true_eq];omega)];rfl
 | succ f ih =>
  intro i hi
  rw [crawlwayref10_Common.l0.eq_def,if_pos (decide_eq_true (by omega)),digit_ref hl i (by omega),bindM_some,digit_ref hk i (by omega),bindM_some]
  unfold fd
  by_cases h:bit l i=bit k i
  ·have h1:(((bit l i:Nat):Int)==((bit k i:Nat):Int))=true:=by rw [h];exact beq_self_eq_true _
   have h2:alikeB l k i=true:=decide_eq_true h
   rw [h1,if_pos rfl,h2,if_pos rfl,wr_i64 (by omega) (by omega),show ((i:Int)+1)=((i+1:Nat):Int) by omega]
   exact ih (i+1) (by omega)
  ·have h1:(((bit l i:Nat):Int)==((bit k i:Nat):Int))=false:=by rw [beq_eq_false_iff_ne];omega
   have h2:alikeB l k i=false:=decide_eq_false h
   rw [h1,if_neg Bool.false_ne_true,h2,if_neg Bool.false_ne_true]
def commonL(V:Int)(l:List UInt8)(W:Int)(k:List UInt8):Int :=
 if rightL V l=true∧rightL W k=true∧V=W then ((fd (alikeB l k) (widthL V l) 0:Nat):Int) else -1
theorem common_ref{V W:Int}{l k:List UInt8}(hl:l.length=16)(hk:k.length=16):crawlwayref10_Common (mkA V l) (mkA W k)=some (commonL V l W k):=by
 unfold crawlwayref10_Common commonL
 rw [right_ref hl,bindM_some]
 cases hr:rightL V l
 ·show some (-1:Int)=_
  rw [if_neg (by simp)]
 ·show (crawlwayref10_Right (mkA W k)>>=fun t5=>_)=_
  rw [right_ref hk,bindM_some]
  cases hs:rightL W k
  ·show some (-1:Int)=_
   rw [if_neg (by simp)]
  ·show (if (V != W)=true then _ else _)=_
   by_cases hv:V=W
   ·subst hv
    have hne:(V != V)=false:=by simp
    rw [hne,if_neg Bool.false_ne_true,width_ref hl,bindM_some]
    have h1:=refCommon_loop (V:=V) (W:=V) hl hk (widthL V l) width_le (widthL V l) 0 (by omega)
    rw [show ((0:Nat):Int)=0 from rfl] at h1
    rw [h1,bindM_some,if_pos ⟨rfl,rfl,rfl⟩]
   ·have hne:(V != W)=true:=by simpa using hv
    rw [hne,if_pos rfl,if_neg (fun h=>hv h.2.2)]
def lessL:List UInt8→List UInt8→Bool
 | x::a,y::b=>if x≠y then decide (x<y) else lessL a b
 | _,_=>false
theorem less_cmp:∀ (a b:List UInt8),a.length=b.length→decide (Lib.compareBytes a b<0)=lessL a b
 | [],[],_=>rfl
 | [],_::_,h=>by simp at h
 | _::_,[],h=>by simp at h
 | x::a,y::b,h=>by
  unfold Lib.compareBytes lessL
  by_cases hxy:x=y
  ·subst hxy
   have:¬ x<x:=UInt8.lt_irrefl x
   simp only [this,if_false,ne_eq,not_true_eq_false]
   exact less_cmp a b (by simpa using h)
  ·by_cases hlt:x<y
   ·simp [hxy,hlt]
   ·have:y<x:=UInt8.lt_of_le_of_ne (UInt8.not_lt.1 hlt) (Ne.symm hxy)
    simp [hxy,hlt,this]
def lessA(V:Int)(l:List UInt8)(W:Int)(k:List UInt8):Bool:=if V=W then lessL l k else decide (V<W)
theorem refLess_loop{V W:Int}{l k:List UInt8}(hl:l.length=16)(hk:k.length=16)(f:Nat):∀ i:Nat,i+f=16 →
  ∃ q,crawlwayref10_Less.l0 (mkA V l) (mkA W k) i=some q∧(match q with | .ret r=>r=lessL (l.drop i) (k.drop i) | .nx _=>lessL (l.drop i) (k.drop i)=false):=by
 induction f with
 | zero =>
  intro i hi
  have hz:decide ((i:Int)<16)=false:=decide_eq_false (by omega)
  rw [crawlwayref10_Less.l0.eq_def,hz]
  refine ⟨_,rfl,?_⟩
  rw [List.drop_eq_nil_of_le (by omega)];rfl
 | succ f ih =>
  intro i hi
  have hz:decide ((i:Int)<16)=true:=decide_eq_true (by omega)
  obtain ⟨x,hx,hdx⟩:=drop_get l i (by omega)
  obtain ⟨y,hy,hdy⟩:=drop_get k i (by omega)
  have hg:(0:Int)≤(i:Int)∧(i:Int)<16:=by omega
  have ex:vget (mkA V l).f_B (i:Int)=x.toNat:=by show vget (vb l) (i:Int)=_;rw [vget_vb hl i (by omega),bg_get hx]
  have ey:vget (mkA W k).f_B (i:Int)=y.toNat:=by show vget (vb k) (i:Int)=_;rw [vget_vb hk i (by omega),bg_get hy]
  rw [crawlwayref10_Less.l0.eq_def,hz,if_pos rfl,if_pos hg,if_pos hg,ex,ey,hdx,hdy]
  unfold lessL
  by_cases hxy:x=y
  ·subst hxy
   have h1:((x.toNat:Int) != (x.toNat:Int))=false:=by simp
   obtain ⟨q,hq,hm⟩:=ih (i+1) (by omega)
   rw [h1,if_neg Bool.false_ne_true,wr_i64 (by omega) (by omega),show ((i:Int)+1)=((i+1:Nat):Int) by omega]
   refine ⟨q,hq,?_⟩
   rw [if_neg (by simp)]
   exact hm
  ·have hne:x.toNat≠y.toNat:=fun e=>hxy (UInt8.toNat.inj e)
   have h1:((x.toNat:Int) != (y.toNat:Int))=true:=by rw [bne_iff_ne];omega
   rw [h1,if_pos rfl,if_pos hg,if_pos hg]
   refine ⟨_,rfl,?_⟩
   show decide ((x.toNat:Int)<(y.toNat:Int))=_
   rw [if_pos hxy,Bool.eq_iff_iff,decide_eq_true_eq,decide_eq_true_eq,UInt8.lt_iff_toNat_lt]
   omega
theorem less_ref{V W:Int}{l k:List UInt8}(hl:l.length=16)(hk:k.length=16):crawlwayref10_Less (mkA V l) (mkA W k)=some (lessA V l W k):=by
 unfold crawlwayref10_Less lessA
 show (if (V != W)=true then some (decide (V<W)) else _)=_
 by_cases h:V=W
 ·have hne:(V != W)=false:=by simpa using h
  obtain ⟨q,hq,hm⟩:=refLess_loop (V:=V) (W:=W) hl hk 16 0 rfl
  rw [show ((0:Nat):Int)=0 from rfl] at hq
  rw [hne,if_neg Bool.false_ne_true,if_pos h,hq,bindM_some]
  rw [List.drop_zero,List.drop_zero] at hm
  cases q with
  | ret r=>show some r=_;rw [show r=_ from hm]
  | nx u=>show some false=_;rw [show lessL l k=false from hm]
 ·have hne:(V != W)=true:=by simpa using h
  rw [hne,if_pos rfl,if_neg h]
theorem mb_alike(x y:UInt8):∀ (k:Nat),k≤8→(∀ j,j<k→x.toNat/2 ^ (7-j)%2=y.toNat/2 ^ (7-j)%2)→mb x k=mb y k
 | 0,_,_=>by rw [mb_zero,mb_zero]
 | k+1,hk,h=>by
  apply UInt8.toNat.inj
  rw [mb_step x k (by omega),mb_step y k (by omega),mb_alike x y k (by omega) (fun j hj=>h j (by omega)),h k (by omega)]
theorem mfull_alike{l k:List UInt8}(hl:l.length=16)(hk:k.length=16)(c:Nat)(hc:c≤128)(h:∀ j,j<c→bit l j=bit k j):mfull l (c:Int)=mfull k (c:Int):=by
 apply List.ext_getElem?
 intro j
 rw [mfull_get,mfull_get]
 by_cases hj:j<16
 ·have hx:l[j]? = some l[j]:=List.getElem?_eq_getElem (by omega)
  have hy:k[j]? = some k[j]:=List.getElem?_eq_getElem (by omega)
  generalize l[j]=x at hx
  generalize k[j]=y at hy
  rw [hx,hy]
  show some _=some _
  congr 1
  refine mb_alike x y _ (lft_le _ _) fun i hi=>?_
  have hlt:i<8:=by have:=lft_le (c:Int) j;omega
  have hb:=h (8*j+i) (by unfold lft at hi;omega)
  unfold bit at hb
  rw [show (8*j+i)/8=j by omega,show (8*j+i)%8=i by omega,bg_get hx,bg_get hy] at hb
  exact hb
 ·rw [List.getElem?_eq_none (by omega),List.getElem?_eq_none (by omega)]
theorem mb_bit_fin:∀ (x:Fin 256) (m:Fin 9) (j:Fin 8),j.val<m.val→(x.val-x.val%2 ^ (8-m.val))/2 ^ (7-j.val)%2=x.val/2 ^ (7-j.val)%2:=by decide +kernel
theorem bit_mfull{l:List UInt8}(hl:l.length=16)(b:Int)(i:Nat)(hi:(i:Int)<b)(h128:i<128):bit (mfull l b) i=bit l i:=by
 unfold bit
 obtain ⟨c,hc⟩:∃ c,l[i/8]? = some c:=⟨_,List.getElem?_eq_getElem (by omega)⟩
 have hm:(mfull l b)[i/8]? = some (mb c (lft b (i/8))):=by rw [mfull_get,hc];rfl
 rw [bg_get hc,bg_get hm,mb_toNat]
 have hle:=lft_le b (i/8)
 have hlt:i%8<lft b (i/8):=by unfold lft;omega
 exact mb_bit_fin ⟨c.toNat,c.toNat_lt⟩ ⟨lft b (i/8),by omega⟩ ⟨i%8,by omega⟩ hlt
theorem fd_far(p:Nat→Bool)(f c:Nat)(hc:c≤f)(h:∀ j,j<c→p j=true):c≤fd p f 0:=by
 rcases Nat.lt_or_ge (fd p f 0) c with hlt | hge
 ·have h1:=fd_stop p f 0 (by omega)
  rw [h _ hlt] at h1;cases h1
 ·exact hge
theorem same_bits{V W:Int}{l k:List UInt8}{b:Int}(hl:l.length=16)(hk:k.length=16)(hp:rightP V l b=true)(hV:V=W)(hr:rightL W k=true):decide (mfull k b=l)=decide (commonL V l W k≥b):=by
 subst hV
 obtain ⟨⟨hrl,h0,h1⟩,hm⟩:=rightP_iff.1 hp
 have hw:=width_le (V:=V) (l:=l)
 obtain ⟨c,rfl⟩:=Int.eq_ofNat_of_zero_le h0
 have hc:commonL V l V k=((fd (alikeB l k) (widthL V l) 0:Nat):Int):=by unfold commonL;rw [if_pos ⟨hrl,hr,rfl⟩]
 rw [hc,decide_eq_decide]
 constructor
 ·intro h
  have:=fd_far (alikeB l k) (widthL V l) c (by omega) fun j hj=>by
   unfold alikeB
   refine decide_eq_true ?_
   rw [←h,bit_mfull hk (c:Int) j (by omega) (by omega)]
  omega
 ·intro h
  have hall:=fd_all (alikeB l k) (widthL V l) 0
  have:=mfull_alike hl hk c (by omega) fun j hj=>of_decide_eq_true (hall j (by omega) (by omega))
  rw [←this,hm]
def hasP(V:Int)(l:List UInt8)(b W:Int)(k:List UInt8):Bool:=rightP V l b&&(rightL W k&&(decide (W=V)&&decide (mfull k b=l)))
theorem has_ref{V b W:Int}{l k:List UInt8}(hl:l.length=16)(hk:k.length=16):crawlwayref11_Has (mkP (mkA V l) b) (mkA W k)=some (hasP V l b W k):=by
 unfold crawlwayref11_Has hasP
 rw [cright_ref hl,bindM_some]
 cases hp:rightP V l b with
 | false=>rfl
 | true =>
  obtain ⟨⟨hrl,h0,h1⟩,hm⟩:=rightP_iff.1 hp
  rw [if_pos rfl,Bool.true_and]
  show (crawlwayref10_Common (mkA V l) (mkA W k)>>=fun t5=>some (decide (t5≥b)))=_
  rw [common_ref hl hk,bindM_some]
  refine congrArg some ?_
  cases hr:rightL W k with
  | false =>
   have hc:commonL V l W k = -1:=by unfold commonL;rw [if_neg (by rw [hr];simp)]
   rw [hc,Bool.false_and]
   exact decide_eq_false (by omega)
  | true =>
   rw [Bool.true_and]
   by_cases hV:W=V
   ·rw [decide_eq_true hV,Bool.true_and]
    exact (same_bits hl hk hp hV.symm hr).symm
   ·have hc:commonL V l W k = -1:=by unfold commonL;rw [if_neg (fun h=>hV h.2.2.symm)]
    rw [hc,decide_eq_false hV,Bool.false_and]
    exact decide_eq_false (by omega)
end Go.Proofs.YtahlbjmafceoeaaGreatDoor.Adr
