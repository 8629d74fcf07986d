/- Texts of this claim, those in one that belong together; printed by a program of this project. -/
import Derived.Test.YtahlbjmafceoeaaProg
import Derived.Test.YtahlbjmafceoeaaKAggregateCovers1
set_option linter.unusedVariables false
set_option linter.unusedSimpArgs false
namespace Go.Proofs.Ytahlbjmafceoeaa
open E Go.RowKit _root_.Go.Proofs.Try
theorem infoA426_is:(Try.prog.info? 26).isSome=true:=by kernel_rfl
noncomputable def infoA426_v:TypeInfo:=(Try.prog.info? 26).get infoA426_is
theorem infoA426:Try.prog.info? 26=some infoA426_v:=(Option.some_get _).symm
theorem infoA437_is:(Try.prog.info? 37).isSome=true:=by kernel_rfl
noncomputable def infoA437_v:TypeInfo:=(Try.prog.info? 37).get infoA437_is
theorem infoA437:Try.prog.info? 37=some infoA437_v:=(Option.some_get _).symm
theorem infoA448_is:(Try.prog.info? 48).isSome=true:=by kernel_rfl
noncomputable def infoA448_v:TypeInfo:=(Try.prog.info? 48).get infoA448_is
theorem infoA448:Try.prog.info? 48=some infoA448_v:=(Option.some_get _).symm
def aggregate_Ranges.l0(t7:List S_api_Prefix)(i11:List S_aggregate_Range)(i12:Int):Option (List S_aggregate_Range) :=
 if (decide (i12<(t7.length:Int)))=true then (if (0:Int)≤i12∧i12<(t7.length:Int) then if ((i11.length:Int)==0)=true then (aggregate_last (lget t7 i12)>>=fun t25=>if (i11.length+1)*48≤140737488355328 then aggregate_Ranges.l0 t7 (i11++[{ { ({ f_From:=({ f_V:=(0:Int),f_B:=(Vector.replicate 16 (0:Int):(Vector Int 16)) }:S_api_Addr),f_To:=({ f_V:=(0:Int),f_B:=(Vector.replicate 16 (0:Int):(Vector Int 16)) }:S_api_Addr) }:S_aggregate_Range) with f_From:=(lget t7 i12).f_A } with f_To:=t25 }]) (wr .i64 (i12+1)) else none) else (if (0:Int)≤wr .i64 ((i11.length:Int)-1)∧wr .i64 ((i11.length:Int)-1)<(i11.length:Int) then aggregate_joins (lget i11 (wr .i64 ((i11.length:Int)-1))) (lget t7 i12)>>=fun t35=>if (!t35)=true then (aggregate_last (lget t7 i12)>>=fun t38=>if (i11.length+1)*48≤140737488355328 then aggregate_Ranges.l0 t7 (i11++[{ { ({ f_From:=({ f_V:=(0:Int),f_B:=(Vector.replicate 16 (0:Int):(Vector Int 16)) }:S_api_Addr),f_To:=({ f_V:=(0:Int),f_B:=(Vector.replicate 16 (0:Int):(Vector Int 16)) }:S_api_Addr) }:S_aggregate_Range) with f_From:=(lget t7 i12).f_A } with f_To:=t38 }]) (wr .i64 (i12+1)) else none) else (aggregate_last (lget t7 i12)>>=fun t44=>if (0:Int)≤wr .i64 ((i11.length:Int)-1)∧wr .i64 ((i11.length:Int)-1)<(i11.length:Int) then addr_Less ((lget i11 (wr .i64 ((i11.length:Int)-1))).f_To) t44>>=fun t50=>if t50=true then (if (0:Int)≤wr .i64 ((i11.length:Int)-1)∧wr .i64 ((i11.length:Int)-1)<(i11.length:Int) then aggregate_Ranges.l0 t7 (lset i11 (wr .i64 ((i11.length:Int)-1)) ({ (lget i11 (wr .i64 ((i11.length:Int)-1))) with f_To:=t44 })) (wr .i64 (i12+1)) else none) else (aggregate_Ranges.l0 t7 i11 (wr .i64 (i12+1))) else none) else none) else none) else (some i11)
 partial_fixpoint
def aggregate_Ranges(x0:List S_api_Prefix):Option (List S_aggregate_Range) :=
 slices_Clone_api_Prefix x0>>=fun t1=>slices_DeleteFunc_api_Prefix__aggregate_Ranges_1 t1>>=fun t4=>sort_Prefix t4>>=fun t7=>aggregate_Ranges.l0 t7 ([]:List S_aggregate_Range) 0>>=fun q10=>some q10
set_option maxHeartbeats 3200000 in
theorem aggregate_Ranges_ok(x0:List S_api_Prefix)(p0_:Option Addr)(c0_:Nat)(r:List S_aggregate_Range)(hF:aggregate_Ranges x0=some r)(w:World)(hr0:Row c_api_Prefix w p0_ c0_ x0) :
    Calls Try.prog 19 #[.slice p0_ x0.length c0_] w (fun e w'=>∃ p cap,e=.returned (.slice p r.length cap)∧Own c_aggregate_Range 26 w.heap.size w' p cap r∧Below w.heap.size w w'):=by
 unfold aggregate_Ranges at hF
 refine ce (l:=[.slice p0_ x0.length c0_]) func19 rfl rfl ?_
 refine at_start ?_
 refine sr (aa (nwx [0] ?_))
 refine am ?_
 obtain ⟨t1,ht1,hF⟩:=bM hF
 refine at_callO (c:=c_api_Prefix) (e:=37) (ys:=t1) (V:=fun p cap=>.slice p t1.length cap) func45 rfl (by kernel_rfl) rfl rfl (fun w hw=>slices_Clone_api_Prefix_ok _ _ _ _ ht1 w (hr0.below hw.below)) ?_
 intro p2 c3
 obtain ⟨t4,ht4,hF⟩:=bM hF
 refine at_callG (V:=fun p cap=>.slice p t4.length cap) (T:=fun p cap=>[rowE c_api_Prefix 37 p cap t4]) func44 rfl (by kernel_rfl) rfl rfl (fun w hw=>slices_DeleteFunc_api_Prefix__aggregate_Ranges_1_ok ht4 hw) ?_
 intro p5 c6
 refine aa (nwx [3] ?_)
 refine am ?_
 obtain ⟨t7,ht7,hF⟩:=bM hF
 refine at_callN (v:=.tuple #[]) (T:=[rowE c_api_Prefix 37 p5 c6 t7]) func48 rfl (by kernel_rfl) rfl rfl (fun w hw=>sort_Prefix_ok ht7 .z hw) ?_
 refine at_ov (t:=3) rfl (show Value.slice p5 (List.length t4) c6=.slice p5 (List.length t7) c6 from congrArg (fun n_=>Value.slice p5 n_ c6) ((sort_Prefix_len ht7).symm)) ?_
 refine at_ov (t:=12) rfl (show Value.slice p5 (List.length t4) c6=.slice p5 (List.length t7) c6 from congrArg (fun n_=>Value.slice p5 n_ c6) ((sort_Prefix_len ht7).symm)) ?_
 refine ns (aa (nt (qs (sr (am ?_)))))
 refine aw (r_len_sl underlying27 rfl) ?_
 refine am (nwq [16,15,14,4] ?_)
 refine qb ?_
 refine at_own_nil c_aggregate_Range 26 ?_
 obtain ⟨q10,hq10,hF⟩:=bM hF
 refine wq [16,15,14,4] ?_
 refine at_loop_n (B:=0) (A:=fun Y=>∀ (p15:Option Addr) (c16:Nat),At 60 [(4,.slice p15 q10.length c16)] (Wd w [rowE c_aggregate_Range 26 p15 c16 q10]) Y) ?_ ?_
 ·intro K
  refine aggregate_Ranges.l0.partial_correctness t7 (motive:=fun i11 i12 x=>KN (fun Y=>∀ (p15:Option Addr) (c16:Nat),At 60 [(4,.slice p15 x.length c16)] (Wd w [rowE c_aggregate_Range 26 p15 c16 x]) Y) _ 0→Round (fun Y=>∀ (p13:Option Addr) (c14:Nat),At 60 [(4,.slice p13 i11.length c14),(14,.slice p5 t7.length c6),(15,.int .i64 (t7.length:Int)),(16,.int .i64 i12)] (Wd w [rowE c_aggregate_Range 26 p13 c14 i11,rowE c_api_Prefix 37 p5 c6 t7]) Y) _ _ _) ?_ _ _ _ hq10 K none 0
  ·clear K hF
   intro g ih i11 i12 x hF K p13 c14
   refine at_round ?_
   refine sr (aw xl (nwq [17,16,15,14,4] ?_))
   refine qs ?_
   obtain ⟨h17,hF⟩|⟨h17,hF⟩:=oi hF
   ·refine ct h17 ?_
    refine sn (qs ?_)
    refine qb ?_
    refine sr ?_
    obtain ⟨h18,hF⟩:=gd hF
    refine at_pure (φ:=∃ b o,p5=some ⟨b,o,none⟩) (fun _ hw=>row_ptr (hw.own (.s .z)).row h18) ?_
    rintro ⟨b20,o21,hp19⟩
    refine aw (r_idx underlying27 sizeOf37 rfl rfl h18 hp19) ?_
    refine aw (r_load_aggc (c:=c_api_Prefix) (z:=lget t7 i12) isAgg37 sizeOf37 rfl (fun w1 hw=>row_cell (W:=fun w1=>w1=_) (fun w1 h=>by subst h;exact Below.refl _ _) (hw.own (.s .z)).row h18 hp19 _ rfl)) ?_
    refine al (cs:=Cd.cs c_api_Prefix zv2) zeroValue37 ?_
    intro b22
    refine at_store (c:=c_api_Prefix) (z:=lget t7 i12) .z lw sizeOf37 rfl rfl rfl ?_
    refine ns (am ?_)
    refine aw (r_len_sl underlying43 rfl) ?_
    refine aa (nt (qs (qs (wq [16,15,14,7,6,4] ?_))))
    obtain ⟨h23,hF⟩|⟨h23,hF⟩:=oi hF
    ·skip
     refine at_inv [.q 22 (fun g24=>.int .i64 (i11.length:Int)) [] 0 0,.q 23 (fun g24=>.bool ((i11.length:Int)==0)) [0] 0 0,.q 24 (fun g24=>.bool true) [1] 0 0,.q 25 (fun g24=>undef) [2] 0 0,.q 26 (fun g24=>undef) [2] 0 0,.q 27 (fun g24=>undef) [2,4] 0 0,.q 28 (fun g24=>undef) [2,3,5] 0 0,.q 29 (fun g24=>undef) [2,6] 0 0,.q 30 (fun g24=>undef) [2] 0 0,.q 31 (fun g24=>undef) [2,7,8] 0 0,.q 32 (fun g24=>undef) [2,9] 0 0,.q 33 (fun g24=>.bool true) [2,10] 0 0] (fun g24 s=>match s with | _=>(Wd w [cellsE b22 (Cd.cs c_api_Prefix (lget t7 i12)) 37,rowE c_aggregate_Range 26 p13 c14 i11,rowE c_api_Prefix 37 p5 c6 t7])) 0 (by kernel_rfl) (by kernel_rfl) (by kernel_rfl) (by kernel_rfl) (by kernel_rfl) ⟨fun _ _ _=>rfl,fun _ _ _=>rfl,fun _ _ _=>rfl,fun _ _ _=>rfl,fun _ _ _=>rfl,fun _ _ _=>rfl,fun _ _ _=>rfl,fun _ _ _=>rfl,fun _ _ _=>rfl,fun _ _ _=>rfl,fun _ _ _=>rfl,fun _ _ _=>rfl,trivial⟩ (by kernel_rfl) (fun w_ h=>⟨fun _=>g3 0 none 0 none w_,h.drew⟩) ⟨?_,?_,?_,?_,?_,?_,?_,?_,?_,?_,?_,?_,trivial⟩ ?_
     ·intro Lx g24 s K hl hh k
      show At 60 ((4,_)::(6,_)::(7,_)::(14,_)::(15,_)::(16,_)::Lx) _ _
      refine am ?_
      exact at_nil k
     ·intro Lx g24 s K hl hh k
      show At 60 ((22,_)::(4,_)::(6,_)::(7,_)::(14,_)::(15,_)::(16,_)::Lx) _ _
      refine aw xq ?_
      exact at_nil k
     ·intro Lx g24 s K hl hh k
      show At 60 ((23,_)::(4,_)::(6,_)::(7,_)::(14,_)::(15,_)::(16,_)::Lx) _ _
      refine am ?_
      exact at_nil (at_cast h23 k)
     ·intro Lx g24 s K hl hh k
      show At 60 ((24,_)::(4,_)::(6,_)::(7,_)::(14,_)::(15,_)::(16,_)::Lx) _ _
      refine gn ?_
      exact at_nil k
     ·intro Lx g24 s K hl hh k
      show At 60 ((24,_)::(4,_)::(6,_)::(7,_)::(14,_)::(15,_)::(16,_)::Lx) _ _
      refine gn ?_
      exact at_nil k
     ·intro Lx g24 s K hl hh k
      show At 60 ((24,_)::(26,_)::(4,_)::(6,_)::(7,_)::(14,_)::(15,_)::(16,_)::Lx) _ _
      refine gn ?_
      exact at_nil k
     ·intro Lx g24 s K hl hh k
      show At 60 ((24,_)::(25,_)::(27,_)::(4,_)::(6,_)::(7,_)::(14,_)::(15,_)::(16,_)::Lx) _ _
      refine gn ?_
      exact at_nil k
     ·intro Lx g24 s K hl hh k
      show At 60 ((24,_)::(28,_)::(4,_)::(6,_)::(7,_)::(14,_)::(15,_)::(16,_)::Lx) _ _
      obtain rfl:s=0:=by omega
      refine gn ?_
      exact at_nil k
     ·intro Lx g24 s K hl hh k
      show At 60 ((24,_)::(4,_)::(6,_)::(7,_)::(14,_)::(15,_)::(16,_)::Lx) _ _
      obtain rfl:s=0:=by omega
      refine gn ?_
      exact at_nil k
     ·intro Lx g24 s K hl hh k
      show At 60 ((24,_)::(29,_)::(30,_)::(4,_)::(6,_)::(7,_)::(14,_)::(15,_)::(16,_)::Lx) _ _
      obtain rfl:s=0:=by omega
      refine gn ?_
      exact at_nil k
     ·intro Lx g24 s K hl hh k
      show At 60 ((24,_)::(31,_)::(4,_)::(6,_)::(7,_)::(14,_)::(15,_)::(16,_)::Lx) _ _
      refine gn ?_
      exact at_nil k
     ·intro Lx g24 s K hl hh k
      show At 60 ((24,_)::(32,_)::(4,_)::(6,_)::(7,_)::(14,_)::(15,_)::(16,_)::Lx) _ _
      refine aw xp ?_
      exact at_nil k
     intro g24
     show At 60 [(22,_),(23,_),(24,_),(25,_),(26,_),(27,_),(28,_),(29,_),(30,_),(31,_),(32,_),(33,_),(4,_),(6,_),(7,_),(14,_),(15,_),(16,_)] _ _
     refine wq [33,16,15,14,7,6,4] ?_
     refine tn ?_
     refine ct rfl ?_
     refine qs (wq [16,15,14,6,4] ?_)
     obtain ⟨t25,ht25,hF⟩:=bM hF
     refine at_invT [.q 34 (fun g27=>.slice p13 i11.length c14) [] 0 1,.q 35 (fun g27=>.pointer (some ⟨b22,0+0,none⟩)) [] 0 0,.q 36 (fun g27=>.agg (Cd.cs c_api_Addr ((lget t7 i12).f_A)).toArray) [1] 0 0,.q 37 (fun g27=>.agg (Cd.cs c_api_Prefix (lget t7 i12)).toArray) [] 0 0,.q 38 (fun g27=>.agg (Cd.cs c_api_Addr t25).toArray) [3] 0 0,.q 39 (fun g27=>.agg (Cd.cs c_aggregate_Range ({ { zv3 with f_From:=(lget t7 i12).f_A } with f_To:=t25 })).toArray) [2,4] 0 0,.al 0 40 (fun g27=>.slice (some ⟨((g27 0).1),0,none⟩) ([{ { zv3 with f_From:=(lget t7 i12).f_A } with f_To:=t25 }]:List S_aggregate_Range).length 1) [5]] (fun g27 s=>match s with | 0=>(Wd w [cellsE b22 (Cd.cs c_api_Prefix (lget t7 i12)) 37,rowE c_aggregate_Range 26 p13 c14 i11,rowE c_api_Prefix 37 p5 c6 t7]) | _=>(Wd w [cellsE ((g27 0).1) (c_aggregate_Range.all ([{ { zv3 with f_From:=(lget t7 i12).f_A } with f_To:=t25 }]:List S_aggregate_Range)) 26,cellsE b22 (Cd.cs c_api_Prefix (lget t7 i12)) 37,rowE c_aggregate_Range 26 p13 c14 i11,rowE c_api_Prefix 37 p5 c6 t7])) 1 7 (by kernel_rfl) (by kernel_rfl) (by kernel_rfl) (by kernel_rfl) (by kernel_rfl) (by kernel_rfl) ⟨fun _ _ _=>rfl,fun _ _ _=>rfl,fun _ _ _=>rfl,fun _ _ _=>rfl,fun _ _ _=>rfl,fun _ _ _=>rfl,fun g27 g2 h=>by show (.slice (some ⟨((g27 0).1),0,none⟩) ([{ { zv3 with f_From:=(lget t7 i12).f_A } with f_To:=t25 }]:List S_aggregate_Range).length 1:Value)=.slice (some ⟨((g2 0).1),0,none⟩) ([{ { zv3 with f_From:=(lget t7 i12).f_A } with f_To:=t25 }]:List S_aggregate_Range).length 1;rw [h 0 (show 0<1 by decide)],trivial⟩ (by kernel_rfl) (fun w_ h=>⟨fun _=>g3 0 none 0 none w_,h.drew⟩) ⟨?_,?_,?_,?_,?_,?_,?_,trivial⟩ ?_
     ·intro Lx g27 s K hl hh k
      show At 60 ((4,_)::(6,_)::(14,_)::(15,_)::(16,_)::Lx) _ _
      refine am ?_
      exact at_nil k
     ·intro Lx g27 s K hl hh k
      show At 60 ((4,_)::(6,_)::(14,_)::(15,_)::(16,_)::Lx) _ _
      refine fa 0 underlying37 rfl sizeOf24 ?_
      exact at_nil k
     ·intro Lx g27 s K hl hh k
      show At 60 ((35,_)::(4,_)::(6,_)::(14,_)::(15,_)::(16,_)::Lx) _ _
      obtain rfl:s=0:=by omega
      refine aw (r_load_aggc (c:=c_api_Addr) (z:=(lget t7 i12).f_A) isAgg24 sizeOf24 rfl (lens_cell .z (Lens.comp lw (fun z=>{ lget t7 i12 with f_A:=z }) (c_api_Prefix_f_A (lget t7 i12))))) ?_
      exact at_nil k
     ·intro Lx g27 s K hl hh k
      show At 60 ((4,_)::(6,_)::(14,_)::(15,_)::(16,_)::Lx) _ _
      obtain rfl:s=0:=by omega
      refine aw (r_load_aggc (c:=c_api_Prefix) (z:=lget t7 i12) isAgg37 sizeOf37 rfl (lens_cell .z lw)) ?_
      exact at_nil k
     ·intro Lx g27 s K hl hh k
      show At 60 ((37,_)::(4,_)::(6,_)::(14,_)::(15,_)::(16,_)::Lx) _ _
      obtain rfl:s=0:=by omega
      refine cB func38 rfl (fun w hw=>aggregate_last_ok _ _ ht25 w) ?_
      exact at_nil k
     ·intro Lx g27 s K hl hh k
      show At 60 ((36,_)::(38,_)::(4,_)::(6,_)::(14,_)::(15,_)::(16,_)::Lx) _ _
      obtain rfl:s=0:=by omega
      refine aw (r_build_struct (zs:=Cd.cs c_aggregate_Range zv3) (cs:=Cd.cs c_aggregate_Range ({ { zv3 with f_From:=(lget t7 i12).f_A } with f_To:=t25 })) underlying26 zeroValue26 rfl (places_aggregate_Range_26) rfl (fill_step (c:=c_api_Addr) (z:=(lget t7 i12).f_A) rfl (c_aggregate_Range_f_From zv3) rfl (fill_step (c:=c_api_Addr) (z:=t25) rfl (c_aggregate_Range_f_To ({ zv3 with f_From:=(lget t7 i12).f_A })) rfl rfl))) ?_
      exact at_nil k
     ·intro Lx g27 K k
      show At 60 ((39,_)::(4,_)::(6,_)::(14,_)::(15,_)::(16,_)::Lx) _ _
      refine at_litL (c:=c_aggregate_Range) ([zv3]:List S_aggregate_Range) ([{ { zv3 with f_From:=(lget t7 i12).f_A } with f_To:=t25 }]:List S_aggregate_Range) underlying43 sizeOf26 zeroValue26 rfl rfl rfl (by kernel_rfl) (fill_step (c:=c_aggregate_Range) (z:={ { zv3 with f_From:=(lget t7 i12).f_A } with f_To:=t25 }) rfl (Lens.all c_aggregate_Range ([zv3]:List S_aggregate_Range) 0 (by first | decide | exact Nat.le_of_ble_eq_true rfl)) rfl rfl) rfl ?_
      intro b26
      exact at_nil (k (g3 b26 none 0 none w))
     intro g27
     show At 60 [(34,_),(35,_),(36,_),(37,_),(38,_),(39,_),(40,_),(4,_),(6,_),(14,_),(15,_),(16,_)] _ _
     obtain ⟨h28,hF⟩:=gd hF
     refine at_append (z:=.agg (Cd.cs c_aggregate_Range zv3).toArray) (c:=c_aggregate_Range) (ys:=([{ { zv3 with f_From:=(lget t7 i12).f_A } with f_To:=t25 }]:List S_aggregate_Range)) (.s (.s .z)) underlying43 infoA426 (by kernel_rfl) (by kernel_rfl) rfl rfl rfl rfl (fun _ hw=>cells_src (hw.ok (Upd.mem .z))) (by kernel_rfl) h28 (app_small h28) rfl ?_
     intro p29 c30
     refine aa (qn (dz (dz (wq [16,15,14,4] ?_))))
     refine tn ?_
     refine at_exit ?_
     refine te (at_blk_same (tn ?_))
     refine qr (aw xa (am (nwq [16,15,14,4] ?_)))
     exact at_weak_k (ih _ _ _ hF K p29 c30) ⟨rfl,rfl,rfl,rfl,trivial⟩
    skip
    obtain ⟨h31,hF⟩:=gd hF
    refine at_pure (φ:=∃ b o,p13=some ⟨b,o,none⟩) (fun _ hw=>row_ptr (hw.own (.s .z)).row h31) ?_
    rintro ⟨b33,o34,hp32⟩
    obtain ⟨t35,ht35,hF⟩:=bM hF
    refine at_inv [.q 22 (fun g36=>.int .i64 (i11.length:Int)) [] 0 0,.q 23 (fun g36=>.bool ((i11.length:Int)==0)) [0] 0 0,.q 24 (fun g36=>.bool false) [1] 0 0,.q 25 (fun g36=>.slice p13 i11.length c14) [2] 0 0,.q 26 (fun g36=>.int .i64 (i11.length:Int)) [2] 0 0,.q 27 (fun g36=>.int .i64 (wr .i64 ((i11.length:Int)-1))) [2,4] 0 0,.q 28 (fun g36=>.pointer (some ⟨b33,o34+Int.toNat (wr .i64 ((i11.length:Int)-1))*34,none⟩)) [2,3,5] 0 0,.q 29 (fun g36=>.agg (Cd.cs c_aggregate_Range (lget i11 (wr .i64 ((i11.length:Int)-1)))).toArray) [2,6] 0 0,.q 30 (fun g36=>.agg (Cd.cs c_api_Prefix (lget t7 i12)).toArray) [2] 0 0,.q 31 (fun g36=>.bool t35) [2,7,8] 0 0,.q 32 (fun g36=>.bool (!t35)) [2,9] 0 0,.q 33 (fun g36=>.bool (!t35)) [2,10] 0 0] (fun g36 s=>match s with | _=>(Wd w [cellsE b22 (Cd.cs c_api_Prefix (lget t7 i12)) 37,rowE c_aggregate_Range 26 p13 c14 i11,rowE c_api_Prefix 37 p5 c6 t7])) 0 (by kernel_rfl) (by kernel_rfl) (by kernel_rfl) (by kernel_rfl) (by kernel_rfl) ⟨fun _ _ _=>rfl,fun _ _ _=>rfl,fun _ _ _=>rfl,fun _ _ _=>rfl,fun _ _ _=>rfl,fun _ _ _=>rfl,fun _ _ _=>rfl,fun _ _ _=>rfl,fun _ _ _=>rfl,fun _ _ _=>rfl,fun _ _ _=>rfl,fun _ _ _=>rfl,trivial⟩ (by kernel_rfl) (fun w_ h=>⟨fun _=>g3 0 none 0 none w_,h.drew⟩) ⟨?_,?_,?_,?_,?_,?_,?_,?_,?_,?_,?_,?_,trivial⟩ ?_
    ·intro Lx g36 s K hl hh k
     show At 60 ((4,_)::(6,_)::(7,_)::(14,_)::(15,_)::(16,_)::Lx) _ _
     refine am ?_
     exact at_nil k
    ·intro Lx g36 s K hl hh k
     show At 60 ((22,_)::(4,_)::(6,_)::(7,_)::(14,_)::(15,_)::(16,_)::Lx) _ _
     refine aw xq ?_
     exact at_nil k
    ·intro Lx g36 s K hl hh k
     show At 60 ((23,_)::(4,_)::(6,_)::(7,_)::(14,_)::(15,_)::(16,_)::Lx) _ _
     refine am ?_
     exact at_nil (at_cast h23 k)
    ·intro Lx g36 s K hl hh k
     show At 60 ((24,_)::(4,_)::(6,_)::(7,_)::(14,_)::(15,_)::(16,_)::Lx) _ _
     refine gy ?_
     refine am ?_
     exact at_nil k
    ·intro Lx g36 s K hl hh k
     show At 60 ((24,_)::(4,_)::(6,_)::(7,_)::(14,_)::(15,_)::(16,_)::Lx) _ _
     refine gy ?_
     refine am ?_
     exact at_nil k
    ·intro Lx g36 s K hl hh k
     show At 60 ((24,_)::(26,_)::(4,_)::(6,_)::(7,_)::(14,_)::(15,_)::(16,_)::Lx) _ _
     refine gy ?_
     refine aw (r_isub rfl rfl) ?_
     exact at_nil k
    ·intro Lx g36 s K hl hh k
     show At 60 ((24,_)::(25,_)::(27,_)::(4,_)::(6,_)::(7,_)::(14,_)::(15,_)::(16,_)::Lx) _ _
     refine gy ?_
     refine aw (r_idx underlying43 sizeOf26 rfl rfl h31 hp32) ?_
     exact at_nil k
    ·intro Lx g36 s K hl hh k
     show At 60 ((24,_)::(28,_)::(4,_)::(6,_)::(7,_)::(14,_)::(15,_)::(16,_)::Lx) _ _
     refine gy ?_
     obtain rfl:s=0:=by omega
     refine aw (r_load_aggc (c:=c_aggregate_Range) (z:=lget i11 (wr .i64 ((i11.length:Int)-1))) isAgg26 sizeOf26 rfl (fun w1 hw=>row_cell (W:=fun w1=>w1=_) (fun w1 h=>by subst h;exact Below.refl _ _) (hw.own (.s .z)).row h31 hp32 _ rfl)) ?_
     exact at_nil k
    ·intro Lx g36 s K hl hh k
     show At 60 ((24,_)::(4,_)::(6,_)::(7,_)::(14,_)::(15,_)::(16,_)::Lx) _ _
     refine gy ?_
     obtain rfl:s=0:=by omega
     refine aw (r_load_aggc (c:=c_api_Prefix) (z:=lget t7 i12) isAgg37 sizeOf37 rfl (lens_cell .z lw)) ?_
     exact at_nil k
    ·intro Lx g36 s K hl hh k
     show At 60 ((24,_)::(29,_)::(30,_)::(4,_)::(6,_)::(7,_)::(14,_)::(15,_)::(16,_)::Lx) _ _
     refine gy ?_
     obtain rfl:s=0:=by omega
     refine cB func50 rfl (fun w hw=>aggregate_joins_ok _ _ _ ht35 w) ?_
     exact at_nil k
    ·intro Lx g36 s K hl hh k
     show At 60 ((24,_)::(31,_)::(4,_)::(6,_)::(7,_)::(14,_)::(15,_)::(16,_)::Lx) _ _
     refine gy ?_
     refine aw (r_not rfl) ?_
     exact at_nil k
    ·intro Lx g36 s K hl hh k
     show At 60 ((24,_)::(32,_)::(4,_)::(6,_)::(7,_)::(14,_)::(15,_)::(16,_)::Lx) _ _
     refine aw xp ?_
     exact at_nil k
    intro g36
    show At 60 [(22,_),(23,_),(24,_),(25,_),(26,_),(27,_),(28,_),(29,_),(30,_),(31,_),(32,_),(33,_),(4,_),(6,_),(7,_),(14,_),(15,_),(16,_)] _ _
    refine wq [33,16,15,14,7,6,4] ?_
    refine tn ?_
    obtain ⟨h37,hF⟩|⟨h37,hF⟩:=oi hF
    ·refine ct h37 ?_
     refine qs (wq [16,15,14,6,4] ?_)
     obtain ⟨t38,ht38,hF⟩:=bM hF
     refine at_invT [.q 34 (fun g40=>.slice p13 i11.length c14) [] 0 1,.q 35 (fun g40=>.pointer (some ⟨b22,0+0,none⟩)) [] 0 0,.q 36 (fun g40=>.agg (Cd.cs c_api_Addr ((lget t7 i12).f_A)).toArray) [1] 0 0,.q 37 (fun g40=>.agg (Cd.cs c_api_Prefix (lget t7 i12)).toArray) [] 0 0,.q 38 (fun g40=>.agg (Cd.cs c_api_Addr t38).toArray) [3] 0 0,.q 39 (fun g40=>.agg (Cd.cs c_aggregate_Range ({ { zv3 with f_From:=(lget t7 i12).f_A } with f_To:=t38 })).toArray) [2,4] 0 0,.al 0 40 (fun g40=>.slice (some ⟨((g40 0).1),0,none⟩) ([{ { zv3 with f_From:=(lget t7 i12).f_A } with f_To:=t38 }]:List S_aggregate_Range).length 1) [5]] (fun g40 s=>match s with | 0=>(Wd w [cellsE b22 (Cd.cs c_api_Prefix (lget t7 i12)) 37,rowE c_aggregate_Range 26 p13 c14 i11,rowE c_api_Prefix 37 p5 c6 t7]) | _=>(Wd w [cellsE ((g40 0).1) (c_aggregate_Range.all ([{ { zv3 with f_From:=(lget t7 i12).f_A } with f_To:=t38 }]:List S_aggregate_Range)) 26,cellsE b22 (Cd.cs c_api_Prefix (lget t7 i12)) 37,rowE c_aggregate_Range 26 p13 c14 i11,rowE c_api_Prefix 37 p5 c6 t7])) 1 7 (by kernel_rfl) (by kernel_rfl) (by kernel_rfl) (by kernel_rfl) (by kernel_rfl) (by kernel_rfl) ⟨fun _ _ _=>rfl,fun _ _ _=>rfl,fun _ _ _=>rfl,fun _ _ _=>rfl,fun _ _ _=>rfl,fun _ _ _=>rfl,fun g40 g2 h=>by show (.slice (some ⟨((g40 0).1),0,none⟩) ([{ { zv3 with f_From:=(lget t7 i12).f_A } with f_To:=t38 }]:List S_aggregate_Range).length 1:Value)=.slice (some ⟨((g2 0).1),0,none⟩) ([{ { zv3 with f_From:=(lget t7 i12).f_A } with f_To:=t38 }]:List S_aggregate_Range).length 1;rw [h 0 (show 0<1 by decide)],trivial⟩ (by kernel_rfl) (fun w_ h=>⟨fun _=>g3 0 none 0 none w_,h.drew⟩) ⟨?_,?_,?_,?_,?_,?_,?_,trivial⟩ ?_
     ·intro Lx g40 s K hl hh k
      show At 60 ((4,_)::(6,_)::(14,_)::(15,_)::(16,_)::Lx) _ _
      refine am ?_
      exact at_nil k
     ·intro Lx g40 s K hl hh k
      show At 60 ((4,_)::(6,_)::(14,_)::(15,_)::(16,_)::Lx) _ _
      refine fa 0 underlying37 rfl sizeOf24 ?_
      exact at_nil k
     ·intro Lx g40 s K hl hh k
      show At 60 ((35,_)::(4,_)::(6,_)::(14,_)::(15,_)::(16,_)::Lx) _ _
      obtain rfl:s=0:=by omega
      refine aw (r_load_aggc (c:=c_api_Addr) (z:=(lget t7 i12).f_A) isAgg24 sizeOf24 rfl (lens_cell .z (Lens.comp lw (fun z=>{ lget t7 i12 with f_A:=z }) (c_api_Prefix_f_A (lget t7 i12))))) ?_
      exact at_nil k
     ·intro Lx g40 s K hl hh k
      show At 60 ((4,_)::(6,_)::(14,_)::(15,_)::(16,_)::Lx) _ _
      obtain rfl:s=0:=by omega
      refine aw (r_load_aggc (c:=c_api_Prefix) (z:=lget t7 i12) isAgg37 sizeOf37 rfl (lens_cell .z lw)) ?_
      exact at_nil k
     ·intro Lx g40 s K hl hh k
      show At 60 ((37,_)::(4,_)::(6,_)::(14,_)::(15,_)::(16,_)::Lx) _ _
      obtain rfl:s=0:=by omega
      refine cB func38 rfl (fun w hw=>aggregate_last_ok _ _ ht38 w) ?_
      exact at_nil k
     ·intro Lx g40 s K hl hh k
      show At 60 ((36,_)::(38,_)::(4,_)::(6,_)::(14,_)::(15,_)::(16,_)::Lx) _ _
      obtain rfl:s=0:=by omega
      refine aw (r_build_struct (zs:=Cd.cs c_aggregate_Range zv3) (cs:=Cd.cs c_aggregate_Range ({ { zv3 with f_From:=(lget t7 i12).f_A } with f_To:=t38 })) underlying26 zeroValue26 rfl (places_aggregate_Range_26) rfl (fill_step (c:=c_api_Addr) (z:=(lget t7 i12).f_A) rfl (c_aggregate_Range_f_From zv3) rfl (fill_step (c:=c_api_Addr) (z:=t38) rfl (c_aggregate_Range_f_To ({ zv3 with f_From:=(lget t7 i12).f_A })) rfl rfl))) ?_
      exact at_nil k
     ·intro Lx g40 K k
      show At 60 ((39,_)::(4,_)::(6,_)::(14,_)::(15,_)::(16,_)::Lx) _ _
      refine at_litL (c:=c_aggregate_Range) ([zv3]:List S_aggregate_Range) ([{ { zv3 with f_From:=(lget t7 i12).f_A } with f_To:=t38 }]:List S_aggregate_Range) underlying43 sizeOf26 zeroValue26 rfl rfl rfl (by kernel_rfl) (fill_step (c:=c_aggregate_Range) (z:={ { zv3 with f_From:=(lget t7 i12).f_A } with f_To:=t38 }) rfl (Lens.all c_aggregate_Range ([zv3]:List S_aggregate_Range) 0 (by first | decide | exact Nat.le_of_ble_eq_true rfl)) rfl rfl) rfl ?_
      intro b39
      exact at_nil (k (g3 b39 none 0 none w))
     intro g40
     show At 60 [(34,_),(35,_),(36,_),(37,_),(38,_),(39,_),(40,_),(4,_),(6,_),(14,_),(15,_),(16,_)] _ _
     obtain ⟨h41,hF⟩:=gd hF
     refine at_append (z:=.agg (Cd.cs c_aggregate_Range zv3).toArray) (c:=c_aggregate_Range) (ys:=([{ { zv3 with f_From:=(lget t7 i12).f_A } with f_To:=t38 }]:List S_aggregate_Range)) (.s (.s .z)) underlying43 infoA426 (by kernel_rfl) (by kernel_rfl) rfl rfl rfl rfl (fun _ hw=>cells_src (hw.ok (Upd.mem .z))) (by kernel_rfl) h41 (app_small h41) rfl ?_
     intro p42 c43
     refine aa (qn (dz (dz (wq [16,15,14,4] ?_))))
     refine tn ?_
     refine at_exit ?_
     refine te (at_blk_same (tn ?_))
     refine qr (aw xa (am (nwq [16,15,14,4] ?_)))
     exact at_weak_k (ih _ _ _ hF K p42 c43) ⟨rfl,rfl,rfl,rfl,trivial⟩
    refine cf h37 ?_
    refine sns ?_
    refine aw (r_load_aggc (c:=c_api_Prefix) (z:=lget t7 i12) isAgg37 sizeOf37 rfl (lens_cell .z lw)) ?_
    obtain ⟨t44,ht44,hF⟩:=bM hF
    refine cB func38 rfl (fun w hw=>aggregate_last_ok _ _ ht44 w) ?_
    refine al (cs:=Cd.cs c_api_Addr zv0) zeroValue24 ?_
    intro b45
    refine at_store (c:=c_api_Addr) (z:=t44) .z lw sizeOf24 rfl rfl rfl ?_
    refine qn ?_
    refine at_drop (H:=_) (.s .z) ?_
    refine tn (qs (wq [16,15,14,8,7,4] ?_))
    obtain ⟨h46,hF⟩:=gd hF
    refine at_pure (φ:=∃ b o,p13=some ⟨b,o,none⟩) (fun _ hw=>row_ptr (hw.own (.s .z)).row h46) ?_
    rintro ⟨b48,o49,hp47⟩
    obtain ⟨t50,ht50,hF⟩:=bM hF
    refine at_inv [.q 44 (fun g51=>.slice p13 i11.length c14) [] 0 0,.q 45 (fun g51=>.int .i64 (i11.length:Int)) [] 0 0,.q 46 (fun g51=>.int .i64 (wr .i64 ((i11.length:Int)-1))) [1] 0 0,.q 47 (fun g51=>.pointer (some ⟨b48,o49+Int.toNat (wr .i64 ((i11.length:Int)-1))*34,none⟩)) [0,2] 0 0,.q 48 (fun g51=>.pointer (some ⟨b48,o49+Int.toNat (wr .i64 ((i11.length:Int)-1))*34+17,none⟩)) [3] 0 0,.q 49 (fun g51=>.agg (Cd.cs c_api_Addr ((lget i11 (wr .i64 ((i11.length:Int)-1))).f_To)).toArray) [4] 0 0,.q 50 (fun g51=>.agg (Cd.cs c_api_Addr t44).toArray) [] 0 0,.q 51 (fun g51=>.bool t50) [5,6] 0 0] (fun g51 s=>match s with | _=>(Wd w [cellsE b45 (Cd.cs c_api_Addr t44) 24,rowE c_aggregate_Range 26 p13 c14 i11,rowE c_api_Prefix 37 p5 c6 t7])) 0 (by kernel_rfl) (by kernel_rfl) (by kernel_rfl) (by kernel_rfl) (by kernel_rfl) ⟨fun _ _ _=>rfl,fun _ _ _=>rfl,fun _ _ _=>rfl,fun _ _ _=>rfl,fun _ _ _=>rfl,fun _ _ _=>rfl,fun _ _ _=>rfl,fun _ _ _=>rfl,trivial⟩ (by kernel_rfl) (fun w_ h=>⟨fun _=>g3 0 none 0 none w_,h.drew⟩) ⟨?_,?_,?_,?_,?_,?_,?_,?_,trivial⟩ ?_
    ·intro Lx g51 s K hl hh k
     show At 60 ((4,_)::(7,_)::(8,_)::(14,_)::(15,_)::(16,_)::Lx) _ _
     refine am ?_
     exact at_nil k
    ·intro Lx g51 s K hl hh k
     show At 60 ((4,_)::(7,_)::(8,_)::(14,_)::(15,_)::(16,_)::Lx) _ _
     refine am ?_
     exact at_nil k
    ·intro Lx g51 s K hl hh k
     show At 60 ((45,_)::(4,_)::(7,_)::(8,_)::(14,_)::(15,_)::(16,_)::Lx) _ _
     refine aw (r_isub rfl rfl) ?_
     exact at_nil k
    ·intro Lx g51 s K hl hh k
     show At 60 ((44,_)::(46,_)::(4,_)::(7,_)::(8,_)::(14,_)::(15,_)::(16,_)::Lx) _ _
     refine aw (r_idx underlying43 sizeOf26 rfl rfl h46 hp47) ?_
     exact at_nil k
    ·intro Lx g51 s K hl hh k
     show At 60 ((47,_)::(4,_)::(7,_)::(8,_)::(14,_)::(15,_)::(16,_)::Lx) _ _
     refine fa 17 underlying26 rfl sizeOf24 ?_
     exact at_nil k
    ·intro Lx g51 s K hl hh k
     show At 60 ((48,_)::(4,_)::(7,_)::(8,_)::(14,_)::(15,_)::(16,_)::Lx) _ _
     obtain rfl:s=0:=by omega
     refine aw (r_load_aggc (c:=c_api_Addr) (z:=(lget i11 (wr .i64 ((i11.length:Int)-1))).f_To) isAgg24 sizeOf24 rfl (fun w1 hw=>row_lens (y:=(lget i11 (wr .i64 ((i11.length:Int)-1))).f_To) (W:=fun w1=>w1=_) (fun w1 h=>by subst h;exact Below.refl _ _) (hw.own (.s .z)).row h46 hp47 (Lens.comp lw (fun z=>{ (lget i11 (wr .i64 ((i11.length:Int)-1))) with f_To:=z }) (c_aggregate_Range_f_To (lget i11 (wr .i64 ((i11.length:Int)-1))))) _ rfl)) ?_
     exact at_nil k
    ·intro Lx g51 s K hl hh k
     show At 60 ((4,_)::(7,_)::(8,_)::(14,_)::(15,_)::(16,_)::Lx) _ _
     obtain rfl:s=0:=by omega
     refine aw (r_load_aggc (c:=c_api_Addr) (z:=t44) isAgg24 sizeOf24 rfl (lens_cell .z lw)) ?_
     exact at_nil k
    ·intro Lx g51 s K hl hh k
     show At 60 ((49,_)::(50,_)::(4,_)::(7,_)::(8,_)::(14,_)::(15,_)::(16,_)::Lx) _ _
     obtain rfl:s=0:=by omega
     refine cB func39 rfl (fun w hw=>addr_Less_ok _ _ _ ht50 w) ?_
     exact at_nil k
    intro g51
    show At 60 [(44,_),(45,_),(46,_),(47,_),(48,_),(49,_),(50,_),(51,_),(4,_),(7,_),(8,_),(14,_),(15,_),(16,_)] _ _
    refine wq [51,16,15,14,8,7,4] ?_
    refine tn ?_
    obtain ⟨h52,hF⟩|⟨h52,hF⟩:=oi hF
    ·refine ct h52 ?_
     refine qr (am (am ?_))
     refine aw (r_isub rfl rfl) ?_
     refine aw (r_load_aggc (c:=c_api_Addr) (z:=t44) isAgg24 sizeOf24 rfl (lens_cell .z lw)) ?_
     obtain ⟨h53,hF⟩:=gd hF
     refine at_pure (φ:=∃ b o,p13=some ⟨b,o,none⟩) (fun _ hw=>row_ptr (hw.own (.s .z)).row h53) ?_
     rintro ⟨b55,o56,hp54⟩
     refine aw (r_idx underlying43 sizeOf26 rfl rfl h53 hp54) ?_
     refine fa 17 underlying26 rfl sizeOf24 ?_
     refine at_storeRow (c:=c_aggregate_Range) (c':=c_api_Addr) (i:=wr .i64 ((i11.length:Int)-1)) (z:=t44) (y:={ (lget i11 (wr .i64 ((i11.length:Int)-1))) with f_To:=t44 }) (.s .z) h53 hp54 (Lens.comp lw (fun z=>{ (lget i11 (wr .i64 ((i11.length:Int)-1))) with f_To:=z }) (c_aggregate_Range_f_To (lget i11 (wr .i64 ((i11.length:Int)-1))))) (by rfl) sizeOf24 rfl rfl rfl ?_
     refine at_ov (t:=4) rfl (show Value.slice p13 (List.length i11) c14=.slice p13 (List.length (lset i11 (wr .i64 ((i11.length:Int)-1)) ({ (lget i11 (wr .i64 ((i11.length:Int)-1))) with f_To:=t44 }))) c14 from congrArg (fun n_=>Value.slice p13 n_ c14) ((lset_length _ _ _).symm)) ?_
     refine at_ov (t:=52) rfl (show Value.slice p13 (List.length i11) c14=.slice p13 (List.length (lset i11 (wr .i64 ((i11.length:Int)-1)) ({ (lget i11 (wr .i64 ((i11.length:Int)-1))) with f_To:=t44 }))) c14 from congrArg (fun n_=>Value.slice p13 n_ c14) ((lset_length _ _ _).symm)) ?_
     refine qn (dz (wq [16,15,14,4] ?_))
     refine bm ?_
     refine qr (aw xa (am (nwq [16,15,14,4] ?_)))
     exact at_weak_k (ih _ _ _ hF K p13 c14) ⟨rfl,rfl,rfl,rfl,trivial⟩
    refine cf h52 ?_
    refine at_skip ?_
    refine bm ?_
    refine qr (aw xa (am (qn (dz (wq [16,15,14,4] ?_)))))
    refine tn ?_
    exact at_weak_k (ih _ _ _ hF K p13 c14) ⟨rfl,rfl,rfl,rfl,trivial⟩
   refine cf h17 ?_
   refine at_exit ?_
   refine te (te ?_)
   refine at_drop (H:=_) (.s .z) ?_
   obtain rfl:=os hF
   exact at_weak_k (K p13 c14) ⟨rfl,trivial⟩
 skip
 intro p15 c16
 refine at_blk_same ?_
 refine tn (sr (am (aa (nwq [2] ?_))))
 refine qt ?_
 have K:=os hF
 subst K
 exact r1 (fun w1 hw=>⟨p15,c16,rfl,hw.own .z,hw.below⟩)
def aggregate_Cover.l0(t1:List S_aggregate_Range)(i7:List S_api_Prefix)(i9:Int):Option (List S_api_Prefix) :=
 if (decide (i9<(t1.length:Int)))=true then (if (0:Int)≤i9∧i9<(t1.length:Int) then aggregate_Prefixes (lget t1 i9)>>=fun t20=>if (i7.length+t20.length)*32≤140737488355328 then aggregate_Cover.l0 t1 (i7++t20) (wr .i64 (i9+1)) else none else none) else (some i7)
 partial_fixpoint
def aggregate_Cover(x0:List S_api_Prefix):Option (List S_api_Prefix) :=
 aggregate_Ranges x0>>=fun t1=>aggregate_Cover.l0 t1 ([]:List S_api_Prefix) 0>>=fun q6=>some q6
theorem aggregate_Cover_ok(x0:List S_api_Prefix)(p0_:Option Addr)(c0_:Nat)(r:List S_api_Prefix)(hF:aggregate_Cover x0=some r)(w:World)(hr0:Row c_api_Prefix w p0_ c0_ x0) :
    Calls Try.prog 18 #[.slice p0_ x0.length c0_] w (fun e w'=>∃ p cap,e=.returned (.slice p r.length cap)∧Own c_api_Prefix 37 w.heap.size w' p cap r∧Below w.heap.size w w'):=by
 unfold aggregate_Cover at hF
 refine ce (l:=[.slice p0_ x0.length c0_]) func18 rfl rfl ?_
 refine at_start ?_
 refine sr (aa (ns (aa (nt (qs (sr (am ?_)))))))
 obtain ⟨t1,ht1,hF⟩:=bM hF
 refine at_callO (c:=c_aggregate_Range) (e:=26) (ys:=t1) (V:=fun p cap=>.slice p t1.length cap) func19 rfl (by kernel_rfl) rfl rfl (fun w hw=>aggregate_Ranges_ok _ _ _ _ ht1 w (hr0.below hw.below)) ?_
 intro p2 c3
 refine aw (r_len_sl underlying43 rfl) ?_
 refine am (nwq [9,8,7,3] ?_)
 refine qb ?_
 refine at_own_nil c_api_Prefix 37 ?_
 obtain ⟨q6,hq6,hF⟩:=bM hF
 refine wq [9,8,7,3] ?_
 refine at_loop_n (B:=0) (A:=fun Y=>∀ (p12:Option Addr) (c13:Nat),At 19 [(3,.slice p12 q6.length c13)] (Wd w [rowE c_api_Prefix 37 p12 c13 q6]) Y) ?_ ?_
 ·intro K
  refine aggregate_Cover.l0.partial_correctness t1 (motive:=fun i7 i9 x=>KN (fun Y=>∀ (p12:Option Addr) (c13:Nat),At 19 [(3,.slice p12 x.length c13)] (Wd w [rowE c_api_Prefix 37 p12 c13 x]) Y) _ 0→Round (fun Y=>∀ (p10:Option Addr) (c11:Nat),At 19 [(3,.slice p10 i7.length c11),(7,.slice p2 t1.length c3),(8,.int .i64 (t1.length:Int)),(9,.int .i64 i9)] (Wd w [rowE c_api_Prefix 37 p10 c11 i7,rowE c_aggregate_Range 26 p2 c3 t1]) Y) _ _ _) ?_ _ _ _ hq6 K none 0
  ·clear K hF
   intro g ih i7 i9 x hF K p10 c11
   refine at_round ?_
   refine sr (aw xl (nwq [10,9,8,7,3] ?_))
   refine qs ?_
   obtain ⟨h14,hF⟩|⟨h14,hF⟩:=oi hF
   ·refine ct h14 ?_
    refine sn (qs ?_)
    refine qb ?_
    refine sr ?_
    obtain ⟨h15,hF⟩:=gd hF
    refine at_pure (φ:=∃ b o,p2=some ⟨b,o,none⟩) (fun _ hw=>row_ptr (hw.own (.s .z)).row h15) ?_
    rintro ⟨b17,o18,hp16⟩
    refine aw (r_idx underlying43 sizeOf26 rfl rfl h15 hp16) ?_
    refine aw (r_load_aggc (c:=c_aggregate_Range) (z:=lget t1 i9) isAgg26 sizeOf26 rfl (fun w1 hw=>row_cell (W:=fun w1=>w1=_) (fun w1 h=>by subst h;exact Below.refl _ _) (hw.own (.s .z)).row h15 hp16 _ rfl)) ?_
    refine al (cs:=Cd.cs c_aggregate_Range zv3) zeroValue26 ?_
    intro b19
    refine at_store (c:=c_aggregate_Range) (z:=lget t1 i9) .z lw sizeOf26 rfl rfl rfl ?_
    refine nt (qr (am ?_))
    refine aw (r_load_aggc (c:=c_aggregate_Range) (z:=lget t1 i9) isAgg26 sizeOf26 rfl (lens_cell .z lw)) ?_
    obtain ⟨t20,ht20,hF⟩:=bM hF
    refine at_callO (c:=c_api_Prefix) (e:=37) (ys:=t20) (V:=fun p cap=>.slice p t20.length cap) func8 rfl (by kernel_rfl) rfl rfl (fun w hw=>aggregate_Prefixes_ok _ _ ht20 w) ?_
    intro p21 c22
    obtain ⟨h23,hF⟩:=gd hF
    refine at_append_row (z:=.agg (Cd.cs c_api_Prefix zv2).toArray) (c:=c_api_Prefix) (ys:=t20) (.s (.s .z)) underlying27 infoA437 (by kernel_rfl) (by kernel_rfl) rfl rfl rfl (fun w1 hw=>(hw.own .z).row) (by kernel_rfl) h23 (app_small h23) rfl ?_
    intro p24 c25
    refine aa (qn (dz (dz (wq [9,8,7,3] ?_))))
    refine bm ?_
    refine qr (aw xa (am (nwq [9,8,7,3] ?_)))
    exact at_weak_k (ih _ _ _ hF K p24 c25) ⟨rfl,rfl,rfl,rfl,trivial⟩
   refine cf h14 ?_
   refine at_exit ?_
   refine te (te ?_)
   refine at_drop (H:=_) (.s .z) ?_
   obtain rfl:=os hF
   exact at_weak_k (K p10 c11) ⟨rfl,trivial⟩
 skip
 intro p12 c13
 refine at_blk_same ?_
 refine tn (sr (am (aa (nwq [2] ?_))))
 refine qt ?_
 have K:=os hF
 subst K
 exact r1 (fun w1 hw=>⟨p12,c13,rfl,hw.own .z,hw.below⟩)
def crawlwayref53_sorted.l1(x0:List S_api_Prefix)(i4:List S_api_Prefix)(i5:Int)(i18:Int):Option (Int) :=
 if (decide (i18>0))=true then (if (0:Int)≤i5∧i5<(x0.length:Int) then if (0:Int)≤wr .i64 (i18-1)∧wr .i64 (i18-1)<(i4.length:Int) then crawlwayref11_Less (lget x0 i5) (lget i4 (wr .i64 (i18-1)))>>=fun t28=>if t28=true then (crawlwayref53_sorted.l1 x0 i4 i5 (wr .i64 (i18-1))) else (some i18) else none else none) else (some i18)
 partial_fixpoint
def crawlwayref53_sorted.l0(x0:List S_api_Prefix)(i4:List S_api_Prefix)(i5:Int):Option (List S_api_Prefix) :=
 if (decide (i5<(x0.length:Int)))=true then (if (0:Int)≤i5∧i5<(x0.length:Int) then crawlwayref11_Right (lget x0 i5)>>=fun t15=>if (!t15)=true then (crawlwayref53_sorted.l0 x0 i4 (wr .i64 (i5+1))) else (crawlwayref53_sorted.l1 x0 i4 i5 (i4.length:Int)>>=fun q17=>if (0:Int)≤0∧0≤q17∧q17≤(i4.length:Int) then if (([]:List S_api_Prefix).length+(lsub i4 0 q17).length)*32≤140737488355328 then if (0:Int)≤i5∧i5<(x0.length:Int) then if ((([]:List S_api_Prefix)++(lsub i4 0 q17)).length+1)*32≤140737488355328 then if (0:Int)≤q17∧q17≤(i4.length:Int)∧(i4.length:Int)≤(i4.length:Int) then if (((([]:List S_api_Prefix)++(lsub i4 0 q17))++[lget x0 i5]).length+(lsub i4 q17 (i4.length:Int)).length)*32≤140737488355328 then crawlwayref53_sorted.l0 x0 (((([]:List S_api_Prefix)++(lsub i4 0 q17))++[lget x0 i5])++(lsub i4 q17 (i4.length:Int))) (wr .i64 (i5+1)) else none else none else none else none else none else none) else none) else (some i4)
 partial_fixpoint
def crawlwayref53_sorted(x0:List S_api_Prefix):Option (List S_api_Prefix) :=
 crawlwayref53_sorted.l0 x0 ([]:List S_api_Prefix) 0>>=fun q3=>some q3
set_option maxHeartbeats 3200000 in
theorem crawlwayref53_sorted_ok(x0:List S_api_Prefix)(p0_:Option Addr)(c0_:Nat)(r:List S_api_Prefix)(hF:crawlwayref53_sorted x0=some r)(w:World)(hr0:Row c_api_Prefix w p0_ c0_ x0) :
    Calls Try.prog 51 #[.slice p0_ x0.length c0_] w (fun e w'=>∃ p cap,e=.returned (.slice p r.length cap)∧Own c_api_Prefix 37 w.heap.size w' p cap r∧Below w.heap.size w w'):=by
 unfold crawlwayref53_sorted at hF
 refine ce (l:=[.slice p0_ x0.length c0_]) func51 rfl rfl ?_
 refine at_start ?_
 refine sr (aa (ns (aa (nt (qs (sr (aa (nwq [4,3,0] ?_))))))))
 refine qb ?_
 refine at_own_nil c_api_Prefix 37 ?_
 obtain ⟨q3,hq3,hF⟩:=bM hF
 refine wq [4,3,0] ?_
 refine at_loop_n (B:=0) (A:=fun Y=>∀ (p8:Option Addr) (c9:Nat),At 55 [(3,.slice p8 q3.length c9)] (Wd w [rowE c_api_Prefix 37 p8 c9 q3]) Y) ?_ ?_
 ·intro K
  refine crawlwayref53_sorted.l0.partial_correctness x0 (motive:=fun i4 i5 x=>KN (fun Y=>∀ (p8:Option Addr) (c9:Nat),At 55 [(3,.slice p8 x.length c9)] (Wd w [rowE c_api_Prefix 37 p8 c9 x]) Y) _ 0→Round (fun Y=>∀ (p6:Option Addr) (c7:Nat),At 55 [(0,.slice p0_ x0.length c0_),(3,.slice p6 i4.length c7),(4,.int .i64 i5)] (Wd w [rowE c_api_Prefix 37 p6 c7 i4]) Y) _ _ _) ?_ _ _ _ hq3 K none 0
  ·clear K hF
   intro g ih i4 i5 x hF K p6 c7
   refine at_round ?_
   refine qs (sr (am (am ?_)))
   refine aw (r_len_sl underlying27 rfl) ?_
   refine aw xl (nwq [10,4,3,0] ?_)
   obtain ⟨h10,hF⟩|⟨h10,hF⟩:=oi hF
   ·refine ct h10 ?_
    refine sn (qs ?_)
    refine qb ?_
    refine qs (sr (am (am ?_)))
    obtain ⟨h11,hF⟩:=gd hF
    obtain ⟨b13,o14,hp12⟩:=row_ptr hr0 h11
    refine aw (r_idx underlying27 sizeOf37 rfl rfl h11 hp12) ?_
    refine aw (r_load_aggc (c:=c_api_Prefix) (z:=lget x0 i5) isAgg37 sizeOf37 rfl (row_cell (fun _ h=>h.below) hr0 h11 hp12)) ?_
    obtain ⟨t15,ht15,hF⟩:=bM hF
    refine cB func15 rfl (fun w hw=>crawlwayref11_Right_ok _ _ ht15 w) ?_
    refine aw (r_not rfl) ?_
    refine nwq [18,4,3,0] ?_
    obtain ⟨h16,hF⟩|⟨h16,hF⟩:=oi hF
    ·refine ct h16 ?_
     refine at_exit ?_
     refine te (at_blk_same (tn ?_))
     refine qr (am (aw xa (aa (nwq [4,3,0] ?_))))
     exact at_weak_k (ih _ _ _ hF K p6 c7) ⟨rfl,rfl,rfl,trivial⟩
    refine cf h16 ?_
    refine sns (am ?_)
    refine aw (r_len_sl underlying27 rfl) ?_
    refine aa (nwq [5,4,3,0] ?_)
    refine qs ?_
    refine qb ?_
    obtain ⟨q17,hq17,hF⟩:=bM hF
    refine wq [5,4,3,0] ?_
    refine at_loop_n (B:=2) (A:=fun Y=>At 55 [(0,.slice p0_ x0.length c0_),(3,.slice p6 i4.length c7),(4,.int .i64 i5),(5,.int .i64 q17)] (Wd w [rowE c_api_Prefix 37 p6 c7 i4]) Y) ?_ ?_
    ·intro K
     refine crawlwayref53_sorted.l1.partial_correctness x0 i4 i5 (motive:=fun i18 x=>KN (fun Y=>At 55 [(0,.slice p0_ x0.length c0_),(3,.slice p6 i4.length c7),(4,.int .i64 i5),(5,.int .i64 x)] (Wd w [rowE c_api_Prefix 37 p6 c7 i4]) Y) _ 2→Round (fun Y=>At 55 [(0,.slice p0_ x0.length c0_),(3,.slice p6 i4.length c7),(4,.int .i64 i5),(5,.int .i64 i18)] (Wd w [rowE c_api_Prefix 37 p6 c7 i4]) Y) _ _ _) ?_ _ _ hq17 K
     ·clear K hF
      intro g ih i18 x hF K
      refine at_round ?_
      refine qs (qs (wq [5,4,3,0] ?_))
      obtain ⟨h19,hF⟩|⟨h19,hF⟩:=oi hF
      ·skip
       obtain ⟨h20,hF⟩:=gd hF
       obtain ⟨b22,o23,hp21⟩:=row_ptr hr0 h20
       obtain ⟨h24,hF⟩:=gd hF
       refine at_pure (φ:=∃ b o,p6=some ⟨b,o,none⟩) (fun _ hw=>row_ptr (hw.own .z).row h24) ?_
       rintro ⟨b26,o27,hp25⟩
       obtain ⟨t28,ht28,hF⟩:=bM hF
       refine at_inv [.q 21 (fun g29=>.int .i64 i18) [] 0 0,.q 22 (fun g29=>.bool (decide (i18>0))) [0] 0 0,.q 23 (fun g29=>.bool true) [1] 0 0,.q 24 (fun g29=>.slice p0_ x0.length c0_) [2] 0 0,.q 25 (fun g29=>.int .i64 i5) [2] 0 0,.q 26 (fun g29=>.pointer (some ⟨b22,o23+Int.toNat i5*18,none⟩)) [2,3,4] 0 0,.q 27 (fun g29=>.agg (Cd.cs c_api_Prefix (lget x0 i5)).toArray) [2,5] 0 0,.q 28 (fun g29=>.slice p6 i4.length c7) [2] 0 0,.q 29 (fun g29=>.int .i64 i18) [2] 0 0,.q 30 (fun g29=>.int .i64 (wr .i64 (i18-1))) [2,8] 0 0,.q 31 (fun g29=>.pointer (some ⟨b26,o27+Int.toNat (wr .i64 (i18-1))*18,none⟩)) [2,7,9] 0 0,.q 32 (fun g29=>.agg (Cd.cs c_api_Prefix (lget i4 (wr .i64 (i18-1)))).toArray) [2,10] 0 0,.q 33 (fun g29=>.bool t28) [2,6,11] 0 0,.q 34 (fun g29=>.bool t28) [2,12] 0 0] (fun g29 s=>match s with | _=>(Wd w [rowE c_api_Prefix 37 p6 c7 i4])) 0 (by kernel_rfl) (by kernel_rfl) (by kernel_rfl) (by kernel_rfl) (by kernel_rfl) ⟨fun _ _ _=>rfl,fun _ _ _=>rfl,fun _ _ _=>rfl,fun _ _ _=>rfl,fun _ _ _=>rfl,fun _ _ _=>rfl,fun _ _ _=>rfl,fun _ _ _=>rfl,fun _ _ _=>rfl,fun _ _ _=>rfl,fun _ _ _=>rfl,fun _ _ _=>rfl,fun _ _ _=>rfl,fun _ _ _=>rfl,trivial⟩ (by kernel_rfl) (fun w_ h=>⟨fun _=>g3 0 none 0 none w_,h.drew⟩) ⟨?_,?_,?_,?_,?_,?_,?_,?_,?_,?_,?_,?_,?_,?_,trivial⟩ ?_
       ·intro Lx g29 s K hl hh k
        show At 55 ((0,_)::(3,_)::(4,_)::(5,_)::Lx) _ _
        refine am ?_
        exact at_nil k
       ·intro Lx g29 s K hl hh k
        show At 55 ((21,_)::(0,_)::(3,_)::(4,_)::(5,_)::Lx) _ _
        refine aw (r_igtr rfl rfl) ?_
        exact at_nil k
       ·intro Lx g29 s K hl hh k
        show At 55 ((22,_)::(0,_)::(3,_)::(4,_)::(5,_)::Lx) _ _
        refine am ?_
        exact at_nil (at_cast h19 k)
       ·intro Lx g29 s K hl hh k
        show At 55 ((23,_)::(0,_)::(3,_)::(4,_)::(5,_)::Lx) _ _
        refine gy ?_
        refine am ?_
        exact at_nil k
       ·intro Lx g29 s K hl hh k
        show At 55 ((23,_)::(0,_)::(3,_)::(4,_)::(5,_)::Lx) _ _
        refine gy ?_
        refine am ?_
        exact at_nil k
       ·intro Lx g29 s K hl hh k
        show At 55 ((23,_)::(24,_)::(25,_)::(0,_)::(3,_)::(4,_)::(5,_)::Lx) _ _
        refine gy ?_
        refine aw (r_idx underlying27 sizeOf37 rfl rfl h20 hp21) ?_
        exact at_nil k
       ·intro Lx g29 s K hl hh k
        show At 55 ((23,_)::(26,_)::(0,_)::(3,_)::(4,_)::(5,_)::Lx) _ _
        refine gy ?_
        obtain rfl:s=0:=by omega
        refine aw (r_load_aggc (c:=c_api_Prefix) (z:=lget x0 i5) isAgg37 sizeOf37 rfl (row_cell (fun _ h=>h.below) hr0 h20 hp21)) ?_
        exact at_nil k
       ·intro Lx g29 s K hl hh k
        show At 55 ((23,_)::(0,_)::(3,_)::(4,_)::(5,_)::Lx) _ _
        refine gy ?_
        refine am ?_
        exact at_nil k
       ·intro Lx g29 s K hl hh k
        show At 55 ((23,_)::(0,_)::(3,_)::(4,_)::(5,_)::Lx) _ _
        refine gy ?_
        refine am ?_
        exact at_nil k
       ·intro Lx g29 s K hl hh k
        show At 55 ((23,_)::(29,_)::(0,_)::(3,_)::(4,_)::(5,_)::Lx) _ _
        refine gy ?_
        refine aw (r_isub rfl rfl) ?_
        exact at_nil k
       ·intro Lx g29 s K hl hh k
        show At 55 ((23,_)::(28,_)::(30,_)::(0,_)::(3,_)::(4,_)::(5,_)::Lx) _ _
        refine gy ?_
        refine aw (r_idx underlying27 sizeOf37 rfl rfl h24 hp25) ?_
        exact at_nil k
       ·intro Lx g29 s K hl hh k
        show At 55 ((23,_)::(31,_)::(0,_)::(3,_)::(4,_)::(5,_)::Lx) _ _
        refine gy ?_
        obtain rfl:s=0:=by omega
        refine aw (r_load_aggc (c:=c_api_Prefix) (z:=lget i4 (wr .i64 (i18-1))) isAgg37 sizeOf37 rfl (fun w1 hw=>row_cell (W:=fun w1=>w1=_) (fun w1 h=>by subst h;exact Below.refl _ _) (hw.own .z).row h24 hp25 _ rfl)) ?_
        exact at_nil k
       ·intro Lx g29 s K hl hh k
        show At 55 ((23,_)::(27,_)::(32,_)::(0,_)::(3,_)::(4,_)::(5,_)::Lx) _ _
        refine gy ?_
        obtain rfl:s=0:=by omega
        refine cB func77 rfl (fun w hw=>crawlwayref11_Less_ok _ _ _ ht28 w) ?_
        exact at_nil k
       ·intro Lx g29 s K hl hh k
        show At 55 ((23,_)::(33,_)::(0,_)::(3,_)::(4,_)::(5,_)::Lx) _ _
        refine aw xp ?_
        exact at_nil k
       intro g29
       show At 55 [(21,_),(22,_),(23,_),(24,_),(25,_),(26,_),(27,_),(28,_),(29,_),(30,_),(31,_),(32,_),(33,_),(34,_),(0,_),(3,_),(4,_),(5,_)] _ _
       refine wq [34,5,4,3,0] ?_
       refine tn ?_
       obtain ⟨h30,hF⟩|⟨h30,hF⟩:=oi hF
       ·refine ct h30 ?_
        refine sn ?_
        refine qb ?_
        refine qr (am ?_)
        refine aw (r_isub rfl rfl) ?_
        refine aa (qn (wq [5,4,3,0] ?_))
        refine bm ?_
        exact at_weak_k (ih _ _ hF K) ⟨rfl,rfl,rfl,rfl,trivial⟩
       refine cf h30 ?_
       refine at_exit ?_
       refine te (te ?_)
       obtain rfl:=os hF
       exact at_weak_k K ⟨rfl,rfl,rfl,rfl,trivial⟩
      skip
      refine at_inv [.q 21 (fun g31=>.int .i64 i18) [] 0 0,.q 22 (fun g31=>.bool (decide (i18>0))) [0] 0 0,.q 23 (fun g31=>.bool false) [1] 0 0,.q 24 (fun g31=>undef) [2] 0 0,.q 25 (fun g31=>undef) [2] 0 0,.q 26 (fun g31=>undef) [2,3,4] 0 0,.q 27 (fun g31=>undef) [2,5] 0 0,.q 28 (fun g31=>undef) [2] 0 0,.q 29 (fun g31=>undef) [2] 0 0,.q 30 (fun g31=>undef) [2,8] 0 0,.q 31 (fun g31=>undef) [2,7,9] 0 0,.q 32 (fun g31=>undef) [2,10] 0 0,.q 33 (fun g31=>undef) [2,6,11] 0 0,.q 34 (fun g31=>.bool false) [2,12] 0 0] (fun g31 s=>match s with | _=>(Wd w [rowE c_api_Prefix 37 p6 c7 i4])) 0 (by kernel_rfl) (by kernel_rfl) (by kernel_rfl) (by kernel_rfl) (by kernel_rfl) ⟨fun _ _ _=>rfl,fun _ _ _=>rfl,fun _ _ _=>rfl,fun _ _ _=>rfl,fun _ _ _=>rfl,fun _ _ _=>rfl,fun _ _ _=>rfl,fun _ _ _=>rfl,fun _ _ _=>rfl,fun _ _ _=>rfl,fun _ _ _=>rfl,fun _ _ _=>rfl,fun _ _ _=>rfl,fun _ _ _=>rfl,trivial⟩ (by kernel_rfl) (fun w_ h=>⟨fun _=>g3 0 none 0 none w_,h.drew⟩) ⟨?_,?_,?_,?_,?_,?_,?_,?_,?_,?_,?_,?_,?_,?_,trivial⟩ ?_
      ·intro Lx g31 s K hl hh k
       show At 55 ((0,_)::(3,_)::(4,_)::(5,_)::Lx) _ _
       refine am ?_
       exact at_nil k
      ·intro Lx g31 s K hl hh k
       show At 55 ((21,_)::(0,_)::(3,_)::(4,_)::(5,_)::Lx) _ _
       refine aw (r_igtr rfl rfl) ?_
       exact at_nil k
      ·intro Lx g31 s K hl hh k
       show At 55 ((22,_)::(0,_)::(3,_)::(4,_)::(5,_)::Lx) _ _
       refine am ?_
       exact at_nil (at_cast h19 k)
      ·intro Lx g31 s K hl hh k
       show At 55 ((23,_)::(0,_)::(3,_)::(4,_)::(5,_)::Lx) _ _
       refine gn ?_
       exact at_nil k
      ·intro Lx g31 s K hl hh k
       show At 55 ((23,_)::(0,_)::(3,_)::(4,_)::(5,_)::Lx) _ _
       refine gn ?_
       exact at_nil k
      ·intro Lx g31 s K hl hh k
       show At 55 ((23,_)::(24,_)::(25,_)::(0,_)::(3,_)::(4,_)::(5,_)::Lx) _ _
       refine gn ?_
       exact at_nil k
      ·intro Lx g31 s K hl hh k
       show At 55 ((23,_)::(26,_)::(0,_)::(3,_)::(4,_)::(5,_)::Lx) _ _
       obtain rfl:s=0:=by omega
       refine gn ?_
       exact at_nil k
      ·intro Lx g31 s K hl hh k
       show At 55 ((23,_)::(0,_)::(3,_)::(4,_)::(5,_)::Lx) _ _
       refine gn ?_
       exact at_nil k
      ·intro Lx g31 s K hl hh k
       show At 55 ((23,_)::(0,_)::(3,_)::(4,_)::(5,_)::Lx) _ _
       refine gn ?_
       exact at_nil k
      ·intro Lx g31 s K hl hh k
       show At 55 ((23,_)::(29,_)::(0,_)::(3,_)::(4,_)::(5,_)::Lx) _ _
       refine gn ?_
       exact at_nil k
      ·intro Lx g31 s K hl hh k
       show At 55 ((23,_)::(28,_)::(30,_)::(0,_)::(3,_)::(4,_)::(5,_)::Lx) _ _
       refine gn ?_
       exact at_nil k
      ·intro Lx g31 s K hl hh k
       show At 55 ((23,_)::(31,_)::(0,_)::(3,_)::(4,_)::(5,_)::Lx) _ _
       obtain rfl:s=0:=by omega
       refine gn ?_
       exact at_nil k
      ·intro Lx g31 s K hl hh k
       show At 55 ((23,_)::(27,_)::(32,_)::(0,_)::(3,_)::(4,_)::(5,_)::Lx) _ _
       obtain rfl:s=0:=by omega
       refine gn ?_
       exact at_nil k
      ·intro Lx g31 s K hl hh k
       show At 55 ((23,_)::(33,_)::(0,_)::(3,_)::(4,_)::(5,_)::Lx) _ _
       refine aw xp ?_
       exact at_nil k
      intro g31
      show At 55 [(21,_),(22,_),(23,_),(24,_),(25,_),(26,_),(27,_),(28,_),(29,_),(30,_),(31,_),(32,_),(33,_),(34,_),(0,_),(3,_),(4,_),(5,_)] _ _
      refine wq [34,5,4,3,0] ?_
      refine tn ?_
      refine cf rfl ?_
      refine at_exit ?_
      refine te (te ?_)
      obtain rfl:=os hF
      exact at_weak_k K ⟨rfl,rfl,rfl,rfl,trivial⟩
    skip
    skip
    refine at_blk_same ?_
    refine tn (sr ?_)
    refine at_lit0 c_api_Prefix underlying27 sizeOf37 rfl ?_
    intro b32
    refine am (am ?_)
    obtain ⟨h33,hF⟩:=gd hF
    refine at_pure (fun w1 hw=>(hw.own (.s .z)).row.len) ?_
    intro hl34
    refine aw (r_reslice (c:=c_api_Prefix) underlying27 sizeOf37 rfl hl34 rfl ⟨_,rfl⟩ h33) ?_
    obtain ⟨h35,hF⟩:=gd hF
    refine at_append_row (z:=.agg (Cd.cs c_api_Prefix zv2).toArray) (c:=c_api_Prefix) (ys:=(lsub i4 0 q17)) .z underlying27 infoA437 (by kernel_rfl) (by kernel_rfl) rfl rfl rfl (fun w1 hw=>(Row.sub (hw.own (.s .z)).row h33)) (by kernel_rfl) h35 (app_small h35) rfl ?_
    intro p36 c37
    refine aa (ns (am (am (am ?_))))
    obtain ⟨h38,hF⟩:=gd hF
    obtain ⟨b40,o41,hp39⟩:=row_ptr hr0 h38
    refine aw (r_idx underlying27 sizeOf37 rfl rfl h38 hp39) ?_
    refine aw (r_load_aggc (c:=c_api_Prefix) (z:=lget x0 i5) isAgg37 sizeOf37 rfl (row_cell (fun _ h=>h.below) hr0 h38 hp39)) ?_
    refine at_litL (c:=c_api_Prefix) ([zv2]:List S_api_Prefix) ([lget x0 i5]:List S_api_Prefix) underlying27 sizeOf37 zeroValue37 rfl rfl rfl (by kernel_rfl) (fill_step (c:=c_api_Prefix) (z:=lget x0 i5) rfl (Lens.all c_api_Prefix ([zv2]:List S_api_Prefix) 0 (by first | decide | exact Nat.le_of_ble_eq_true rfl)) rfl rfl) rfl ?_
    intro b42
    obtain ⟨h43,hF⟩:=gd hF
    refine at_append (z:=.agg (Cd.cs c_api_Prefix zv2).toArray) (c:=c_api_Prefix) (ys:=([lget x0 i5]:List S_api_Prefix)) (.s .z) underlying27 infoA437 (by kernel_rfl) (by kernel_rfl) rfl rfl rfl rfl (fun _ hw=>cells_src (hw.ok (Upd.mem .z))) (by kernel_rfl) h43 (app_small h43) rfl ?_
    intro p44 c45
    refine aa (qn (dz (tn (qr (am (am (am ?_)))))))
    obtain ⟨h46,hF⟩:=gd hF
    refine at_pure (fun w1 hw=>(hw.own (.s .z)).row.len) ?_
    intro hl47
    refine aw (r_reslice (c:=c_api_Prefix) underlying27 sizeOf37 rfl hl47 ⟨_,rfl⟩ rfl h46) ?_
    obtain ⟨h48,hF⟩:=gd hF
    refine at_append_row (z:=.agg (Cd.cs c_api_Prefix zv2).toArray) (c:=c_api_Prefix) (ys:=(lsub i4 q17 (i4.length:Int))) .z underlying27 infoA437 (by kernel_rfl) (by kernel_rfl) rfl rfl rfl (fun w1 hw=>(Row.sub (hw.own (.s .z)).row h46)) (by kernel_rfl) h48 (app_small h48) rfl ?_
    intro p49 c50
    refine aa (qn ?_)
    refine at_drop (H:=_) (.s .z) ?_
    refine wq [4,3,0] ?_
    refine bm ?_
    refine qr (am (aw xa (aa (nwq [4,3,0] ?_))))
    exact at_weak_k (ih _ _ _ hF K p49 c50) ⟨rfl,rfl,rfl,trivial⟩
   refine cf h10 ?_
   refine at_exit ?_
   refine te (te ?_)
   obtain rfl:=os hF
   exact at_weak_k (K p6 c7) ⟨rfl,trivial⟩
 skip
 intro p8 c9
 refine at_blk_same ?_
 refine tn (sr (am (aa (nwq [2] ?_))))
 refine qt ?_
 have K:=os hF
 subst K
 exact r1 (fun w1 hw=>⟨p8,c9,rfl,hw.own .z,hw.below⟩)
def crawlwayref53_Ranges.l0(t1:List S_api_Prefix)(i7:List (Vector S_api_Addr 2))(i9:Int):Option (List (Vector S_api_Addr 2)) :=
 if (decide (i9<(t1.length:Int)))=true then (if (decide ((i7.length:Int)>0))=true then (if (0:Int)≤wr .i64 ((i7.length:Int)-1)∧wr .i64 ((i7.length:Int)-1)<(i7.length:Int) then crawlwayref53_Next (vget (lget i7 (wr .i64 ((i7.length:Int)-1))) 1)>>=fun t20=>if (0:Int)≤wr .i64 ((i7.length:Int)-1)∧wr .i64 ((i7.length:Int)-1)<(i7.length:Int) then if (0:Int)≤i9∧i9<(t1.length:Int) then if ((vget (lget i7 (wr .i64 ((i7.length:Int)-1))) 0).f_V==((lget t1 i9).f_A).f_V)=true then (if (!t20.2)=true then (if (0:Int)≤wr .i64 ((i7.length:Int)-1)∧wr .i64 ((i7.length:Int)-1)<(i7.length:Int) then if (0:Int)≤i9∧i9<(t1.length:Int) then crawlwayref53_last (lget t1 i9)>>=fun t42=>crawlwayref10_Less (vget (lget i7 (wr .i64 ((i7.length:Int)-1))) 1) t42>>=fun t43=>if t43=true then (if (0:Int)≤i9∧i9<(t1.length:Int) then crawlwayref53_last (lget t1 i9)>>=fun t50=>if (0:Int)≤wr .i64 ((i7.length:Int)-1)∧wr .i64 ((i7.length:Int)-1)<(i7.length:Int) then crawlwayref53_Ranges.l0 t1 (lset i7 (wr .i64 ((i7.length:Int)-1)) (vset (lget i7 (wr .i64 ((i7.length:Int)-1))) 1 t50)) (wr .i64 (i9+1)) else none else none) else (crawlwayref53_Ranges.l0 t1 i7 (wr .i64 (i9+1))) else none else none) else (if (0:Int)≤i9∧i9<(t1.length:Int) then crawlwayref10_Less t20.1 ((lget t1 i9).f_A)>>=fun t60=>if (!t60)=true then (if (0:Int)≤wr .i64 ((i7.length:Int)-1)∧wr .i64 ((i7.length:Int)-1)<(i7.length:Int) then if (0:Int)≤i9∧i9<(t1.length:Int) then crawlwayref53_last (lget t1 i9)>>=fun t71=>crawlwayref10_Less (vget (lget i7 (wr .i64 ((i7.length:Int)-1))) 1) t71>>=fun t72=>if t72=true then (if (0:Int)≤i9∧i9<(t1.length:Int) then crawlwayref53_last (lget t1 i9)>>=fun t79=>if (0:Int)≤wr .i64 ((i7.length:Int)-1)∧wr .i64 ((i7.length:Int)-1)<(i7.length:Int) then crawlwayref53_Ranges.l0 t1 (lset i7 (wr .i64 ((i7.length:Int)-1)) (vset (lget i7 (wr .i64 ((i7.length:Int)-1))) 1 t79)) (wr .i64 (i9+1)) else none else none) else (crawlwayref53_Ranges.l0 t1 i7 (wr .i64 (i9+1))) else none else none) else (if (0:Int)≤i9∧i9<(t1.length:Int) then if (0:Int)≤i9∧i9<(t1.length:Int) then crawlwayref53_last (lget t1 i9)>>=fun t93=>if (i7.length+1)*48≤140737488355328 then crawlwayref53_Ranges.l0 t1 (i7++[vset (vset (Vector.replicate 2 ({ f_V:=(0:Int),f_B:=(Vector.replicate 16 (0:Int):(Vector Int 16)) }:S_api_Addr):(Vector S_api_Addr 2)) 0 ((lget t1 i9).f_A)) 1 t93]) (wr .i64 (i9+1)) else none else none else none) else none)) else (if (0:Int)≤i9∧i9<(t1.length:Int) then if (0:Int)≤i9∧i9<(t1.length:Int) then crawlwayref53_last (lget t1 i9)>>=fun t108=>if (i7.length+1)*48≤140737488355328 then crawlwayref53_Ranges.l0 t1 (i7++[vset (vset (Vector.replicate 2 ({ f_V:=(0:Int),f_B:=(Vector.replicate 16 (0:Int):(Vector Int 16)) }:S_api_Addr):(Vector S_api_Addr 2)) 0 ((lget t1 i9).f_A)) 1 t108]) (wr .i64 (i9+1)) else none else none else none) else none else none else none) else (if (0:Int)≤i9∧i9<(t1.length:Int) then if (0:Int)≤i9∧i9<(t1.length:Int) then crawlwayref53_last (lget t1 i9)>>=fun t122=>if (i7.length+1)*48≤140737488355328 then crawlwayref53_Ranges.l0 t1 (i7++[vset (vset (Vector.replicate 2 ({ f_V:=(0:Int),f_B:=(Vector.replicate 16 (0:Int):(Vector Int 16)) }:S_api_Addr):(Vector S_api_Addr 2)) 0 ((lget t1 i9).f_A)) 1 t122]) (wr .i64 (i9+1)) else none else none else none)) else (some i7)
 partial_fixpoint
def crawlwayref53_Ranges(x0:List S_api_Prefix):Option (List (Vector S_api_Addr 2)) :=
 crawlwayref53_sorted x0>>=fun t1=>crawlwayref53_Ranges.l0 t1 ([]:List (Vector S_api_Addr 2)) 0>>=fun q6=>some q6
set_option maxRecDepth 20000 in
set_option maxHeartbeats 3200000 in
theorem crawlwayref53_Ranges_ok(x0:List S_api_Prefix)(p0_:Option Addr)(c0_:Nat)(r:List (Vector S_api_Addr 2))(hF:crawlwayref53_Ranges x0=some r)(w:World)(hr0:Row c_api_Prefix w p0_ c0_ x0) :
    Calls Try.prog 20 #[.slice p0_ x0.length c0_] w (fun e w'=>∃ p cap,e=.returned (.slice p r.length cap)∧Own (cVec c_api_Addr 2 (by decide)) 48 w.heap.size w' p cap r∧Below w.heap.size w w'):=by
 unfold crawlwayref53_Ranges at hF
 refine ce (l:=[.slice p0_ x0.length c0_]) func20 rfl rfl ?_
 refine at_start ?_
 refine sr (aa (ns (aa (ns (am ?_)))))
 obtain ⟨t1,ht1,hF⟩:=bM hF
 refine at_callO (c:=c_api_Prefix) (e:=37) (ys:=t1) (V:=fun p cap=>.slice p t1.length cap) func51 rfl (by kernel_rfl) rfl rfl (fun w hw=>crawlwayref53_sorted_ok _ _ _ _ ht1 w (hr0.below hw.below)) ?_
 intro p2 c3
 refine aa (nt (qs (sr (aa (nwq [5,4,3] ?_)))))
 refine qb ?_
 refine at_own_nil (cVec c_api_Addr 2 (by decide)) 48 ?_
 obtain ⟨q6,hq6,hF⟩:=bM hF
 refine wq [5,4,3] ?_
 refine at_loop_n (B:=0) (A:=fun Y=>∀ (p12:Option Addr) (c13:Nat),At 98 [(3,.slice p12 q6.length c13)] (Wd w [rowE (cVec c_api_Addr 2 (by decide)) 48 p12 c13 q6]) Y) ?_ ?_
 ·intro K
  refine crawlwayref53_Ranges.l0.partial_correctness t1 (motive:=fun i7 i9 x=>KN (fun Y=>∀ (p12:Option Addr) (c13:Nat),At 98 [(3,.slice p12 x.length c13)] (Wd w [rowE (cVec c_api_Addr 2 (by decide)) 48 p12 c13 x]) Y) _ 0→Round (fun Y=>∀ (p10:Option Addr) (c11:Nat),At 98 [(3,.slice p10 i7.length c11),(4,.slice p2 t1.length c3),(5,.int .i64 i9)] (Wd w [rowE (cVec c_api_Addr 2 (by decide)) 48 p10 c11 i7,rowE c_api_Prefix 37 p2 c3 t1]) Y) _ _ _) ?_ _ _ _ hq6 K none 0
  ·clear K hF
   intro g ih i7 i9 x hF K p10 c11
   refine at_round ?_
   refine qs (sr (am (am ?_)))
   refine aw (r_len_sl underlying27 rfl) ?_
   refine aw xl (nwq [15,5,4,3] ?_)
   obtain ⟨h14,hF⟩|⟨h14,hF⟩:=oi hF
   ·refine ct h14 ?_
    refine sn (qs ?_)
    refine qb ?_
    refine sr (am ?_)
    refine aw (r_len_sl underlying45 rfl) ?_
    refine aa (nt (qs (sr (am ?_))))
    refine aw (r_igtr rfl rfl) ?_
    refine nwq [21,6,5,4,3] ?_
    obtain ⟨h15,hF⟩|⟨h15,hF⟩:=oi hF
    ·refine ct h15 ?_
     refine sr (am (am ?_))
     refine aw (r_isub rfl rfl) ?_
     obtain ⟨h16,hF⟩:=gd hF
     refine at_pure (φ:=∃ b o,p10=some ⟨b,o,none⟩) (fun _ hw=>row_ptr (hw.own .z).row h16) ?_
     rintro ⟨b18,o19,hp17⟩
     refine aw (r_idx underlying45 sizeOf48 rfl rfl h16 hp17) ?_
     refine aw (r_idxArr underlying48 sizeOf24 rfl rfl (by decide)) ?_
     refine aw (r_load_aggc (c:=c_api_Addr) (z:=vget (lget i7 (wr .i64 ((i7.length:Int)-1))) 1) isAgg24 sizeOf24 rfl (fun w1 hw=>row_lens (y:=vget (lget i7 (wr .i64 ((i7.length:Int)-1))) 1) (W:=fun w1=>w1=_) (fun w1 h=>by subst h;exact Below.refl _ _) (hw.own .z).row h16 hp17 (Lens.comp lw (fun z=>vset (lget i7 (wr .i64 ((i7.length:Int)-1))) 1 z) (Lens.vec c_api_Addr (by decide) (lget i7 (wr .i64 ((i7.length:Int)-1))) 1 (by decide))) _ rfl)) ?_
     obtain ⟨t20,ht20,hF⟩:=bM hF
     refine cB func17 rfl (fun w hw=>crawlwayref53_Next_ok _ _ ht20 w) ?_
     refine am ?_
     refine aw xe (aw xe ?_)
     refine al (cs:=Cd.cs c_api_Addr zv0) zeroValue24 ?_
     intro b21
     refine at_store (c:=c_api_Addr) (z:=t20.1) .z lw sizeOf24 rfl rfl rfl ?_
     refine aa (nt (qs (wq [8,7,6,5,4,3] ?_)))
     obtain ⟨h22,hF⟩:=gd hF
     refine at_pure (φ:=∃ b o,p10=some ⟨b,o,none⟩) (fun _ hw=>row_ptr (hw.own (.s .z)).row h22) ?_
     rintro ⟨b24,o25,hp23⟩
     obtain ⟨h26,hF⟩:=gd hF
     refine at_pure (φ:=∃ b o,p2=some ⟨b,o,none⟩) (fun _ hw=>row_ptr (hw.own (.s (.s .z))).row h26) ?_
     rintro ⟨b28,o29,hp27⟩
     refine at_inv [.q 32 (fun g30=>.slice p10 i7.length c11) [] 0 0,.q 33 (fun g30=>.int .i64 (i7.length:Int)) [] 0 0,.q 34 (fun g30=>.int .i64 (wr .i64 ((i7.length:Int)-1))) [1] 0 0,.q 35 (fun g30=>.pointer (some ⟨b24,o25+Int.toNat (wr .i64 ((i7.length:Int)-1))*34,none⟩)) [0,2] 0 0,.q 36 (fun g30=>.pointer (some ⟨b24,o25+Int.toNat (wr .i64 ((i7.length:Int)-1))*34+Int.toNat 0*17,none⟩)) [3] 0 0,.q 37 (fun g30=>.pointer (some ⟨b24,o25+Int.toNat (wr .i64 ((i7.length:Int)-1))*34+Int.toNat 0*17+0,none⟩)) [4] 0 0,.q 38 (fun g30=>.int .i64 ((vget (lget i7 (wr .i64 ((i7.length:Int)-1))) 0).f_V)) [5] 0 0,.q 39 (fun g30=>.slice p2 t1.length c3) [] 0 0,.q 40 (fun g30=>.int .i64 i9) [] 0 0,.q 41 (fun g30=>.pointer (some ⟨b28,o29+Int.toNat i9*18,none⟩)) [7,8] 0 0,.q 42 (fun g30=>.pointer (some ⟨b28,o29+Int.toNat i9*18+0,none⟩)) [9] 0 0,.q 43 (fun g30=>.pointer (some ⟨b28,o29+Int.toNat i9*18+0+0,none⟩)) [10] 0 0,.q 44 (fun g30=>.int .i64 (((lget t1 i9).f_A).f_V)) [11] 0 0,.q 45 (fun g30=>.bool ((vget (lget i7 (wr .i64 ((i7.length:Int)-1))) 0).f_V==((lget t1 i9).f_A).f_V)) [6,12] 0 0,.q 9 (fun g30=>.bool ((vget (lget i7 (wr .i64 ((i7.length:Int)-1))) 0).f_V==((lget t1 i9).f_A).f_V)) [13] 0 0] (fun g30 s=>match s with | _=>(Wd w [cellsE b21 (Cd.cs c_api_Addr t20.1) 24,rowE (cVec c_api_Addr 2 (by decide)) 48 p10 c11 i7,rowE c_api_Prefix 37 p2 c3 t1])) 0 (by kernel_rfl) (by kernel_rfl) (by kernel_rfl) (by kernel_rfl) (by kernel_rfl) ⟨fun _ _ _=>rfl,fun _ _ _=>rfl,fun _ _ _=>rfl,fun _ _ _=>rfl,fun _ _ _=>rfl,fun _ _ _=>rfl,fun _ _ _=>rfl,fun _ _ _=>rfl,fun _ _ _=>rfl,fun _ _ _=>rfl,fun _ _ _=>rfl,fun _ _ _=>rfl,fun _ _ _=>rfl,fun _ _ _=>rfl,fun _ _ _=>rfl,trivial⟩ (by kernel_rfl) (fun w_ h=>⟨fun _=>g3 0 none 0 none w_,h.drew⟩) ⟨?_,?_,?_,?_,?_,?_,?_,?_,?_,?_,?_,?_,?_,?_,?_,trivial⟩ ?_
     ·intro Lx g30 s K hl hh k
      show At 98 ((3,_)::(4,_)::(5,_)::(6,_)::(7,_)::(8,_)::Lx) _ _
      refine am ?_
      exact at_nil k
     ·intro Lx g30 s K hl hh k
      show At 98 ((3,_)::(4,_)::(5,_)::(6,_)::(7,_)::(8,_)::Lx) _ _
      refine am ?_
      exact at_nil k
     ·intro Lx g30 s K hl hh k
      show At 98 ((33,_)::(3,_)::(4,_)::(5,_)::(6,_)::(7,_)::(8,_)::Lx) _ _
      refine aw (r_isub rfl rfl) ?_
      exact at_nil k
     ·intro Lx g30 s K hl hh k
      show At 98 ((32,_)::(34,_)::(3,_)::(4,_)::(5,_)::(6,_)::(7,_)::(8,_)::Lx) _ _
      refine aw (r_idx underlying45 sizeOf48 rfl rfl h22 hp23) ?_
      exact at_nil k
     ·intro Lx g30 s K hl hh k
      show At 98 ((35,_)::(3,_)::(4,_)::(5,_)::(6,_)::(7,_)::(8,_)::Lx) _ _
      refine aw (r_idxArr underlying48 sizeOf24 rfl rfl (by decide)) ?_
      exact at_nil k
     ·intro Lx g30 s K hl hh k
      show At 98 ((36,_)::(3,_)::(4,_)::(5,_)::(6,_)::(7,_)::(8,_)::Lx) _ _
      refine fa 0 underlying24 rfl sizeOf3 ?_
      exact at_nil k
     ·intro Lx g30 s K hl hh k
      show At 98 ((37,_)::(3,_)::(4,_)::(5,_)::(6,_)::(7,_)::(8,_)::Lx) _ _
      obtain rfl:s=0:=by omega
      refine aw (r_load_cell isAgg3 rfl (fun w1 hw=>row_lens0 (y:=(vget (lget i7 (wr .i64 ((i7.length:Int)-1))) 0).f_V) (W:=fun w1=>w1=_) (fun w1 h=>by subst h;exact Below.refl _ _) (hw.own (.s .z)).row h22 hp23 (Lens.comp (Lens.comp lw (fun z=>vset (lget i7 (wr .i64 ((i7.length:Int)-1))) 0 z) (Lens.vec c_api_Addr (by decide) (lget i7 (wr .i64 ((i7.length:Int)-1))) 0 (by decide))) (fun z=>{ vget (lget i7 (wr .i64 ((i7.length:Int)-1))) 0 with f_V:=z }) (c_api_Addr_f_V (vget (lget i7 (wr .i64 ((i7.length:Int)-1))) 0))) rfl _ rfl)) ?_
      exact at_nil k
     ·intro Lx g30 s K hl hh k
      show At 98 ((3,_)::(4,_)::(5,_)::(6,_)::(7,_)::(8,_)::Lx) _ _
      refine am ?_
      exact at_nil k
     ·intro Lx g30 s K hl hh k
      show At 98 ((3,_)::(4,_)::(5,_)::(6,_)::(7,_)::(8,_)::Lx) _ _
      refine am ?_
      exact at_nil k
     ·intro Lx g30 s K hl hh k
      show At 98 ((39,_)::(40,_)::(3,_)::(4,_)::(5,_)::(6,_)::(7,_)::(8,_)::Lx) _ _
      refine aw (r_idx underlying27 sizeOf37 rfl rfl h26 hp27) ?_
      exact at_nil k
     ·intro Lx g30 s K hl hh k
      show At 98 ((41,_)::(3,_)::(4,_)::(5,_)::(6,_)::(7,_)::(8,_)::Lx) _ _
      refine fa 0 underlying37 rfl sizeOf24 ?_
      exact at_nil k
     ·intro Lx g30 s K hl hh k
      show At 98 ((42,_)::(3,_)::(4,_)::(5,_)::(6,_)::(7,_)::(8,_)::Lx) _ _
      refine fa 0 underlying24 rfl sizeOf3 ?_
      exact at_nil k
     ·intro Lx g30 s K hl hh k
      show At 98 ((43,_)::(3,_)::(4,_)::(5,_)::(6,_)::(7,_)::(8,_)::Lx) _ _
      obtain rfl:s=0:=by omega
      refine aw (r_load_cell isAgg3 rfl (fun w1 hw=>row_lens0 (y:=((lget t1 i9).f_A).f_V) (W:=fun w1=>w1=_) (fun w1 h=>by subst h;exact Below.refl _ _) (hw.own (.s (.s .z))).row h26 hp27 (Lens.comp (Lens.comp lw (fun z=>{ (lget t1 i9) with f_A:=z }) (c_api_Prefix_f_A (lget t1 i9))) (fun z=>{ (lget t1 i9).f_A with f_V:=z }) (c_api_Addr_f_V ((lget t1 i9).f_A))) rfl _ rfl)) ?_
      exact at_nil k
     ·intro Lx g30 s K hl hh k
      show At 98 ((38,_)::(44,_)::(3,_)::(4,_)::(5,_)::(6,_)::(7,_)::(8,_)::Lx) _ _
      refine aw xq ?_
      exact at_nil k
     ·intro Lx g30 s K hl hh k
      show At 98 ((45,_)::(3,_)::(4,_)::(5,_)::(6,_)::(7,_)::(8,_)::Lx) _ _
      refine aa ?_
      exact at_nil k
     intro g30
     show At 98 [(32,_),(33,_),(34,_),(35,_),(36,_),(37,_),(38,_),(39,_),(40,_),(41,_),(42,_),(43,_),(44,_),(45,_),(9,_),(3,_),(4,_),(5,_),(6,_),(7,_),(8,_)] _ _
     refine tn (qs (wq [9,8,7,6,5,4,3] ?_))
     obtain ⟨h31,hF⟩|⟨h31,hF⟩:=oi hF
     ·skip
      obtain ⟨h32,hF⟩|⟨h32,hF⟩:=oi hF
      ·skip
       refine at_inv [.q 46 (fun g33=>.bool ((vget (lget i7 (wr .i64 ((i7.length:Int)-1))) 0).f_V==((lget t1 i9).f_A).f_V)) [] 0 0,.q 47 (fun g33=>.bool true) [0] 0 0,.q 48 (fun g33=>.bool t20.2) [1] 0 0,.q 49 (fun g33=>.bool (!t20.2)) [1,2] 0 0,.q 50 (fun g33=>.bool true) [1,3] 0 0,.q 51 (fun g33=>undef) [4] 0 0,.q 52 (fun g33=>undef) [4] 0 0,.q 53 (fun g33=>undef) [4] 0 0,.q 54 (fun g33=>undef) [4,6,7] 0 0,.q 55 (fun g33=>undef) [4,8] 0 0,.q 56 (fun g33=>undef) [4,9] 0 0,.q 57 (fun g33=>undef) [4,5,10] 0 0,.q 58 (fun g33=>undef) [4,11] 0 0,.q 59 (fun g33=>.bool true) [1,4,12] 0 0,.q 60 (fun g33=>.bool true) [1,13] 0 0] (fun g33 s=>match s with | _=>(Wd w [cellsE b21 (Cd.cs c_api_Addr t20.1) 24,rowE (cVec c_api_Addr 2 (by decide)) 48 p10 c11 i7,rowE c_api_Prefix 37 p2 c3 t1])) 0 (by kernel_rfl) (by kernel_rfl) (by kernel_rfl) (by kernel_rfl) (by kernel_rfl) ⟨fun _ _ _=>rfl,fun _ _ _=>rfl,fun _ _ _=>rfl,fun _ _ _=>rfl,fun _ _ _=>rfl,fun _ _ _=>rfl,fun _ _ _=>rfl,fun _ _ _=>rfl,fun _ _ _=>rfl,fun _ _ _=>rfl,fun _ _ _=>rfl,fun _ _ _=>rfl,fun _ _ _=>rfl,fun _ _ _=>rfl,fun _ _ _=>rfl,trivial⟩ (by kernel_rfl) (fun w_ h=>⟨fun _=>g3 0 none 0 none w_,h.drew⟩) ⟨?_,?_,?_,?_,?_,?_,?_,?_,?_,?_,?_,?_,?_,?_,?_,trivial⟩ ?_
       ·intro Lx g33 s K hl hh k
        show At 98 ((3,_)::(4,_)::(5,_)::(6,_)::(7,_)::(8,_)::(9,_)::Lx) _ _
        refine am ?_
        exact at_nil k
       ·intro Lx g33 s K hl hh k
        show At 98 ((46,_)::(3,_)::(4,_)::(5,_)::(6,_)::(7,_)::(8,_)::(9,_)::Lx) _ _
        refine am ?_
        exact at_nil (at_cast h31 k)
       ·intro Lx g33 s K hl hh k
        show At 98 ((47,_)::(3,_)::(4,_)::(5,_)::(6,_)::(7,_)::(8,_)::(9,_)::Lx) _ _
        refine gy ?_
        refine am ?_
        exact at_nil k
       ·intro Lx g33 s K hl hh k
        show At 98 ((47,_)::(48,_)::(3,_)::(4,_)::(5,_)::(6,_)::(7,_)::(8,_)::(9,_)::Lx) _ _
        refine gy ?_
        refine aw (r_not rfl) ?_
        exact at_nil k
       ·intro Lx g33 s K hl hh k
        show At 98 ((47,_)::(49,_)::(3,_)::(4,_)::(5,_)::(6,_)::(7,_)::(8,_)::(9,_)::Lx) _ _
        refine gy ?_
        refine am ?_
        exact at_nil (at_cast h32 k)
       ·intro Lx g33 s K hl hh k
        show At 98 ((50,_)::(3,_)::(4,_)::(5,_)::(6,_)::(7,_)::(8,_)::(9,_)::Lx) _ _
        obtain rfl:s=0:=by omega
        refine gn ?_
        exact at_nil k
       ·intro Lx g33 s K hl hh k
        show At 98 ((50,_)::(3,_)::(4,_)::(5,_)::(6,_)::(7,_)::(8,_)::(9,_)::Lx) _ _
        refine gn ?_
        exact at_nil k
       ·intro Lx g33 s K hl hh k
        show At 98 ((50,_)::(3,_)::(4,_)::(5,_)::(6,_)::(7,_)::(8,_)::(9,_)::Lx) _ _
        refine gn ?_
        exact at_nil k
       ·intro Lx g33 s K hl hh k
        show At 98 ((50,_)::(52,_)::(53,_)::(3,_)::(4,_)::(5,_)::(6,_)::(7,_)::(8,_)::(9,_)::Lx) _ _
        refine gn ?_
        exact at_nil k
       ·intro Lx g33 s K hl hh k
        show At 98 ((50,_)::(54,_)::(3,_)::(4,_)::(5,_)::(6,_)::(7,_)::(8,_)::(9,_)::Lx) _ _
        refine gn ?_
        exact at_nil k
       ·intro Lx g33 s K hl hh k
        show At 98 ((50,_)::(55,_)::(3,_)::(4,_)::(5,_)::(6,_)::(7,_)::(8,_)::(9,_)::Lx) _ _
        obtain rfl:s=0:=by omega
        refine gn ?_
        exact at_nil k
       ·intro Lx g33 s K hl hh k
        show At 98 ((50,_)::(51,_)::(56,_)::(3,_)::(4,_)::(5,_)::(6,_)::(7,_)::(8,_)::(9,_)::Lx) _ _
        obtain rfl:s=0:=by omega
        refine gn ?_
        exact at_nil k
       ·intro Lx g33 s K hl hh k
        show At 98 ((50,_)::(57,_)::(3,_)::(4,_)::(5,_)::(6,_)::(7,_)::(8,_)::(9,_)::Lx) _ _
        refine gn ?_
        exact at_nil k
       ·intro Lx g33 s K hl hh k
        show At 98 ((47,_)::(50,_)::(58,_)::(3,_)::(4,_)::(5,_)::(6,_)::(7,_)::(8,_)::(9,_)::Lx) _ _
        refine gy ?_
        refine aw xp ?_
        exact at_nil k
       ·intro Lx g33 s K hl hh k
        show At 98 ((47,_)::(59,_)::(3,_)::(4,_)::(5,_)::(6,_)::(7,_)::(8,_)::(9,_)::Lx) _ _
        refine aw xp ?_
        exact at_nil k
       intro g33
       show At 98 [(46,_),(47,_),(48,_),(49,_),(50,_),(51,_),(52,_),(53,_),(54,_),(55,_),(56,_),(57,_),(58,_),(59,_),(60,_),(3,_),(4,_),(5,_),(6,_),(7,_),(8,_),(9,_)] _ _
       refine dz (wq [60,6,5,4,3] ?_)
       refine tn ?_
       refine ct rfl ?_
       refine qs (qs (wq [6,5,4,3] ?_))
       obtain ⟨h34,hF⟩:=gd hF
       refine at_pure (φ:=∃ b o,p10=some ⟨b,o,none⟩) (fun _ hw=>row_ptr (hw.own .z).row h34) ?_
       rintro ⟨b36,o37,hp35⟩
       obtain ⟨h38,hF⟩:=gd hF
       refine at_pure (φ:=∃ b o,p2=some ⟨b,o,none⟩) (fun _ hw=>row_ptr (hw.own (.s .z)).row h38) ?_
       rintro ⟨b40,o41,hp39⟩
       obtain ⟨t42,ht42,hF⟩:=bM hF
       obtain ⟨t43,ht43,hF⟩:=bM hF
       refine at_inv [.q 61 (fun g44=>.slice p10 i7.length c11) [] 0 0,.q 62 (fun g44=>.int .i64 (i7.length:Int)) [] 0 0,.q 63 (fun g44=>.int .i64 (wr .i64 ((i7.length:Int)-1))) [1] 0 0,.q 64 (fun g44=>.pointer (some ⟨b36,o37+Int.toNat (wr .i64 ((i7.length:Int)-1))*34,none⟩)) [0,2] 0 0,.q 65 (fun g44=>.pointer (some ⟨b36,o37+Int.toNat (wr .i64 ((i7.length:Int)-1))*34+Int.toNat 1*17,none⟩)) [3] 0 0,.q 66 (fun g44=>.agg (Cd.cs c_api_Addr (vget (lget i7 (wr .i64 ((i7.length:Int)-1))) 1)).toArray) [4] 0 0,.q 67 (fun g44=>.slice p2 t1.length c3) [] 0 0,.q 68 (fun g44=>.int .i64 i9) [] 0 0,.q 69 (fun g44=>.pointer (some ⟨b40,o41+Int.toNat i9*18,none⟩)) [6,7] 0 0,.q 70 (fun g44=>.agg (Cd.cs c_api_Prefix (lget t1 i9)).toArray) [8] 0 0,.q 71 (fun g44=>.agg (Cd.cs c_api_Addr t42).toArray) [9] 0 0,.q 72 (fun g44=>.bool t43) [5,10] 0 0] (fun g44 s=>match s with | _=>(Wd w [rowE (cVec c_api_Addr 2 (by decide)) 48 p10 c11 i7,rowE c_api_Prefix 37 p2 c3 t1])) 0 (by kernel_rfl) (by kernel_rfl) (by kernel_rfl) (by kernel_rfl) (by kernel_rfl) ⟨fun _ _ _=>rfl,fun _ _ _=>rfl,fun _ _ _=>rfl,fun _ _ _=>rfl,fun _ _ _=>rfl,fun _ _ _=>rfl,fun _ _ _=>rfl,fun _ _ _=>rfl,fun _ _ _=>rfl,fun _ _ _=>rfl,fun _ _ _=>rfl,fun _ _ _=>rfl,trivial⟩ (by kernel_rfl) (fun w_ h=>⟨fun _=>g3 0 none 0 none w_,h.drew⟩) ⟨?_,?_,?_,?_,?_,?_,?_,?_,?_,?_,?_,?_,trivial⟩ ?_
       ·intro Lx g44 s K hl hh k
        show At 98 ((3,_)::(4,_)::(5,_)::(6,_)::Lx) _ _
        refine am ?_
        exact at_nil k
       ·intro Lx g44 s K hl hh k
        show At 98 ((3,_)::(4,_)::(5,_)::(6,_)::Lx) _ _
        refine am ?_
        exact at_nil k
       ·intro Lx g44 s K hl hh k
        show At 98 ((62,_)::(3,_)::(4,_)::(5,_)::(6,_)::Lx) _ _
        refine aw (r_isub rfl rfl) ?_
        exact at_nil k
       ·intro Lx g44 s K hl hh k
        show At 98 ((61,_)::(63,_)::(3,_)::(4,_)::(5,_)::(6,_)::Lx) _ _
        refine aw (r_idx underlying45 sizeOf48 rfl rfl h34 hp35) ?_
        exact at_nil k
       ·intro Lx g44 s K hl hh k
        show At 98 ((64,_)::(3,_)::(4,_)::(5,_)::(6,_)::Lx) _ _
        refine aw (r_idxArr underlying48 sizeOf24 rfl rfl (by decide)) ?_
        exact at_nil k
       ·intro Lx g44 s K hl hh k
        show At 98 ((65,_)::(3,_)::(4,_)::(5,_)::(6,_)::Lx) _ _
        obtain rfl:s=0:=by omega
        refine aw (r_load_aggc (c:=c_api_Addr) (z:=vget (lget i7 (wr .i64 ((i7.length:Int)-1))) 1) isAgg24 sizeOf24 rfl (fun w1 hw=>row_lens (y:=vget (lget i7 (wr .i64 ((i7.length:Int)-1))) 1) (W:=fun w1=>w1=_) (fun w1 h=>by subst h;exact Below.refl _ _) (hw.own .z).row h34 hp35 (Lens.comp lw (fun z=>vset (lget i7 (wr .i64 ((i7.length:Int)-1))) 1 z) (Lens.vec c_api_Addr (by decide) (lget i7 (wr .i64 ((i7.length:Int)-1))) 1 (by decide))) _ rfl)) ?_
        exact at_nil k
       ·intro Lx g44 s K hl hh k
        show At 98 ((3,_)::(4,_)::(5,_)::(6,_)::Lx) _ _
        refine am ?_
        exact at_nil k
       ·intro Lx g44 s K hl hh k
        show At 98 ((3,_)::(4,_)::(5,_)::(6,_)::Lx) _ _
        refine am ?_
        exact at_nil k
       ·intro Lx g44 s K hl hh k
        show At 98 ((67,_)::(68,_)::(3,_)::(4,_)::(5,_)::(6,_)::Lx) _ _
        refine aw (r_idx underlying27 sizeOf37 rfl rfl h38 hp39) ?_
        exact at_nil k
       ·intro Lx g44 s K hl hh k
        show At 98 ((69,_)::(3,_)::(4,_)::(5,_)::(6,_)::Lx) _ _
        obtain rfl:s=0:=by omega
        refine aw (r_load_aggc (c:=c_api_Prefix) (z:=lget t1 i9) isAgg37 sizeOf37 rfl (fun w1 hw=>row_cell (W:=fun w1=>w1=_) (fun w1 h=>by subst h;exact Below.refl _ _) (hw.own (.s .z)).row h38 hp39 _ rfl)) ?_
        exact at_nil k
       ·intro Lx g44 s K hl hh k
        show At 98 ((70,_)::(3,_)::(4,_)::(5,_)::(6,_)::Lx) _ _
        obtain rfl:s=0:=by omega
        refine cB func41 rfl (fun w hw=>crawlwayref53_last_ok _ _ ht42 w) ?_
        exact at_nil k
       ·intro Lx g44 s K hl hh k
        show At 98 ((66,_)::(71,_)::(3,_)::(4,_)::(5,_)::(6,_)::Lx) _ _
        obtain rfl:s=0:=by omega
        refine cB func24 rfl (fun w hw=>crawlwayref10_Less_ok _ _ _ ht43 w) ?_
        exact at_nil k
       intro g44
       show At 98 [(61,_),(62,_),(63,_),(64,_),(65,_),(66,_),(67,_),(68,_),(69,_),(70,_),(71,_),(72,_),(3,_),(4,_),(5,_),(6,_)] _ _
       refine wq [72,6,5,4,3] ?_
       refine tn ?_
       obtain ⟨h45,hF⟩|⟨h45,hF⟩:=oi hF
       ·refine ct h45 ?_
        refine wq [6,5,4,3] ?_
        obtain ⟨h46,hF⟩:=gd hF
        refine at_pure (φ:=∃ b o,p2=some ⟨b,o,none⟩) (fun _ hw=>row_ptr (hw.own (.s .z)).row h46) ?_
        rintro ⟨b48,o49,hp47⟩
        obtain ⟨t50,ht50,hF⟩:=bM hF
        obtain ⟨h51,hF⟩:=gd hF
        refine at_pure (φ:=∃ b o,p10=some ⟨b,o,none⟩) (fun _ hw=>row_ptr (hw.own .z).row h51) ?_
        rintro ⟨b53,o54,hp52⟩
        refine at_inv [.q 73 (fun g55=>.slice p10 i7.length c11) [] 0 0,.q 74 (fun g55=>.int .i64 (i7.length:Int)) [] 0 0,.q 75 (fun g55=>.int .i64 (wr .i64 ((i7.length:Int)-1))) [1] 0 0,.q 76 (fun g55=>.slice p2 t1.length c3) [] 0 0,.q 77 (fun g55=>.int .i64 i9) [] 0 0,.q 78 (fun g55=>.pointer (some ⟨b48,o49+Int.toNat i9*18,none⟩)) [3,4] 0 0,.q 79 (fun g55=>.agg (Cd.cs c_api_Prefix (lget t1 i9)).toArray) [5] 0 0,.q 80 (fun g55=>.agg (Cd.cs c_api_Addr t50).toArray) [6] 0 0,.q 81 (fun g55=>.pointer (some ⟨b53,o54+Int.toNat (wr .i64 ((i7.length:Int)-1))*34,none⟩)) [0,2] 0 0,.q 82 (fun g55=>.pointer (some ⟨b53,o54+Int.toNat (wr .i64 ((i7.length:Int)-1))*34+Int.toNat 1*17,none⟩)) [8] 0 0,.st 0 none [7,9]] (fun g55 s=>match s with | 0=>(Wd w [rowE (cVec c_api_Addr 2 (by decide)) 48 p10 c11 i7,rowE c_api_Prefix 37 p2 c3 t1]) | _=>(Wd w [rowE (cVec c_api_Addr 2 (by decide)) 48 p10 c11 (lset i7 (wr .i64 ((i7.length:Int)-1)) (vset (lget i7 (wr .i64 ((i7.length:Int)-1))) 1 t50)),rowE c_api_Prefix 37 p2 c3 t1])) 1 (by kernel_rfl) (by kernel_rfl) (by kernel_rfl) (by kernel_rfl) (by kernel_rfl) ⟨fun _ _ _=>rfl,fun _ _ _=>rfl,fun _ _ _=>rfl,fun _ _ _=>rfl,fun _ _ _=>rfl,fun _ _ _=>rfl,fun _ _ _=>rfl,fun _ _ _=>rfl,fun _ _ _=>rfl,fun _ _ _=>rfl,fun _ _ _=>rfl,trivial⟩ (by kernel_rfl) (fun w_ h=>⟨fun _=>g3 0 none 0 none w_,h.drew⟩) ⟨?_,?_,?_,?_,?_,?_,?_,?_,?_,?_,?_,trivial⟩ ?_
        ·intro Lx g55 s K hl hh k
         show At 98 ((3,_)::(4,_)::(5,_)::(6,_)::Lx) _ _
         refine am ?_
         exact at_nil k
        ·intro Lx g55 s K hl hh k
         show At 98 ((3,_)::(4,_)::(5,_)::(6,_)::Lx) _ _
         refine am ?_
         exact at_nil k
        ·intro Lx g55 s K hl hh k
         show At 98 ((74,_)::(3,_)::(4,_)::(5,_)::(6,_)::Lx) _ _
         refine aw (r_isub rfl rfl) ?_
         exact at_nil k
        ·intro Lx g55 s K hl hh k
         show At 98 ((3,_)::(4,_)::(5,_)::(6,_)::Lx) _ _
         refine am ?_
         exact at_nil k
        ·intro Lx g55 s K hl hh k
         show At 98 ((3,_)::(4,_)::(5,_)::(6,_)::Lx) _ _
         refine am ?_
         exact at_nil k
        ·intro Lx g55 s K hl hh k
         show At 98 ((76,_)::(77,_)::(3,_)::(4,_)::(5,_)::(6,_)::Lx) _ _
         refine aw (r_idx underlying27 sizeOf37 rfl rfl h46 hp47) ?_
         exact at_nil k
        ·intro Lx g55 s K hl hh k
         show At 98 ((78,_)::(3,_)::(4,_)::(5,_)::(6,_)::Lx) _ _
         obtain rfl:s=0:=by omega
         refine aw (r_load_aggc (c:=c_api_Prefix) (z:=lget t1 i9) isAgg37 sizeOf37 rfl (fun w1 hw=>row_cell (W:=fun w1=>w1=_) (fun w1 h=>by subst h;exact Below.refl _ _) (hw.own (.s .z)).row h46 hp47 _ rfl)) ?_
         exact at_nil k
        ·intro Lx g55 s K hl hh k
         show At 98 ((79,_)::(3,_)::(4,_)::(5,_)::(6,_)::Lx) _ _
         obtain rfl:s=0:=by omega
         refine cB func41 rfl (fun w hw=>crawlwayref53_last_ok _ _ ht50 w) ?_
         exact at_nil k
        ·intro Lx g55 s K hl hh k
         show At 98 ((73,_)::(75,_)::(3,_)::(4,_)::(5,_)::(6,_)::Lx) _ _
         refine aw (r_idx underlying45 sizeOf48 rfl rfl h51 hp52) ?_
         exact at_nil k
        ·intro Lx g55 s K hl hh k
         show At 98 ((81,_)::(3,_)::(4,_)::(5,_)::(6,_)::Lx) _ _
         refine aw (r_idxArr underlying48 sizeOf24 rfl rfl (by decide)) ?_
         exact at_nil k
        ·intro Lx g55 K k
         show At 98 ((80,_)::(82,_)::(3,_)::(4,_)::(5,_)::(6,_)::Lx) _ _
         refine at_storeRow (c:=(cVec c_api_Addr 2 (by decide))) (c':=c_api_Addr) (i:=wr .i64 ((i7.length:Int)-1)) (z:=t50) (y:=vset (lget i7 (wr .i64 ((i7.length:Int)-1))) 1 t50) .z h51 hp52 (Lens.comp lw (fun z=>vset (lget i7 (wr .i64 ((i7.length:Int)-1))) 1 z) (Lens.vec c_api_Addr (by decide) (lget i7 (wr .i64 ((i7.length:Int)-1))) 1 (by decide))) (by rfl) sizeOf24 rfl rfl rfl ?_
         exact at_nil k
        intro g55
        show At 98 [(73,_),(74,_),(75,_),(76,_),(77,_),(78,_),(79,_),(80,_),(81,_),(82,_),(3,_),(4,_),(5,_),(6,_)] _ _
        refine at_ov (t:=3) rfl (show Value.slice p10 (List.length i7) c11=.slice p10 (List.length (lset i7 (wr .i64 ((i7.length:Int)-1)) (vset (lget i7 (wr .i64 ((i7.length:Int)-1))) 1 t50))) c11 from congrArg (fun n_=>Value.slice p10 n_ c11) ((lset_length _ _ _).symm)) ?_
        refine at_ov (t:=73) rfl (show Value.slice p10 (List.length i7) c11=.slice p10 (List.length (lset i7 (wr .i64 ((i7.length:Int)-1)) (vset (lget i7 (wr .i64 ((i7.length:Int)-1))) 1 t50))) c11 from congrArg (fun n_=>Value.slice p10 n_ c11) ((lset_length _ _ _).symm)) ?_
        refine wq [5,4,3] ?_
        refine tn ?_
        refine at_exit ?_
        refine te (at_blk_same (tn ?_))
        refine qr (am (aw xa (aa (nwq [5,4,3] ?_))))
        exact at_weak_k (ih _ _ _ hF K p10 c11) ⟨rfl,rfl,rfl,trivial⟩
       refine cf h45 ?_
       refine sn ?_
       refine at_exit ?_
       refine te (at_blk_same (tn ?_))
       refine qr (am (aw xa (aa (nwq [5,4,3] ?_))))
       exact at_weak_k (ih _ _ _ hF K p10 c11) ⟨rfl,rfl,rfl,trivial⟩
      skip
      obtain ⟨h56,hF⟩:=gd hF
      refine at_pure (φ:=∃ b o,p2=some ⟨b,o,none⟩) (fun _ hw=>row_ptr (hw.own (.s (.s .z))).row h56) ?_
      rintro ⟨b58,o59,hp57⟩
      obtain ⟨t60,ht60,hF⟩:=bM hF
      refine at_inv [.q 46 (fun g61=>.bool ((vget (lget i7 (wr .i64 ((i7.length:Int)-1))) 0).f_V==((lget t1 i9).f_A).f_V)) [] 0 0,.q 47 (fun g61=>.bool true) [0] 0 0,.q 48 (fun g61=>.bool t20.2) [1] 0 0,.q 49 (fun g61=>.bool (!t20.2)) [1,2] 0 0,.q 50 (fun g61=>.bool false) [1,3] 0 0,.q 51 (fun g61=>.agg (Cd.cs c_api_Addr t20.1).toArray) [4] 0 0,.q 52 (fun g61=>.slice p2 t1.length c3) [4] 0 0,.q 53 (fun g61=>.int .i64 i9) [4] 0 0,.q 54 (fun g61=>.pointer (some ⟨b58,o59+Int.toNat i9*18,none⟩)) [4,6,7] 0 0,.q 55 (fun g61=>.pointer (some ⟨b58,o59+Int.toNat i9*18+0,none⟩)) [4,8] 0 0,.q 56 (fun g61=>.agg (Cd.cs c_api_Addr ((lget t1 i9).f_A)).toArray) [4,9] 0 0,.q 57 (fun g61=>.bool t60) [4,5,10] 0 0,.q 58 (fun g61=>.bool (!t60)) [4,11] 0 0,.q 59 (fun g61=>.bool (!t60)) [1,4,12] 0 0,.q 60 (fun g61=>.bool (!t60)) [1,13] 0 0] (fun g61 s=>match s with | _=>(Wd w [cellsE b21 (Cd.cs c_api_Addr t20.1) 24,rowE (cVec c_api_Addr 2 (by decide)) 48 p10 c11 i7,rowE c_api_Prefix 37 p2 c3 t1])) 0 (by kernel_rfl) (by kernel_rfl) (by kernel_rfl) (by kernel_rfl) (by kernel_rfl) ⟨fun _ _ _=>rfl,fun _ _ _=>rfl,fun _ _ _=>rfl,fun _ _ _=>rfl,fun _ _ _=>rfl,fun _ _ _=>rfl,fun _ _ _=>rfl,fun _ _ _=>rfl,fun _ _ _=>rfl,fun _ _ _=>rfl,fun _ _ _=>rfl,fun _ _ _=>rfl,fun _ _ _=>rfl,fun _ _ _=>rfl,fun _ _ _=>rfl,trivial⟩ (by kernel_rfl) (fun w_ h=>⟨fun _=>g3 0 none 0 none w_,h.drew⟩) ⟨?_,?_,?_,?_,?_,?_,?_,?_,?_,?_,?_,?_,?_,?_,?_,trivial⟩ ?_
      ·intro Lx g61 s K hl hh k
       show At 98 ((3,_)::(4,_)::(5,_)::(6,_)::(7,_)::(8,_)::(9,_)::Lx) _ _
       refine am ?_
       exact at_nil k
      ·intro Lx g61 s K hl hh k
       show At 98 ((46,_)::(3,_)::(4,_)::(5,_)::(6,_)::(7,_)::(8,_)::(9,_)::Lx) _ _
       refine am ?_
       exact at_nil (at_cast h31 k)
      ·intro Lx g61 s K hl hh k
       show At 98 ((47,_)::(3,_)::(4,_)::(5,_)::(6,_)::(7,_)::(8,_)::(9,_)::Lx) _ _
       refine gy ?_
       refine am ?_
       exact at_nil k
      ·intro Lx g61 s K hl hh k
       show At 98 ((47,_)::(48,_)::(3,_)::(4,_)::(5,_)::(6,_)::(7,_)::(8,_)::(9,_)::Lx) _ _
       refine gy ?_
       refine aw (r_not rfl) ?_
       exact at_nil k
      ·intro Lx g61 s K hl hh k
       show At 98 ((47,_)::(49,_)::(3,_)::(4,_)::(5,_)::(6,_)::(7,_)::(8,_)::(9,_)::Lx) _ _
       refine gy ?_
       refine am ?_
       exact at_nil (at_cast h32 k)
      ·intro Lx g61 s K hl hh k
       show At 98 ((50,_)::(3,_)::(4,_)::(5,_)::(6,_)::(7,_)::(8,_)::(9,_)::Lx) _ _
       refine gy ?_
       obtain rfl:s=0:=by omega
       refine aw (r_load_aggc (c:=c_api_Addr) (z:=t20.1) isAgg24 sizeOf24 rfl (lens_cell .z lw)) ?_
       exact at_nil k
      ·intro Lx g61 s K hl hh k
       show At 98 ((50,_)::(3,_)::(4,_)::(5,_)::(6,_)::(7,_)::(8,_)::(9,_)::Lx) _ _
       refine gy ?_
       refine am ?_
       exact at_nil k
      ·intro Lx g61 s K hl hh k
       show At 98 ((50,_)::(3,_)::(4,_)::(5,_)::(6,_)::(7,_)::(8,_)::(9,_)::Lx) _ _
       refine gy ?_
       refine am ?_
       exact at_nil k
      ·intro Lx g61 s K hl hh k
       show At 98 ((50,_)::(52,_)::(53,_)::(3,_)::(4,_)::(5,_)::(6,_)::(7,_)::(8,_)::(9,_)::Lx) _ _
       refine gy ?_
       refine aw (r_idx underlying27 sizeOf37 rfl rfl h56 hp57) ?_
       exact at_nil k
      ·intro Lx g61 s K hl hh k
       show At 98 ((50,_)::(54,_)::(3,_)::(4,_)::(5,_)::(6,_)::(7,_)::(8,_)::(9,_)::Lx) _ _
       refine gy ?_
       refine fa 0 underlying37 rfl sizeOf24 ?_
       exact at_nil k
      ·intro Lx g61 s K hl hh k
       show At 98 ((50,_)::(55,_)::(3,_)::(4,_)::(5,_)::(6,_)::(7,_)::(8,_)::(9,_)::Lx) _ _
       refine gy ?_
       obtain rfl:s=0:=by omega
       refine aw (r_load_aggc (c:=c_api_Addr) (z:=(lget t1 i9).f_A) isAgg24 sizeOf24 rfl (fun w1 hw=>row_lens (y:=(lget t1 i9).f_A) (W:=fun w1=>w1=_) (fun w1 h=>by subst h;exact Below.refl _ _) (hw.own (.s (.s .z))).row h56 hp57 (Lens.comp lw (fun z=>{ (lget t1 i9) with f_A:=z }) (c_api_Prefix_f_A (lget t1 i9))) _ rfl)) ?_
       exact at_nil k
      ·intro Lx g61 s K hl hh k
       show At 98 ((50,_)::(51,_)::(56,_)::(3,_)::(4,_)::(5,_)::(6,_)::(7,_)::(8,_)::(9,_)::Lx) _ _
       refine gy ?_
       obtain rfl:s=0:=by omega
       refine cB func24 rfl (fun w hw=>crawlwayref10_Less_ok _ _ _ ht60 w) ?_
       exact at_nil k
      ·intro Lx g61 s K hl hh k
       show At 98 ((50,_)::(57,_)::(3,_)::(4,_)::(5,_)::(6,_)::(7,_)::(8,_)::(9,_)::Lx) _ _
       refine gy ?_
       refine aw (r_not rfl) ?_
       exact at_nil k
      ·intro Lx g61 s K hl hh k
       show At 98 ((47,_)::(50,_)::(58,_)::(3,_)::(4,_)::(5,_)::(6,_)::(7,_)::(8,_)::(9,_)::Lx) _ _
       refine gy ?_
       refine aw xp ?_
       exact at_nil k
      ·intro Lx g61 s K hl hh k
       show At 98 ((47,_)::(59,_)::(3,_)::(4,_)::(5,_)::(6,_)::(7,_)::(8,_)::(9,_)::Lx) _ _
       refine aw xp ?_
       exact at_nil k
      intro g61
      show At 98 [(46,_),(47,_),(48,_),(49,_),(50,_),(51,_),(52,_),(53,_),(54,_),(55,_),(56,_),(57,_),(58,_),(59,_),(60,_),(3,_),(4,_),(5,_),(6,_),(7,_),(8,_),(9,_)] _ _
      refine dz (wq [60,6,5,4,3] ?_)
      refine tn ?_
      obtain ⟨h62,hF⟩|⟨h62,hF⟩:=oi hF
      ·refine ct h62 ?_
       refine qs (qs (wq [6,5,4,3] ?_))
       obtain ⟨h63,hF⟩:=gd hF
       refine at_pure (φ:=∃ b o,p10=some ⟨b,o,none⟩) (fun _ hw=>row_ptr (hw.own .z).row h63) ?_
       rintro ⟨b65,o66,hp64⟩
       obtain ⟨h67,hF⟩:=gd hF
       refine at_pure (φ:=∃ b o,p2=some ⟨b,o,none⟩) (fun _ hw=>row_ptr (hw.own (.s .z)).row h67) ?_
       rintro ⟨b69,o70,hp68⟩
       obtain ⟨t71,ht71,hF⟩:=bM hF
       obtain ⟨t72,ht72,hF⟩:=bM hF
       refine at_inv [.q 61 (fun g73=>.slice p10 i7.length c11) [] 0 0,.q 62 (fun g73=>.int .i64 (i7.length:Int)) [] 0 0,.q 63 (fun g73=>.int .i64 (wr .i64 ((i7.length:Int)-1))) [1] 0 0,.q 64 (fun g73=>.pointer (some ⟨b65,o66+Int.toNat (wr .i64 ((i7.length:Int)-1))*34,none⟩)) [0,2] 0 0,.q 65 (fun g73=>.pointer (some ⟨b65,o66+Int.toNat (wr .i64 ((i7.length:Int)-1))*34+Int.toNat 1*17,none⟩)) [3] 0 0,.q 66 (fun g73=>.agg (Cd.cs c_api_Addr (vget (lget i7 (wr .i64 ((i7.length:Int)-1))) 1)).toArray) [4] 0 0,.q 67 (fun g73=>.slice p2 t1.length c3) [] 0 0,.q 68 (fun g73=>.int .i64 i9) [] 0 0,.q 69 (fun g73=>.pointer (some ⟨b69,o70+Int.toNat i9*18,none⟩)) [6,7] 0 0,.q 70 (fun g73=>.agg (Cd.cs c_api_Prefix (lget t1 i9)).toArray) [8] 0 0,.q 71 (fun g73=>.agg (Cd.cs c_api_Addr t71).toArray) [9] 0 0,.q 72 (fun g73=>.bool t72) [5,10] 0 0] (fun g73 s=>match s with | _=>(Wd w [rowE (cVec c_api_Addr 2 (by decide)) 48 p10 c11 i7,rowE c_api_Prefix 37 p2 c3 t1])) 0 (by kernel_rfl) (by kernel_rfl) (by kernel_rfl) (by kernel_rfl) (by kernel_rfl) ⟨fun _ _ _=>rfl,fun _ _ _=>rfl,fun _ _ _=>rfl,fun _ _ _=>rfl,fun _ _ _=>rfl,fun _ _ _=>rfl,fun _ _ _=>rfl,fun _ _ _=>rfl,fun _ _ _=>rfl,fun _ _ _=>rfl,fun _ _ _=>rfl,fun _ _ _=>rfl,trivial⟩ (by kernel_rfl) (fun w_ h=>⟨fun _=>g3 0 none 0 none w_,h.drew⟩) ⟨?_,?_,?_,?_,?_,?_,?_,?_,?_,?_,?_,?_,trivial⟩ ?_
       ·intro Lx g73 s K hl hh k
        show At 98 ((3,_)::(4,_)::(5,_)::(6,_)::Lx) _ _
        refine am ?_
        exact at_nil k
       ·intro Lx g73 s K hl hh k
        show At 98 ((3,_)::(4,_)::(5,_)::(6,_)::Lx) _ _
        refine am ?_
        exact at_nil k
       ·intro Lx g73 s K hl hh k
        show At 98 ((62,_)::(3,_)::(4,_)::(5,_)::(6,_)::Lx) _ _
        refine aw (r_isub rfl rfl) ?_
        exact at_nil k
       ·intro Lx g73 s K hl hh k
        show At 98 ((61,_)::(63,_)::(3,_)::(4,_)::(5,_)::(6,_)::Lx) _ _
        refine aw (r_idx underlying45 sizeOf48 rfl rfl h63 hp64) ?_
        exact at_nil k
       ·intro Lx g73 s K hl hh k
        show At 98 ((64,_)::(3,_)::(4,_)::(5,_)::(6,_)::Lx) _ _
        refine aw (r_idxArr underlying48 sizeOf24 rfl rfl (by decide)) ?_
        exact at_nil k
       ·intro Lx g73 s K hl hh k
        show At 98 ((65,_)::(3,_)::(4,_)::(5,_)::(6,_)::Lx) _ _
        obtain rfl:s=0:=by omega
        refine aw (r_load_aggc (c:=c_api_Addr) (z:=vget (lget i7 (wr .i64 ((i7.length:Int)-1))) 1) isAgg24 sizeOf24 rfl (fun w1 hw=>row_lens (y:=vget (lget i7 (wr .i64 ((i7.length:Int)-1))) 1) (W:=fun w1=>w1=_) (fun w1 h=>by subst h;exact Below.refl _ _) (hw.own .z).row h63 hp64 (Lens.comp lw (fun z=>vset (lget i7 (wr .i64 ((i7.length:Int)-1))) 1 z) (Lens.vec c_api_Addr (by decide) (lget i7 (wr .i64 ((i7.length:Int)-1))) 1 (by decide))) _ rfl)) ?_
        exact at_nil k
       ·intro Lx g73 s K hl hh k
        show At 98 ((3,_)::(4,_)::(5,_)::(6,_)::Lx) _ _
        refine am ?_
        exact at_nil k
       ·intro Lx g73 s K hl hh k
        show At 98 ((3,_)::(4,_)::(5,_)::(6,_)::Lx) _ _
        refine am ?_
        exact at_nil k
       ·intro Lx g73 s K hl hh k
        show At 98 ((67,_)::(68,_)::(3,_)::(4,_)::(5,_)::(6,_)::Lx) _ _
        refine aw (r_idx underlying27 sizeOf37 rfl rfl h67 hp68) ?_
        exact at_nil k
       ·intro Lx g73 s K hl hh k
        show At 98 ((69,_)::(3,_)::(4,_)::(5,_)::(6,_)::Lx) _ _
        obtain rfl:s=0:=by omega
        refine aw (r_load_aggc (c:=c_api_Prefix) (z:=lget t1 i9) isAgg37 sizeOf37 rfl (fun w1 hw=>row_cell (W:=fun w1=>w1=_) (fun w1 h=>by subst h;exact Below.refl _ _) (hw.own (.s .z)).row h67 hp68 _ rfl)) ?_
        exact at_nil k
       ·intro Lx g73 s K hl hh k
        show At 98 ((70,_)::(3,_)::(4,_)::(5,_)::(6,_)::Lx) _ _
        obtain rfl:s=0:=by omega
        refine cB func41 rfl (fun w hw=>crawlwayref53_last_ok _ _ ht71 w) ?_
        exact at_nil k
       ·intro Lx g73 s K hl hh k
        show At 98 ((66,_)::(71,_)::(3,_)::(4,_)::(5,_)::(6,_)::Lx) _ _
        obtain rfl:s=0:=by omega
        refine cB func24 rfl (fun w hw=>crawlwayref10_Less_ok _ _ _ ht72 w) ?_
        exact at_nil k
       intro g73
       show At 98 [(61,_),(62,_),(63,_),(64,_),(65,_),(66,_),(67,_),(68,_),(69,_),(70,_),(71,_),(72,_),(3,_),(4,_),(5,_),(6,_)] _ _
       refine wq [72,6,5,4,3] ?_
       refine tn ?_
       obtain ⟨h74,hF⟩|⟨h74,hF⟩:=oi hF
       ·refine ct h74 ?_
        refine wq [6,5,4,3] ?_
        obtain ⟨h75,hF⟩:=gd hF
        refine at_pure (φ:=∃ b o,p2=some ⟨b,o,none⟩) (fun _ hw=>row_ptr (hw.own (.s .z)).row h75) ?_
        rintro ⟨b77,o78,hp76⟩
        obtain ⟨t79,ht79,hF⟩:=bM hF
        obtain ⟨h80,hF⟩:=gd hF
        refine at_pure (φ:=∃ b o,p10=some ⟨b,o,none⟩) (fun _ hw=>row_ptr (hw.own .z).row h80) ?_
        rintro ⟨b82,o83,hp81⟩
        refine at_inv [.q 73 (fun g84=>.slice p10 i7.length c11) [] 0 0,.q 74 (fun g84=>.int .i64 (i7.length:Int)) [] 0 0,.q 75 (fun g84=>.int .i64 (wr .i64 ((i7.length:Int)-1))) [1] 0 0,.q 76 (fun g84=>.slice p2 t1.length c3) [] 0 0,.q 77 (fun g84=>.int .i64 i9) [] 0 0,.q 78 (fun g84=>.pointer (some ⟨b77,o78+Int.toNat i9*18,none⟩)) [3,4] 0 0,.q 79 (fun g84=>.agg (Cd.cs c_api_Prefix (lget t1 i9)).toArray) [5] 0 0,.q 80 (fun g84=>.agg (Cd.cs c_api_Addr t79).toArray) [6] 0 0,.q 81 (fun g84=>.pointer (some ⟨b82,o83+Int.toNat (wr .i64 ((i7.length:Int)-1))*34,none⟩)) [0,2] 0 0,.q 82 (fun g84=>.pointer (some ⟨b82,o83+Int.toNat (wr .i64 ((i7.length:Int)-1))*34+Int.toNat 1*17,none⟩)) [8] 0 0,.st 0 none [7,9]] (fun g84 s=>match s with | 0=>(Wd w [rowE (cVec c_api_Addr 2 (by decide)) 48 p10 c11 i7,rowE c_api_Prefix 37 p2 c3 t1]) | _=>(Wd w [rowE (cVec c_api_Addr 2 (by decide)) 48 p10 c11 (lset i7 (wr .i64 ((i7.length:Int)-1)) (vset (lget i7 (wr .i64 ((i7.length:Int)-1))) 1 t79)),rowE c_api_Prefix 37 p2 c3 t1])) 1 (by kernel_rfl) (by kernel_rfl) (by kernel_rfl) (by kernel_rfl) (by kernel_rfl) ⟨fun _ _ _=>rfl,fun _ _ _=>rfl,fun _ _ _=>rfl,fun _ _ _=>rfl,fun _ _ _=>rfl,fun _ _ _=>rfl,fun _ _ _=>rfl,fun _ _ _=>rfl,fun _ _ _=>rfl,fun _ _ _=>rfl,fun _ _ _=>rfl,trivial⟩ (by kernel_rfl) (fun w_ h=>⟨fun _=>g3 0 none 0 none w_,h.drew⟩) ⟨?_,?_,?_,?_,?_,?_,?_,?_,?_,?_,?_,trivial⟩ ?_
        ·intro Lx g84 s K hl hh k
         show At 98 ((3,_)::(4,_)::(5,_)::(6,_)::Lx) _ _
         refine am ?_
         exact at_nil k
        ·intro Lx g84 s K hl hh k
         show At 98 ((3,_)::(4,_)::(5,_)::(6,_)::Lx) _ _
         refine am ?_
         exact at_nil k
        ·intro Lx g84 s K hl hh k
         show At 98 ((74,_)::(3,_)::(4,_)::(5,_)::(6,_)::Lx) _ _
         refine aw (r_isub rfl rfl) ?_
         exact at_nil k
        ·intro Lx g84 s K hl hh k
         show At 98 ((3,_)::(4,_)::(5,_)::(6,_)::Lx) _ _
         refine am ?_
         exact at_nil k
        ·intro Lx g84 s K hl hh k
         show At 98 ((3,_)::(4,_)::(5,_)::(6,_)::Lx) _ _
         refine am ?_
         exact at_nil k
        ·intro Lx g84 s K hl hh k
         show At 98 ((76,_)::(77,_)::(3,_)::(4,_)::(5,_)::(6,_)::Lx) _ _
         refine aw (r_idx underlying27 sizeOf37 rfl rfl h75 hp76) ?_
         exact at_nil k
        ·intro Lx g84 s K hl hh k
         show At 98 ((78,_)::(3,_)::(4,_)::(5,_)::(6,_)::Lx) _ _
         obtain rfl:s=0:=by omega
         refine aw (r_load_aggc (c:=c_api_Prefix) (z:=lget t1 i9) isAgg37 sizeOf37 rfl (fun w1 hw=>row_cell (W:=fun w1=>w1=_) (fun w1 h=>by subst h;exact Below.refl _ _) (hw.own (.s .z)).row h75 hp76 _ rfl)) ?_
         exact at_nil k
        ·intro Lx g84 s K hl hh k
         show At 98 ((79,_)::(3,_)::(4,_)::(5,_)::(6,_)::Lx) _ _
         obtain rfl:s=0:=by omega
         refine cB func41 rfl (fun w hw=>crawlwayref53_last_ok _ _ ht79 w) ?_
         exact at_nil k
        ·intro Lx g84 s K hl hh k
         show At 98 ((73,_)::(75,_)::(3,_)::(4,_)::(5,_)::(6,_)::Lx) _ _
         refine aw (r_idx underlying45 sizeOf48 rfl rfl h80 hp81) ?_
         exact at_nil k
        ·intro Lx g84 s K hl hh k
         show At 98 ((81,_)::(3,_)::(4,_)::(5,_)::(6,_)::Lx) _ _
         refine aw (r_idxArr underlying48 sizeOf24 rfl rfl (by decide)) ?_
         exact at_nil k
        ·intro Lx g84 K k
         show At 98 ((80,_)::(82,_)::(3,_)::(4,_)::(5,_)::(6,_)::Lx) _ _
         refine at_storeRow (c:=(cVec c_api_Addr 2 (by decide))) (c':=c_api_Addr) (i:=wr .i64 ((i7.length:Int)-1)) (z:=t79) (y:=vset (lget i7 (wr .i64 ((i7.length:Int)-1))) 1 t79) .z h80 hp81 (Lens.comp lw (fun z=>vset (lget i7 (wr .i64 ((i7.length:Int)-1))) 1 z) (Lens.vec c_api_Addr (by decide) (lget i7 (wr .i64 ((i7.length:Int)-1))) 1 (by decide))) (by rfl) sizeOf24 rfl rfl rfl ?_
         exact at_nil k
        intro g84
        show At 98 [(73,_),(74,_),(75,_),(76,_),(77,_),(78,_),(79,_),(80,_),(81,_),(82,_),(3,_),(4,_),(5,_),(6,_)] _ _
        refine at_ov (t:=3) rfl (show Value.slice p10 (List.length i7) c11=.slice p10 (List.length (lset i7 (wr .i64 ((i7.length:Int)-1)) (vset (lget i7 (wr .i64 ((i7.length:Int)-1))) 1 t79))) c11 from congrArg (fun n_=>Value.slice p10 n_ c11) ((lset_length _ _ _).symm)) ?_
        refine at_ov (t:=73) rfl (show Value.slice p10 (List.length i7) c11=.slice p10 (List.length (lset i7 (wr .i64 ((i7.length:Int)-1)) (vset (lget i7 (wr .i64 ((i7.length:Int)-1))) 1 t79))) c11 from congrArg (fun n_=>Value.slice p10 n_ c11) ((lset_length _ _ _).symm)) ?_
        refine wq [5,4,3] ?_
        refine tn ?_
        refine at_exit ?_
        refine te (at_blk_same (tn ?_))
        refine qr (am (aw xa (aa (nwq [5,4,3] ?_))))
        exact at_weak_k (ih _ _ _ hF K p10 c11) ⟨rfl,rfl,rfl,trivial⟩
       refine cf h74 ?_
       refine sn ?_
       refine at_exit ?_
       refine te (at_blk_same (tn ?_))
       refine qr (am (aw xa (aa (nwq [5,4,3] ?_))))
       exact at_weak_k (ih _ _ _ hF K p10 c11) ⟨rfl,rfl,rfl,trivial⟩
      refine cf h62 ?_
      refine sn (wq [5,4,3] ?_)
      obtain ⟨h85,hF⟩:=gd hF
      refine at_pure (φ:=∃ b o,p2=some ⟨b,o,none⟩) (fun _ hw=>row_ptr (hw.own (.s .z)).row h85) ?_
      rintro ⟨b87,o88,hp86⟩
      obtain ⟨h89,hF⟩:=gd hF
      refine at_pure (φ:=∃ b o,p2=some ⟨b,o,none⟩) (fun _ hw=>row_ptr (hw.own (.s .z)).row h89) ?_
      rintro ⟨b91,o92,hp90⟩
      obtain ⟨t93,ht93,hF⟩:=bM hF
      refine at_invT [.q 83 (fun g95=>.slice p10 i7.length c11) [] 0 1,.q 84 (fun g95=>.slice p2 t1.length c3) [] 0 0,.q 85 (fun g95=>.int .i64 i9) [] 0 0,.q 86 (fun g95=>.pointer (some ⟨b87,o88+Int.toNat i9*18,none⟩)) [1,2] 0 0,.q 87 (fun g95=>.pointer (some ⟨b87,o88+Int.toNat i9*18+0,none⟩)) [3] 0 0,.q 88 (fun g95=>.agg (Cd.cs c_api_Addr ((lget t1 i9).f_A)).toArray) [4] 0 0,.q 89 (fun g95=>.slice p2 t1.length c3) [] 0 0,.q 90 (fun g95=>.int .i64 i9) [] 0 0,.q 91 (fun g95=>.pointer (some ⟨b91,o92+Int.toNat i9*18,none⟩)) [6,7] 0 0,.q 92 (fun g95=>.agg (Cd.cs c_api_Prefix (lget t1 i9)).toArray) [8] 0 0,.q 93 (fun g95=>.agg (Cd.cs c_api_Addr t93).toArray) [9] 0 0,.q 94 (fun g95=>.agg (Cd.cs (cVec c_api_Addr 2 (by decide)) (vset (vset (Vector.replicate 2 zv0:(Vector S_api_Addr 2)) 0 ((lget t1 i9).f_A)) 1 t93)).toArray) [5,10] 0 0,.al 0 95 (fun g95=>.slice (some ⟨((g95 0).1),0,none⟩) ([vset (vset (Vector.replicate 2 zv0:(Vector S_api_Addr 2)) 0 ((lget t1 i9).f_A)) 1 t93]:List (Vector S_api_Addr 2)).length 1) [11]] (fun g95 s=>match s with | 0=>(Wd w [rowE (cVec c_api_Addr 2 (by decide)) 48 p10 c11 i7,rowE c_api_Prefix 37 p2 c3 t1]) | _=>(Wd w [cellsE ((g95 0).1) ((cVec c_api_Addr 2 (by decide)).all ([vset (vset (Vector.replicate 2 zv0:(Vector S_api_Addr 2)) 0 ((lget t1 i9).f_A)) 1 t93]:List (Vector S_api_Addr 2))) 48,rowE (cVec c_api_Addr 2 (by decide)) 48 p10 c11 i7,rowE c_api_Prefix 37 p2 c3 t1])) 1 13 (by kernel_rfl) (by kernel_rfl) (by kernel_rfl) (by kernel_rfl) (by kernel_rfl) (by kernel_rfl) ⟨fun _ _ _=>rfl,fun _ _ _=>rfl,fun _ _ _=>rfl,fun _ _ _=>rfl,fun _ _ _=>rfl,fun _ _ _=>rfl,fun _ _ _=>rfl,fun _ _ _=>rfl,fun _ _ _=>rfl,fun _ _ _=>rfl,fun _ _ _=>rfl,fun _ _ _=>rfl,fun g95 g2 h=>by show (.slice (some ⟨((g95 0).1),0,none⟩) ([vset (vset (Vector.replicate 2 zv0:(Vector S_api_Addr 2)) 0 ((lget t1 i9).f_A)) 1 t93]:List (Vector S_api_Addr 2)).length 1:Value)=.slice (some ⟨((g2 0).1),0,none⟩) ([vset (vset (Vector.replicate 2 zv0:(Vector S_api_Addr 2)) 0 ((lget t1 i9).f_A)) 1 t93]:List (Vector S_api_Addr 2)).length 1;rw [h 0 (show 0<1 by decide)],trivial⟩ (by kernel_rfl) (fun w_ h=>⟨fun _=>g3 0 none 0 none w_,h.drew⟩) ⟨?_,?_,?_,?_,?_,?_,?_,?_,?_,?_,?_,?_,?_,trivial⟩ ?_
      ·intro Lx g95 s K hl hh k
       show At 98 ((3,_)::(4,_)::(5,_)::Lx) _ _
       refine am ?_
       exact at_nil k
      ·intro Lx g95 s K hl hh k
       show At 98 ((3,_)::(4,_)::(5,_)::Lx) _ _
       refine am ?_
       exact at_nil k
      ·intro Lx g95 s K hl hh k
       show At 98 ((3,_)::(4,_)::(5,_)::Lx) _ _
       refine am ?_
       exact at_nil k
      ·intro Lx g95 s K hl hh k
       show At 98 ((84,_)::(85,_)::(3,_)::(4,_)::(5,_)::Lx) _ _
       refine aw (r_idx underlying27 sizeOf37 rfl rfl h85 hp86) ?_
       exact at_nil k
      ·intro Lx g95 s K hl hh k
       show At 98 ((86,_)::(3,_)::(4,_)::(5,_)::Lx) _ _
       refine fa 0 underlying37 rfl sizeOf24 ?_
       exact at_nil k
      ·intro Lx g95 s K hl hh k
       show At 98 ((87,_)::(3,_)::(4,_)::(5,_)::Lx) _ _
       obtain rfl:s=0:=by omega
       refine aw (r_load_aggc (c:=c_api_Addr) (z:=(lget t1 i9).f_A) isAgg24 sizeOf24 rfl (fun w1 hw=>row_lens (y:=(lget t1 i9).f_A) (W:=fun w1=>w1=_) (fun w1 h=>by subst h;exact Below.refl _ _) (hw.own (.s .z)).row h85 hp86 (Lens.comp lw (fun z=>{ (lget t1 i9) with f_A:=z }) (c_api_Prefix_f_A (lget t1 i9))) _ rfl)) ?_
       exact at_nil k
      ·intro Lx g95 s K hl hh k
       show At 98 ((3,_)::(4,_)::(5,_)::Lx) _ _
       refine am ?_
       exact at_nil k
      ·intro Lx g95 s K hl hh k
       show At 98 ((3,_)::(4,_)::(5,_)::Lx) _ _
       refine am ?_
       exact at_nil k
      ·intro Lx g95 s K hl hh k
       show At 98 ((89,_)::(90,_)::(3,_)::(4,_)::(5,_)::Lx) _ _
       refine aw (r_idx underlying27 sizeOf37 rfl rfl h89 hp90) ?_
       exact at_nil k
      ·intro Lx g95 s K hl hh k
       show At 98 ((91,_)::(3,_)::(4,_)::(5,_)::Lx) _ _
       obtain rfl:s=0:=by omega
       refine aw (r_load_aggc (c:=c_api_Prefix) (z:=lget t1 i9) isAgg37 sizeOf37 rfl (fun w1 hw=>row_cell (W:=fun w1=>w1=_) (fun w1 h=>by subst h;exact Below.refl _ _) (hw.own (.s .z)).row h89 hp90 _ rfl)) ?_
       exact at_nil k
      ·intro Lx g95 s K hl hh k
       show At 98 ((92,_)::(3,_)::(4,_)::(5,_)::Lx) _ _
       obtain rfl:s=0:=by omega
       refine cB func41 rfl (fun w hw=>crawlwayref53_last_ok _ _ ht93 w) ?_
       exact at_nil k
      ·intro Lx g95 s K hl hh k
       show At 98 ((88,_)::(93,_)::(3,_)::(4,_)::(5,_)::Lx) _ _
       obtain rfl:s=0:=by omega
       refine aw (r_build_array (zs:=Cd.cs (cVec c_api_Addr 2 (by decide)) (Vector.replicate 2 zv0:(Vector S_api_Addr 2))) (cs:=Cd.cs (cVec c_api_Addr 2 (by decide)) (vset (vset (Vector.replicate 2 zv0:(Vector S_api_Addr 2)) 0 ((lget t1 i9).f_A)) 1 t93)) underlying48 zeroValue48 rfl sizeOf24 rfl (fill_step (c:=c_api_Addr) (z:=(lget t1 i9).f_A) rfl (Lens.vec c_api_Addr (by decide) (Vector.replicate 2 zv0:(Vector S_api_Addr 2)) 0 (by decide)) rfl (fill_step (c:=c_api_Addr) (z:=t93) rfl (Lens.vec c_api_Addr (by decide) (vset (Vector.replicate 2 zv0:(Vector S_api_Addr 2)) 0 ((lget t1 i9).f_A)) 1 (by decide)) rfl rfl))) ?_
       exact at_nil k
      ·intro Lx g95 K k
       show At 98 ((94,_)::(3,_)::(4,_)::(5,_)::Lx) _ _
       refine at_litL (c:=(cVec c_api_Addr 2 (by decide))) ([(Vector.replicate 2 zv0:(Vector S_api_Addr 2))]:List (Vector S_api_Addr 2)) ([vset (vset (Vector.replicate 2 zv0:(Vector S_api_Addr 2)) 0 ((lget t1 i9).f_A)) 1 t93]:List (Vector S_api_Addr 2)) underlying45 sizeOf48 zeroValue48 rfl rfl rfl (by kernel_rfl) (fill_step (c:=(cVec c_api_Addr 2 (by decide))) (z:=vset (vset (Vector.replicate 2 zv0:(Vector S_api_Addr 2)) 0 ((lget t1 i9).f_A)) 1 t93) rfl (Lens.all (cVec c_api_Addr 2 (by decide)) ([(Vector.replicate 2 zv0:(Vector S_api_Addr 2))]:List (Vector S_api_Addr 2)) 0 (by first | decide | exact Nat.le_of_ble_eq_true rfl)) rfl rfl) rfl ?_
       intro b94
       exact at_nil (k (g3 b94 none 0 none w))
      intro g95
      show At 98 [(83,_),(84,_),(85,_),(86,_),(87,_),(88,_),(89,_),(90,_),(91,_),(92,_),(93,_),(94,_),(95,_),(3,_),(4,_),(5,_)] _ _
      obtain ⟨h96,hF⟩:=gd hF
      refine at_append (z:=.agg (Cd.cs (cVec c_api_Addr 2 (by decide)) (Vector.replicate 2 zv0:(Vector S_api_Addr 2))).toArray) (c:=(cVec c_api_Addr 2 (by decide))) (ys:=([vset (vset (Vector.replicate 2 zv0:(Vector S_api_Addr 2)) 0 ((lget t1 i9).f_A)) 1 t93]:List (Vector S_api_Addr 2))) (.s .z) underlying45 infoA448 (by kernel_rfl) (by kernel_rfl) rfl rfl rfl rfl (fun _ hw=>cells_src (hw.ok (Upd.mem .z))) (by kernel_rfl) h96 (app_small h96) rfl ?_
      intro p97 c98
      refine aa (qn (dz (wq [5,4,3] ?_)))
      refine bm ?_
      refine qr (am (aw xa (aa (nwq [5,4,3] ?_))))
      exact at_weak_k (ih _ _ _ hF K p97 c98) ⟨rfl,rfl,rfl,trivial⟩
     skip
     refine at_inv [.q 46 (fun g99=>.bool ((vget (lget i7 (wr .i64 ((i7.length:Int)-1))) 0).f_V==((lget t1 i9).f_A).f_V)) [] 0 0,.q 47 (fun g99=>.bool false) [0] 0 0,.q 48 (fun g99=>undef) [1] 0 0,.q 49 (fun g99=>undef) [1,2] 0 0,.q 50 (fun g99=>undef) [1,3] 0 0,.q 51 (fun g99=>undef) [4] 0 0,.q 52 (fun g99=>undef) [4] 0 0,.q 53 (fun g99=>undef) [4] 0 0,.q 54 (fun g99=>undef) [4,6,7] 0 0,.q 55 (fun g99=>undef) [4,8] 0 0,.q 56 (fun g99=>undef) [4,9] 0 0,.q 57 (fun g99=>undef) [4,5,10] 0 0,.q 58 (fun g99=>undef) [4,11] 0 0,.q 59 (fun g99=>undef) [1,4,12] 0 0,.q 60 (fun g99=>.bool false) [1,13] 0 0] (fun g99 s=>match s with | _=>(Wd w [cellsE b21 (Cd.cs c_api_Addr t20.1) 24,rowE (cVec c_api_Addr 2 (by decide)) 48 p10 c11 i7,rowE c_api_Prefix 37 p2 c3 t1])) 0 (by kernel_rfl) (by kernel_rfl) (by kernel_rfl) (by kernel_rfl) (by kernel_rfl) ⟨fun _ _ _=>rfl,fun _ _ _=>rfl,fun _ _ _=>rfl,fun _ _ _=>rfl,fun _ _ _=>rfl,fun _ _ _=>rfl,fun _ _ _=>rfl,fun _ _ _=>rfl,fun _ _ _=>rfl,fun _ _ _=>rfl,fun _ _ _=>rfl,fun _ _ _=>rfl,fun _ _ _=>rfl,fun _ _ _=>rfl,fun _ _ _=>rfl,trivial⟩ (by kernel_rfl) (fun w_ h=>⟨fun _=>g3 0 none 0 none w_,h.drew⟩) ⟨?_,?_,?_,?_,?_,?_,?_,?_,?_,?_,?_,?_,?_,?_,?_,trivial⟩ ?_
     ·intro Lx g99 s K hl hh k
      show At 98 ((3,_)::(4,_)::(5,_)::(6,_)::(7,_)::(8,_)::(9,_)::Lx) _ _
      refine am ?_
      exact at_nil k
     ·intro Lx g99 s K hl hh k
      show At 98 ((46,_)::(3,_)::(4,_)::(5,_)::(6,_)::(7,_)::(8,_)::(9,_)::Lx) _ _
      refine am ?_
      exact at_nil (at_cast h31 k)
     ·intro Lx g99 s K hl hh k
      show At 98 ((47,_)::(3,_)::(4,_)::(5,_)::(6,_)::(7,_)::(8,_)::(9,_)::Lx) _ _
      refine gn ?_
      exact at_nil k
     ·intro Lx g99 s K hl hh k
      show At 98 ((47,_)::(48,_)::(3,_)::(4,_)::(5,_)::(6,_)::(7,_)::(8,_)::(9,_)::Lx) _ _
      refine gn ?_
      exact at_nil k
     ·intro Lx g99 s K hl hh k
      show At 98 ((47,_)::(49,_)::(3,_)::(4,_)::(5,_)::(6,_)::(7,_)::(8,_)::(9,_)::Lx) _ _
      refine gn ?_
      exact at_nil k
     ·intro Lx g99 s K hl hh k
      show At 98 ((50,_)::(3,_)::(4,_)::(5,_)::(6,_)::(7,_)::(8,_)::(9,_)::Lx) _ _
      obtain rfl:s=0:=by omega
      refine at_guard_undef rfl rfl rfl rfl ?_
      exact at_nil k
     ·intro Lx g99 s K hl hh k
      show At 98 ((50,_)::(3,_)::(4,_)::(5,_)::(6,_)::(7,_)::(8,_)::(9,_)::Lx) _ _
      refine at_guard_undef rfl rfl rfl rfl ?_
      exact at_nil k
     ·intro Lx g99 s K hl hh k
      show At 98 ((50,_)::(3,_)::(4,_)::(5,_)::(6,_)::(7,_)::(8,_)::(9,_)::Lx) _ _
      refine at_guard_undef rfl rfl rfl rfl ?_
      exact at_nil k
     ·intro Lx g99 s K hl hh k
      show At 98 ((50,_)::(52,_)::(53,_)::(3,_)::(4,_)::(5,_)::(6,_)::(7,_)::(8,_)::(9,_)::Lx) _ _
      refine at_guard_undef rfl rfl rfl rfl ?_
      exact at_nil k
     ·intro Lx g99 s K hl hh k
      show At 98 ((50,_)::(54,_)::(3,_)::(4,_)::(5,_)::(6,_)::(7,_)::(8,_)::(9,_)::Lx) _ _
      refine at_guard_undef rfl rfl rfl rfl ?_
      exact at_nil k
     ·intro Lx g99 s K hl hh k
      show At 98 ((50,_)::(55,_)::(3,_)::(4,_)::(5,_)::(6,_)::(7,_)::(8,_)::(9,_)::Lx) _ _
      obtain rfl:s=0:=by omega
      refine at_guard_undef rfl rfl rfl rfl ?_
      exact at_nil k
     ·intro Lx g99 s K hl hh k
      show At 98 ((50,_)::(51,_)::(56,_)::(3,_)::(4,_)::(5,_)::(6,_)::(7,_)::(8,_)::(9,_)::Lx) _ _
      obtain rfl:s=0:=by omega
      refine at_guard_undef rfl rfl rfl rfl ?_
      exact at_nil k
     ·intro Lx g99 s K hl hh k
      show At 98 ((50,_)::(57,_)::(3,_)::(4,_)::(5,_)::(6,_)::(7,_)::(8,_)::(9,_)::Lx) _ _
      refine at_guard_undef rfl rfl rfl rfl ?_
      exact at_nil k
     ·intro Lx g99 s K hl hh k
      show At 98 ((47,_)::(50,_)::(58,_)::(3,_)::(4,_)::(5,_)::(6,_)::(7,_)::(8,_)::(9,_)::Lx) _ _
      refine gn ?_
      exact at_nil k
     ·intro Lx g99 s K hl hh k
      show At 98 ((47,_)::(59,_)::(3,_)::(4,_)::(5,_)::(6,_)::(7,_)::(8,_)::(9,_)::Lx) _ _
      refine aw xp ?_
      exact at_nil k
     intro g99
     show At 98 [(46,_),(47,_),(48,_),(49,_),(50,_),(51,_),(52,_),(53,_),(54,_),(55,_),(56,_),(57,_),(58,_),(59,_),(60,_),(3,_),(4,_),(5,_),(6,_),(7,_),(8,_),(9,_)] _ _
     refine dz (wq [60,6,5,4,3] ?_)
     refine tn ?_
     refine cf rfl ?_
     refine sn (wq [5,4,3] ?_)
     obtain ⟨h100,hF⟩:=gd hF
     refine at_pure (φ:=∃ b o,p2=some ⟨b,o,none⟩) (fun _ hw=>row_ptr (hw.own (.s .z)).row h100) ?_
     rintro ⟨b102,o103,hp101⟩
     obtain ⟨h104,hF⟩:=gd hF
     refine at_pure (φ:=∃ b o,p2=some ⟨b,o,none⟩) (fun _ hw=>row_ptr (hw.own (.s .z)).row h104) ?_
     rintro ⟨b106,o107,hp105⟩
     obtain ⟨t108,ht108,hF⟩:=bM hF
     refine at_invT [.q 83 (fun g110=>.slice p10 i7.length c11) [] 0 1,.q 84 (fun g110=>.slice p2 t1.length c3) [] 0 0,.q 85 (fun g110=>.int .i64 i9) [] 0 0,.q 86 (fun g110=>.pointer (some ⟨b102,o103+Int.toNat i9*18,none⟩)) [1,2] 0 0,.q 87 (fun g110=>.pointer (some ⟨b102,o103+Int.toNat i9*18+0,none⟩)) [3] 0 0,.q 88 (fun g110=>.agg (Cd.cs c_api_Addr ((lget t1 i9).f_A)).toArray) [4] 0 0,.q 89 (fun g110=>.slice p2 t1.length c3) [] 0 0,.q 90 (fun g110=>.int .i64 i9) [] 0 0,.q 91 (fun g110=>.pointer (some ⟨b106,o107+Int.toNat i9*18,none⟩)) [6,7] 0 0,.q 92 (fun g110=>.agg (Cd.cs c_api_Prefix (lget t1 i9)).toArray) [8] 0 0,.q 93 (fun g110=>.agg (Cd.cs c_api_Addr t108).toArray) [9] 0 0,.q 94 (fun g110=>.agg (Cd.cs (cVec c_api_Addr 2 (by decide)) (vset (vset (Vector.replicate 2 zv0:(Vector S_api_Addr 2)) 0 ((lget t1 i9).f_A)) 1 t108)).toArray) [5,10] 0 0,.al 0 95 (fun g110=>.slice (some ⟨((g110 0).1),0,none⟩) ([vset (vset (Vector.replicate 2 zv0:(Vector S_api_Addr 2)) 0 ((lget t1 i9).f_A)) 1 t108]:List (Vector S_api_Addr 2)).length 1) [11]] (fun g110 s=>match s with | 0=>(Wd w [rowE (cVec c_api_Addr 2 (by decide)) 48 p10 c11 i7,rowE c_api_Prefix 37 p2 c3 t1]) | _=>(Wd w [cellsE ((g110 0).1) ((cVec c_api_Addr 2 (by decide)).all ([vset (vset (Vector.replicate 2 zv0:(Vector S_api_Addr 2)) 0 ((lget t1 i9).f_A)) 1 t108]:List (Vector S_api_Addr 2))) 48,rowE (cVec c_api_Addr 2 (by decide)) 48 p10 c11 i7,rowE c_api_Prefix 37 p2 c3 t1])) 1 13 (by kernel_rfl) (by kernel_rfl) (by kernel_rfl) (by kernel_rfl) (by kernel_rfl) (by kernel_rfl) ⟨fun _ _ _=>rfl,fun _ _ _=>rfl,fun _ _ _=>rfl,fun _ _ _=>rfl,fun _ _ _=>rfl,fun _ _ _=>rfl,fun _ _ _=>rfl,fun _ _ _=>rfl,fun _ _ _=>rfl,fun _ _ _=>rfl,fun _ _ _=>rfl,fun _ _ _=>rfl,fun g110 g2 h=>by show (.slice (some ⟨((g110 0).1),0,none⟩) ([vset (vset (Vector.replicate 2 zv0:(Vector S_api_Addr 2)) 0 ((lget t1 i9).f_A)) 1 t108]:List (Vector S_api_Addr 2)).length 1:Value)=.slice (some ⟨((g2 0).1),0,none⟩) ([vset (vset (Vector.replicate 2 zv0:(Vector S_api_Addr 2)) 0 ((lget t1 i9).f_A)) 1 t108]:List (Vector S_api_Addr 2)).length 1;rw [h 0 (show 0<1 by decide)],trivial⟩ (by kernel_rfl) (fun w_ h=>⟨fun _=>g3 0 none 0 none w_,h.drew⟩) ⟨?_,?_,?_,?_,?_,?_,?_,?_,?_,?_,?_,?_,?_,trivial⟩ ?_
     ·intro Lx g110 s K hl hh k
      show At 98 ((3,_)::(4,_)::(5,_)::Lx) _ _
      refine am ?_
      exact at_nil k
     ·intro Lx g110 s K hl hh k
      show At 98 ((3,_)::(4,_)::(5,_)::Lx) _ _
      refine am ?_
      exact at_nil k
     ·intro Lx g110 s K hl hh k
      show At 98 ((3,_)::(4,_)::(5,_)::Lx) _ _
      refine am ?_
      exact at_nil k
     ·intro Lx g110 s K hl hh k
      show At 98 ((84,_)::(85,_)::(3,_)::(4,_)::(5,_)::Lx) _ _
      refine aw (r_idx underlying27 sizeOf37 rfl rfl h100 hp101) ?_
      exact at_nil k
     ·intro Lx g110 s K hl hh k
      show At 98 ((86,_)::(3,_)::(4,_)::(5,_)::Lx) _ _
      refine fa 0 underlying37 rfl sizeOf24 ?_
      exact at_nil k
     ·intro Lx g110 s K hl hh k
      show At 98 ((87,_)::(3,_)::(4,_)::(5,_)::Lx) _ _
      obtain rfl:s=0:=by omega
      refine aw (r_load_aggc (c:=c_api_Addr) (z:=(lget t1 i9).f_A) isAgg24 sizeOf24 rfl (fun w1 hw=>row_lens (y:=(lget t1 i9).f_A) (W:=fun w1=>w1=_) (fun w1 h=>by subst h;exact Below.refl _ _) (hw.own (.s .z)).row h100 hp101 (Lens.comp lw (fun z=>{ (lget t1 i9) with f_A:=z }) (c_api_Prefix_f_A (lget t1 i9))) _ rfl)) ?_
      exact at_nil k
     ·intro Lx g110 s K hl hh k
      show At 98 ((3,_)::(4,_)::(5,_)::Lx) _ _
      refine am ?_
      exact at_nil k
     ·intro Lx g110 s K hl hh k
      show At 98 ((3,_)::(4,_)::(5,_)::Lx) _ _
      refine am ?_
      exact at_nil k
     ·intro Lx g110 s K hl hh k
      show At 98 ((89,_)::(90,_)::(3,_)::(4,_)::(5,_)::Lx) _ _
      refine aw (r_idx underlying27 sizeOf37 rfl rfl h104 hp105) ?_
      exact at_nil k
     ·intro Lx g110 s K hl hh k
      show At 98 ((91,_)::(3,_)::(4,_)::(5,_)::Lx) _ _
      obtain rfl:s=0:=by omega
      refine aw (r_load_aggc (c:=c_api_Prefix) (z:=lget t1 i9) isAgg37 sizeOf37 rfl (fun w1 hw=>row_cell (W:=fun w1=>w1=_) (fun w1 h=>by subst h;exact Below.refl _ _) (hw.own (.s .z)).row h104 hp105 _ rfl)) ?_
      exact at_nil k
     ·intro Lx g110 s K hl hh k
      show At 98 ((92,_)::(3,_)::(4,_)::(5,_)::Lx) _ _
      obtain rfl:s=0:=by omega
      refine cB func41 rfl (fun w hw=>crawlwayref53_last_ok _ _ ht108 w) ?_
      exact at_nil k
     ·intro Lx g110 s K hl hh k
      show At 98 ((88,_)::(93,_)::(3,_)::(4,_)::(5,_)::Lx) _ _
      obtain rfl:s=0:=by omega
      refine aw (r_build_array (zs:=Cd.cs (cVec c_api_Addr 2 (by decide)) (Vector.replicate 2 zv0:(Vector S_api_Addr 2))) (cs:=Cd.cs (cVec c_api_Addr 2 (by decide)) (vset (vset (Vector.replicate 2 zv0:(Vector S_api_Addr 2)) 0 ((lget t1 i9).f_A)) 1 t108)) underlying48 zeroValue48 rfl sizeOf24 rfl (fill_step (c:=c_api_Addr) (z:=(lget t1 i9).f_A) rfl (Lens.vec c_api_Addr (by decide) (Vector.replicate 2 zv0:(Vector S_api_Addr 2)) 0 (by decide)) rfl (fill_step (c:=c_api_Addr) (z:=t108) rfl (Lens.vec c_api_Addr (by decide) (vset (Vector.replicate 2 zv0:(Vector S_api_Addr 2)) 0 ((lget t1 i9).f_A)) 1 (by decide)) rfl rfl))) ?_
      exact at_nil k
     ·intro Lx g110 K k
      show At 98 ((94,_)::(3,_)::(4,_)::(5,_)::Lx) _ _
      refine at_litL (c:=(cVec c_api_Addr 2 (by decide))) ([(Vector.replicate 2 zv0:(Vector S_api_Addr 2))]:List (Vector S_api_Addr 2)) ([vset (vset (Vector.replicate 2 zv0:(Vector S_api_Addr 2)) 0 ((lget t1 i9).f_A)) 1 t108]:List (Vector S_api_Addr 2)) underlying45 sizeOf48 zeroValue48 rfl rfl rfl (by kernel_rfl) (fill_step (c:=(cVec c_api_Addr 2 (by decide))) (z:=vset (vset (Vector.replicate 2 zv0:(Vector S_api_Addr 2)) 0 ((lget t1 i9).f_A)) 1 t108) rfl (Lens.all (cVec c_api_Addr 2 (by decide)) ([(Vector.replicate 2 zv0:(Vector S_api_Addr 2))]:List (Vector S_api_Addr 2)) 0 (by first | decide | exact Nat.le_of_ble_eq_true rfl)) rfl rfl) rfl ?_
      intro b109
      exact at_nil (k (g3 b109 none 0 none w))
     intro g110
     show At 98 [(83,_),(84,_),(85,_),(86,_),(87,_),(88,_),(89,_),(90,_),(91,_),(92,_),(93,_),(94,_),(95,_),(3,_),(4,_),(5,_)] _ _
     obtain ⟨h111,hF⟩:=gd hF
     refine at_append (z:=.agg (Cd.cs (cVec c_api_Addr 2 (by decide)) (Vector.replicate 2 zv0:(Vector S_api_Addr 2))).toArray) (c:=(cVec c_api_Addr 2 (by decide))) (ys:=([vset (vset (Vector.replicate 2 zv0:(Vector S_api_Addr 2)) 0 ((lget t1 i9).f_A)) 1 t108]:List (Vector S_api_Addr 2))) (.s .z) underlying45 infoA448 (by kernel_rfl) (by kernel_rfl) rfl rfl rfl rfl (fun _ hw=>cells_src (hw.ok (Upd.mem .z))) (by kernel_rfl) h111 (app_small h111) rfl ?_
     intro p112 c113
     refine aa (qn (dz (wq [5,4,3] ?_)))
     refine bm ?_
     refine qr (am (aw xa (aa (nwq [5,4,3] ?_))))
     exact at_weak_k (ih _ _ _ hF K p112 c113) ⟨rfl,rfl,rfl,trivial⟩
    refine cf h15 ?_
    refine sn (wq [5,4,3] ?_)
    obtain ⟨h114,hF⟩:=gd hF
    refine at_pure (φ:=∃ b o,p2=some ⟨b,o,none⟩) (fun _ hw=>row_ptr (hw.own (.s .z)).row h114) ?_
    rintro ⟨b116,o117,hp115⟩
    obtain ⟨h118,hF⟩:=gd hF
    refine at_pure (φ:=∃ b o,p2=some ⟨b,o,none⟩) (fun _ hw=>row_ptr (hw.own (.s .z)).row h118) ?_
    rintro ⟨b120,o121,hp119⟩
    obtain ⟨t122,ht122,hF⟩:=bM hF
    refine at_invT [.q 83 (fun g124=>.slice p10 i7.length c11) [] 0 1,.q 84 (fun g124=>.slice p2 t1.length c3) [] 0 0,.q 85 (fun g124=>.int .i64 i9) [] 0 0,.q 86 (fun g124=>.pointer (some ⟨b116,o117+Int.toNat i9*18,none⟩)) [1,2] 0 0,.q 87 (fun g124=>.pointer (some ⟨b116,o117+Int.toNat i9*18+0,none⟩)) [3] 0 0,.q 88 (fun g124=>.agg (Cd.cs c_api_Addr ((lget t1 i9).f_A)).toArray) [4] 0 0,.q 89 (fun g124=>.slice p2 t1.length c3) [] 0 0,.q 90 (fun g124=>.int .i64 i9) [] 0 0,.q 91 (fun g124=>.pointer (some ⟨b120,o121+Int.toNat i9*18,none⟩)) [6,7] 0 0,.q 92 (fun g124=>.agg (Cd.cs c_api_Prefix (lget t1 i9)).toArray) [8] 0 0,.q 93 (fun g124=>.agg (Cd.cs c_api_Addr t122).toArray) [9] 0 0,.q 94 (fun g124=>.agg (Cd.cs (cVec c_api_Addr 2 (by decide)) (vset (vset (Vector.replicate 2 zv0:(Vector S_api_Addr 2)) 0 ((lget t1 i9).f_A)) 1 t122)).toArray) [5,10] 0 0,.al 0 95 (fun g124=>.slice (some ⟨((g124 0).1),0,none⟩) ([vset (vset (Vector.replicate 2 zv0:(Vector S_api_Addr 2)) 0 ((lget t1 i9).f_A)) 1 t122]:List (Vector S_api_Addr 2)).length 1) [11]] (fun g124 s=>match s with | 0=>(Wd w [rowE (cVec c_api_Addr 2 (by decide)) 48 p10 c11 i7,rowE c_api_Prefix 37 p2 c3 t1]) | _=>(Wd w [cellsE ((g124 0).1) ((cVec c_api_Addr 2 (by decide)).all ([vset (vset (Vector.replicate 2 zv0:(Vector S_api_Addr 2)) 0 ((lget t1 i9).f_A)) 1 t122]:List (Vector S_api_Addr 2))) 48,rowE (cVec c_api_Addr 2 (by decide)) 48 p10 c11 i7,rowE c_api_Prefix 37 p2 c3 t1])) 1 13 (by kernel_rfl) (by kernel_rfl) (by kernel_rfl) (by kernel_rfl) (by kernel_rfl) (by kernel_rfl) ⟨fun _ _ _=>rfl,fun _ _ _=>rfl,fun _ _ _=>rfl,fun _ _ _=>rfl,fun _ _ _=>rfl,fun _ _ _=>rfl,fun _ _ _=>rfl,fun _ _ _=>rfl,fun _ _ _=>rfl,fun _ _ _=>rfl,fun _ _ _=>rfl,fun _ _ _=>rfl,fun g124 g2 h=>by show (.slice (some ⟨((g124 0).1),0,none⟩) ([vset (vset (Vector.replicate 2 zv0:(Vector S_api_Addr 2)) 0 ((lget t1 i9).f_A)) 1 t122]:List (Vector S_api_Addr 2)).length 1:Value)=.slice (some ⟨((g2 0).1),0,none⟩) ([vset (vset (Vector.replicate 2 zv0:(Vector S_api_Addr 2)) 0 ((lget t1 i9).f_A)) 1 t122]:List (Vector S_api_Addr 2)).length 1;rw [h 0 (show 0<1 by decide)],trivial⟩ (by kernel_rfl) (fun w_ h=>⟨fun _=>g3 0 none 0 none w_,h.drew⟩) ⟨?_,?_,?_,?_,?_,?_,?_,?_,?_,?_,?_,?_,?_,trivial⟩ ?_
    ·intro Lx g124 s K hl hh k
     show At 98 ((3,_)::(4,_)::(5,_)::Lx) _ _
     refine am ?_
     exact at_nil k
    ·intro Lx g124 s K hl hh k
     show At 98 ((3,_)::(4,_)::(5,_)::Lx) _ _
     refine am ?_
     exact at_nil k
    ·intro Lx g124 s K hl hh k
     show At 98 ((3,_)::(4,_)::(5,_)::Lx) _ _
     refine am ?_
     exact at_nil k
    ·intro Lx g124 s K hl hh k
     show At 98 ((84,_)::(85,_)::(3,_)::(4,_)::(5,_)::Lx) _ _
     refine aw (r_idx underlying27 sizeOf37 rfl rfl h114 hp115) ?_
     exact at_nil k
    ·intro Lx g124 s K hl hh k
     show At 98 ((86,_)::(3,_)::(4,_)::(5,_)::Lx) _ _
     refine fa 0 underlying37 rfl sizeOf24 ?_
     exact at_nil k
    ·intro Lx g124 s K hl hh k
     show At 98 ((87,_)::(3,_)::(4,_)::(5,_)::Lx) _ _
     obtain rfl:s=0:=by omega
     refine aw (r_load_aggc (c:=c_api_Addr) (z:=(lget t1 i9).f_A) isAgg24 sizeOf24 rfl (fun w1 hw=>row_lens (y:=(lget t1 i9).f_A) (W:=fun w1=>w1=_) (fun w1 h=>by subst h;exact Below.refl _ _) (hw.own (.s .z)).row h114 hp115 (Lens.comp lw (fun z=>{ (lget t1 i9) with f_A:=z }) (c_api_Prefix_f_A (lget t1 i9))) _ rfl)) ?_
     exact at_nil k
    ·intro Lx g124 s K hl hh k
     show At 98 ((3,_)::(4,_)::(5,_)::Lx) _ _
     refine am ?_
     exact at_nil k
    ·intro Lx g124 s K hl hh k
     show At 98 ((3,_)::(4,_)::(5,_)::Lx) _ _
     refine am ?_
     exact at_nil k
    ·intro Lx g124 s K hl hh k
     show At 98 ((89,_)::(90,_)::(3,_)::(4,_)::(5,_)::Lx) _ _
     refine aw (r_idx underlying27 sizeOf37 rfl rfl h118 hp119) ?_
     exact at_nil k
    ·intro Lx g124 s K hl hh k
     show At 98 ((91,_)::(3,_)::(4,_)::(5,_)::Lx) _ _
     obtain rfl:s=0:=by omega
     refine aw (r_load_aggc (c:=c_api_Prefix) (z:=lget t1 i9) isAgg37 sizeOf37 rfl (fun w1 hw=>row_cell (W:=fun w1=>w1=_) (fun w1 h=>by subst h;exact Below.refl _ _) (hw.own (.s .z)).row h118 hp119 _ rfl)) ?_
     exact at_nil k
    ·intro Lx g124 s K hl hh k
     show At 98 ((92,_)::(3,_)::(4,_)::(5,_)::Lx) _ _
     obtain rfl:s=0:=by omega
     refine cB func41 rfl (fun w hw=>crawlwayref53_last_ok _ _ ht122 w) ?_
     exact at_nil k
    ·intro Lx g124 s K hl hh k
     show At 98 ((88,_)::(93,_)::(3,_)::(4,_)::(5,_)::Lx) _ _
     obtain rfl:s=0:=by omega
     refine aw (r_build_array (zs:=Cd.cs (cVec c_api_Addr 2 (by decide)) (Vector.replicate 2 zv0:(Vector S_api_Addr 2))) (cs:=Cd.cs (cVec c_api_Addr 2 (by decide)) (vset (vset (Vector.replicate 2 zv0:(Vector S_api_Addr 2)) 0 ((lget t1 i9).f_A)) 1 t122)) underlying48 zeroValue48 rfl sizeOf24 rfl (fill_step (c:=c_api_Addr) (z:=(lget t1 i9).f_A) rfl (Lens.vec c_api_Addr (by decide) (Vector.replicate 2 zv0:(Vector S_api_Addr 2)) 0 (by decide)) rfl (fill_step (c:=c_api_Addr) (z:=t122) rfl (Lens.vec c_api_Addr (by decide) (vset (Vector.replicate 2 zv0:(Vector S_api_Addr 2)) 0 ((lget t1 i9).f_A)) 1 (by decide)) rfl rfl))) ?_
     exact at_nil k
    ·intro Lx g124 K k
     show At 98 ((94,_)::(3,_)::(4,_)::(5,_)::Lx) _ _
     refine at_litL (c:=(cVec c_api_Addr 2 (by decide))) ([(Vector.replicate 2 zv0:(Vector S_api_Addr 2))]:List (Vector S_api_Addr 2)) ([vset (vset (Vector.replicate 2 zv0:(Vector S_api_Addr 2)) 0 ((lget t1 i9).f_A)) 1 t122]:List (Vector S_api_Addr 2)) underlying45 sizeOf48 zeroValue48 rfl rfl rfl (by kernel_rfl) (fill_step (c:=(cVec c_api_Addr 2 (by decide))) (z:=vset (vset (Vector.replicate 2 zv0:(Vector S_api_Addr 2)) 0 ((lget t1 i9).f_A)) 1 t122) rfl (Lens.all (cVec c_api_Addr 2 (by decide)) ([(Vector.replicate 2 zv0:(Vector S_api_Addr 2))]:List (Vector S_api_Addr 2)) 0 (by first | decide | exact Nat.le_of_ble_eq_true rfl)) rfl rfl) rfl ?_
     intro b123
     exact at_nil (k (g3 b123 none 0 none w))
    intro g124
    show At 98 [(83,_),(84,_),(85,_),(86,_),(87,_),(88,_),(89,_),(90,_),(91,_),(92,_),(93,_),(94,_),(95,_),(3,_),(4,_),(5,_)] _ _
    obtain ⟨h125,hF⟩:=gd hF
    refine at_append (z:=.agg (Cd.cs (cVec c_api_Addr 2 (by decide)) (Vector.replicate 2 zv0:(Vector S_api_Addr 2))).toArray) (c:=(cVec c_api_Addr 2 (by decide))) (ys:=([vset (vset (Vector.replicate 2 zv0:(Vector S_api_Addr 2)) 0 ((lget t1 i9).f_A)) 1 t122]:List (Vector S_api_Addr 2))) (.s .z) underlying45 infoA448 (by kernel_rfl) (by kernel_rfl) rfl rfl rfl rfl (fun _ hw=>cells_src (hw.ok (Upd.mem .z))) (by kernel_rfl) h125 (app_small h125) rfl ?_
    intro p126 c127
    refine aa (qn (dz (wq [5,4,3] ?_)))
    refine bm ?_
    refine qr (am (aw xa (aa (nwq [5,4,3] ?_))))
    exact at_weak_k (ih _ _ _ hF K p126 c127) ⟨rfl,rfl,rfl,trivial⟩
   refine cf h14 ?_
   refine at_exit ?_
   refine te (te ?_)
   refine at_drop (H:=_) (.s .z) ?_
   obtain rfl:=os hF
   exact at_weak_k (K p10 c11) ⟨rfl,trivial⟩
 skip
 intro p12 c13
 refine at_blk_same ?_
 refine tn (sr (am (aa (nwq [2] ?_))))
 refine qt ?_
 have K:=os hF
 subst K
 exact r1 (fun w1 hw=>⟨p12,c13,rfl,hw.own .z,hw.below⟩)
def crawlwayref53_Cover.l0(t1:List (Vector S_api_Addr 2))(i7:List S_api_Prefix)(i9:Int):Option (List S_api_Prefix) :=
 if (decide (i9<(t1.length:Int)))=true then (if (0:Int)≤i9∧i9<(t1.length:Int) then if (0:Int)≤i9∧i9<(t1.length:Int) then crawlwayref53_Prefixes (vget (lget t1 i9) 0) (vget (lget t1 i9) 1)>>=fun t23=>if (i7.length+t23.length)*32≤140737488355328 then crawlwayref53_Cover.l0 t1 (i7++t23) (wr .i64 (i9+1)) else none else none else none) else (some i7)
 partial_fixpoint
def crawlwayref53_Cover(x0:List S_api_Prefix):Option (List S_api_Prefix) :=
 crawlwayref53_Ranges x0>>=fun t1=>crawlwayref53_Cover.l0 t1 ([]:List S_api_Prefix) 0>>=fun q6=>some q6
set_option maxHeartbeats 3200000 in
theorem crawlwayref53_Cover_ok(x0:List S_api_Prefix)(p0_:Option Addr)(c0_:Nat)(r:List S_api_Prefix)(hF:crawlwayref53_Cover x0=some r)(w:World)(hr0:Row c_api_Prefix w p0_ c0_ x0) :
    Calls Try.prog 21 #[.slice p0_ x0.length c0_] w (fun e w'=>∃ p cap,e=.returned (.slice p r.length cap)∧Own c_api_Prefix 37 w.heap.size w' p cap r∧Below w.heap.size w w'):=by
 unfold crawlwayref53_Cover at hF
 refine ce (l:=[.slice p0_ x0.length c0_]) func21 rfl rfl ?_
 refine at_start ?_
 refine sr (aa (ns (aa (ns (am ?_)))))
 obtain ⟨t1,ht1,hF⟩:=bM hF
 refine at_callO (c:=(cVec c_api_Addr 2 (by decide))) (e:=48) (ys:=t1) (V:=fun p cap=>.slice p t1.length cap) func20 rfl (by kernel_rfl) rfl rfl (fun w hw=>crawlwayref53_Ranges_ok _ _ _ _ ht1 w (hr0.below hw.below)) ?_
 intro p2 c3
 refine aa (nt (qs (sr (aa (nwq [5,4,3] ?_)))))
 refine qb ?_
 refine at_own_nil c_api_Prefix 37 ?_
 obtain ⟨q6,hq6,hF⟩:=bM hF
 refine wq [5,4,3] ?_
 refine at_loop_n (B:=0) (A:=fun Y=>∀ (p12:Option Addr) (c13:Nat),At 28 [(3,.slice p12 q6.length c13)] (Wd w [rowE c_api_Prefix 37 p12 c13 q6]) Y) ?_ ?_
 ·intro K
  refine crawlwayref53_Cover.l0.partial_correctness t1 (motive:=fun i7 i9 x=>KN (fun Y=>∀ (p12:Option Addr) (c13:Nat),At 28 [(3,.slice p12 x.length c13)] (Wd w [rowE c_api_Prefix 37 p12 c13 x]) Y) _ 0→Round (fun Y=>∀ (p10:Option Addr) (c11:Nat),At 28 [(3,.slice p10 i7.length c11),(4,.slice p2 t1.length c3),(5,.int .i64 i9)] (Wd w [rowE c_api_Prefix 37 p10 c11 i7,rowE (cVec c_api_Addr 2 (by decide)) 48 p2 c3 t1]) Y) _ _ _) ?_ _ _ _ hq6 K none 0
  ·clear K hF
   intro g ih i7 i9 x hF K p10 c11
   refine at_round ?_
   refine qs (sr (am (am ?_)))
   refine aw (r_len_sl underlying45 rfl) ?_
   refine aw xl (nwq [11,5,4,3] ?_)
   obtain ⟨h14,hF⟩|⟨h14,hF⟩:=oi hF
   ·refine ct h14 ?_
    refine sn (qs ?_)
    refine qb ?_
    refine wq [5,4,3] ?_
    obtain ⟨h15,hF⟩:=gd hF
    refine at_pure (φ:=∃ b o,p2=some ⟨b,o,none⟩) (fun _ hw=>row_ptr (hw.own (.s .z)).row h15) ?_
    rintro ⟨b17,o18,hp16⟩
    obtain ⟨h19,hF⟩:=gd hF
    refine at_pure (φ:=∃ b o,p2=some ⟨b,o,none⟩) (fun _ hw=>row_ptr (hw.own (.s .z)).row h19) ?_
    rintro ⟨b21,o22,hp20⟩
    obtain ⟨t23,ht23,hF⟩:=bM hF
    refine at_invT [.q 14 (fun g26=>.slice p10 i7.length c11) [] 0 1,.q 15 (fun g26=>.slice p2 t1.length c3) [] 0 0,.q 16 (fun g26=>.int .i64 i9) [] 0 0,.q 17 (fun g26=>.pointer (some ⟨b17,o18+Int.toNat i9*34,none⟩)) [1,2] 0 0,.q 18 (fun g26=>.pointer (some ⟨b17,o18+Int.toNat i9*34+Int.toNat 0*17,none⟩)) [3] 0 0,.q 19 (fun g26=>.agg (Cd.cs c_api_Addr (vget (lget t1 i9) 0)).toArray) [4] 0 0,.q 20 (fun g26=>.slice p2 t1.length c3) [] 0 0,.q 21 (fun g26=>.int .i64 i9) [] 0 0,.q 22 (fun g26=>.pointer (some ⟨b21,o22+Int.toNat i9*34,none⟩)) [6,7] 0 0,.q 23 (fun g26=>.pointer (some ⟨b21,o22+Int.toNat i9*34+Int.toNat 1*17,none⟩)) [8] 0 0,.q 24 (fun g26=>.agg (Cd.cs c_api_Addr (vget (lget t1 i9) 1)).toArray) [9] 0 0,.al 0 25 (fun g26=>.slice ((g26 0).2.1) t23.length ((g26 0).2.2.1)) [5,10]] (fun g26 s=>match s with | 0=>(Wd w [rowE c_api_Prefix 37 p10 c11 i7,rowE (cVec c_api_Addr 2 (by decide)) 48 p2 c3 t1]) | _=>(Wd w [rowE c_api_Prefix 37 ((g26 0).2.1) ((g26 0).2.2.1) t23,rowE c_api_Prefix 37 p10 c11 i7,rowE (cVec c_api_Addr 2 (by decide)) 48 p2 c3 t1])) 1 12 (by kernel_rfl) (by kernel_rfl) (by kernel_rfl) (by kernel_rfl) (by kernel_rfl) (by kernel_rfl) ⟨fun _ _ _=>rfl,fun _ _ _=>rfl,fun _ _ _=>rfl,fun _ _ _=>rfl,fun _ _ _=>rfl,fun _ _ _=>rfl,fun _ _ _=>rfl,fun _ _ _=>rfl,fun _ _ _=>rfl,fun _ _ _=>rfl,fun _ _ _=>rfl,fun g26 g2 h=>by show (.slice ((g26 0).2.1) t23.length ((g26 0).2.2.1):Value)=.slice ((g2 0).2.1) t23.length ((g2 0).2.2.1);rw [h 0 (show 0<1 by decide)],trivial⟩ (by kernel_rfl) (fun w_ h=>⟨fun _=>g3 0 none 0 none w_,h.drew⟩) ⟨?_,?_,?_,?_,?_,?_,?_,?_,?_,?_,?_,?_,trivial⟩ ?_
    ·intro Lx g26 s K hl hh k
     show At 28 ((3,_)::(4,_)::(5,_)::Lx) _ _
     refine am ?_
     exact at_nil k
    ·intro Lx g26 s K hl hh k
     show At 28 ((3,_)::(4,_)::(5,_)::Lx) _ _
     refine am ?_
     exact at_nil k
    ·intro Lx g26 s K hl hh k
     show At 28 ((3,_)::(4,_)::(5,_)::Lx) _ _
     refine am ?_
     exact at_nil k
    ·intro Lx g26 s K hl hh k
     show At 28 ((15,_)::(16,_)::(3,_)::(4,_)::(5,_)::Lx) _ _
     refine aw (r_idx underlying45 sizeOf48 rfl rfl h15 hp16) ?_
     exact at_nil k
    ·intro Lx g26 s K hl hh k
     show At 28 ((17,_)::(3,_)::(4,_)::(5,_)::Lx) _ _
     refine aw (r_idxArr underlying48 sizeOf24 rfl rfl (by decide)) ?_
     exact at_nil k
    ·intro Lx g26 s K hl hh k
     show At 28 ((18,_)::(3,_)::(4,_)::(5,_)::Lx) _ _
     obtain rfl:s=0:=by omega
     refine aw (r_load_aggc (c:=c_api_Addr) (z:=vget (lget t1 i9) 0) isAgg24 sizeOf24 rfl (fun w1 hw=>row_lens (y:=vget (lget t1 i9) 0) (W:=fun w1=>w1=_) (fun w1 h=>by subst h;exact Below.refl _ _) (hw.own (.s .z)).row h15 hp16 (Lens.comp lw (fun z=>vset (lget t1 i9) 0 z) (Lens.vec c_api_Addr (by decide) (lget t1 i9) 0 (by decide))) _ rfl)) ?_
     exact at_nil k
    ·intro Lx g26 s K hl hh k
     show At 28 ((3,_)::(4,_)::(5,_)::Lx) _ _
     refine am ?_
     exact at_nil k
    ·intro Lx g26 s K hl hh k
     show At 28 ((3,_)::(4,_)::(5,_)::Lx) _ _
     refine am ?_
     exact at_nil k
    ·intro Lx g26 s K hl hh k
     show At 28 ((20,_)::(21,_)::(3,_)::(4,_)::(5,_)::Lx) _ _
     refine aw (r_idx underlying45 sizeOf48 rfl rfl h19 hp20) ?_
     exact at_nil k
    ·intro Lx g26 s K hl hh k
     show At 28 ((22,_)::(3,_)::(4,_)::(5,_)::Lx) _ _
     refine aw (r_idxArr underlying48 sizeOf24 rfl rfl (by decide)) ?_
     exact at_nil k
    ·intro Lx g26 s K hl hh k
     show At 28 ((23,_)::(3,_)::(4,_)::(5,_)::Lx) _ _
     obtain rfl:s=0:=by omega
     refine aw (r_load_aggc (c:=c_api_Addr) (z:=vget (lget t1 i9) 1) isAgg24 sizeOf24 rfl (fun w1 hw=>row_lens (y:=vget (lget t1 i9) 1) (W:=fun w1=>w1=_) (fun w1 h=>by subst h;exact Below.refl _ _) (hw.own (.s .z)).row h19 hp20 (Lens.comp lw (fun z=>vset (lget t1 i9) 1 z) (Lens.vec c_api_Addr (by decide) (lget t1 i9) 1 (by decide))) _ rfl)) ?_
     exact at_nil k
    ·intro Lx g26 K k
     show At 28 ((19,_)::(24,_)::(3,_)::(4,_)::(5,_)::Lx) _ _
     refine at_callO (c:=c_api_Prefix) (e:=37) (ys:=t23) (V:=fun p cap=>.slice p t23.length cap) func12 rfl (by kernel_rfl) rfl rfl (fun w hw=>crawlwayref53_Prefixes_ok _ _ _ ht23 w) ?_
     intro p24 c25
     exact at_nil (k (g3 0 p24 c25 none w))
    intro g26
    show At 28 [(14,_),(15,_),(16,_),(17,_),(18,_),(19,_),(20,_),(21,_),(22,_),(23,_),(24,_),(25,_),(3,_),(4,_),(5,_)] _ _
    obtain ⟨h27,hF⟩:=gd hF
    refine at_append_row (z:=.agg (Cd.cs c_api_Prefix zv2).toArray) (c:=c_api_Prefix) (ys:=t23) (.s .z) underlying27 infoA437 (by kernel_rfl) (by kernel_rfl) rfl rfl rfl (fun w1 hw=>(hw.own .z).row) (by kernel_rfl) h27 (app_small h27) rfl ?_
    intro p28 c29
    refine aa (qn (dz (wq [5,4,3] ?_)))
    refine bm ?_
    refine qr (am (aw xa (aa (nwq [5,4,3] ?_))))
    exact at_weak_k (ih _ _ _ hF K p28 c29) ⟨rfl,rfl,rfl,trivial⟩
   refine cf h14 ?_
   refine at_exit ?_
   refine te (te ?_)
   refine at_drop (H:=_) (.s .z) ?_
   obtain rfl:=os hF
   exact at_weak_k (K p10 c11) ⟨rfl,trivial⟩
 skip
 intro p12 c13
 refine at_blk_same ?_
 refine tn (sr (am (aa (nwq [2] ?_))))
 refine qt ?_
 have K:=os hF
 subst K
 exact r1 (fun w1 hw=>⟨p12,c13,rfl,hw.own .z,hw.below⟩)
abbrev crawlwaylaw53_alive.e0:S_api_Prefix:={ { ({ f_A:=({ f_V:=(0:Int),f_B:=(Vector.replicate 16 (0:Int):(Vector Int 16)) }:S_api_Addr),f_Bits:=(0:Int) }:S_api_Prefix) with f_A:={ { ({ f_V:=(0:Int),f_B:=(Vector.replicate 16 (0:Int):(Vector Int 16)) }:S_api_Addr) with f_V:=4 } with f_B:=vset (vset (Vector.replicate 16 (0:Int):(Vector Int 16)) 0 10) 1 128 } } with f_Bits:=9 }
abbrev crawlwaylaw53_alive.e1:S_api_Prefix:={ { ({ f_A:=({ f_V:=(0:Int),f_B:=(Vector.replicate 16 (0:Int):(Vector Int 16)) }:S_api_Addr),f_Bits:=(0:Int) }:S_api_Prefix) with f_A:={ { ({ f_V:=(0:Int),f_B:=(Vector.replicate 16 (0:Int):(Vector Int 16)) }:S_api_Addr) with f_V:=4 } with f_B:=vset (Vector.replicate 16 (0:Int):(Vector Int 16)) 0 10 } } with f_Bits:=9 }
def crawlwaylaw53_alive:Option (Bool) :=
 aggregate_Prefixes ({ { ({ f_From:=({ f_V:=(0:Int),f_B:=(Vector.replicate 16 (0:Int):(Vector Int 16)) }:S_api_Addr),f_To:=({ f_V:=(0:Int),f_B:=(Vector.replicate 16 (0:Int):(Vector Int 16)) }:S_api_Addr) }:S_aggregate_Range) with f_From:={ { ({ f_V:=(0:Int),f_B:=(Vector.replicate 16 (0:Int):(Vector Int 16)) }:S_api_Addr) with f_V:=4 } with f_B:=vset (vset (vset (vset (Vector.replicate 16 (0:Int):(Vector Int 16)) 0 10) 1 0) 2 0) 3 1 } } with f_To:={ { ({ f_V:=(0:Int),f_B:=(Vector.replicate 16 (0:Int):(Vector Int 16)) }:S_api_Addr) with f_V:=4 } with f_B:=vset (vset (vset (vset (Vector.replicate 16 (0:Int):(Vector Int 16)) 0 10) 1 0) 2 0) 3 4 } })>>=fun t1=>aggregate_Cover ([crawlwaylaw53_alive.e0,crawlwaylaw53_alive.e1])>>=fun t7=>if ((t1.length:Int)==3)=true then (if (0:Int)≤1∧1<(t1.length:Int) then if ((lget t1 1).f_Bits==31)=true then (if ((t7.length:Int)==1)=true then (if (0:Int)≤0∧0<(t7.length:Int) then some ((lget t7 0).f_Bits==8) else none) else (some false)) else (some false) else none) else (some false)
theorem crawlwaylaw53_alive_ok(r:Bool)(hF:crawlwaylaw53_alive =some r)(w:World) :
    Calls Try.prog 13 #[] w (fun e w'=>e=.returned (.bool r)∧Below w.heap.size w w'):=by
 unfold crawlwaylaw53_alive at hF
 refine ce (l:=[]) func13 rfl rfl ?_
 refine at_start ?_
 refine at_weak [] trivial ?_
 refine sr (aa ?_)
 refine nws [] trivial ?_
 refine aw (r_build_array (zs:=Cd.cs (cVec (cInt .u8) 16 (by decide)) zv1) (cs:=Cd.cs (cVec (cInt .u8) 16 (by decide)) (vset (vset (vset (vset zv1 0 10) 1 0) 2 0) 3 1)) underlying22 zeroValue22 rfl sizeOf5 rfl (fill_step (c:=(cInt .u8)) (z:=10) rfl (Lens.vec (cInt .u8) (by decide) zv1 0 (by decide)) rfl (fill_step (c:=(cInt .u8)) (z:=0) rfl (Lens.vec (cInt .u8) (by decide) (vset zv1 0 10) 1 (by decide)) rfl (fill_step (c:=(cInt .u8)) (z:=0) rfl (Lens.vec (cInt .u8) (by decide) (vset (vset zv1 0 10) 1 0) 2 (by decide)) rfl (fill_step (c:=(cInt .u8)) (z:=1) rfl (Lens.vec (cInt .u8) (by decide) (vset (vset (vset zv1 0 10) 1 0) 2 0) 3 (by decide)) rfl rfl))))) ?_
 refine aw (r_build_struct (zs:=Cd.cs c_api_Addr zv0) (cs:=Cd.cs c_api_Addr ({ { zv0 with f_V:=4 } with f_B:=vset (vset (vset (vset zv1 0 10) 1 0) 2 0) 3 1 })) underlying24 zeroValue24 rfl (places_api_Addr_24) rfl (fill_step (c:=(cInt .i64)) (z:=4) rfl (c_api_Addr_f_V zv0) rfl (fill_step (c:=(cVec (cInt .u8) 16 (by decide))) (z:=vset (vset (vset (vset zv1 0 10) 1 0) 2 0) 3 1) rfl (c_api_Addr_f_B ({ zv0 with f_V:=4 })) rfl rfl))) ?_
 refine aw (r_build_array (zs:=Cd.cs (cVec (cInt .u8) 16 (by decide)) zv1) (cs:=Cd.cs (cVec (cInt .u8) 16 (by decide)) (vset (vset (vset (vset zv1 0 10) 1 0) 2 0) 3 4)) underlying22 zeroValue22 rfl sizeOf5 rfl (fill_step (c:=(cInt .u8)) (z:=10) rfl (Lens.vec (cInt .u8) (by decide) zv1 0 (by decide)) rfl (fill_step (c:=(cInt .u8)) (z:=0) rfl (Lens.vec (cInt .u8) (by decide) (vset zv1 0 10) 1 (by decide)) rfl (fill_step (c:=(cInt .u8)) (z:=0) rfl (Lens.vec (cInt .u8) (by decide) (vset (vset zv1 0 10) 1 0) 2 (by decide)) rfl (fill_step (c:=(cInt .u8)) (z:=4) rfl (Lens.vec (cInt .u8) (by decide) (vset (vset (vset zv1 0 10) 1 0) 2 0) 3 (by decide)) rfl rfl))))) ?_
 refine aw (r_build_struct (zs:=Cd.cs c_api_Addr zv0) (cs:=Cd.cs c_api_Addr ({ { zv0 with f_V:=4 } with f_B:=vset (vset (vset (vset zv1 0 10) 1 0) 2 0) 3 4 })) underlying24 zeroValue24 rfl (places_api_Addr_24) rfl (fill_step (c:=(cInt .i64)) (z:=4) rfl (c_api_Addr_f_V zv0) rfl (fill_step (c:=(cVec (cInt .u8) 16 (by decide))) (z:=vset (vset (vset (vset zv1 0 10) 1 0) 2 0) 3 4) rfl (c_api_Addr_f_B ({ zv0 with f_V:=4 })) rfl rfl))) ?_
 refine aw (r_build_struct (zs:=Cd.cs c_aggregate_Range zv3) (cs:=Cd.cs c_aggregate_Range ({ { zv3 with f_From:={ { zv0 with f_V:=4 } with f_B:=vset (vset (vset (vset zv1 0 10) 1 0) 2 0) 3 1 } } with f_To:={ { zv0 with f_V:=4 } with f_B:=vset (vset (vset (vset zv1 0 10) 1 0) 2 0) 3 4 } })) underlying26 zeroValue26 rfl (places_aggregate_Range_26) rfl (fill_step (c:=c_api_Addr) (z:={ { zv0 with f_V:=4 } with f_B:=vset (vset (vset (vset zv1 0 10) 1 0) 2 0) 3 1 }) rfl (c_aggregate_Range_f_From zv3) rfl (fill_step (c:=c_api_Addr) (z:={ { zv0 with f_V:=4 } with f_B:=vset (vset (vset (vset zv1 0 10) 1 0) 2 0) 3 4 }) rfl (c_aggregate_Range_f_To ({ zv3 with f_From:={ { zv0 with f_V:=4 } with f_B:=vset (vset (vset (vset zv1 0 10) 1 0) 2 0) 3 1 } })) rfl rfl))) ?_
 obtain ⟨t1,ht1,hF⟩:=bM hF
 refine at_callO (c:=c_api_Prefix) (e:=37) (ys:=t1) (V:=fun p cap=>.slice p t1.length cap) func8 rfl (by kernel_rfl) rfl rfl (fun w hw=>aggregate_Prefixes_ok _ _ ht1 w) ?_
 intro p2 c3
 refine aa (ns ?_)
 refine aw (r_build_array (zs:=Cd.cs (cVec (cInt .u8) 16 (by decide)) zv1) (cs:=Cd.cs (cVec (cInt .u8) 16 (by decide)) (vset zv1 0 10)) underlying22 zeroValue22 rfl sizeOf5 rfl (fill_step (c:=(cInt .u8)) (z:=10) rfl (Lens.vec (cInt .u8) (by decide) zv1 0 (by decide)) rfl rfl)) ?_
 refine aw (r_build_struct (zs:=Cd.cs c_api_Addr zv0) (cs:=Cd.cs c_api_Addr ({ { zv0 with f_V:=4 } with f_B:=vset zv1 0 10 })) underlying24 zeroValue24 rfl (places_api_Addr_24) rfl (fill_step (c:=(cInt .i64)) (z:=4) rfl (c_api_Addr_f_V zv0) rfl (fill_step (c:=(cVec (cInt .u8) 16 (by decide))) (z:=vset zv1 0 10) rfl (c_api_Addr_f_B ({ zv0 with f_V:=4 })) rfl rfl))) ?_
 refine aw (r_build_struct (zs:=Cd.cs c_api_Prefix zv2) (cs:=Cd.cs c_api_Prefix ({ { zv2 with f_A:={ { zv0 with f_V:=4 } with f_B:=vset zv1 0 10 } } with f_Bits:=9 })) underlying37 zeroValue37 rfl (places_api_Prefix_37) rfl (fill_step (c:=c_api_Addr) (z:={ { zv0 with f_V:=4 } with f_B:=vset zv1 0 10 }) rfl (c_api_Prefix_f_A zv2) rfl (fill_step (c:=(cInt .i64)) (z:=9) rfl (c_api_Prefix_f_Bits ({ zv2 with f_A:={ { zv0 with f_V:=4 } with f_B:=vset zv1 0 10 } })) rfl rfl))) ?_
 refine al (cs:=Cd.cs c_api_Prefix zv2) zeroValue37 ?_
 intro b4
 refine at_store (c:=c_api_Prefix) (z:={ { zv2 with f_A:={ { zv0 with f_V:=4 } with f_B:=vset zv1 0 10 } } with f_Bits:=9 }) .z lw sizeOf37 rfl rfl rfl ?_
 refine ns ?_
 refine aw (r_build_array (zs:=Cd.cs (cVec (cInt .u8) 16 (by decide)) zv1) (cs:=Cd.cs (cVec (cInt .u8) 16 (by decide)) (vset (vset zv1 0 10) 1 128)) underlying22 zeroValue22 rfl sizeOf5 rfl (fill_step (c:=(cInt .u8)) (z:=10) rfl (Lens.vec (cInt .u8) (by decide) zv1 0 (by decide)) rfl (fill_step (c:=(cInt .u8)) (z:=128) rfl (Lens.vec (cInt .u8) (by decide) (vset zv1 0 10) 1 (by decide)) rfl rfl))) ?_
 refine aw (r_build_struct (zs:=Cd.cs c_api_Addr zv0) (cs:=Cd.cs c_api_Addr ({ { zv0 with f_V:=4 } with f_B:=vset (vset zv1 0 10) 1 128 })) underlying24 zeroValue24 rfl (places_api_Addr_24) rfl (fill_step (c:=(cInt .i64)) (z:=4) rfl (c_api_Addr_f_V zv0) rfl (fill_step (c:=(cVec (cInt .u8) 16 (by decide))) (z:=vset (vset zv1 0 10) 1 128) rfl (c_api_Addr_f_B ({ zv0 with f_V:=4 })) rfl rfl))) ?_
 refine aw (r_build_struct (zs:=Cd.cs c_api_Prefix zv2) (cs:=Cd.cs c_api_Prefix ({ { zv2 with f_A:={ { zv0 with f_V:=4 } with f_B:=vset (vset zv1 0 10) 1 128 } } with f_Bits:=9 })) underlying37 zeroValue37 rfl (places_api_Prefix_37) rfl (fill_step (c:=c_api_Addr) (z:={ { zv0 with f_V:=4 } with f_B:=vset (vset zv1 0 10) 1 128 }) rfl (c_api_Prefix_f_A zv2) rfl (fill_step (c:=(cInt .i64)) (z:=9) rfl (c_api_Prefix_f_Bits ({ zv2 with f_A:={ { zv0 with f_V:=4 } with f_B:=vset (vset zv1 0 10) 1 128 } })) rfl rfl))) ?_
 refine al (cs:=Cd.cs c_api_Prefix zv2) zeroValue37 ?_
 intro b5
 refine at_store (c:=c_api_Prefix) (z:={ { zv2 with f_A:={ { zv0 with f_V:=4 } with f_B:=vset (vset zv1 0 10) 1 128 } } with f_Bits:=9 }) .z lw sizeOf37 rfl rfl rfl ?_
 refine ns ?_
 refine aw (r_load_aggc (c:=c_api_Prefix) (z:={ { zv2 with f_A:={ { zv0 with f_V:=4 } with f_B:=vset (vset zv1 0 10) 1 128 } } with f_Bits:=9 }) isAgg37 sizeOf37 rfl (lens_cell .z lw)) ?_
 refine aw (r_load_aggc (c:=c_api_Prefix) (z:={ { zv2 with f_A:={ { zv0 with f_V:=4 } with f_B:=vset zv1 0 10 } } with f_Bits:=9 }) isAgg37 sizeOf37 rfl (lens_cell (.s .z) lw)) ?_
 refine at_litL (c:=c_api_Prefix) ([zv2,zv2]:List S_api_Prefix) ([crawlwaylaw53_alive.e0,crawlwaylaw53_alive.e1]:List S_api_Prefix) underlying27 sizeOf37 zeroValue37 rfl rfl rfl (by kernel_rfl) (fill_step (c:=c_api_Prefix) (z:=crawlwaylaw53_alive.e0) rfl (Lens.all c_api_Prefix ([zv2,zv2]:List S_api_Prefix) 0 (by first | decide | exact Nat.le_of_ble_eq_true rfl)) rfl (fill_step (c:=c_api_Prefix) (z:=crawlwaylaw53_alive.e1) rfl (Lens.all c_api_Prefix ([crawlwaylaw53_alive.e0,zv2]:List S_api_Prefix) 1 (by first | decide | exact Nat.le_of_ble_eq_true rfl)) rfl rfl)) rfl ?_
 intro b6
 obtain ⟨t7,ht7,hF⟩:=bM hF
 refine at_callO (c:=c_api_Prefix) (e:=37) (ys:=t7) (V:=fun p cap=>.slice p t7.length cap) func18 rfl (by kernel_rfl) rfl rfl (fun w hw=>aggregate_Cover_ok _ _ _ _ ht7 w (cells_row (hw.ok (Upd.mem .z)))) ?_
 intro p8 c9
 refine aa (qn ?_)
 refine at_drop (H:=_) (.s .z) ?_
 refine at_drop (H:=_) (.s .z) ?_
 refine at_drop (H:=_) (.s .z) ?_
 refine wq [4,1] ?_
 refine tn (sr (am ?_))
 refine aw (r_len_sl underlying27 rfl) ?_
 refine aw xq (am ?_)
 obtain ⟨h10,hF⟩|⟨h10,hF⟩:=oi hF
 ·refine fx 24 h10 ?_
  refine gy ?_
  refine am ?_
  refine gy ?_
  obtain ⟨h11,hF⟩:=gd hF
  refine at_pure (φ:=∃ b o,p2=some ⟨b,o,none⟩) (fun _ hw=>row_ptr (hw.own (.s .z)).row h11) ?_
  rintro ⟨b13,o14,hp12⟩
  refine aw (r_idx underlying27 sizeOf37 rfl rfl h11 hp12) ?_
  refine gy ?_
  refine fa 17 underlying37 rfl sizeOf3 ?_
  refine gy ?_
  refine aw (r_load_cell isAgg3 rfl (fun w1 hw=>row_lens0 (y:=(lget t1 1).f_Bits) (W:=fun w1=>w1=_) (fun w1 h=>by subst h;exact Below.refl _ _) (hw.own (.s .z)).row h11 hp12 (Lens.comp lw (fun z=>{ (lget t1 1) with f_Bits:=z }) (c_api_Prefix_f_Bits (lget t1 1))) rfl _ rfl)) ?_
  refine gy ?_
  refine aw xq (aw xp (am ?_))
  obtain ⟨h15,hF⟩|⟨h15,hF⟩:=oi hF
  ·refine fx 31 h15 ?_
   refine gy ?_
   refine am ?_
   refine gy ?_
   refine aw (r_len_sl underlying27 rfl) ?_
   refine gy ?_
   refine aw xq (aw xp (am ?_))
   obtain ⟨h16,hF⟩|⟨h16,hF⟩:=oi hF
   ·refine fx 36 h16 ?_
    refine gy ?_
    refine am ?_
    refine gy ?_
    obtain ⟨h17,hF⟩:=gd hF
    refine at_pure (φ:=∃ b o,p8=some ⟨b,o,none⟩) (fun _ hw=>row_ptr (hw.own .z).row h17) ?_
    rintro ⟨b19,o20,hp18⟩
    refine aw (r_idx underlying27 sizeOf37 rfl rfl h17 hp18) ?_
    refine gy ?_
    refine fa 17 underlying37 rfl sizeOf3 ?_
    refine gy ?_
    refine aw (r_load_cell isAgg3 rfl (fun w1 hw=>row_lens0 (y:=(lget t7 0).f_Bits) (W:=fun w1=>w1=_) (fun w1 h=>by subst h;exact Below.refl _ _) (hw.own .z).row h17 hp18 (Lens.comp lw (fun z=>{ (lget t7 0) with f_Bits:=z }) (c_api_Prefix_f_Bits (lget t7 0))) rfl _ rfl)) ?_
    refine gy ?_
    refine aw xq (aw xp (aa (qn (dz (dz (wq [0] ?_))))))
    refine tn (qt ?_)
    have K:=os hF
    subst K
    exact r1 wb
   refine fx 36 h16 ?_
   refine gn ?_
   refine gn ?_
   refine gn ?_
   refine gn ?_
   refine gn ?_
   refine aw xp (aa (qn (dz (dz (wq [0] ?_)))))
   refine tn (qt ?_)
   have K:=os hF
   subst K
   exact r1 wb
  refine fx 31 h15 ?_
  refine gn ?_
  refine gn ?_
  refine gn ?_
  refine aw xp (am ?_)
  refine gn ?_
  refine gn ?_
  refine gn ?_
  refine gn ?_
  refine gn ?_
  refine aw xp (aa (qn (dz (dz (wq [0] ?_)))))
  refine tn (qt ?_)
  have K:=os hF
  subst K
  exact r1 wb
 refine fx 24 h10 ?_
 refine gn ?_
 refine gn ?_
 refine gn ?_
 refine gn ?_
 refine gn ?_
 refine aw xp (am ?_)
 refine gn ?_
 refine gn ?_
 refine gn ?_
 refine aw xp (am ?_)
 refine gn ?_
 refine gn ?_
 refine gn ?_
 refine gn ?_
 refine gn ?_
 refine aw xp (aa (qn (dz (dz (wq [0] ?_)))))
 refine tn (qt ?_)
 have K:=os hF
 subst K
 exact r1 wb
end Go.Proofs.Ytahlbjmafceoeaa
namespace Go.Proofs.Ytahlbjmafceoeaa.Agg
open E Go.RowKit Adr Cid
theorem lget_mid{α:Type}[Inhabited α](A:List α)(x:α)(B:List α):lget (A++x::B) (A.length:Int)=x:=by simp [lget]
theorem in_mid{α:Type}(A:List α)(x:α)(B:List α):(0:Int)≤(A.length:Int)∧(A.length:Int)<((A++x::B).length:Int):=by simp;omega
theorem wr_mid{α:Type}(A:List α)(x:α)(h:A.length≤1000000):wr .i64 ((A.length:Int)+1)=((A++[x]).length:Int):=by rw [wr_i64 (by omega) (by omega)];simp
theorem not_lt_end{α:Type}(A:List α):decide ((A.length:Int)<((A++[]).length:Int))=false:=by simp
def rgt(x:S_api_Prefix):Bool:=(cidr_Right x).getD false
theorem idx_loop(p:S_api_Prefix→Bool):∀ (B A:List S_api_Prefix),(∀ x∈A++B,aggregate_Ranges_1 x=some (!p x))→(A++B).length≤1000000 →
  (∃ (C:List S_api_Prefix) (y:S_api_Prefix) (D:List S_api_Prefix),B=C++y::D∧(∀ x∈C,p x=true)∧p y=false∧slices_IndexFunc_api_Prefix__aggregate_Ranges_1.l0 (A++B) (A.length:Int)=some (.ret ((A++C).length:Int))) ∨
  ((∀ x∈B,p x=true)∧slices_IndexFunc_api_Prefix__aggregate_Ranges_1.l0 (A++B) (A.length:Int)=some (.nx ()))
 | [],A,hp,hn=>by
  right
  refine ⟨fun x hx=>(by cases hx),?_⟩
  rw [slices_IndexFunc_api_Prefix__aggregate_Ranges_1.l0.eq_def,not_lt_end,if_neg Bool.false_ne_true]
 | b::B,A,hp,hn=>by
  rw [slices_IndexFunc_api_Prefix__aggregate_Ranges_1.l0.eq_def,decide_eq_true (in_mid A b B).2,if_pos rfl,if_pos (in_mid A b B),lget_mid,hp b (by simp),bindM_some]
  cases h:p b with
  | false =>
   left
   refine ⟨[],b,B,rfl,fun x hx=>(by cases hx),h,?_⟩
   rw [if_pos (show (!false)=true from rfl),List.append_nil]
  | true =>
   rw [if_neg (by decide),wr_mid A b (by simp at hn;omega)]
   have e:A++b::B=(A++[b])++B:=by simp
   rw [e]
   rcases idx_loop p B (A++[b]) (by rw [←e];exact hp) (by rw [←e];exact hn) with ⟨C,y,D,h1,h2,h3,h4⟩ | ⟨h1,h2⟩
   ·left
    refine ⟨b::C,y,D,by rw [h1];rfl,fun x hx=>?_,h3,by rw [h4];simp⟩
    rcases List.mem_cons.1 hx with rfl | hx
    ·exact h
    ·exact h2 x hx
   ·right
    refine ⟨fun x hx=>?_,h2⟩
    rcases List.mem_cons.1 hx with rfl | hx
    ·exact h
    ·exact h1 x hx
theorem del_loop(p:S_api_Prefix→Bool):∀ (B W G:List S_api_Prefix),(∀ x∈B,aggregate_Ranges_1 x=some (!p x))→(W++(G++B)).length≤1000000→0<G.length →
  ∃ R:List S_api_Prefix,slices_DeleteFunc_api_Prefix__aggregate_Ranges_1.l0 (W++(G++B)) (W.length:Int) ((W.length+G.length:Nat):Int)=some (W++(B.filter p)++R,((W++B.filter p).length:Int))∧(W++B.filter p++R).length=(W++(G++B)).length
 | [],W,G,hp,hn,hg=>by
  refine ⟨G,?_,by simp⟩
  rw [slices_DeleteFunc_api_Prefix__aggregate_Ranges_1.l0.eq_def,decide_eq_false (by simp),if_neg Bool.false_ne_true]
  simp
 | b::B,W,G,hp,hn,hg=>by
  obtain ⟨g,G,rfl⟩:∃ g G',G=g::G':=by
   cases G with
   | nil=>cases hg
   | cons g G=>exact ⟨g,G,rfl⟩
  have e1:W++(g::G++b::B)=(W++g::G)++b::B:=by simp
  have e2:((W.length+(g::G).length:Nat):Int)=((W++g::G).length:Int):=by simp
  have hl:(W++g::G).length≤1000000:=by simp at hn ⊢;omega
  have hwi:wr .i64 (((W++g::G).length:Int)+1)=((W.length+(g::G).length+1:Nat):Int):=by rw [wr_i64 (by omega) (by omega)];simp
  rw [slices_DeleteFunc_api_Prefix__aggregate_Ranges_1.l0.eq_def,e2,e1,decide_eq_true (in_mid _ b B).2,if_pos rfl,if_pos (in_mid _ b B),lget_mid,hp b (by simp),bindM_some,hwi]
  have hpB:∀ x∈B,aggregate_Ranges_1 x=some (!p x):=fun x hx=>hp x (List.mem_cons_of_mem _ hx)
  cases h:p b with
  | false =>
   rw [if_neg (by decide)]
   obtain ⟨R,h1,h2⟩:=del_loop p B W (g::G++[b]) hpB (by simp at hn ⊢;omega) (by simp)
   refine ⟨R,?_,?_⟩
   ·rw [List.filter_cons_of_neg (by rw [h];decide)]
    rw [←h1]
    have e4:W++g::G++b::B=W++(g::G++[b]++B):=by simp
    have e5:W.length+(g::G).length+1=W.length+(g::G++[b]).length:=by simp;omega
    rw [e4,e5]
   ·rw [List.filter_cons_of_neg (by rw [h];decide),h2];simp
  | true =>
   have hw1:(0:Int)≤(W.length:Int)∧(W.length:Int)<((W++g::G++b::B).length:Int):=by simp;omega
   have hset:lset (W++g::G++b::B) (W.length:Int) b=(W++[b])++((G++[b])++B):=by simp [lset]
   have hw2:wr .i64 ((W.length:Int)+1)=((W++[b]).length:Int):=by rw [wr_i64 (by simp at hn;omega) (by simp at hn;omega)];simp
   rw [if_pos (by decide),if_pos hw1,hset,hw2]
   obtain ⟨R,h1,h2⟩:=del_loop p B (W++[b]) (G++[b]) hpB (by simp at hn ⊢;omega) (by simp)
   refine ⟨R,?_,?_⟩
   ·rw [List.filter_cons_of_pos h]
    have e3:((W.length+(g::G).length+1:Nat):Int)=(((W++[b]).length+(G++[b]).length:Nat):Int):=by simp;omega
    rw [e3,h1];simp
   ·rw [List.filter_cons_of_pos h]
    simp at h2 ⊢;omega
theorem del_code(p:S_api_Prefix→Bool)(xs:List S_api_Prefix)(hp:∀ x∈xs,aggregate_Ranges_1 x=some (!p x))(hn:xs.length≤1000000):slices_DeleteFunc_api_Prefix__aggregate_Ranges_1 xs=some (xs.filter p):=by
 unfold slices_DeleteFunc_api_Prefix__aggregate_Ranges_1 slices_IndexFunc_api_Prefix__aggregate_Ranges_1
 rcases idx_loop p xs [] hp hn with ⟨C,y,D,h1,h2,h3,h4⟩ | ⟨h1,h2⟩
 ·rw [List.nil_append,List.nil_append] at h4
  have h4':slices_IndexFunc_api_Prefix__aggregate_Ranges_1.l0 xs 0=some (.ret (C.length:Int)):=h4
  rw [h4',bindM_some,bindM_some]
  have hne:((C.length:Int) == -1)=false:=by rw [beq_eq_false_iff_ne];omega
  have hCl:C.length<xs.length:=by rw [h1];simp
  have hwi:wr .i64 ((C.length:Int)+1)=((C.length+[y].length:Nat):Int):=by rw [wr_i64 (by omega) (by omega)];simp
  obtain ⟨R,h5,h6⟩:=del_loop p D C [y] (fun x hx=>hp x (by rw [h1];simp [hx])) (by rw [h1] at hn;simpa using hn) (by simp)
  have hfil:xs.filter p=C++D.filter p:=by
   rw [h1,List.filter_append,List.filter_cons_of_neg (by rw [h3];decide),List.filter_eq_self.2 h2]
  show (if ((C.length:Int) == -1)=true then _ else _)=_
  have e:xs=C++([y]++D):=by rw [h1];rfl
  rw [hne,if_neg Bool.false_ne_true,hwi]
  conv=>lhs;lhs;rw [e]
  rw [h5,bindM_some]
  have hq:(C++D.filter p).length≤(C++D.filter p++R).length:=by simp
  have htk:List.take (C++D.filter p).length (C++D.filter p++R)=C++D.filter p:=List.take_left ..
  show (if (0:Int)≤((C++D.filter p).length:Int)∧((C++D.filter p).length:Int)≤((C++D.filter p++R).length:Int)∧_ then _ else none)=_
  rw [if_pos ⟨by omega,by omega,Int.le_refl _⟩]
  show (if (0:Int)≤((C++D.filter p).length:Int)∧((C++D.filter p).length:Int)≤((List.take (Int.toNat ((C++D.filter p).length:Int)) (C++D.filter p++R)++_).length:Int) then some (List.take (Int.toNat ((C++D.filter p).length:Int)) (List.take (Int.toNat ((C++D.filter p).length:Int)) (C++D.filter p++R)++_)) else none)=_
  rw [Int.toNat_natCast,htk,if_pos ⟨by omega,by simp;omega⟩,List.take_left,hfil]
 ·have h2':slices_IndexFunc_api_Prefix__aggregate_Ranges_1.l0 xs 0=some (.nx ()):=h2
  rw [h2',bindM_some]
  show some xs=_
  rw [List.filter_eq_self.2 h1]
theorem lessP_prf{V W:Int}{N M k j:Nat}(hN:N<2 ^ wd V)(hM:M<2 ^ wd W):lessP (prf V N k) (prf W M j)=if V=W∧N=M then decide (((wd V-k:Nat):Int)<((wd W-j:Nat):Int)) else ltA V N W M:=by
 have h1:=(adr_less hN hM).1
 rw [less_key] at h1
 unfold lessP
 show (if adr V N=adr W M then decide (((wd V-k:Nat):Int)<((wd W-j:Nat):Int)) else lessK (adr V N) (adr W M))=_
 simp only [adr_inj hN hM]
 split
 ·rfl
 ·exact Option.some.inj h1
theorem less11{V W:Int}{N M k j:Nat}(hN:N<2 ^ wd V)(hM:M<2 ^ wd W):crawlwayref11_Less (prf V N k) (prf W M j)=some (lessP (prf V N k) (prf W M j)):=by
 rw [lessP_prf hN hM]
 unfold crawlwayref11_Less
 show (if (!decide (adr V N=adr W M))=true then (crawlwayref10_Less (adr V N) (adr W M)>>=fun t4=>some t4) else (some (decide (((wd V-k:Nat):Int)<((wd W-j:Nat):Int)))))=_
 rw [(adr_less hN hM).2,bindM_some]
 by_cases h:V=W∧N=M
 ·rw [if_pos h,decide_eq_true ((adr_inj hN hM).2 h),if_neg (by decide)]
 ·rw [if_neg h,decide_eq_false (mt (adr_inj hN hM).1 h),if_pos (by decide)]
structure Good (t:Int×Nat×Nat):Prop where
 fam:fam t.1
 lt:t.2.1<2 ^ wd t.1
 le:t.2.2≤wd t.1
 dvd:2 ^ t.2.2 ∣ t.2.1
def pf(t:Int×Nat×Nat):S_api_Prefix:=prf t.1 t.2.1 t.2.2
theorem okb_vb{l:List UInt8}(hl:l.length=16):okb (vb l)=true:=by
 unfold okb
 rw [vb_toList hl]
 unfold ob
 rw [List.all_map]
 refine List.all_eq_true.2 fun b _=>?_
 have:=b.toNat_lt
 simp;omega
theorem ok_prf(V:Int)(N k:Nat):okP (prf V N k):=okb_vb (bt_len V N)
theorem right_rows(xs:List S_api_Prefix)(hx:∀ x∈xs,ok_api_Prefix x):∃ p:S_api_Prefix→Bool,(∀ x∈xs,cidr_Right x=some (p x)∧crawlwayref11_Right x=some (p x))∧∃ T:List (Int×Nat×Nat),(∀ t∈T,Good t)∧xs.filter p=T.map pf:=by
 refine ⟨rgt,fun x h=>?_,?_⟩
 ·obtain ⟨V,l,b,rfl,hl,_⟩:=exists_mkP x (hx x h)
  unfold rgt
  rw [cright_code hl,cright_ref hl];exact ⟨rfl,rfl⟩
 ·have hall:∀ x∈xs.filter rgt,∃ t,Good t∧x=pf t:=fun x h=>by
   obtain ⟨h1,h2⟩:=List.mem_filter.1 h
   obtain ⟨V,l,b,rfl,hl,_⟩:=exists_mkP x (hx x h1)
   unfold rgt at h2
   rw [cright_code hl] at h2
   obtain ⟨hf,N,k,a1,a2,a3,a4⟩:=right_prf hl h2
   exact ⟨(V,N,k),⟨hf,a1,a2,a3⟩,a4⟩
  generalize xs.filter rgt=ys at hall
  induction ys with
  | nil=>exact ⟨[],fun t h=>(by cases h),rfl⟩
  | cons y ys ih =>
   obtain ⟨t,h1,h2⟩:=hall y (List.mem_cons_self ..)
   obtain ⟨T,h3,h4⟩:=ih fun x hx=>hall x (List.mem_cons_of_mem _ hx)
   refine ⟨t::T,fun u hu=>?_,by rw [List.map_cons,←h2,←h4]⟩
   rcases List.mem_cons.1 hu with rfl | hu
   ·exact h1
   ·exact h3 u hu
theorem ins_at{α:Type}{lt:α→α→Bool}{x:α}:∀ (A B:List α),(∀ y∈A,lt x y=false)→(∀ y∈B,lt x y=true)→ins lt x (A++B)=A++x::B
 | [],B,_,hb=>by
  cases B with
  | nil=>rfl
  | cons b B=>show (if lt x b=true then x::b::B else b::ins lt x B)=_;rw [if_pos (hb b (List.mem_cons_self ..))];rfl
 | a::A,B,ha,hb=>by
  show (if lt x a=true then x::a::(A++B) else a::ins lt x (A++B))=_
  rw [if_neg (by rw [ha a (List.mem_cons_self ..)];decide),ins_at A B (fun y hy=>ha y (List.mem_cons_of_mem _ hy)) hb];rfl
theorem pos_loop(xs:List S_api_Prefix)(i:Nat)(x:S_api_Prefix)(hi:(0:Int)≤(i:Int)∧(i:Int)<(xs.length:Int))(hx:lget xs (i:Int)=x)(kx:okP x)(out:List S_api_Prefix)(hout:∀ y∈out,okP y∧crawlwayref11_Less x y=some (lessP x y))(hup:Up lessP out)(hn:out.length≤1000000) :
  ∀ (A B:List S_api_Prefix),out=A++B→(∀ y∈B,lessP x y=true)→∃ A' B',out=A'++B'∧crawlwayref53_sorted.l1 xs out (i:Int) (A.length:Int)=some (A'.length:Int)∧ins lessP x out=A'++x::B':=by
 intro A
 induction hA:A.length generalizing A with
 | zero =>
  intro B h1 h2
  have:A=[]:=List.eq_nil_of_length_eq_zero hA
  subst this
  refine ⟨[],B,h1,?_,?_⟩
  ·rw [crawlwayref53_sorted.l1.eq_def,decide_eq_false (by simp),if_neg Bool.false_ne_true];rfl
  ·rw [h1];exact ins_at [] B (fun y hy=>by cases hy) h2
 | succ n ih =>
  intro B h1 h2
  obtain ⟨A',a,rfl⟩:∃ A' a,A=A'++[a]:=⟨A.dropLast,A.getLast (by intro e;subst e;cases hA),(List.dropLast_concat_getLast _).symm⟩
  have hA':A'.length=n:=by simpa using hA
  have e1:out=A'++a::B:=by rw [h1];simp
  have hn2:A'.length+1≤1000000:=by rw [e1] at hn;simp at hn;omega
  have hwi:wr .i64 (((n+1:Nat):Int)-1)=(A'.length:Int):=by rw [wr_i64 (by omega) (by omega)];omega
  have hin:(0:Int)≤(A'.length:Int)∧(A'.length:Int)<(out.length:Int):=by rw [e1];exact in_mid A' a B
  have hga:lget out (A'.length:Int)=a:=by rw [e1];exact lget_mid A' a B
  have ha:=hout a (by rw [e1];simp)
  rw [crawlwayref53_sorted.l1.eq_def,decide_eq_true (by omega),if_pos rfl,if_pos hi,hwi,if_pos hin,hx,hga,ha.2,bindM_some]
  cases hl:lessP x a with
  | true =>
   rw [if_pos rfl,hA']
   exact ih A' hA' (a::B) e1 fun y hy=>by
    rcases List.mem_cons.1 hy with rfl | hy
    ·exact hl
    ·exact h2 y hy
  | false =>
   rw [if_neg Bool.false_ne_true]
   refine ⟨A'++[a],B,h1,by simp [hA'],?_⟩
   rw [h1]
   refine ins_at (A'++[a]) B (fun y hy=>?_) h2
   rcases List.mem_append.1 hy with hy | hy
   ·have hya:lessP a y=false:=by
     have h3:Up lessP (A'++a::B):=e1▸hup
     exact (List.pairwise_append.1 h3).2.2 y hy a (List.mem_cons_self ..)
    exact lessP_swo.ntrans x a y kx ha.1 (hout y (by rw [e1];simp [hy])).1 hl hya
   ·rw [List.mem_singleton.1 hy];exact hl
def IsPf(x:S_api_Prefix):Prop:=∃ t,Good t∧x=pf t
theorem IsPf.ok{x:S_api_Prefix}(h:IsPf x):okP x:=by obtain ⟨t,_,rfl⟩:=h;exact ok_prf _ _ _
theorem IsPf.less{x y:S_api_Prefix}(hx:IsPf x)(hy:IsPf y):crawlwayref11_Less x y=some (lessP x y):=by
 obtain ⟨t,ht,rfl⟩:=hx
 obtain ⟨u,hu,rfl⟩:=hy
 exact less11 ht.lt hu.lt
theorem ins_mem{α:Type}{lt:α→α→Bool}{x y:α}{l:List α}(h:y∈ins lt x l):y=x∨y∈l:=List.mem_cons.1 ((ins_perm lt x l).mem_iff.1 h)
theorem sorted_loop(p:S_api_Prefix→Bool)(xs:List S_api_Prefix)(hn:xs.length≤100000):∀ (B A out:List S_api_Prefix),xs=A++B→(∀ x∈B,crawlwayref11_Right x=some (p x))→(∀ x∈B,p x=true→IsPf x)→(∀ y∈out,IsPf y)→Up lessP out→out.length≤A.length →
  crawlwayref53_sorted.l0 xs out (A.length:Int)=some ((B.filter p).foldl (fun o x=>ins lessP x o) out)
 | [],A,out,hx,hp,hk,ho,hu,hlen=>by
  rw [hx,crawlwayref53_sorted.l0.eq_def,not_lt_end,if_neg Bool.false_ne_true];rfl
 | b::B,A,out,hx,hp,hk,ho,hu,hlen=>by
  have hxl:A.length<xs.length:=by rw [hx];simp
  have hin:(0:Int)≤(A.length:Int)∧(A.length:Int)<(xs.length:Int):=by omega
  have hg:lget xs (A.length:Int)=b:=by rw [hx];exact lget_mid A b B
  have hwi:wr .i64 ((A.length:Int)+1)=((A++[b]).length:Int):=wr_mid A b (by omega)
  have hpB:=fun x hx=>hp x (List.mem_cons_of_mem b hx)
  have hkB:=fun x hx=>hk x (List.mem_cons_of_mem b hx)
  have hxB:xs=(A++[b])++B:=by rw [hx];simp
  have hAl:(A++[b]).length=A.length+1:=by simp
  rw [crawlwayref53_sorted.l0.eq_def,decide_eq_true hin.2,if_pos rfl,if_pos hin,hg,hp b (List.mem_cons_self ..),bindM_some]
  cases h:p b with
  | false =>
   rw [if_pos (by decide),hwi,List.filter_cons_of_neg (by rw [h];decide)]
   exact sorted_loop p xs hn B (A++[b]) out hxB hpB hkB ho hu (by omega)
  | true =>
   have hb:=hk b (List.mem_cons_self ..) h
   obtain ⟨A',B',e1,e2,e3⟩:=pos_loop xs A.length b hin hg hb.ok out (fun y hy=>⟨(ho y hy).ok,hb.less (ho y hy)⟩) hu (by omega) out [] (by simp) (fun y hy=>(by cases hy))
   have hl1:A'.length≤out.length:=by rw [e1];simp
   have hs1:lsub out 0 (A'.length:Int)=A':=by
    unfold lsub
    rw [Int.toNat_natCast,Int.toNat_zero,List.drop_zero,e1,List.take_left]
   have hs2:lsub out (A'.length:Int) (out.length:Int)=B':=by
    unfold lsub
    rw [Int.toNat_natCast,Int.toNat_natCast,List.take_length,e1,List.drop_left]
   have hBl:A'.length+B'.length=out.length:=by rw [e1];simp
   rw [if_neg (by decide),e2,bindM_some,if_pos ⟨Int.le_refl _,by omega,by omega⟩,hs1,if_pos (by simp;omega),if_pos hin,if_pos (by simp;omega),if_pos ⟨by omega,by omega,Int.le_refl _⟩,hs2,if_pos (by simp;omega),hwi]
   have e4:([]:List S_api_Prefix)++A'++[b]++B'=ins lessP b out:=by rw [e3];simp
   rw [e4,List.filter_cons_of_pos h,List.foldl_cons]
   refine sorted_loop p xs hn B (A++[b]) (ins lessP b out) hxB hpB hkB (fun y hy=>?_) (ins_up lessP_swo hb.ok (fun y hy=>(ho y hy).ok) hu) ?_
   ·rcases ins_mem hy with rfl | hy
    ·exact hb
    ·exact ho y hy
   ·have:=(ins_perm lessP b out).length_eq
    rw [List.length_cons] at this;omega
theorem sorted_ref(p:S_api_Prefix→Bool)(xs:List S_api_Prefix)(hn:xs.length≤100000)(hp:∀ x∈xs,crawlwayref11_Right x=some (p x))(hk:∀ x∈xs,p x=true→IsPf x):crawlwayref53_sorted xs=some (isort lessP (xs.filter p)):=by
 unfold crawlwayref53_sorted isort
 have:=sorted_loop p xs hn xs [] [] rfl hp hk (fun y hy=>(by cases hy)) List.Pairwise.nil (Nat.le_refl _)
 show (crawlwayref53_sorted.l0 xs [] (([]:List S_api_Prefix).length:Int)>>=_)=_
 rw [this];rfl
theorem sorted_code(p:S_api_Prefix→Bool)(xs:List S_api_Prefix)(hn:xs.length≤100000)(hp:∀ x∈xs,cidr_Right x=some (p x))(hk:∀ x∈xs,p x=true→IsPf x) :
  (slices_Clone_api_Prefix xs>>=fun t1=>slices_DeleteFunc_api_Prefix__aggregate_Ranges_1 t1>>=fun t4=>sort_Prefix t4)=some (isort lessP (xs.filter p)):=by
 unfold slices_Clone_api_Prefix
 rw [if_pos (by omega),bindM_some,del_code p xs (fun x hx=>by unfold aggregate_Ranges_1;rw [hp x hx];rfl) (by omega),bindM_some]
 unfold sort_Prefix
 have hl:(xs.filter p).length≤xs.length:=List.length_filter_le ..
 have hall:((xs.filter p).all fun x=>okb x.f_A.f_B)=true:=List.all_eq_true.2 fun x hx=>by
  obtain ⟨h1,h2⟩:=List.mem_filter.1 hx
  exact (hk x h1 h2).ok
 rw [if_pos ⟨hall,by omega⟩]
end Go.Proofs.Ytahlbjmafceoeaa.Agg
namespace Go.Proofs.Ytahlbjmafceoeaa.Agg
open E Go.RowKit Adr Cid
theorem allPf{l:List S_api_Prefix}(h:∀ x∈l,IsPf x):∃ T:List (Int×Nat×Nat),(∀ t∈T,Good t)∧l=T.map pf:=by
 induction l with
 | nil=>exact ⟨[],fun t h=>(by cases h),rfl⟩
 | cons y ys ih =>
  obtain ⟨t,h1,h2⟩:=h y (List.mem_cons_self ..)
  obtain ⟨T,h3,h4⟩:=ih fun x hx=>h x (List.mem_cons_of_mem _ hx)
  refine ⟨t::T,fun u hu=>?_,by rw [List.map_cons,←h2,←h4]⟩
  rcases List.mem_cons.1 hu with rfl | hu
  ·exact h1
  ·exact h3 u hu
abbrev Rg:=Int×Nat×Nat
structure GoodR (r:Rg):Prop where
 fam:fam r.1
 le:r.2.1≤r.2.2
 lt:r.2.2<2 ^ wd r.1
def toR(r:Rg):S_aggregate_Range:=rng r.1 r.2.1 r.2.2
def toV(r:Rg):Vector S_api_Addr 2:=vset (vset (Vector.replicate 2 zA:Vector S_api_Addr 2) 0 (adr r.1 r.2.1)) 1 (adr r.1 r.2.2)
theorem toV0(r:Rg):vget (toV r) 0=adr r.1 r.2.1:=rfl
theorem toV1(r:Rg):vget (toV r) 1=adr r.1 r.2.2:=rfl
theorem vset_toV(r:Rg)(m:Nat):vset (toV r) 1 (adr r.1 m)=toV (r.1,r.2.1,m):=by
 apply Vector.toList_inj.1
 unfold toV
 simp [vset_toList]
def endT(t:Int×Nat×Nat):Nat:=t.2.1+2 ^ t.2.2-1
theorem Good.end_lt{t:Int×Nat×Nat}(h:Good t):endT t<2 ^ wd t.1:=by
 obtain ⟨V,N,k⟩:=t
 obtain ⟨hf,hN,hk,hd⟩:=h
 simp only at hf hN hk hd
 unfold endT
 simp only
 obtain ⟨m,rfl⟩:=hd
 have hp:0<2 ^ k:=Nat.pow_pos (by omega)
 have e:2 ^ wd V=2 ^ k*2 ^ (wd V-k):=by rw [←Nat.pow_add];congr 1;omega
 rw [e] at hN ⊢
 have h1:=Nat.lt_of_mul_lt_mul_left hN
 have h3:2 ^ k*(m+1)≤2 ^ k*2 ^ (wd V-k):=Nat.mul_le_mul_left _ h1
 rw [Nat.mul_add,Nat.mul_one] at h3
 omega
theorem le_endT(t:Int×Nat×Nat):t.2.1≤endT t:=by
 have hp:0<2 ^ t.2.2:=Nat.pow_pos (by omega)
 unfold endT;omega
def stepR:List Rg→Int×Nat×Nat→List Rg
 | [],t=>[(t.1,t.2.1,endT t)]
 | r::rest,t=>if r.1=t.1∧t.2.1≤r.2.2+1 then (r.1,r.2.1,max r.2.2 (endT t))::rest else (t.1,t.2.1,endT t)::r::rest
theorem stepR_nil(t:Int×Nat×Nat):stepR [] t=[(t.1,t.2.1,endT t)]:=rfl
theorem stepR_cons(r:Rg)(rest:List Rg)(t:Int×Nat×Nat):stepR (r::rest) t=if r.1=t.1∧t.2.1≤r.2.2+1 then (r.1,r.2.1,max r.2.2 (endT t))::rest else (t.1,t.2.1,endT t)::r::rest:=rfl
theorem stepR_good{rv:List Rg}{t:Int×Nat×Nat}(h:∀ r∈rv,GoodR r)(ht:Good t):∀ r∈stepR rv t,GoodR r:=by
 have hn:GoodR (t.1,t.2.1,endT t):=⟨ht.fam,le_endT t,ht.end_lt⟩
 cases rv with
 | nil=>intro r hr;rw [List.mem_singleton.1 hr];exact hn
 | cons r rest =>
  intro x hx
  rw [stepR_cons] at hx
  have hr:=h r (List.mem_cons_self ..)
  split at hx
  ·next hc =>
   rcases List.mem_cons.1 hx with rfl | hx
   ·refine ⟨hr.fam,Nat.le_trans hr.le (Nat.le_max_left ..),Nat.max_lt.2 ⟨hr.lt,?_⟩⟩
    show endT t<2 ^ wd r.1
    rw [hc.1];exact ht.end_lt
   ·exact h x (List.mem_cons_of_mem _ hx)
  ·rcases List.mem_cons.1 hx with rfl | hx
   ·exact hn
   ·exact h x hx
theorem stepR_len(rv:List Rg)(t:Int×Nat×Nat):(stepR rv t).length≤rv.length+1:=by
 cases rv with
 | nil=>simp [stepR]
 | cons r rest=>rw [stepR_cons];split<;>simp
theorem last_pf{t:Int×Nat×Nat}(h:Good t):aggregate_last (pf t)=some (adr t.1 (endT t))∧crawlwayref53_last (pf t)=some (adr t.1 (endT t)):=⟨last_prf h.fam h.le h.dvd,reflast_prf h.fam h.le h.dvd⟩
theorem nx_pair{V:Int}{N:Nat}:(nx V N).2=decide (N+1<2 ^ wd V)∧(N+1<2 ^ wd V→(nx V N).1=adr V (N+1)):=by
 unfold nx
 split
 ·next h=>exact ⟨(decide_eq_true h).symm,fun _=>rfl⟩
 ·next h=>exact ⟨(decide_eq_false h).symm,fun h'=>absurd h' h⟩
theorem joins_code{r:Rg}{t:Int×Nat×Nat}(hr:GoodR r)(ht:Good t):aggregate_joins (toR r) (pf t)=some (decide (r.1=t.1∧t.2.1≤r.2.2+1)):=by
 unfold aggregate_joins
 show (if (r.1 != t.1)=true then some false else (aggregate_Next (adr r.1 r.2.2)>>=fun t4=>if (!t4.2)=true then (some true) else (addr_Less t4.1 (adr t.1 t.2.1)>>=fun t7=>some (!t7))))=_
 by_cases h:r.1=t.1
 ·have:(r.1 != t.1)=false:=by simpa using h
  rw [this,if_neg Bool.false_ne_true,(next_adr hr.fam hr.lt).1,bindM_some,nx_pair.1]
  have htl:=ht.lt
  by_cases hl:r.2.2+1<2 ^ wd r.1
  ·rw [decide_eq_true hl,if_neg (by decide),nx_pair.2 hl,(adr_less hl ht.lt).1,bindM_some]
   unfold ltA
   rw [if_pos h]
   congr 1
   rw [Bool.eq_iff_iff];simp [h]
  ·rw [decide_eq_false hl,if_pos (by decide)]
   rw [←h] at htl
   congr 1
   exact (decide_eq_true ⟨h,by omega⟩).symm
 ·have:(r.1 != t.1)=true:=by simpa using h
  rw [this,if_pos rfl,decide_eq_false (fun e=>h e.1)]
theorem pf_A(t:Int×Nat×Nat):(pf t).f_A=adr t.1 t.2.1:=rfl
theorem rng_lit(V:Int)(N M:Nat):({ { ({ f_From:=({ f_V:=(0:Int),f_B:=(Vector.replicate 16 (0:Int):(Vector Int 16)) }:S_api_Addr),f_To:=({ f_V:=(0:Int),f_B:=(Vector.replicate 16 (0:Int):(Vector Int 16)) }:S_api_Addr) }:S_aggregate_Range) with f_From:=adr V N } with f_To:=adr V M }:S_aggregate_Range)=rng V N M:=rfl
theorem toR_From(r:Rg):(toR r).f_From=adr r.1 r.2.1:=rfl
theorem toR_To(r:Rg):(toR r).f_To=adr r.1 r.2.2:=rfl
theorem ranges_loop(S:List (Int×Nat×Nat))(hS:S.length≤100000):∀ (B A:List (Int×Nat×Nat)) (rv:List Rg),S=A++B→(∀ t∈B,Good t)→(∀ r∈rv,GoodR r)→rv.length≤A.length →
  aggregate_Ranges.l0 (S.map pf) (rv.reverse.map toR) (A.length:Int)=some ((B.foldl stepR rv).reverse.map toR)∧crawlwayref53_Ranges.l0 (S.map pf) (rv.reverse.map toV) (A.length:Int)=some ((B.foldl stepR rv).reverse.map toV)
 | [],A,rv,hx,hb,hr,hl=>by
  have hd:decide ((A.length:Int)<((S.map pf).length:Int))=false:=decide_eq_false (by rw [hx];simp)
  rw [aggregate_Ranges.l0.eq_def,crawlwayref53_Ranges.l0.eq_def,hd,if_neg Bool.false_ne_true,if_neg Bool.false_ne_true];exact ⟨rfl,rfl⟩
 | t::B,A,rv,hx,hb,hr,hl=>by
  have ht:=hb t (List.mem_cons_self ..)
  have hSl:S.length=A.length+(B.length+1):=by rw [hx];simp
  have hin:(0:Int)≤(A.length:Int)∧(A.length:Int)<((S.map pf).length:Int):=by rw [List.length_map];omega
  have hg:lget (S.map pf) (A.length:Int)=pf t:=by
   rw [hx,List.map_append,List.map_cons]
   have:=lget_mid (A.map pf) (pf t) (B.map pf)
   rwa [List.length_map] at this
  have hwi:wr .i64 ((A.length:Int)+1)=((A++[t]).length:Int):=wr_mid A t (by omega)
  have hxB:S=(A++[t])++B:=by rw [hx];simp
  have hAl:(A++[t]).length=A.length+1:=by simp
  obtain ⟨la,lr⟩:=last_pf ht
  obtain ⟨i1,i2⟩:=ranges_loop S hS B (A++[t]) (stepR rv t) hxB (fun u hu=>hb u (List.mem_cons_of_mem _ hu)) (stepR_good hr ht) (by have:=stepR_len rv t;omega)
  rw [List.foldl_cons,←i1,←i2]
  rw [aggregate_Ranges.l0.eq_def,crawlwayref53_Ranges.l0.eq_def,decide_eq_true hin.2,if_pos rfl,if_pos rfl,if_pos hin,hg,hwi]
  have hV2:∀ (V:Int) (N M:Nat),vset (vset (Vector.replicate 2 ({ f_V:=(0:Int),f_B:=(Vector.replicate 16 (0:Int):(Vector Int 16)) }:S_api_Addr):(Vector S_api_Addr 2)) 0 (adr V N)) 1 (adr V M)=toV (V,N,M):=fun _ _ _=>rfl
  cases rv with
  | nil =>
   have h0:((([]:List Rg).reverse.map toR).length:Int)=0:=rfl
   have h0':((([]:List Rg).reverse.map toV).length:Int)=0:=rfl
   rw [h0,h0',if_pos (by rfl),if_neg (by decide),if_pos hin,if_pos hin,la,lr,bindM_some,bindM_some,if_pos (by decide),if_pos (by decide),pf_A,rng_lit,hV2]
   exact ⟨rfl,rfl⟩
  | cons r rest =>
   have hrg:=hr r (List.mem_cons_self ..)
   have e1:(r::rest).reverse.map toR=rest.reverse.map toR++[toR r]:=by simp
   have e2:(r::rest).reverse.map toV=rest.reverse.map toV++[toV r]:=by simp
   have hL:(rest.reverse.map toR).length=rest.length:=by simp
   have hL2:(rest.reverse.map toV).length=rest.length:=by simp
   have hrl:rest.length+1≤A.length:=by simpa using hl
   have l1:((rest.reverse.map toR++[toR r]).length:Int)=((rest.length+1:Nat):Int):=by simp
   have l2:((rest.reverse.map toV++[toV r]).length:Int)=((rest.length+1:Nat):Int):=by simp
   have hw:wr .i64 (((rest.length+1:Nat):Int)-1)=(rest.length:Int):=by rw [wr_i64 (by omega) (by omega)];omega
   have hi:(0:Int)≤(rest.length:Int)∧(rest.length:Int)<((rest.length+1:Nat):Int):=by omega
   have g1:lget (rest.reverse.map toR++[toR r]) (rest.length:Int)=toR r:=by rw [←hL];exact lget_mid _ _ []
   have g2:lget (rest.reverse.map toV++[toV r]) (rest.length:Int)=toV r:=by rw [←hL2];exact lget_mid _ _ []
   have s1:∀ y,lset (rest.reverse.map toR++[toR r]) (rest.length:Int) y=rest.reverse.map toR++[y]:=fun y=>by rw [←hL];simp [lset]
   have s2:∀ y,lset (rest.reverse.map toV++[toV r]) (rest.length:Int) y=rest.reverse.map toV++[y]:=fun y=>by rw [←hL2];simp [lset]
   have hz:(((rest.length+1:Nat):Int)==0)=false:=by rw [beq_eq_false_iff_ne];omega
   have hz2:decide (((rest.length+1:Nat):Int)>0)=true:=decide_eq_true (by omega)
   have hn1:(rest.reverse.map toR++[toR r]).length+1≤100001:=by simp;omega
   have hn2:(rest.reverse.map toV++[toV r]).length+1≤100001:=by simp;omega
   have hV:(adr r.1 r.2.1).f_V=r.1:=rfl
   have hV3:(adr t.1 t.2.1).f_V=t.1:=rfl
   have hnew1:∀ (V:Int) (N M:Nat),(rest.reverse.map toR++[toR r])++[rng V N M]=((V,N,M)::r::rest).reverse.map toR:=fun V N M=>by simp [toR]
   have hnew2:∀ (V:Int) (N M:Nat),(rest.reverse.map toV++[toV r])++[toV (V,N,M)]=((V,N,M)::r::rest).reverse.map toV:=fun V N M=>by simp
   obtain ⟨n1,n2⟩:=next_adr hrg.fam hrg.lt
   rw [e1,e2,l1,l2,hz,if_neg Bool.false_ne_true,hw,if_pos hi,g1,joins_code hrg ht,bindM_some,hz2,if_pos rfl,if_pos hi,g2,toV1,n2,bindM_some,if_pos hi,if_pos hin,toV0,hV,pf_A,hV3]
   by_cases hj:r.1=t.1∧t.2.1≤r.2.2+1
   ·have hq:(r.1==t.1)=true:=by simpa using hj.1
    have hend:endT t<2 ^ wd r.1:=by rw [hj.1];exact ht.end_lt
    have hle1:=(adr_less hrg.lt (W:=t.1) ht.end_lt)
    have hlt:ltA r.1 r.2.2 t.1 (endT t)=decide (r.2.2<endT t):=by unfold ltA;rw [if_pos hj.1]
    have hst:stepR (r::rest) t=(r.1,r.2.1,max r.2.2 (endT t))::rest:=by rw [stepR_cons,if_pos hj]
    have hadr:adr t.1 (endT t)=adr r.1 (endT t):=by rw [hj.1]
    rw [decide_eq_true hj,if_neg (by decide),la,bindM_some,if_pos hi,toR_To,hle1.1,bindM_some,hlt,hq,if_pos rfl,nx_pair.1,hst]
    have hfin1:(if decide (r.2.2<endT t)=true then (if (0:Int)≤(rest.length:Int)∧(rest.length:Int)<((rest.length+1:Nat):Int) then aggregate_Ranges.l0 (S.map pf) (lset (rest.reverse.map toR++[toR r]) (rest.length:Int) { toR r with f_To:=adr t.1 (endT t) }) ((A++[t]).length:Int) else none) else aggregate_Ranges.l0 (S.map pf) (rest.reverse.map toR++[toR r]) ((A++[t]).length:Int))=aggregate_Ranges.l0 (S.map pf) (((r.1,r.2.1,max r.2.2 (endT t))::rest).reverse.map toR) ((A++[t]).length:Int):=by
     by_cases hc:r.2.2<endT t
     ·rw [decide_eq_true hc,if_pos rfl,if_pos hi,s1,hadr,Nat.max_eq_right (by omega)]
      congr 1
      simp [toR,rng]
     ·rw [decide_eq_false hc,if_neg Bool.false_ne_true,Nat.max_eq_left (by omega)]
      congr 1
      simp
    have hfin2:(if decide (r.2.2<endT t)=true then (if (0:Int)≤(A.length:Int)∧(A.length:Int)<((S.map pf).length:Int) then crawlwayref53_last (pf t)>>=fun t50=>if (0:Int)≤(rest.length:Int)∧(rest.length:Int)<((rest.length+1:Nat):Int) then crawlwayref53_Ranges.l0 (S.map pf) (lset (rest.reverse.map toV++[toV r]) (rest.length:Int) (vset (toV r) 1 t50)) ((A++[t]).length:Int) else none else none) else crawlwayref53_Ranges.l0 (S.map pf) (rest.reverse.map toV++[toV r]) ((A++[t]).length:Int))=crawlwayref53_Ranges.l0 (S.map pf) (((r.1,r.2.1,max r.2.2 (endT t))::rest).reverse.map toV) ((A++[t]).length:Int):=by
     by_cases hc:r.2.2<endT t
     ·rw [decide_eq_true hc,if_pos rfl,if_pos hin,lr,bindM_some,if_pos hi,hadr,vset_toV,s2,Nat.max_eq_right (by omega)]
      congr 1
      simp
     ·rw [decide_eq_false hc,if_neg Bool.false_ne_true,Nat.max_eq_left (by omega)]
      congr 1
      simp
    refine ⟨hfin1,?_⟩
    by_cases hl:r.2.2+1<2 ^ wd r.1
    ·have htl:=ht.lt
     rw [decide_eq_true hl,if_neg (by decide),if_pos hin,nx_pair.2 hl,(adr_less hl ht.lt).2,bindM_some]
     have:ltA r.1 (r.2.2+1) t.1 t.2.1=false:=by unfold ltA;rw [if_pos hj.1,decide_eq_false (by omega)]
     rw [this,if_pos (by decide),if_pos hi,if_pos hin,lr,bindM_some,hle1.2,bindM_some,hlt]
     rw [lr] at hfin2;exact hfin2
    ·rw [decide_eq_false hl,if_pos (by decide),if_pos hi,if_pos hin,lr,bindM_some,hle1.2,bindM_some,hlt]
     rw [lr] at hfin2;exact hfin2
   ·have hst:stepR (r::rest) t=(t.1,t.2.1,endT t)::r::rest:=by rw [stepR_cons,if_neg hj]
    rw [decide_eq_false hj,if_pos (by decide),la,bindM_some,if_pos (by omega),rng_lit,hnew1,hst]
    refine ⟨rfl,?_⟩
    by_cases hq:r.1=t.1
    ·have hq':(r.1==t.1)=true:=by simpa using hq
     have htl:=ht.lt
     have hl:r.2.2+1<2 ^ wd r.1:=by
      rw [hq]
      have:¬ t.2.1≤r.2.2+1:=fun h=>hj ⟨hq,h⟩
      omega
     rw [hq',if_pos rfl,nx_pair.1,decide_eq_true hl,if_neg (by decide),if_pos hin,nx_pair.2 hl,(adr_less hl ht.lt).2,bindM_some]
     have:ltA r.1 (r.2.2+1) t.1 t.2.1=true:=by unfold ltA;rw [if_pos hq];exact decide_eq_true (by have:¬ t.2.1≤r.2.2+1:=fun h=>hj ⟨hq,h⟩;omega)
     rw [this,if_neg (by decide),if_pos hin,if_pos hin,lr,bindM_some,if_pos (by omega),hV2,hnew2]
    ·have hq':(r.1==t.1)=false:=by simpa using hq
     rw [hq',if_neg Bool.false_ne_true,if_pos hin,if_pos hin,lr,bindM_some,if_pos (by omega),hV2,hnew2]
noncomputable def pcs(r:Rg):List (Nat×Nat):=if h:r.2.2<2 ^ wd r.1∧r.2.1≤r.2.2 then Classical.choose (cov_ex (w:=wd r.1) h.1 h.2) else []
theorem pcs_cov{r:Rg}(h:GoodR r):Cov (wd r.1) r.2.2 r.2.1 (pcs r)∧(pcs r).length≤257:=by
 have hw:=wd_le r.1
 unfold pcs
 rw [dif_pos ⟨h.lt,h.le⟩]
 have:=Classical.choose_spec (cov_ex (w:=wd r.1) h.lt h.le)
 exact ⟨this.1,by omega⟩
theorem pcs_code{r:Rg}(h:GoodR r):aggregate_Prefixes (toR r)=some (toP r.1 (pcs r))∧crawlwayref53_Prefixes (adr r.1 r.2.1) (adr r.1 r.2.2)=some (toP r.1 (pcs r)):=by
 obtain ⟨L,h1,_,h3,h4⟩:=prefixes_code h.fam h.lt h.le
 rw [h1.uniq (pcs_cov h).1] at h3 h4
 exact ⟨h3,h4⟩
noncomputable def covR(rs:List Rg):List S_api_Prefix:=rs.flatMap fun r=>toP r.1 (pcs r)
theorem covR_len:∀ {rs:List Rg},(∀ r∈rs,GoodR r)→(covR rs).length≤257*rs.length
 | [],_=>by simp [covR]
 | r::rs,h=>by
  have h1:=(pcs_cov (h r (List.mem_cons_self ..))).2
  have h2:=covR_len (rs:=rs) fun x hx=>h x (List.mem_cons_of_mem _ hx)
  unfold covR at h2 ⊢
  have h3:(toP r.1 (pcs r)).length=(pcs r).length:=by unfold toP;rw [List.length_map]
  rw [List.flatMap_cons,List.length_append,List.length_cons,h3]
  omega
theorem cover_loop(rs:List Rg)(hS:rs.length≤10000)(hr:∀ r∈rs,GoodR r):∀ (B A:List Rg),rs=A++B →
  aggregate_Cover.l0 (rs.map toR) (covR A) (A.length:Int)=some (covR rs)∧crawlwayref53_Cover.l0 (rs.map toV) (covR A) (A.length:Int)=some (covR rs)
 | [],A,hx=>by
  have hd:decide ((A.length:Int)<((rs.map toR).length:Int))=false:=decide_eq_false (by rw [hx];simp)
  have hd2:decide ((A.length:Int)<((rs.map toV).length:Int))=false:=decide_eq_false (by rw [hx];simp)
  rw [aggregate_Cover.l0.eq_def,crawlwayref53_Cover.l0.eq_def,hd,hd2,if_neg Bool.false_ne_true,if_neg Bool.false_ne_true]
  rw [List.append_nil] at hx
  rw [hx];exact ⟨rfl,rfl⟩
 | r::B,A,hx=>by
  have hrg:=hr r (by rw [hx];simp)
  have hSl:rs.length=A.length+(B.length+1):=by rw [hx];simp
  have hin:(0:Int)≤(A.length:Int)∧(A.length:Int)<((rs.map toR).length:Int):=by rw [List.length_map];omega
  have hin2:(0:Int)≤(A.length:Int)∧(A.length:Int)<((rs.map toV).length:Int):=by rw [List.length_map];omega
  have hg:lget (rs.map toR) (A.length:Int)=toR r:=by
   rw [hx,List.map_append,List.map_cons]
   have:=lget_mid (A.map toR) (toR r) (B.map toR)
   rwa [List.length_map] at this
  have hg2:lget (rs.map toV) (A.length:Int)=toV r:=by
   rw [hx,List.map_append,List.map_cons]
   have:=lget_mid (A.map toV) (toV r) (B.map toV)
   rwa [List.length_map] at this
  have hwi:wr .i64 ((A.length:Int)+1)=((A++[r]).length:Int):=wr_mid A r (by omega)
  obtain ⟨c1,c2⟩:=pcs_code hrg
  have hA:=covR_len (rs:=A) fun x h=>hr x (by rw [hx];simp [h])
  have hp:(toP r.1 (pcs r)).length≤257:=by unfold toP;rw [List.length_map];exact (pcs_cov hrg).2
  have hc:covR A++toP r.1 (pcs r)=covR (A++[r]):=by unfold covR;rw [List.flatMap_append];simp
  obtain ⟨i1,i2⟩:=cover_loop rs hS hr B (A++[r]) (by rw [hx];simp)
  rw [aggregate_Cover.l0.eq_def,crawlwayref53_Cover.l0.eq_def,decide_eq_true hin.2,decide_eq_true hin2.2,if_pos rfl,if_pos rfl,if_pos hin,if_pos hin2,if_pos hin2,hg,hg2,toV0,toV1,c1,c2,bindM_some,bindM_some,if_pos (by omega),if_pos (by omega),hc,hwi]
  exact ⟨i1,i2⟩
structure Res (xs:List S_api_Prefix) (S:List (Int×Nat×Nat)):Prop where
 good:∀ t∈S,Good t
 up:Up lessP (S.map pf)
 len:S.length≤xs.length
 mem:∀ x,x∈S.map pf↔x∈xs∧crawlwayref11_Right x=some true
 perm:(∀ x∈xs,crawlwayref11_Right x=some true)→(S.map pf).Perm xs
 srt:crawlwayref53_sorted xs=some (S.map pf)
 rs:aggregate_Ranges xs=some ((S.foldl stepR []).reverse.map toR)
 rr:crawlwayref53_Ranges xs=some ((S.foldl stepR []).reverse.map toV)
 cs:aggregate_Cover xs=some (covR (S.foldl stepR []).reverse)
 cr:crawlwayref53_Cover xs=some (covR (S.foldl stepR []).reverse)
theorem fold_good:∀ (S:List (Int×Nat×Nat)) (rv:List Rg),(∀ t∈S,Good t)→(∀ r∈rv,GoodR r)→(∀ r∈S.foldl stepR rv,GoodR r)∧(S.foldl stepR rv).length≤rv.length+S.length
 | [],rv,_,hr=>⟨hr,by simp⟩
 | t::S,rv,hs,hr=>by
  obtain ⟨h1,h2⟩:=fold_good S (stepR rv t) (fun u hu=>hs u (List.mem_cons_of_mem _ hu)) (stepR_good hr (hs t (List.mem_cons_self ..)))
  have:=stepR_len rv t
  rw [List.foldl_cons]
  exact ⟨h1,by simp;omega⟩
theorem res_of(xs:List S_api_Prefix)(hx:∀ x∈xs,ok_api_Prefix x)(hn:xs.length≤10000):∃ S,Res xs S:=by
 obtain ⟨p,hp,T,hT,hfT⟩:=right_rows xs hx
 have hk:∀ x∈xs,p x=true→IsPf x:=fun x h1 h2=>by
  have:x∈T.map pf:=hfT▸List.mem_filter.2 ⟨h1,h2⟩
  obtain ⟨t,ht,rfl⟩:=List.mem_map.1 this
  exact ⟨t,hT t ht,rfl⟩
 have hmem:∀ x,x∈isort lessP (xs.filter p)↔x∈xs∧p x=true:=fun x=>by rw [(isort_perm _ _).mem_iff,List.mem_filter]
 obtain ⟨S,hS,hSe⟩:=allPf (l:=isort lessP (xs.filter p)) fun x h=>hk x ((hmem x).1 h).1 ((hmem x).1 h).2
 have hup:Up lessP (S.map pf):=by
  rw [←hSe]
  exact isort_up lessP_swo _ fun y hy=>by
   obtain ⟨h1,h2⟩:=List.mem_filter.1 hy
   exact (hk y h1 h2).ok
 have hl:S.length≤xs.length:=by
  have h1:=congrArg List.length hSe
  rw [isort_length,List.length_map] at h1
  rw [←h1];exact List.length_filter_le ..
 have hsr:=sorted_ref p xs (by omega) (fun x h=>(hp x h).2) hk
 have hsc:=sorted_code p xs (by omega) (fun x h=>(hp x h).1) hk
 rw [hSe] at hsr hsc
 obtain ⟨r1,r2⟩:=ranges_loop S (by omega) S [] [] rfl hS (fun r h=>(by cases h)) (Nat.le_refl _)
 have hR:aggregate_Ranges xs=some ((S.foldl stepR []).reverse.map toR):=by
  unfold aggregate_Ranges
  obtain ⟨a,ha,h1⟩:=of_bindM hsc
  obtain ⟨b,hb,h2⟩:=of_bindM h1
  rw [ha,bindM_some,hb,bindM_some,h2,bindM_some]
  show (aggregate_Ranges.l0 (S.map pf) (([]:List Rg).reverse.map toR) (([]:List (Int×Nat×Nat)).length:Int)>>=_)=_
  rw [r1];rfl
 have hR2:crawlwayref53_Ranges xs=some ((S.foldl stepR []).reverse.map toV):=by
  unfold crawlwayref53_Ranges
  rw [hsr,bindM_some]
  show (crawlwayref53_Ranges.l0 (S.map pf) (([]:List Rg).reverse.map toV) (([]:List (Int×Nat×Nat)).length:Int)>>=_)=_
  rw [r2];rfl
 obtain ⟨g1,g2⟩:=fold_good S [] hS fun r h=>(by cases h)
 have g3:(S.foldl stepR []).reverse.length≤10000:=by rw [List.length_reverse];simp at g2;omega
 obtain ⟨c1,c2⟩:=cover_loop (S.foldl stepR []).reverse g3 (fun r h=>g1 r (List.mem_reverse.1 h)) (S.foldl stepR []).reverse [] rfl
 refine ⟨S,hS,hup,hl,fun x=>?_,fun h=>?_,hsr,hR,hR2,?_,?_⟩
 ·rw [←hSe,hmem]
  constructor
  ·rintro ⟨h1,h2⟩;exact ⟨h1,by rw [(hp x h1).2,h2]⟩
  ·rintro ⟨h1,h2⟩;exact ⟨h1,by rw [(hp x h1).2] at h2;exact Option.some.inj h2⟩
 ·rw [←hSe]
  refine (isort_perm _ _).trans ?_
  rw [List.filter_eq_self.2 fun x hx=>Option.some.inj ((hp x hx).2.symm.trans (h x hx))]
 ·unfold aggregate_Cover
  rw [hR,bindM_some]
  show (aggregate_Cover.l0 _ (covR []) (([]:List Rg).length:Int)>>=_)=_
  rw [c1];rfl
 ·unfold crawlwayref53_Cover
  rw [hR2,bindM_some]
  show (crawlwayref53_Cover.l0 _ (covR []) (([]:List Rg).length:Int)>>=_)=_
  rw [c2];rfl
end Go.Proofs.Ytahlbjmafceoeaa.Agg
namespace Go.Proofs.Ytahlbjmafceoeaa.Agg
open E Go.RowKit Adr Cid
theorem isG_of{w N M k:Nat}(h1:k≤w)(h2:2 ^ k ∣ N)(h3:N+2 ^ k≤M+1)(h4:¬ 2 ^ (k+1) ∣ N∨M+1<N+2 ^ (k+1)):IsG w N M k:=by
 refine ⟨h1,h2,h3,fun j hj hd hf=>?_⟩
 rcases Nat.lt_or_ge k j with h | h
 ·exfalso
  rcases h4 with h4 | h4
  ·exact h4 (Nat.dvd_trans (Nat.pow_dvd_pow 2 h) hd)
  ·have:=Nat.pow_le_pow_right (show 0<2 by omega) (show k+1≤j from h)
   omega
 ·exact h
theorem pf_inj{t u:Int×Nat×Nat}(ht:Good t)(hu:Good u)(h:pf t=pf u):t=u:=by
 obtain ⟨V,N,k⟩:=t
 obtain ⟨W,M,j⟩:=u
 have h1:adr V N=adr W M:=congrArg S_api_Prefix.f_A h
 have h2:((wd V-k:Nat):Int)=((wd W-j:Nat):Int):=congrArg S_api_Prefix.f_Bits h
 obtain ⟨rfl,rfl⟩:=(adr_inj ht.lt hu.lt).1 h1
 have h3:k≤wd V:=ht.le
 have h4:j≤wd V:=hu.le
 simp only at h2
 have:k=j:=by omega
 rw [this]
theorem ok_pf{t:Int×Nat×Nat}(h:Good t):ok_api_Prefix (pf t):=by
 obtain ⟨V,N,k⟩:=t
 have hw:=wd_le V
 refine ⟨⟨?_,?_⟩,?_⟩
 ·rcases h.fam with e | e
  ·show (Lit.int .i64 V).wf=true
   have e:V=4:=e
   rw [e];rfl
  ·show (Lit.int .i64 V).wf=true
   have e:V=6:=e
   rw [e];rfl
 ·intro x hx
  have hx:x∈(vb (bt V N)).toList:=hx
  rw [vb_toList (bt_len V N)] at hx
  obtain ⟨b,_,rfl⟩:=List.mem_map.1 hx
  have:=b.toNat_lt
  simp [Lit.wf,IntKind.min,IntKind.max,IntKind.signed,IntKind.bits]
  omega
 ·show (Lit.int .i64 ((wd V-k:Nat):Int)).wf=true
  simp [Lit.wf,IntKind.min,IntKind.max,IntKind.signed,IntKind.bits]
  omega
theorem pfx1:aggregate_Prefixes (rng 4 167772161 167772164)=some (toP 4 [(167772161,0),(167772162,1),(167772164,0)]):=by
 obtain ⟨L,h1,_,h3,_⟩:=prefixes_code (V:=4) (.inl rfl) (N:=167772161) (M:=167772164) (by decide) (by decide)
 have hc:Cov (wd 4) 167772164 167772161 [(167772161,0),(167772162,1),(167772164,0)] :=
  .step (isG_of (by decide) (by decide) (by decide) (.inl (by decide))) (by decide) (.step (isG_of (by decide) (by decide) (by decide) (.inl (by decide))) (by decide) (.last (isG_of (by decide) (by decide) (by decide) (.inr (by decide))) (by decide)))
 rw [h1.uniq hc] at h3
 exact h3
theorem e1_pf:crawlwaylaw53_alive.e1=pf (4,167772160,23):=by decide +kernel
theorem e0_pf:crawlwaylaw53_alive.e0=pf (4,176160768,23):=by decide +kernel
theorem g0:Good (4,167772160,23):=⟨.inl rfl,by decide,by decide,by decide⟩
theorem g1:Good (4,176160768,23):=⟨.inl rfl,by decide,by decide,by decide⟩
theorem lessP01:lessP (pf (4,167772160,23)) (pf (4,176160768,23))=true:=by
 show lessP (prf 4 167772160 23) (prf 4 176160768 23)=true
 rw [lessP_prf g0.lt g1.lt];decide
theorem cov1:aggregate_Cover [crawlwaylaw53_alive.e0,crawlwaylaw53_alive.e1]=some (toP 4 [(167772160,24)]):=by
 rw [e0_pf,e1_pf]
 obtain ⟨S,h⟩:=res_of [pf (4,176160768,23),pf (4,167772160,23)] (fun x hx=>by
  rcases List.mem_cons.1 hx with rfl | hx
  ·exact ok_pf g1
  ·rw [List.mem_singleton.1 hx];exact ok_pf g0) (by simp)
 have r0:=(prf_right g0.fam g0.le g0.dvd).2
 have r1:=(prf_right g1.fam g1.le g1.dvd).2
 have m0:=(h.mem (pf (4,167772160,23))).2 ⟨by simp,r0⟩
 have m1:=(h.mem (pf (4,176160768,23))).2 ⟨by simp,r1⟩
 have hne:pf (4,167772160,23)≠pf (4,176160768,23):=fun e=>by
  have:=pf_inj g0 g1 e
  cases this
 have hS:S=[(4,167772160,23),(4,176160768,23)]:=by
  have hl:=h.len
  obtain ⟨t,ht,et⟩:=List.mem_map.1 m0
  obtain ⟨u,hu,eu⟩:=List.mem_map.1 m1
  have et:=pf_inj (h.good t ht) g0 et
  have eu:=pf_inj (h.good u hu) g1 eu
  subst et;subst eu
  match S,hl,ht,hu,h.up with
  | [],_,ht,_,_=>cases ht
  | [x],_,ht,hu,_ =>
   have e1:=List.mem_singleton.1 ht
   have e2:=List.mem_singleton.1 hu
   rw [←e2] at e1
   exact absurd (congrArg pf e1) hne
  | [x,y],_,ht,hu,hup =>
   have hup:lessP (pf y) (pf x)=false:=(List.pairwise_cons.1 hup).1 (pf y) (by simp)
   rcases List.mem_cons.1 ht with e1 | e1
   ·rcases List.mem_cons.1 hu with e2 | e2
    ·rw [←e2] at e1
     exact absurd (congrArg pf e1) hne
    ·rw [←e1,←List.mem_singleton.1 e2]
   ·rcases List.mem_cons.1 hu with e2 | e2
    ·rw [←List.mem_singleton.1 e1,←e2,lessP01] at hup
     cases hup
    ·have e1:=List.mem_singleton.1 e1
     rw [←List.mem_singleton.1 e2] at e1
     exact absurd (congrArg pf e1) hne
  | _::_::_::_,hl,_,_,_=>simp at hl
 have hf:S.foldl stepR []=[((4:Int),(167772160:Nat),(184549375:Nat))]:=by rw [hS];decide
 have hg:GoodR ((4:Int),(167772160:Nat),(184549375:Nat)):=⟨.inl rfl,by decide,by decide⟩
 have hc:Cov (wd 4) 184549375 167772160 [(167772160,24)]:=.last (isG_of (by decide) (by decide) (by decide) (.inr (by decide))) (by decide)
 have hp:pcs ((4:Int),(167772160:Nat),(184549375:Nat))=[(167772160,24)]:=(pcs_cov hg).1.uniq hc
 rw [h.cs,hf,List.reverse_singleton]
 unfold covR
 rw [List.flatMap_cons,hp];rfl
theorem alive53:crawlwaylaw53_alive=some true:=by
 unfold crawlwaylaw53_alive
 have hr:({ { ({ f_From:=({ f_V:=(0:Int),f_B:=(Vector.replicate 16 (0:Int):(Vector Int 16)) }:S_api_Addr),f_To:=({ f_V:=(0:Int),f_B:=(Vector.replicate 16 (0:Int):(Vector Int 16)) }:S_api_Addr) }:S_aggregate_Range) with f_From:={ { ({ f_V:=(0:Int),f_B:=(Vector.replicate 16 (0:Int):(Vector Int 16)) }:S_api_Addr) with f_V:=4 } with f_B:=vset (vset (vset (vset (Vector.replicate 16 (0:Int):(Vector Int 16)) 0 10) 1 0) 2 0) 3 1 } } with f_To:={ { ({ f_V:=(0:Int),f_B:=(Vector.replicate 16 (0:Int):(Vector Int 16)) }:S_api_Addr) with f_V:=4 } with f_B:=vset (vset (vset (vset (Vector.replicate 16 (0:Int):(Vector Int 16)) 0 10) 1 0) 2 0) 3 4 } }:S_aggregate_Range)=rng 4 167772161 167772164:=by decide +kernel
 rw [hr,pfx1,bindM_some,cov1,bindM_some]
 decide +kernel
theorem alive_then53:(crawlwaylaw53_alive>>=fun t=>some t)=some true:=by rw [alive53];rfl
theorem same11_loop(L:List S_api_Prefix)(hn:L.length≤1000000):∀ (k i:Nat),i+k=L.length→crawlwayref11_Same.l0 L L (i:Int)=some (.nx ())
 | 0,i,h=>by rw [crawlwayref11_Same.l0.eq_def,decide_eq_false (by omega),if_neg Bool.false_ne_true]
 | k+1,i,h=>by
  rw [crawlwayref11_Same.l0.eq_def,decide_eq_true (by omega),if_pos rfl,if_pos (by omega),if_pos (by omega),if_neg (by simp),wr_i64 (by omega) (by omega)]
  exact same11_loop L hn k (i+1) (by omega)
theorem same11(L:List S_api_Prefix)(hn:L.length≤1000000):crawlwayref11_Same L L=some true:=by
 unfold crawlwayref11_Same
 rw [if_neg (by simp),show (0:Int)=((0:Nat):Int) from rfl,same11_loop L hn L.length 0 (by omega)];rfl
end Go.Proofs.Ytahlbjmafceoeaa.Agg
namespace Go.Proofs.Ytahlbjmafceoeaa.Agg
open E Go.RowKit Adr Cid
def LeT(t u:Int×Nat×Nat):Prop:=t.1≤u.1∧(t.1=u.1→t.2.1≤u.2.1)
theorem leT_of{t u:Int×Nat×Nat}(ht:Good t)(hu:Good u)(h:lessP (pf u) (pf t)=false):LeT t u:=by
 unfold pf at h
 rw [lessP_prf hu.lt ht.lt] at h
 by_cases e:u.1=t.1∧u.2.1=t.2.1
 ·exact ⟨by omega,fun _=>by omega⟩
 ·rw [if_neg e] at h
  unfold ltA at h
  by_cases e1:u.1=t.1
  ·rw [if_pos e1] at h
   have:=of_decide_eq_false h
   exact ⟨by omega,fun _=>by omega⟩
  ·rw [if_neg e1] at h
   have:=of_decide_eq_false h
   exact ⟨by omega,fun e2=>by omega⟩
theorem up_leT{S:List (Int×Nat×Nat)}(hg:∀ t∈S,Good t)(h:Up lessP (S.map pf)):S.Pairwise LeT:=by
 have h2:=List.pairwise_map.1 h
 exact List.Pairwise.imp_of_mem (fun ha hb hab=>leT_of (hg _ ha) (hg _ hb) hab) h2
def sp(r q:Rg):Prop:=r.1<q.1∨(r.1=q.1∧r.2.2+1<q.2.1)
theorem sp_trans{a b c:Rg}(hb:b.2.1≤b.2.2)(h1:sp a b)(h2:sp b c):sp a c:=by
 unfold sp at *
 omega
def inR(W:Int)(x:Nat)(r:Rg):Prop:=W=r.1∧r.2.1≤x∧x≤r.2.2
def inT(W:Int)(x:Nat)(t:Int×Nat×Nat):Prop:=W=t.1∧t.2.1≤x∧x≤endT t
def leR(r:Rg)(t:Int×Nat×Nat):Prop:=r.1≤t.1∧(r.1=t.1→r.2.1≤t.2.1)
structure Inv (rv:List Rg) (S:List (Int×Nat×Nat)):Prop where
 good:∀ r∈rv,GoodR r
 sep:rv.Pairwise fun q r=>sp r q
 top:∀ r rest,rv=r::rest→∀ t∈S,leR r t
theorem step_inv{rv:List Rg}{t:Int×Nat×Nat}{S:List (Int×Nat×Nat)}(h:Inv rv (t::S))(ht:Good t)(hl:∀ u∈S,LeT t u):Inv (stepR rv t) S:=by
 refine ⟨stepR_good h.good ht,?_,?_⟩
 ·cases rv with
  | nil=>rw [stepR_nil];exact List.pairwise_singleton _ _
  | cons r rest =>
   have h1:=List.pairwise_cons.1 h.sep
   have h2:=h.top r rest rfl t (List.mem_cons_self ..)
   have hr:=h.good r (List.mem_cons_self ..)
   rw [stepR_cons]
   split
   ·exact List.pairwise_cons.2 ⟨fun q hq=>h1.1 q hq,h1.2⟩
   ·next hc =>
    have hs:sp r (t.1,t.2.1,endT t):=by
     unfold leR at h2
     unfold sp
     simp only
     omega
    refine List.pairwise_cons.2 ⟨fun q hq=>?_,h.sep⟩
    rcases List.mem_cons.1 hq with rfl | hq
    ·exact hs
    ·exact sp_trans hr.le (h1.1 q hq) hs
 ·intro r rest e u hu
  cases rv with
  | nil =>
   rw [stepR_nil] at e
   have:=(List.cons.inj e).1
   subst this
   exact hl u hu
  | cons r' rest' =>
   rw [stepR_cons] at e
   split at e
   ·have:=(List.cons.inj e).1
    subst this
    exact h.top r' rest' rfl u (List.mem_cons_of_mem _ hu)
   ·have:=(List.cons.inj e).1
    subst this
    exact hl u hu
theorem step_in{rv:List Rg}{t:Int×Nat×Nat}{S:List (Int×Nat×Nat)}(h:Inv rv (t::S))(ht:Good t)(W:Int)(x:Nat):(∃ r∈stepR rv t,inR W x r)↔(∃ r∈rv,inR W x r)∨inT W x t:=by
 cases rv with
 | nil =>
  rw [stepR_nil]
  constructor
  ·rintro ⟨r,hr,hx⟩
   rw [List.mem_singleton.1 hr] at hx
   exact .inr hx
  ·rintro (⟨r,hr,_⟩ | hx)
   ·cases hr
   ·exact ⟨_,List.mem_singleton.2 rfl,hx⟩
 | cons r rest =>
  have h2:=h.top r rest rfl t (List.mem_cons_self ..)
  rw [stepR_cons]
  split
  ·next hc =>
   have hle:=le_endT t
   have hiff:inR W x (r.1,r.2.1,max r.2.2 (endT t))↔inR W x r∨inT W x t:=by
    have h3:=h2.2 hc.1
    have hr:=(h.good r (List.mem_cons_self ..)).le
    have hc1:=hc.1
    unfold inR inT
    simp only
    omega
   constructor
   ·rintro ⟨q,hq,hx⟩
    rcases List.mem_cons.1 hq with rfl | hq
    ·rcases hiff.1 hx with h4 | h4
     ·exact .inl ⟨r,List.mem_cons_self ..,h4⟩
     ·exact .inr h4
    ·exact .inl ⟨q,List.mem_cons_of_mem _ hq,hx⟩
   ·rintro (⟨q,hq,hx⟩ | hx)
    ·rcases List.mem_cons.1 hq with rfl | hq
     ·exact ⟨_,List.mem_cons_self ..,hiff.2 (.inl hx)⟩
     ·exact ⟨q,List.mem_cons_of_mem _ hq,hx⟩
    ·exact ⟨_,List.mem_cons_self ..,hiff.2 (.inr hx)⟩
  ·constructor
   ·rintro ⟨q,hq,hx⟩
    rcases List.mem_cons.1 hq with rfl | hq
    ·exact .inr hx
    ·exact .inl ⟨q,hq,hx⟩
   ·rintro (⟨q,hq,hx⟩ | hx)
    ·exact ⟨q,List.mem_cons_of_mem _ hq,hx⟩
    ·exact ⟨_,List.mem_cons_self ..,hx⟩
theorem fold_inv:∀ (S:List (Int×Nat×Nat)) (rv:List Rg),(∀ t∈S,Good t)→S.Pairwise LeT→Inv rv S→Inv (S.foldl stepR rv) []∧∀ W x,(∃ r∈S.foldl stepR rv,inR W x r)↔(∃ r∈rv,inR W x r)∨∃ t∈S,inT W x t
 | [],rv,_,_,h=>⟨h,fun W x=>by simp⟩
 | t::S,rv,hg,hp,h=>by
  have ht:=hg t (List.mem_cons_self ..)
  obtain ⟨p1,p2⟩:=List.pairwise_cons.1 hp
  obtain ⟨i1,i2⟩:=fold_inv S (stepR rv t) (fun u hu=>hg u (List.mem_cons_of_mem _ hu)) p2 (step_inv h ht p1)
  refine ⟨i1,fun W x=>?_⟩
  rw [List.foldl_cons,i2,step_in h ht]
  constructor
  ·rintro ((h1 | h1) | ⟨u,hu,h1⟩)
   ·exact .inl h1
   ·exact .inr ⟨t,List.mem_cons_self ..,h1⟩
   ·exact .inr ⟨u,List.mem_cons_of_mem _ hu,h1⟩
  ·rintro (h1 | ⟨u,hu,h1⟩)
   ·exact .inl (.inl h1)
   ·rcases List.mem_cons.1 hu with rfl | hu
    ·exact .inl (.inr h1)
    ·exact .inr ⟨u,hu,h1⟩
theorem Cov.mem{w M N:Nat}{L:List (Nat×Nat)}(h:Cov w M N L):∀ p∈L,N≤p.1∧p.1+2 ^ p.2≤M+1∧p.2≤w∧2 ^ p.2 ∣ p.1:=by
 induction h with
 | last h e =>
  intro p hp
  rw [List.mem_singleton.1 hp]
  exact ⟨Nat.le_refl _,h.fit,h.le,h.dvd⟩
 | @step N k L h e t ih =>
  intro p hp
  rcases List.mem_cons.1 hp with rfl | hp
  ·exact ⟨Nat.le_refl _,h.fit,h.le,h.dvd⟩
  ·obtain ⟨a,b,c⟩:=ih p hp
   exact ⟨Nat.le_trans (Nat.le_add_right _ _) a,b,c⟩
theorem Cov.up{w M N:Nat}{L:List (Nat×Nat)}(h:Cov w M N L):L.Pairwise fun p q=>p.1<q.1:=by
 induction h with
 | last h e=>exact List.pairwise_singleton _ _
 | @step N k L h e t ih =>
  refine List.pairwise_cons.2 ⟨fun p hp=>?_,ih⟩
  have:=(t.mem p hp).1
  have h2:0<2 ^ k:=Nat.pow_pos (by omega)
  show N<p.1
  omega
theorem Cov.has{w M N:Nat}{L:List (Nat×Nat)}(h:Cov w M N L)(x:Nat):(∃ p∈L,p.1≤x∧x<p.1+2 ^ p.2)↔N≤x∧x≤M:=by
 induction h with
 | @last N k h e =>
  have:=h.fit
  constructor
  ·rintro ⟨p,hp,h1,h2⟩
   rw [List.mem_singleton.1 hp] at h1 h2
   simp only at h1 h2
   exact ⟨h1,by omega⟩
  ·rintro ⟨h1,h2⟩
   exact ⟨_,List.mem_singleton.2 rfl,h1,by show x<N+2 ^ k;omega⟩
 | @step N k L h e t ih =>
  have:=h.fit
  constructor
  ·rintro ⟨p,hp,h1,h2⟩
   rcases List.mem_cons.1 hp with rfl | hp
   ·simp only at h1 h2
    exact ⟨h1,by omega⟩
   ·obtain ⟨h3,h4⟩:=ih.1 ⟨p,hp,h1,h2⟩
    exact ⟨Nat.le_trans (Nat.le_add_right _ _) h3,h4⟩
  ·rintro ⟨h1,h2⟩
   rcases Nat.lt_or_ge x (N+2 ^ k) with h3 | h3
   ·exact ⟨_,List.mem_cons_self ..,h1,h3⟩
   ·obtain ⟨p,hp,h4⟩:=ih.2 ⟨h3,h2⟩
    exact ⟨p,List.mem_cons_of_mem _ hp,h4⟩
noncomputable def pcT(r:Rg):List (Int×Nat×Nat):=(pcs r).map fun p=>(r.1,p.1,p.2)
noncomputable def allT(rs:List Rg):List (Int×Nat×Nat):=rs.flatMap pcT
theorem covR_allT(rs:List Rg):covR rs=(allT rs).map pf:=by
 unfold covR allT
 induction rs with
 | nil=>rfl
 | cons r rs ih =>
  rw [List.flatMap_cons,List.flatMap_cons,List.map_append,ih]
  congr 1
  unfold toP pcT
  rw [List.map_map];rfl
theorem pcT_good{r:Rg}(h:GoodR r):∀ t∈pcT r,Good t∧t.1=r.1∧r.2.1≤t.2.1∧t.2.1≤r.2.2:=by
 intro t ht
 obtain ⟨p,hp,rfl⟩:=List.mem_map.1 ht
 obtain ⟨a,b,c,d⟩:=(pcs_cov h).1.mem p hp
 have h2:0<2 ^ p.2:=Nat.pow_pos (by omega)
 have h3:=h.lt
 exact ⟨⟨h.fam,by show p.1<2 ^ wd r.1;omega,c,d⟩,rfl,a,by show p.1≤_;omega⟩
theorem allT_good{rs:List Rg}(h:∀ r∈rs,GoodR r):∀ t∈allT rs,Good t:=by
 intro t ht
 obtain ⟨r,hr,ht⟩:=List.mem_flatMap.1 ht
 exact (pcT_good (h r hr) t ht).1
theorem allT_up:∀ {rs:List Rg},(∀ r∈rs,GoodR r)→rs.Pairwise sp→Up lessP ((allT rs).map pf):=by
 intro rs hg hs
 refine List.pairwise_map.2 ?_
 have key:(allT rs).Pairwise fun t u=>t.1<u.1∨(t.1=u.1∧t.2.1<u.2.1):=by
  unfold allT
  induction rs with
  | nil=>exact List.Pairwise.nil
  | cons r rs ih =>
   obtain ⟨s1,s2⟩:=List.pairwise_cons.1 hs
   rw [List.flatMap_cons]
   refine List.pairwise_append.2 ⟨?_,ih (fun x hx=>hg x (List.mem_cons_of_mem _ hx)) s2,fun t ht u hu=>?_⟩
   ·unfold pcT
    refine List.pairwise_map.2 ?_
    exact (pcs_cov (hg r (List.mem_cons_self ..))).1.up.imp fun h=>.inr ⟨rfl,h⟩
   ·obtain ⟨q,hq,hu⟩:=List.mem_flatMap.1 hu
    obtain ⟨_,a1,a2,a3⟩:=pcT_good (hg r (List.mem_cons_self ..)) t ht
    obtain ⟨_,b1,b2,b3⟩:=pcT_good (hg q (List.mem_cons_of_mem _ hq)) u hu
    have:=s1 q hq
    unfold sp at this
    omega
 have hgT:=allT_good hg
 exact List.Pairwise.imp_of_mem (fun {t u} ha hb hab=>by
  unfold pf
  rw [lessP_prf (hgT u hb).lt (hgT t ha).lt,if_neg (by omega)]
  unfold ltA
  split
  ·exact decide_eq_false (by omega)
  ·exact decide_eq_false (by omega)) key
theorem fold_cov{V:Int}{M N:Nat}{L:List (Nat×Nat)}(h:Cov (wd V) M N L):∀ (N0 e:Nat) (rv:List Rg),e+1=N→(L.map fun p=>(V,p.1,p.2)).foldl stepR ((V,N0,e)::rv)=(V,N0,M)::rv:=by
 induction h with
 | @last N k h he =>
  intro N0 e rv hN
  have:=h.fit
  have h2:0<2 ^ k:=Nat.pow_pos (by omega)
  show stepR ((V,N0,e)::rv) (V,N,k)=_
  rw [stepR_cons,if_pos ⟨rfl,by show N≤e+1;omega⟩]
  unfold endT
  simp only
  rw [show max e (N+2 ^ k-1)=M by omega]
 | @step N k L h he t ih =>
  intro N0 e rv hN
  have h2:0<2 ^ k:=Nat.pow_pos (by omega)
  rw [List.map_cons,List.foldl_cons,stepR_cons,if_pos ⟨rfl,by show N≤e+1;omega⟩]
  unfold endT
  simp only
  rw [show max e (N+2 ^ k-1)=N+2 ^ k-1 by omega]
  exact ih N0 _ rv (by omega)
theorem fold_pcT{r:Rg}(h:GoodR r)(rv:List Rg)(hs:∀ q rest,rv=q::rest→sp q r):(pcT r).foldl stepR rv=r::rv:=by
 obtain ⟨V,N,M⟩:=r
 have hc:=(pcs_cov h).1
 unfold pcT
 simp only at hc ⊢
 have hstep:∀ k,stepR rv (V,N,k)=(V,N,N+2 ^ k-1)::rv:=by
  intro k
  cases rv with
  | nil=>rfl
  | cons q rest =>
   rw [stepR_cons,if_neg]
   ·rfl
   ·have:=hs q rest rfl
    unfold sp at this
    simp only at this ⊢
    omega
 cases hL:pcs (V,N,M) with
 | nil=>rw [hL] at hc;cases hc
 | cons p L =>
  rw [hL] at hc
  cases hc with
  | @last _ k h he =>
   have h3:N+2 ^ k≤M+1:=h.fit
   have h4:M<N+2 ^ k:=he
   have h5:N+2 ^ k-1=M:=by omega
   have h6:=hstep k
   rw [h5] at h6
   exact h6
  | @step _ k _ h he t =>
   have h2:0<2 ^ k:=Nat.pow_pos (by omega)
   have h6:=fold_cov t N (N+2 ^ k-1) rv (by omega)
   have h7:=hstep k
   rw [←h7] at h6
   exact h6
theorem fold_allT:∀ (rs:List Rg) (rv:List Rg),(∀ r∈rs,GoodR r)→rs.Pairwise sp→(∀ q rest,rv=q::rest→∀ r∈rs,sp q r)→(allT rs).foldl stepR rv=rs.reverse++rv
 | [],rv,_,_,_=>rfl
 | r::rs,rv,hg,hs,ht=>by
  obtain ⟨s1,s2⟩:=List.pairwise_cons.1 hs
  have e:allT (r::rs)=pcT r++allT rs:=by unfold allT;rw [List.flatMap_cons]
  rw [e,List.foldl_append,fold_pcT (hg r (List.mem_cons_self ..)) rv (fun q rest h=>ht q rest h r (List.mem_cons_self ..)),fold_allT rs (r::rv) (fun x hx=>hg x (List.mem_cons_of_mem _ hx)) s2 (fun q rest h x hx=>by
   have:=(List.cons.inj h).1
   subst this
   exact s1 x hx)]
  simp
def rsOf(S:List (Int×Nat×Nat)):List Rg:=(S.foldl stepR []).reverse
theorem Res.inv{xs:List S_api_Prefix}{S:List (Int×Nat×Nat)}(h:Res xs S):(∀ r∈rsOf S,GoodR r)∧(rsOf S).Pairwise sp∧(rsOf S).length≤xs.length∧∀ W x,(∃ r∈rsOf S,inR W x r)↔∃ t∈S,inT W x t:=by
 obtain ⟨h1,h2⟩:=fold_inv S [] h.good (up_leT h.good h.up) ⟨fun r hr=>(by cases hr),List.Pairwise.nil,fun r rest e=>(by cases e)⟩
 have h3:=(fold_good S [] h.good fun r hr=>(by cases hr)).2
 have h4:=h.len
 unfold rsOf
 refine ⟨fun r hr=>h1.good r (List.mem_reverse.1 hr),List.pairwise_reverse.2 h1.sep,by rw [List.length_reverse];simp at h3;omega,fun W x=>?_⟩
 have:=h2 W x
 simp only [List.mem_reverse]
 rw [this]
 simp
theorem lessP_anti{t u:Int×Nat×Nat}(ht:Good t)(hu:Good u)(h1:lessP (pf t) (pf u)=false)(h2:lessP (pf u) (pf t)=false):t=u:=by
 have a:=leT_of ht hu h2
 have b:=leT_of hu ht h1
 unfold LeT at a b
 obtain ⟨V,N,k⟩:=t
 obtain ⟨W,M,j⟩:=u
 simp only at a b
 have e1:V=W:=by omega
 subst e1
 have e2:N=M:=by omega
 subst e2
 unfold pf at h1 h2
 rw [lessP_prf ht.lt hu.lt,if_pos ⟨rfl,rfl⟩] at h1
 rw [lessP_prf hu.lt ht.lt,if_pos ⟨rfl,rfl⟩] at h2
 have h3:=of_decide_eq_false h1
 have h4:=of_decide_eq_false h2
 have h5:k≤wd V:=ht.le
 have h6:j≤wd V:=hu.le
 simp only at h3 h4
 have:k=j:=by omega
 rw [this]
theorem map_pf_inj:∀ {A B:List (Int×Nat×Nat)},(∀ t∈A,Good t)→(∀ t∈B,Good t)→A.map pf=B.map pf→A=B
 | [],[],_,_,_=>rfl
 | [],_::_,_,_,h=>by cases h
 | _::_,[],_,_,h=>by cases h
 | a::A,b::B,ha,hb,h=>by
  obtain ⟨h1,h2⟩:=List.cons.inj h
  rw [pf_inj (ha a (List.mem_cons_self ..)) (hb b (List.mem_cons_self ..)) h1,map_pf_inj (fun t ht=>ha t (List.mem_cons_of_mem _ ht)) (fun t ht=>hb t (List.mem_cons_of_mem _ ht)) h2]
theorem cover_again{rs:List Rg}(hg:∀ r∈rs,GoodR r)(hs:rs.Pairwise sp)(hn:(covR rs).length≤10000):aggregate_Cover (covR rs)=some (covR rs):=by
 have hok:∀ x∈covR rs,ok_api_Prefix x∧crawlwayref11_Right x=some true:=fun x hx=>by
  rw [covR_allT] at hx
  obtain ⟨t,ht,rfl⟩:=List.mem_map.1 hx
  have:=allT_good hg t ht
  exact ⟨ok_pf this,(prf_right this.fam this.le this.dvd).2⟩
 obtain ⟨S,h⟩:=res_of (covR rs) (fun x hx=>(hok x hx).1) hn
 have hp:=h.perm fun x hx=>(hok x hx).2
 have hu:=allT_up hg hs
 have hgT:=allT_good hg
 rw [covR_allT] at hp
 have he:S.map pf=(allT rs).map pf:=up_unique hp h.up hu fun x hx y hy h1 h2=>by
  obtain ⟨t,ht,rfl⟩:=List.mem_map.1 hx
  obtain ⟨u,hu,rfl⟩:=List.mem_map.1 hy
  rw [lessP_anti (h.good t ht) (h.good u hu) h1 h2]
 have hS:=map_pf_inj h.good hgT he
 have hc:=h.cs
 rw [hS,fold_allT rs [] hg hs (fun q rest e=>by cases e),List.append_nil,List.reverse_reverse] at hc
 exact hc
theorem has_pf{t:Int×Nat×Nat}(h:Good t){W:Int}(hW:fam W)(x:Nat)(hx:x<2 ^ wd W):crawlwayref11_Has (pf t) (adr W x)=some (decide (W=t.1∧t.2.1≤x∧x≤endT t)):=by
 obtain ⟨V,N,k⟩:=t
 have hr:=(prf_right h.fam h.le h.dvd).2
 unfold pf prf adr at hr ⊢
 rw [cright_ref (bt_len _ _)] at hr
 rw [has_ref (bt_len _ _) (bt_len _ _)]
 unfold hasP
 rw [Option.some.inj hr,bt_right hW,Bool.true_and,Bool.true_and]
 simp only
 congr 1
 by_cases e:W=V
 ·subst e
  have hk:k≤wd W:=h.le
  have hN:N<2 ^ wd W:=h.lt
  have hd:2 ^ k ∣ N:=h.dvd
  have hp:0<2 ^ k:=Nat.pow_pos (by omega)
  rw [mfull_bt (by omega),show wd W-(wd W-k)=k by omega,decide_eq_true rfl,Bool.true_and,decide_eq_decide]
  have hlt:x/2 ^ k*2 ^ k<2 ^ wd W:=Nat.lt_of_le_of_lt (Nat.div_mul_le_self _ _) hx
  have hdm:=Nat.div_add_mod x (2 ^ k)
  have hm:=Nat.mod_lt x hp
  rw [Nat.mul_comm] at hdm
  unfold endT
  simp only
  constructor
  ·intro e
   have e2:=bt_inj hlt hN e
   exact ⟨trivial,by omega,by omega⟩
  ·rintro ⟨_,h1,h2⟩
   obtain ⟨m,rfl⟩:=hd
   have:x/2 ^ k=m:=by
    apply Nat.div_eq_of_lt_le
    ·rw [Nat.mul_comm];exact h1
    ·rw [Nat.add_mul,Nat.one_mul,Nat.mul_comm];omega
   rw [this,Nat.mul_comm]
 ·rw [decide_eq_false e,Bool.false_and]
  exact (decide_eq_false fun h=>e h.1).symm
theorem has_wrong2{x:S_api_Prefix}(hx:ok_api_Prefix x){W:Int}{k:List UInt8}(hk:k.length=16)(h:rightL W k=false):crawlwayref11_Has x (mkA W k)=some false:=by
 obtain ⟨V,l,b,rfl,hl,_⟩:=exists_mkP x hx
 rw [has_ref hl hk]
 unfold hasP
 rw [h,Bool.false_and,Bool.and_false]
end Go.Proofs.Ytahlbjmafceoeaa.Agg
