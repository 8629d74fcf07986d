/- Texts of this claim, those in one that belong together; printed by a program of this project. -/
import Derived.Test.YtahlbjmafceoeaaProg
import Derived.Test.YtahlbjmafceoeaaKAggregateRanges1
set_option linter.unusedVariables false
set_option linter.unusedSimpArgs false
namespace Go.Proofs.Ytahlbjmafceoeaa
open E Go.RowKit _root_.Go.Proofs.Try
theorem infoA426_is:(Try.prog.info? 26).isSome=true:=by kernel_rfl
noncomputable def infoA426_v:TypeInfo:=(Try.prog.info? 26).get infoA426_is
theorem infoA426:Try.prog.info? 26=some infoA426_v:=(Option.some_get _).symm
theorem infoA437_is:(Try.prog.info? 37).isSome=true:=by kernel_rfl
noncomputable def infoA437_v:TypeInfo:=(Try.prog.info? 37).get infoA437_is
theorem infoA437:Try.prog.info? 37=some infoA437_v:=(Option.some_get _).symm
def aggregate_Ranges.l0(t7:List S_api_Prefix)(i11:List S_aggregate_Range)(i12:Int):Option (List S_aggregate_Range) :=
 if (decide (i12<(t7.length:Int)))=true then (if (0:Int)≤i12∧i12<(t7.length:Int) then if ((i11.length:Int)==0)=true then (aggregate_last (lget t7 i12)>>=fun t25=>if (i11.length+1)*48≤140737488355328 then aggregate_Ranges.l0 t7 (i11++[{ { ({ f_From:=({ f_V:=(0:Int),f_B:=(Vector.replicate 16 (0:Int):(Vector Int 16)) }:S_api_Addr),f_To:=({ f_V:=(0:Int),f_B:=(Vector.replicate 16 (0:Int):(Vector Int 16)) }:S_api_Addr) }:S_aggregate_Range) with f_From:=(lget t7 i12).f_A } with f_To:=t25 }]) (wr .i64 (i12+1)) else none) else (if (0:Int)≤wr .i64 ((i11.length:Int)-1)∧wr .i64 ((i11.length:Int)-1)<(i11.length:Int) then aggregate_joins (lget i11 (wr .i64 ((i11.length:Int)-1))) (lget t7 i12)>>=fun t35=>if (!t35)=true then (aggregate_last (lget t7 i12)>>=fun t38=>if (i11.length+1)*48≤140737488355328 then aggregate_Ranges.l0 t7 (i11++[{ { ({ f_From:=({ f_V:=(0:Int),f_B:=(Vector.replicate 16 (0:Int):(Vector Int 16)) }:S_api_Addr),f_To:=({ f_V:=(0:Int),f_B:=(Vector.replicate 16 (0:Int):(Vector Int 16)) }:S_api_Addr) }:S_aggregate_Range) with f_From:=(lget t7 i12).f_A } with f_To:=t38 }]) (wr .i64 (i12+1)) else none) else (aggregate_last (lget t7 i12)>>=fun t44=>if (0:Int)≤wr .i64 ((i11.length:Int)-1)∧wr .i64 ((i11.length:Int)-1)<(i11.length:Int) then addr_Less ((lget i11 (wr .i64 ((i11.length:Int)-1))).f_To) t44>>=fun t50=>if t50=true then (if (0:Int)≤wr .i64 ((i11.length:Int)-1)∧wr .i64 ((i11.length:Int)-1)<(i11.length:Int) then aggregate_Ranges.l0 t7 (lset i11 (wr .i64 ((i11.length:Int)-1)) ({ (lget i11 (wr .i64 ((i11.length:Int)-1))) with f_To:=t44 })) (wr .i64 (i12+1)) else none) else (aggregate_Ranges.l0 t7 i11 (wr .i64 (i12+1))) else none) else none) else none) else (some i11)
 partial_fixpoint
def aggregate_Ranges(x0:List S_api_Prefix):Option (List S_aggregate_Range) :=
 slices_Clone_api_Prefix x0>>=fun t1=>slices_DeleteFunc_api_Prefix__aggregate_Ranges_1 t1>>=fun t4=>sort_Prefix t4>>=fun t7=>aggregate_Ranges.l0 t7 ([]:List S_aggregate_Range) 0>>=fun q10=>some q10
set_option maxHeartbeats 3200000 in
theorem aggregate_Ranges_ok(x0:List S_api_Prefix)(p0_:Option Addr)(c0_:Nat)(r:List S_aggregate_Range)(hF:aggregate_Ranges x0=some r)(w:World)(hr0:Row c_api_Prefix w p0_ c0_ x0) :
    Calls Try.prog 19 #[.slice p0_ x0.length c0_] w (fun e w'=>∃ p cap,e=.returned (.slice p r.length cap)∧Own c_aggregate_Range 26 w.heap.size w' p cap r∧Below w.heap.size w w'):=by
 unfold aggregate_Ranges at hF
 refine ce (l:=[.slice p0_ x0.length c0_]) func19 rfl rfl ?_
 refine at_start ?_
 refine sr (aa (nwx [0] ?_))
 refine am ?_
 obtain ⟨t1,ht1,hF⟩:=bM hF
 refine at_callO (c:=c_api_Prefix) (e:=37) (ys:=t1) (V:=fun p cap=>.slice p t1.length cap) func45 rfl (by kernel_rfl) rfl rfl (fun w hw=>slices_Clone_api_Prefix_ok _ _ _ _ ht1 w (hr0.below hw.below)) ?_
 intro p2 c3
 obtain ⟨t4,ht4,hF⟩:=bM hF
 refine at_callG (V:=fun p cap=>.slice p t4.length cap) (T:=fun p cap=>[rowE c_api_Prefix 37 p cap t4]) func44 rfl (by kernel_rfl) rfl rfl (fun w hw=>slices_DeleteFunc_api_Prefix__aggregate_Ranges_1_ok ht4 hw) ?_
 intro p5 c6
 refine aa (nwx [3] ?_)
 refine am ?_
 obtain ⟨t7,ht7,hF⟩:=bM hF
 refine at_callN (v:=.tuple #[]) (T:=[rowE c_api_Prefix 37 p5 c6 t7]) func48 rfl (by kernel_rfl) rfl rfl (fun w hw=>sort_Prefix_ok ht7 .z hw) ?_
 refine at_ov (t:=3) rfl (show Value.slice p5 (List.length t4) c6=.slice p5 (List.length t7) c6 from congrArg (fun n_=>Value.slice p5 n_ c6) ((sort_Prefix_len ht7).symm)) ?_
 refine at_ov (t:=12) rfl (show Value.slice p5 (List.length t4) c6=.slice p5 (List.length t7) c6 from congrArg (fun n_=>Value.slice p5 n_ c6) ((sort_Prefix_len ht7).symm)) ?_
 refine ns (aa (nt (qs (sr (am ?_)))))
 refine aw (r_len_sl underlying27 rfl) ?_
 refine am (nwq [16,15,14,4] ?_)
 refine qb ?_
 refine at_own_nil c_aggregate_Range 26 ?_
 obtain ⟨q10,hq10,hF⟩:=bM hF
 refine wq [16,15,14,4] ?_
 refine at_loop_n (B:=0) (A:=fun Y=>∀ (p15:Option Addr) (c16:Nat),At 60 [(4,.slice p15 q10.length c16)] (Wd w [rowE c_aggregate_Range 26 p15 c16 q10]) Y) ?_ ?_
 ·intro K
  refine aggregate_Ranges.l0.partial_correctness t7 (motive:=fun i11 i12 x=>KN (fun Y=>∀ (p15:Option Addr) (c16:Nat),At 60 [(4,.slice p15 x.length c16)] (Wd w [rowE c_aggregate_Range 26 p15 c16 x]) Y) _ 0→Round (fun Y=>∀ (p13:Option Addr) (c14:Nat),At 60 [(4,.slice p13 i11.length c14),(14,.slice p5 t7.length c6),(15,.int .i64 (t7.length:Int)),(16,.int .i64 i12)] (Wd w [rowE c_aggregate_Range 26 p13 c14 i11,rowE c_api_Prefix 37 p5 c6 t7]) Y) _ _ _) ?_ _ _ _ hq10 K none 0
  ·clear K hF
   intro g ih i11 i12 x hF K p13 c14
   refine at_round ?_
   refine sr (aw xl (nwq [17,16,15,14,4] ?_))
   refine qs ?_
   obtain ⟨h17,hF⟩|⟨h17,hF⟩:=oi hF
   ·refine ct h17 ?_
    refine sn (qs ?_)
    refine qb ?_
    refine sr ?_
    obtain ⟨h18,hF⟩:=gd hF
    refine at_pure (φ:=∃ b o,p5=some ⟨b,o,none⟩) (fun _ hw=>row_ptr (hw.own (.s .z)).row h18) ?_
    rintro ⟨b20,o21,hp19⟩
    refine aw (r_idx underlying27 sizeOf37 rfl rfl h18 hp19) ?_
    refine aw (r_load_aggc (c:=c_api_Prefix) (z:=lget t7 i12) isAgg37 sizeOf37 rfl (fun w1 hw=>row_cell (W:=fun w1=>w1=_) (fun w1 h=>by subst h;exact Below.refl _ _) (hw.own (.s .z)).row h18 hp19 _ rfl)) ?_
    refine al (cs:=Cd.cs c_api_Prefix zv2) zeroValue37 ?_
    intro b22
    refine at_store (c:=c_api_Prefix) (z:=lget t7 i12) .z lw sizeOf37 rfl rfl rfl ?_
    refine ns (am ?_)
    refine aw (r_len_sl underlying43 rfl) ?_
    refine aa (nt (qs (qs (wq [16,15,14,7,6,4] ?_))))
    obtain ⟨h23,hF⟩|⟨h23,hF⟩:=oi hF
    ·skip
     refine at_inv [.q 22 (fun g24=>.int .i64 (i11.length:Int)) [] 0 0,.q 23 (fun g24=>.bool ((i11.length:Int)==0)) [0] 0 0,.q 24 (fun g24=>.bool true) [1] 0 0,.q 25 (fun g24=>undef) [2] 0 0,.q 26 (fun g24=>undef) [2] 0 0,.q 27 (fun g24=>undef) [2,4] 0 0,.q 28 (fun g24=>undef) [2,3,5] 0 0,.q 29 (fun g24=>undef) [2,6] 0 0,.q 30 (fun g24=>undef) [2] 0 0,.q 31 (fun g24=>undef) [2,7,8] 0 0,.q 32 (fun g24=>undef) [2,9] 0 0,.q 33 (fun g24=>.bool true) [2,10] 0 0] (fun g24 s=>match s with | _=>(Wd w [cellsE b22 (Cd.cs c_api_Prefix (lget t7 i12)) 37,rowE c_aggregate_Range 26 p13 c14 i11,rowE c_api_Prefix 37 p5 c6 t7])) 0 (by kernel_rfl) (by kernel_rfl) (by kernel_rfl) (by kernel_rfl) (by kernel_rfl) ⟨fun _ _ _=>rfl,fun _ _ _=>rfl,fun _ _ _=>rfl,fun _ _ _=>rfl,fun _ _ _=>rfl,fun _ _ _=>rfl,fun _ _ _=>rfl,fun _ _ _=>rfl,fun _ _ _=>rfl,fun _ _ _=>rfl,fun _ _ _=>rfl,fun _ _ _=>rfl,trivial⟩ (by kernel_rfl) (fun w_ h=>⟨fun _=>g3 0 none 0 none w_,h.drew⟩) ⟨?_,?_,?_,?_,?_,?_,?_,?_,?_,?_,?_,?_,trivial⟩ ?_
     ·intro Lx g24 s K hl hh k
      show At 60 ((4,_)::(6,_)::(7,_)::(14,_)::(15,_)::(16,_)::Lx) _ _
      refine am ?_
      exact at_nil k
     ·intro Lx g24 s K hl hh k
      show At 60 ((22,_)::(4,_)::(6,_)::(7,_)::(14,_)::(15,_)::(16,_)::Lx) _ _
      refine aw xq ?_
      exact at_nil k
     ·intro Lx g24 s K hl hh k
      show At 60 ((23,_)::(4,_)::(6,_)::(7,_)::(14,_)::(15,_)::(16,_)::Lx) _ _
      refine am ?_
      exact at_nil (at_cast h23 k)
     ·intro Lx g24 s K hl hh k
      show At 60 ((24,_)::(4,_)::(6,_)::(7,_)::(14,_)::(15,_)::(16,_)::Lx) _ _
      refine gn ?_
      exact at_nil k
     ·intro Lx g24 s K hl hh k
      show At 60 ((24,_)::(4,_)::(6,_)::(7,_)::(14,_)::(15,_)::(16,_)::Lx) _ _
      refine gn ?_
      exact at_nil k
     ·intro Lx g24 s K hl hh k
      show At 60 ((24,_)::(26,_)::(4,_)::(6,_)::(7,_)::(14,_)::(15,_)::(16,_)::Lx) _ _
      refine gn ?_
      exact at_nil k
     ·intro Lx g24 s K hl hh k
      show At 60 ((24,_)::(25,_)::(27,_)::(4,_)::(6,_)::(7,_)::(14,_)::(15,_)::(16,_)::Lx) _ _
      refine gn ?_
      exact at_nil k
     ·intro Lx g24 s K hl hh k
      show At 60 ((24,_)::(28,_)::(4,_)::(6,_)::(7,_)::(14,_)::(15,_)::(16,_)::Lx) _ _
      obtain rfl:s=0:=by omega
      refine gn ?_
      exact at_nil k
     ·intro Lx g24 s K hl hh k
      show At 60 ((24,_)::(4,_)::(6,_)::(7,_)::(14,_)::(15,_)::(16,_)::Lx) _ _
      obtain rfl:s=0:=by omega
      refine gn ?_
      exact at_nil k
     ·intro Lx g24 s K hl hh k
      show At 60 ((24,_)::(29,_)::(30,_)::(4,_)::(6,_)::(7,_)::(14,_)::(15,_)::(16,_)::Lx) _ _
      obtain rfl:s=0:=by omega
      refine gn ?_
      exact at_nil k
     ·intro Lx g24 s K hl hh k
      show At 60 ((24,_)::(31,_)::(4,_)::(6,_)::(7,_)::(14,_)::(15,_)::(16,_)::Lx) _ _
      refine gn ?_
      exact at_nil k
     ·intro Lx g24 s K hl hh k
      show At 60 ((24,_)::(32,_)::(4,_)::(6,_)::(7,_)::(14,_)::(15,_)::(16,_)::Lx) _ _
      refine aw xp ?_
      exact at_nil k
     intro g24
     show At 60 [(22,_),(23,_),(24,_),(25,_),(26,_),(27,_),(28,_),(29,_),(30,_),(31,_),(32,_),(33,_),(4,_),(6,_),(7,_),(14,_),(15,_),(16,_)] _ _
     refine wq [33,16,15,14,7,6,4] ?_
     refine tn ?_
     refine ct rfl ?_
     refine qs (wq [16,15,14,6,4] ?_)
     obtain ⟨t25,ht25,hF⟩:=bM hF
     refine at_invT [.q 34 (fun g27=>.slice p13 i11.length c14) [] 0 1,.q 35 (fun g27=>.pointer (some ⟨b22,0+0,none⟩)) [] 0 0,.q 36 (fun g27=>.agg (Cd.cs c_api_Addr ((lget t7 i12).f_A)).toArray) [1] 0 0,.q 37 (fun g27=>.agg (Cd.cs c_api_Prefix (lget t7 i12)).toArray) [] 0 0,.q 38 (fun g27=>.agg (Cd.cs c_api_Addr t25).toArray) [3] 0 0,.q 39 (fun g27=>.agg (Cd.cs c_aggregate_Range ({ { zv3 with f_From:=(lget t7 i12).f_A } with f_To:=t25 })).toArray) [2,4] 0 0,.al 0 40 (fun g27=>.slice (some ⟨((g27 0).1),0,none⟩) ([{ { zv3 with f_From:=(lget t7 i12).f_A } with f_To:=t25 }]:List S_aggregate_Range).length 1) [5]] (fun g27 s=>match s with | 0=>(Wd w [cellsE b22 (Cd.cs c_api_Prefix (lget t7 i12)) 37,rowE c_aggregate_Range 26 p13 c14 i11,rowE c_api_Prefix 37 p5 c6 t7]) | _=>(Wd w [cellsE ((g27 0).1) (c_aggregate_Range.all ([{ { zv3 with f_From:=(lget t7 i12).f_A } with f_To:=t25 }]:List S_aggregate_Range)) 26,cellsE b22 (Cd.cs c_api_Prefix (lget t7 i12)) 37,rowE c_aggregate_Range 26 p13 c14 i11,rowE c_api_Prefix 37 p5 c6 t7])) 1 7 (by kernel_rfl) (by kernel_rfl) (by kernel_rfl) (by kernel_rfl) (by kernel_rfl) (by kernel_rfl) ⟨fun _ _ _=>rfl,fun _ _ _=>rfl,fun _ _ _=>rfl,fun _ _ _=>rfl,fun _ _ _=>rfl,fun _ _ _=>rfl,fun g27 g2 h=>by show (.slice (some ⟨((g27 0).1),0,none⟩) ([{ { zv3 with f_From:=(lget t7 i12).f_A } with f_To:=t25 }]:List S_aggregate_Range).length 1:Value)=.slice (some ⟨((g2 0).1),0,none⟩) ([{ { zv3 with f_From:=(lget t7 i12).f_A } with f_To:=t25 }]:List S_aggregate_Range).length 1;rw [h 0 (show 0<1 by decide)],trivial⟩ (by kernel_rfl) (fun w_ h=>⟨fun _=>g3 0 none 0 none w_,h.drew⟩) ⟨?_,?_,?_,?_,?_,?_,?_,trivial⟩ ?_
     ·intro Lx g27 s K hl hh k
      show At 60 ((4,_)::(6,_)::(14,_)::(15,_)::(16,_)::Lx) _ _
      refine am ?_
      exact at_nil k
     ·intro Lx g27 s K hl hh k
      show At 60 ((4,_)::(6,_)::(14,_)::(15,_)::(16,_)::Lx) _ _
      refine fa 0 underlying37 rfl sizeOf24 ?_
      exact at_nil k
     ·intro Lx g27 s K hl hh k
      show At 60 ((35,_)::(4,_)::(6,_)::(14,_)::(15,_)::(16,_)::Lx) _ _
      obtain rfl:s=0:=by omega
      refine aw (r_load_aggc (c:=c_api_Addr) (z:=(lget t7 i12).f_A) isAgg24 sizeOf24 rfl (lens_cell .z (Lens.comp lw (fun z=>{ lget t7 i12 with f_A:=z }) (c_api_Prefix_f_A (lget t7 i12))))) ?_
      exact at_nil k
     ·intro Lx g27 s K hl hh k
      show At 60 ((4,_)::(6,_)::(14,_)::(15,_)::(16,_)::Lx) _ _
      obtain rfl:s=0:=by omega
      refine aw (r_load_aggc (c:=c_api_Prefix) (z:=lget t7 i12) isAgg37 sizeOf37 rfl (lens_cell .z lw)) ?_
      exact at_nil k
     ·intro Lx g27 s K hl hh k
      show At 60 ((37,_)::(4,_)::(6,_)::(14,_)::(15,_)::(16,_)::Lx) _ _
      obtain rfl:s=0:=by omega
      refine cB func38 rfl (fun w hw=>aggregate_last_ok _ _ ht25 w) ?_
      exact at_nil k
     ·intro Lx g27 s K hl hh k
      show At 60 ((36,_)::(38,_)::(4,_)::(6,_)::(14,_)::(15,_)::(16,_)::Lx) _ _
      obtain rfl:s=0:=by omega
      refine aw (r_build_struct (zs:=Cd.cs c_aggregate_Range zv3) (cs:=Cd.cs c_aggregate_Range ({ { zv3 with f_From:=(lget t7 i12).f_A } with f_To:=t25 })) underlying26 zeroValue26 rfl (places_aggregate_Range_26) rfl (fill_step (c:=c_api_Addr) (z:=(lget t7 i12).f_A) rfl (c_aggregate_Range_f_From zv3) rfl (fill_step (c:=c_api_Addr) (z:=t25) rfl (c_aggregate_Range_f_To ({ zv3 with f_From:=(lget t7 i12).f_A })) rfl rfl))) ?_
      exact at_nil k
     ·intro Lx g27 K k
      show At 60 ((39,_)::(4,_)::(6,_)::(14,_)::(15,_)::(16,_)::Lx) _ _
      refine at_litL (c:=c_aggregate_Range) ([zv3]:List S_aggregate_Range) ([{ { zv3 with f_From:=(lget t7 i12).f_A } with f_To:=t25 }]:List S_aggregate_Range) underlying43 sizeOf26 zeroValue26 rfl rfl rfl (by kernel_rfl) (fill_step (c:=c_aggregate_Range) (z:={ { zv3 with f_From:=(lget t7 i12).f_A } with f_To:=t25 }) rfl (Lens.all c_aggregate_Range ([zv3]:List S_aggregate_Range) 0 (by first | decide | exact Nat.le_of_ble_eq_true rfl)) rfl rfl) rfl ?_
      intro b26
      exact at_nil (k (g3 b26 none 0 none w))
     intro g27
     show At 60 [(34,_),(35,_),(36,_),(37,_),(38,_),(39,_),(40,_),(4,_),(6,_),(14,_),(15,_),(16,_)] _ _
     obtain ⟨h28,hF⟩:=gd hF
     refine at_append (z:=.agg (Cd.cs c_aggregate_Range zv3).toArray) (c:=c_aggregate_Range) (ys:=([{ { zv3 with f_From:=(lget t7 i12).f_A } with f_To:=t25 }]:List S_aggregate_Range)) (.s (.s .z)) underlying43 infoA426 (by kernel_rfl) (by kernel_rfl) rfl rfl rfl rfl (fun _ hw=>cells_src (hw.ok (Upd.mem .z))) (by kernel_rfl) h28 (app_small h28) rfl ?_
     intro p29 c30
     refine aa (qn (dz (dz (wq [16,15,14,4] ?_))))
     refine tn ?_
     refine at_exit ?_
     refine te (at_blk_same (tn ?_))
     refine qr (aw xa (am (nwq [16,15,14,4] ?_)))
     exact at_weak_k (ih _ _ _ hF K p29 c30) ⟨rfl,rfl,rfl,rfl,trivial⟩
    skip
    obtain ⟨h31,hF⟩:=gd hF
    refine at_pure (φ:=∃ b o,p13=some ⟨b,o,none⟩) (fun _ hw=>row_ptr (hw.own (.s .z)).row h31) ?_
    rintro ⟨b33,o34,hp32⟩
    obtain ⟨t35,ht35,hF⟩:=bM hF
    refine at_inv [.q 22 (fun g36=>.int .i64 (i11.length:Int)) [] 0 0,.q 23 (fun g36=>.bool ((i11.length:Int)==0)) [0] 0 0,.q 24 (fun g36=>.bool false) [1] 0 0,.q 25 (fun g36=>.slice p13 i11.length c14) [2] 0 0,.q 26 (fun g36=>.int .i64 (i11.length:Int)) [2] 0 0,.q 27 (fun g36=>.int .i64 (wr .i64 ((i11.length:Int)-1))) [2,4] 0 0,.q 28 (fun g36=>.pointer (some ⟨b33,o34+Int.toNat (wr .i64 ((i11.length:Int)-1))*34,none⟩)) [2,3,5] 0 0,.q 29 (fun g36=>.agg (Cd.cs c_aggregate_Range (lget i11 (wr .i64 ((i11.length:Int)-1)))).toArray) [2,6] 0 0,.q 30 (fun g36=>.agg (Cd.cs c_api_Prefix (lget t7 i12)).toArray) [2] 0 0,.q 31 (fun g36=>.bool t35) [2,7,8] 0 0,.q 32 (fun g36=>.bool (!t35)) [2,9] 0 0,.q 33 (fun g36=>.bool (!t35)) [2,10] 0 0] (fun g36 s=>match s with | _=>(Wd w [cellsE b22 (Cd.cs c_api_Prefix (lget t7 i12)) 37,rowE c_aggregate_Range 26 p13 c14 i11,rowE c_api_Prefix 37 p5 c6 t7])) 0 (by kernel_rfl) (by kernel_rfl) (by kernel_rfl) (by kernel_rfl) (by kernel_rfl) ⟨fun _ _ _=>rfl,fun _ _ _=>rfl,fun _ _ _=>rfl,fun _ _ _=>rfl,fun _ _ _=>rfl,fun _ _ _=>rfl,fun _ _ _=>rfl,fun _ _ _=>rfl,fun _ _ _=>rfl,fun _ _ _=>rfl,fun _ _ _=>rfl,fun _ _ _=>rfl,trivial⟩ (by kernel_rfl) (fun w_ h=>⟨fun _=>g3 0 none 0 none w_,h.drew⟩) ⟨?_,?_,?_,?_,?_,?_,?_,?_,?_,?_,?_,?_,trivial⟩ ?_
    ·intro Lx g36 s K hl hh k
     show At 60 ((4,_)::(6,_)::(7,_)::(14,_)::(15,_)::(16,_)::Lx) _ _
     refine am ?_
     exact at_nil k
    ·intro Lx g36 s K hl hh k
     show At 60 ((22,_)::(4,_)::(6,_)::(7,_)::(14,_)::(15,_)::(16,_)::Lx) _ _
     refine aw xq ?_
     exact at_nil k
    ·intro Lx g36 s K hl hh k
     show At 60 ((23,_)::(4,_)::(6,_)::(7,_)::(14,_)::(15,_)::(16,_)::Lx) _ _
     refine am ?_
     exact at_nil (at_cast h23 k)
    ·intro Lx g36 s K hl hh k
     show At 60 ((24,_)::(4,_)::(6,_)::(7,_)::(14,_)::(15,_)::(16,_)::Lx) _ _
     refine gy ?_
     refine am ?_
     exact at_nil k
    ·intro Lx g36 s K hl hh k
     show At 60 ((24,_)::(4,_)::(6,_)::(7,_)::(14,_)::(15,_)::(16,_)::Lx) _ _
     refine gy ?_
     refine am ?_
     exact at_nil k
    ·intro Lx g36 s K hl hh k
     show At 60 ((24,_)::(26,_)::(4,_)::(6,_)::(7,_)::(14,_)::(15,_)::(16,_)::Lx) _ _
     refine gy ?_
     refine aw (r_isub rfl rfl) ?_
     exact at_nil k
    ·intro Lx g36 s K hl hh k
     show At 60 ((24,_)::(25,_)::(27,_)::(4,_)::(6,_)::(7,_)::(14,_)::(15,_)::(16,_)::Lx) _ _
     refine gy ?_
     refine aw (r_idx underlying43 sizeOf26 rfl rfl h31 hp32) ?_
     exact at_nil k
    ·intro Lx g36 s K hl hh k
     show At 60 ((24,_)::(28,_)::(4,_)::(6,_)::(7,_)::(14,_)::(15,_)::(16,_)::Lx) _ _
     refine gy ?_
     obtain rfl:s=0:=by omega
     refine aw (r_load_aggc (c:=c_aggregate_Range) (z:=lget i11 (wr .i64 ((i11.length:Int)-1))) isAgg26 sizeOf26 rfl (fun w1 hw=>row_cell (W:=fun w1=>w1=_) (fun w1 h=>by subst h;exact Below.refl _ _) (hw.own (.s .z)).row h31 hp32 _ rfl)) ?_
     exact at_nil k
    ·intro Lx g36 s K hl hh k
     show At 60 ((24,_)::(4,_)::(6,_)::(7,_)::(14,_)::(15,_)::(16,_)::Lx) _ _
     refine gy ?_
     obtain rfl:s=0:=by omega
     refine aw (r_load_aggc (c:=c_api_Prefix) (z:=lget t7 i12) isAgg37 sizeOf37 rfl (lens_cell .z lw)) ?_
     exact at_nil k
    ·intro Lx g36 s K hl hh k
     show At 60 ((24,_)::(29,_)::(30,_)::(4,_)::(6,_)::(7,_)::(14,_)::(15,_)::(16,_)::Lx) _ _
     refine gy ?_
     obtain rfl:s=0:=by omega
     refine cB func50 rfl (fun w hw=>aggregate_joins_ok _ _ _ ht35 w) ?_
     exact at_nil k
    ·intro Lx g36 s K hl hh k
     show At 60 ((24,_)::(31,_)::(4,_)::(6,_)::(7,_)::(14,_)::(15,_)::(16,_)::Lx) _ _
     refine gy ?_
     refine aw (r_not rfl) ?_
     exact at_nil k
    ·intro Lx g36 s K hl hh k
     show At 60 ((24,_)::(32,_)::(4,_)::(6,_)::(7,_)::(14,_)::(15,_)::(16,_)::Lx) _ _
     refine aw xp ?_
     exact at_nil k
    intro g36
    show At 60 [(22,_),(23,_),(24,_),(25,_),(26,_),(27,_),(28,_),(29,_),(30,_),(31,_),(32,_),(33,_),(4,_),(6,_),(7,_),(14,_),(15,_),(16,_)] _ _
    refine wq [33,16,15,14,7,6,4] ?_
    refine tn ?_
    obtain ⟨h37,hF⟩|⟨h37,hF⟩:=oi hF
    ·refine ct h37 ?_
     refine qs (wq [16,15,14,6,4] ?_)
     obtain ⟨t38,ht38,hF⟩:=bM hF
     refine at_invT [.q 34 (fun g40=>.slice p13 i11.length c14) [] 0 1,.q 35 (fun g40=>.pointer (some ⟨b22,0+0,none⟩)) [] 0 0,.q 36 (fun g40=>.agg (Cd.cs c_api_Addr ((lget t7 i12).f_A)).toArray) [1] 0 0,.q 37 (fun g40=>.agg (Cd.cs c_api_Prefix (lget t7 i12)).toArray) [] 0 0,.q 38 (fun g40=>.agg (Cd.cs c_api_Addr t38).toArray) [3] 0 0,.q 39 (fun g40=>.agg (Cd.cs c_aggregate_Range ({ { zv3 with f_From:=(lget t7 i12).f_A } with f_To:=t38 })).toArray) [2,4] 0 0,.al 0 40 (fun g40=>.slice (some ⟨((g40 0).1),0,none⟩) ([{ { zv3 with f_From:=(lget t7 i12).f_A } with f_To:=t38 }]:List S_aggregate_Range).length 1) [5]] (fun g40 s=>match s with | 0=>(Wd w [cellsE b22 (Cd.cs c_api_Prefix (lget t7 i12)) 37,rowE c_aggregate_Range 26 p13 c14 i11,rowE c_api_Prefix 37 p5 c6 t7]) | _=>(Wd w [cellsE ((g40 0).1) (c_aggregate_Range.all ([{ { zv3 with f_From:=(lget t7 i12).f_A } with f_To:=t38 }]:List S_aggregate_Range)) 26,cellsE b22 (Cd.cs c_api_Prefix (lget t7 i12)) 37,rowE c_aggregate_Range 26 p13 c14 i11,rowE c_api_Prefix 37 p5 c6 t7])) 1 7 (by kernel_rfl) (by kernel_rfl) (by kernel_rfl) (by kernel_rfl) (by kernel_rfl) (by kernel_rfl) ⟨fun _ _ _=>rfl,fun _ _ _=>rfl,fun _ _ _=>rfl,fun _ _ _=>rfl,fun _ _ _=>rfl,fun _ _ _=>rfl,fun g40 g2 h=>by show (.slice (some ⟨((g40 0).1),0,none⟩) ([{ { zv3 with f_From:=(lget t7 i12).f_A } with f_To:=t38 }]:List S_aggregate_Range).length 1:Value)=.slice (some ⟨((g2 0).1),0,none⟩) ([{ { zv3 with f_From:=(lget t7 i12).f_A } with f_To:=t38 }]:List S_aggregate_Range).length 1;rw [h 0 (show 0<1 by decide)],trivial⟩ (by kernel_rfl) (fun w_ h=>⟨fun _=>g3 0 none 0 none w_,h.drew⟩) ⟨?_,?_,?_,?_,?_,?_,?_,trivial⟩ ?_
     ·intro Lx g40 s K hl hh k
      show At 60 ((4,_)::(6,_)::(14,_)::(15,_)::(16,_)::Lx) _ _
      refine am ?_
      exact at_nil k
     ·intro Lx g40 s K hl hh k
      show At 60 ((4,_)::(6,_)::(14,_)::(15,_)::(16,_)::Lx) _ _
      refine fa 0 underlying37 rfl sizeOf24 ?_
      exact at_nil k
     ·intro Lx g40 s K hl hh k
      show At 60 ((35,_)::(4,_)::(6,_)::(14,_)::(15,_)::(16,_)::Lx) _ _
      obtain rfl:s=0:=by omega
      refine aw (r_load_aggc (c:=c_api_Addr) (z:=(lget t7 i12).f_A) isAgg24 sizeOf24 rfl (lens_cell .z (Lens.comp lw (fun z=>{ lget t7 i12 with f_A:=z }) (c_api_Prefix_f_A (lget t7 i12))))) ?_
      exact at_nil k
     ·intro Lx g40 s K hl hh k
      show At 60 ((4,_)::(6,_)::(14,_)::(15,_)::(16,_)::Lx) _ _
      obtain rfl:s=0:=by omega
      refine aw (r_load_aggc (c:=c_api_Prefix) (z:=lget t7 i12) isAgg37 sizeOf37 rfl (lens_cell .z lw)) ?_
      exact at_nil k
     ·intro Lx g40 s K hl hh k
      show At 60 ((37,_)::(4,_)::(6,_)::(14,_)::(15,_)::(16,_)::Lx) _ _
      obtain rfl:s=0:=by omega
      refine cB func38 rfl (fun w hw=>aggregate_last_ok _ _ ht38 w) ?_
      exact at_nil k
     ·intro Lx g40 s K hl hh k
      show At 60 ((36,_)::(38,_)::(4,_)::(6,_)::(14,_)::(15,_)::(16,_)::Lx) _ _
      obtain rfl:s=0:=by omega
      refine aw (r_build_struct (zs:=Cd.cs c_aggregate_Range zv3) (cs:=Cd.cs c_aggregate_Range ({ { zv3 with f_From:=(lget t7 i12).f_A } with f_To:=t38 })) underlying26 zeroValue26 rfl (places_aggregate_Range_26) rfl (fill_step (c:=c_api_Addr) (z:=(lget t7 i12).f_A) rfl (c_aggregate_Range_f_From zv3) rfl (fill_step (c:=c_api_Addr) (z:=t38) rfl (c_aggregate_Range_f_To ({ zv3 with f_From:=(lget t7 i12).f_A })) rfl rfl))) ?_
      exact at_nil k
     ·intro Lx g40 K k
      show At 60 ((39,_)::(4,_)::(6,_)::(14,_)::(15,_)::(16,_)::Lx) _ _
      refine at_litL (c:=c_aggregate_Range) ([zv3]:List S_aggregate_Range) ([{ { zv3 with f_From:=(lget t7 i12).f_A } with f_To:=t38 }]:List S_aggregate_Range) underlying43 sizeOf26 zeroValue26 rfl rfl rfl (by kernel_rfl) (fill_step (c:=c_aggregate_Range) (z:={ { zv3 with f_From:=(lget t7 i12).f_A } with f_To:=t38 }) rfl (Lens.all c_aggregate_Range ([zv3]:List S_aggregate_Range) 0 (by first | decide | exact Nat.le_of_ble_eq_true rfl)) rfl rfl) rfl ?_
      intro b39
      exact at_nil (k (g3 b39 none 0 none w))
     intro g40
     show At 60 [(34,_),(35,_),(36,_),(37,_),(38,_),(39,_),(40,_),(4,_),(6,_),(14,_),(15,_),(16,_)] _ _
     obtain ⟨h41,hF⟩:=gd hF
     refine at_append (z:=.agg (Cd.cs c_aggregate_Range zv3).toArray) (c:=c_aggregate_Range) (ys:=([{ { zv3 with f_From:=(lget t7 i12).f_A } with f_To:=t38 }]:List S_aggregate_Range)) (.s (.s .z)) underlying43 infoA426 (by kernel_rfl) (by kernel_rfl) rfl rfl rfl rfl (fun _ hw=>cells_src (hw.ok (Upd.mem .z))) (by kernel_rfl) h41 (app_small h41) rfl ?_
     intro p42 c43
     refine aa (qn (dz (dz (wq [16,15,14,4] ?_))))
     refine tn ?_
     refine at_exit ?_
     refine te (at_blk_same (tn ?_))
     refine qr (aw xa (am (nwq [16,15,14,4] ?_)))
     exact at_weak_k (ih _ _ _ hF K p42 c43) ⟨rfl,rfl,rfl,rfl,trivial⟩
    refine cf h37 ?_
    refine sns ?_
    refine aw (r_load_aggc (c:=c_api_Prefix) (z:=lget t7 i12) isAgg37 sizeOf37 rfl (lens_cell .z lw)) ?_
    obtain ⟨t44,ht44,hF⟩:=bM hF
    refine cB func38 rfl (fun w hw=>aggregate_last_ok _ _ ht44 w) ?_
    refine al (cs:=Cd.cs c_api_Addr zv0) zeroValue24 ?_
    intro b45
    refine at_store (c:=c_api_Addr) (z:=t44) .z lw sizeOf24 rfl rfl rfl ?_
    refine qn ?_
    refine at_drop (H:=_) (.s .z) ?_
    refine tn (qs (wq [16,15,14,8,7,4] ?_))
    obtain ⟨h46,hF⟩:=gd hF
    refine at_pure (φ:=∃ b o,p13=some ⟨b,o,none⟩) (fun _ hw=>row_ptr (hw.own (.s .z)).row h46) ?_
    rintro ⟨b48,o49,hp47⟩
    obtain ⟨t50,ht50,hF⟩:=bM hF
    refine at_inv [.q 44 (fun g51=>.slice p13 i11.length c14) [] 0 0,.q 45 (fun g51=>.int .i64 (i11.length:Int)) [] 0 0,.q 46 (fun g51=>.int .i64 (wr .i64 ((i11.length:Int)-1))) [1] 0 0,.q 47 (fun g51=>.pointer (some ⟨b48,o49+Int.toNat (wr .i64 ((i11.length:Int)-1))*34,none⟩)) [0,2] 0 0,.q 48 (fun g51=>.pointer (some ⟨b48,o49+Int.toNat (wr .i64 ((i11.length:Int)-1))*34+17,none⟩)) [3] 0 0,.q 49 (fun g51=>.agg (Cd.cs c_api_Addr ((lget i11 (wr .i64 ((i11.length:Int)-1))).f_To)).toArray) [4] 0 0,.q 50 (fun g51=>.agg (Cd.cs c_api_Addr t44).toArray) [] 0 0,.q 51 (fun g51=>.bool t50) [5,6] 0 0] (fun g51 s=>match s with | _=>(Wd w [cellsE b45 (Cd.cs c_api_Addr t44) 24,rowE c_aggregate_Range 26 p13 c14 i11,rowE c_api_Prefix 37 p5 c6 t7])) 0 (by kernel_rfl) (by kernel_rfl) (by kernel_rfl) (by kernel_rfl) (by kernel_rfl) ⟨fun _ _ _=>rfl,fun _ _ _=>rfl,fun _ _ _=>rfl,fun _ _ _=>rfl,fun _ _ _=>rfl,fun _ _ _=>rfl,fun _ _ _=>rfl,fun _ _ _=>rfl,trivial⟩ (by kernel_rfl) (fun w_ h=>⟨fun _=>g3 0 none 0 none w_,h.drew⟩) ⟨?_,?_,?_,?_,?_,?_,?_,?_,trivial⟩ ?_
    ·intro Lx g51 s K hl hh k
     show At 60 ((4,_)::(7,_)::(8,_)::(14,_)::(15,_)::(16,_)::Lx) _ _
     refine am ?_
     exact at_nil k
    ·intro Lx g51 s K hl hh k
     show At 60 ((4,_)::(7,_)::(8,_)::(14,_)::(15,_)::(16,_)::Lx) _ _
     refine am ?_
     exact at_nil k
    ·intro Lx g51 s K hl hh k
     show At 60 ((45,_)::(4,_)::(7,_)::(8,_)::(14,_)::(15,_)::(16,_)::Lx) _ _
     refine aw (r_isub rfl rfl) ?_
     exact at_nil k
    ·intro Lx g51 s K hl hh k
     show At 60 ((44,_)::(46,_)::(4,_)::(7,_)::(8,_)::(14,_)::(15,_)::(16,_)::Lx) _ _
     refine aw (r_idx underlying43 sizeOf26 rfl rfl h46 hp47) ?_
     exact at_nil k
    ·intro Lx g51 s K hl hh k
     show At 60 ((47,_)::(4,_)::(7,_)::(8,_)::(14,_)::(15,_)::(16,_)::Lx) _ _
     refine fa 17 underlying26 rfl sizeOf24 ?_
     exact at_nil k
    ·intro Lx g51 s K hl hh k
     show At 60 ((48,_)::(4,_)::(7,_)::(8,_)::(14,_)::(15,_)::(16,_)::Lx) _ _
     obtain rfl:s=0:=by omega
     refine aw (r_load_aggc (c:=c_api_Addr) (z:=(lget i11 (wr .i64 ((i11.length:Int)-1))).f_To) isAgg24 sizeOf24 rfl (fun w1 hw=>row_lens (y:=(lget i11 (wr .i64 ((i11.length:Int)-1))).f_To) (W:=fun w1=>w1=_) (fun w1 h=>by subst h;exact Below.refl _ _) (hw.own (.s .z)).row h46 hp47 (Lens.comp lw (fun z=>{ (lget i11 (wr .i64 ((i11.length:Int)-1))) with f_To:=z }) (c_aggregate_Range_f_To (lget i11 (wr .i64 ((i11.length:Int)-1))))) _ rfl)) ?_
     exact at_nil k
    ·intro Lx g51 s K hl hh k
     show At 60 ((4,_)::(7,_)::(8,_)::(14,_)::(15,_)::(16,_)::Lx) _ _
     obtain rfl:s=0:=by omega
     refine aw (r_load_aggc (c:=c_api_Addr) (z:=t44) isAgg24 sizeOf24 rfl (lens_cell .z lw)) ?_
     exact at_nil k
    ·intro Lx g51 s K hl hh k
     show At 60 ((49,_)::(50,_)::(4,_)::(7,_)::(8,_)::(14,_)::(15,_)::(16,_)::Lx) _ _
     obtain rfl:s=0:=by omega
     refine cB func39 rfl (fun w hw=>addr_Less_ok _ _ _ ht50 w) ?_
     exact at_nil k
    intro g51
    show At 60 [(44,_),(45,_),(46,_),(47,_),(48,_),(49,_),(50,_),(51,_),(4,_),(7,_),(8,_),(14,_),(15,_),(16,_)] _ _
    refine wq [51,16,15,14,8,7,4] ?_
    refine tn ?_
    obtain ⟨h52,hF⟩|⟨h52,hF⟩:=oi hF
    ·refine ct h52 ?_
     refine qr (am (am ?_))
     refine aw (r_isub rfl rfl) ?_
     refine aw (r_load_aggc (c:=c_api_Addr) (z:=t44) isAgg24 sizeOf24 rfl (lens_cell .z lw)) ?_
     obtain ⟨h53,hF⟩:=gd hF
     refine at_pure (φ:=∃ b o,p13=some ⟨b,o,none⟩) (fun _ hw=>row_ptr (hw.own (.s .z)).row h53) ?_
     rintro ⟨b55,o56,hp54⟩
     refine aw (r_idx underlying43 sizeOf26 rfl rfl h53 hp54) ?_
     refine fa 17 underlying26 rfl sizeOf24 ?_
     refine at_storeRow (c:=c_aggregate_Range) (c':=c_api_Addr) (i:=wr .i64 ((i11.length:Int)-1)) (z:=t44) (y:={ (lget i11 (wr .i64 ((i11.length:Int)-1))) with f_To:=t44 }) (.s .z) h53 hp54 (Lens.comp lw (fun z=>{ (lget i11 (wr .i64 ((i11.length:Int)-1))) with f_To:=z }) (c_aggregate_Range_f_To (lget i11 (wr .i64 ((i11.length:Int)-1))))) (by rfl) sizeOf24 rfl rfl rfl ?_
     refine at_ov (t:=4) rfl (show Value.slice p13 (List.length i11) c14=.slice p13 (List.length (lset i11 (wr .i64 ((i11.length:Int)-1)) ({ (lget i11 (wr .i64 ((i11.length:Int)-1))) with f_To:=t44 }))) c14 from congrArg (fun n_=>Value.slice p13 n_ c14) ((lset_length _ _ _).symm)) ?_
     refine at_ov (t:=52) rfl (show Value.slice p13 (List.length i11) c14=.slice p13 (List.length (lset i11 (wr .i64 ((i11.length:Int)-1)) ({ (lget i11 (wr .i64 ((i11.length:Int)-1))) with f_To:=t44 }))) c14 from congrArg (fun n_=>Value.slice p13 n_ c14) ((lset_length _ _ _).symm)) ?_
     refine qn (dz (wq [16,15,14,4] ?_))
     refine bm ?_
     refine qr (aw xa (am (nwq [16,15,14,4] ?_)))
     exact at_weak_k (ih _ _ _ hF K p13 c14) ⟨rfl,rfl,rfl,rfl,trivial⟩
    refine cf h52 ?_
    refine at_skip ?_
    refine bm ?_
    refine qr (aw xa (am (qn (dz (wq [16,15,14,4] ?_)))))
    refine tn ?_
    exact at_weak_k (ih _ _ _ hF K p13 c14) ⟨rfl,rfl,rfl,rfl,trivial⟩
   refine cf h17 ?_
   refine at_exit ?_
   refine te (te ?_)
   refine at_drop (H:=_) (.s .z) ?_
   obtain rfl:=os hF
   exact at_weak_k (K p13 c14) ⟨rfl,trivial⟩
 skip
 intro p15 c16
 refine at_blk_same ?_
 refine tn (sr (am (aa (nwq [2] ?_))))
 refine qt ?_
 have K:=os hF
 subst K
 exact r1 (fun w1 hw=>⟨p15,c16,rfl,hw.own .z,hw.below⟩)
def aggregate_Cover.l0(t1:List S_aggregate_Range)(i7:List S_api_Prefix)(i9:Int):Option (List S_api_Prefix) :=
 if (decide (i9<(t1.length:Int)))=true then (if (0:Int)≤i9∧i9<(t1.length:Int) then aggregate_Prefixes (lget t1 i9)>>=fun t20=>if (i7.length+t20.length)*32≤140737488355328 then aggregate_Cover.l0 t1 (i7++t20) (wr .i64 (i9+1)) else none else none) else (some i7)
 partial_fixpoint
def aggregate_Cover(x0:List S_api_Prefix):Option (List S_api_Prefix) :=
 aggregate_Ranges x0>>=fun t1=>aggregate_Cover.l0 t1 ([]:List S_api_Prefix) 0>>=fun q6=>some q6
theorem aggregate_Cover_ok(x0:List S_api_Prefix)(p0_:Option Addr)(c0_:Nat)(r:List S_api_Prefix)(hF:aggregate_Cover x0=some r)(w:World)(hr0:Row c_api_Prefix w p0_ c0_ x0) :
    Calls Try.prog 18 #[.slice p0_ x0.length c0_] w (fun e w'=>∃ p cap,e=.returned (.slice p r.length cap)∧Own c_api_Prefix 37 w.heap.size w' p cap r∧Below w.heap.size w w'):=by
 unfold aggregate_Cover at hF
 refine ce (l:=[.slice p0_ x0.length c0_]) func18 rfl rfl ?_
 refine at_start ?_
 refine sr (aa (ns (aa (nt (qs (sr (am ?_)))))))
 obtain ⟨t1,ht1,hF⟩:=bM hF
 refine at_callO (c:=c_aggregate_Range) (e:=26) (ys:=t1) (V:=fun p cap=>.slice p t1.length cap) func19 rfl (by kernel_rfl) rfl rfl (fun w hw=>aggregate_Ranges_ok _ _ _ _ ht1 w (hr0.below hw.below)) ?_
 intro p2 c3
 refine aw (r_len_sl underlying43 rfl) ?_
 refine am (nwq [9,8,7,3] ?_)
 refine qb ?_
 refine at_own_nil c_api_Prefix 37 ?_
 obtain ⟨q6,hq6,hF⟩:=bM hF
 refine wq [9,8,7,3] ?_
 refine at_loop_n (B:=0) (A:=fun Y=>∀ (p12:Option Addr) (c13:Nat),At 19 [(3,.slice p12 q6.length c13)] (Wd w [rowE c_api_Prefix 37 p12 c13 q6]) Y) ?_ ?_
 ·intro K
  refine aggregate_Cover.l0.partial_correctness t1 (motive:=fun i7 i9 x=>KN (fun Y=>∀ (p12:Option Addr) (c13:Nat),At 19 [(3,.slice p12 x.length c13)] (Wd w [rowE c_api_Prefix 37 p12 c13 x]) Y) _ 0→Round (fun Y=>∀ (p10:Option Addr) (c11:Nat),At 19 [(3,.slice p10 i7.length c11),(7,.slice p2 t1.length c3),(8,.int .i64 (t1.length:Int)),(9,.int .i64 i9)] (Wd w [rowE c_api_Prefix 37 p10 c11 i7,rowE c_aggregate_Range 26 p2 c3 t1]) Y) _ _ _) ?_ _ _ _ hq6 K none 0
  ·clear K hF
   intro g ih i7 i9 x hF K p10 c11
   refine at_round ?_
   refine sr (aw xl (nwq [10,9,8,7,3] ?_))
   refine qs ?_
   obtain ⟨h14,hF⟩|⟨h14,hF⟩:=oi hF
   ·refine ct h14 ?_
    refine sn (qs ?_)
    refine qb ?_
    refine sr ?_
    obtain ⟨h15,hF⟩:=gd hF
    refine at_pure (φ:=∃ b o,p2=some ⟨b,o,none⟩) (fun _ hw=>row_ptr (hw.own (.s .z)).row h15) ?_
    rintro ⟨b17,o18,hp16⟩
    refine aw (r_idx underlying43 sizeOf26 rfl rfl h15 hp16) ?_
    refine aw (r_load_aggc (c:=c_aggregate_Range) (z:=lget t1 i9) isAgg26 sizeOf26 rfl (fun w1 hw=>row_cell (W:=fun w1=>w1=_) (fun w1 h=>by subst h;exact Below.refl _ _) (hw.own (.s .z)).row h15 hp16 _ rfl)) ?_
    refine al (cs:=Cd.cs c_aggregate_Range zv3) zeroValue26 ?_
    intro b19
    refine at_store (c:=c_aggregate_Range) (z:=lget t1 i9) .z lw sizeOf26 rfl rfl rfl ?_
    refine nt (qr (am ?_))
    refine aw (r_load_aggc (c:=c_aggregate_Range) (z:=lget t1 i9) isAgg26 sizeOf26 rfl (lens_cell .z lw)) ?_
    obtain ⟨t20,ht20,hF⟩:=bM hF
    refine at_callO (c:=c_api_Prefix) (e:=37) (ys:=t20) (V:=fun p cap=>.slice p t20.length cap) func8 rfl (by kernel_rfl) rfl rfl (fun w hw=>aggregate_Prefixes_ok _ _ ht20 w) ?_
    intro p21 c22
    obtain ⟨h23,hF⟩:=gd hF
    refine at_append_row (z:=.agg (Cd.cs c_api_Prefix zv2).toArray) (c:=c_api_Prefix) (ys:=t20) (.s (.s .z)) underlying27 infoA437 (by kernel_rfl) (by kernel_rfl) rfl rfl rfl (fun w1 hw=>(hw.own .z).row) (by kernel_rfl) h23 (app_small h23) rfl ?_
    intro p24 c25
    refine aa (qn (dz (dz (wq [9,8,7,3] ?_))))
    refine bm ?_
    refine qr (aw xa (am (nwq [9,8,7,3] ?_)))
    exact at_weak_k (ih _ _ _ hF K p24 c25) ⟨rfl,rfl,rfl,rfl,trivial⟩
   refine cf h14 ?_
   refine at_exit ?_
   refine te (te ?_)
   refine at_drop (H:=_) (.s .z) ?_
   obtain rfl:=os hF
   exact at_weak_k (K p10 c11) ⟨rfl,trivial⟩
 skip
 intro p12 c13
 refine at_blk_same ?_
 refine tn (sr (am (aa (nwq [2] ?_))))
 refine qt ?_
 have K:=os hF
 subst K
 exact r1 (fun w1 hw=>⟨p12,c13,rfl,hw.own .z,hw.below⟩)
def crawlwayref53_sorted.l1(x0:List S_api_Prefix)(i4:List S_api_Prefix)(i5:Int)(i18:Int):Option (Int) :=
 if (decide (i18>0))=true then (if (0:Int)≤i5∧i5<(x0.length:Int) then if (0:Int)≤wr .i64 (i18-1)∧wr .i64 (i18-1)<(i4.length:Int) then crawlwayref11_Less (lget x0 i5) (lget i4 (wr .i64 (i18-1)))>>=fun t28=>if t28=true then (crawlwayref53_sorted.l1 x0 i4 i5 (wr .i64 (i18-1))) else (some i18) else none else none) else (some i18)
 partial_fixpoint
def crawlwayref53_sorted.l0(x0:List S_api_Prefix)(i4:List S_api_Prefix)(i5:Int):Option (List S_api_Prefix) :=
 if (decide (i5<(x0.length:Int)))=true then (if (0:Int)≤i5∧i5<(x0.length:Int) then crawlwayref11_Right (lget x0 i5)>>=fun t15=>if (!t15)=true then (crawlwayref53_sorted.l0 x0 i4 (wr .i64 (i5+1))) else (crawlwayref53_sorted.l1 x0 i4 i5 (i4.length:Int)>>=fun q17=>if (0:Int)≤0∧0≤q17∧q17≤(i4.length:Int) then if (([]:List S_api_Prefix).length+(lsub i4 0 q17).length)*32≤140737488355328 then if (0:Int)≤i5∧i5<(x0.length:Int) then if ((([]:List S_api_Prefix)++(lsub i4 0 q17)).length+1)*32≤140737488355328 then if (0:Int)≤q17∧q17≤(i4.length:Int)∧(i4.length:Int)≤(i4.length:Int) then if (((([]:List S_api_Prefix)++(lsub i4 0 q17))++[lget x0 i5]).length+(lsub i4 q17 (i4.length:Int)).length)*32≤140737488355328 then crawlwayref53_sorted.l0 x0 (((([]:List S_api_Prefix)++(lsub i4 0 q17))++[lget x0 i5])++(lsub i4 q17 (i4.length:Int))) (wr .i64 (i5+1)) else none else none else none else none else none else none) else none) else (some i4)
 partial_fixpoint
def crawlwayref53_sorted(x0:List S_api_Prefix):Option (List S_api_Prefix) :=
 crawlwayref53_sorted.l0 x0 ([]:List S_api_Prefix) 0>>=fun q3=>some q3
def crawlwayref53_Ranges.l0(t1:List S_api_Prefix)(i7:List (Vector S_api_Addr 2))(i9:Int):Option (List (Vector S_api_Addr 2)) :=
 if (decide (i9<(t1.length:Int)))=true then (if (decide ((i7.length:Int)>0))=true then (if (0:Int)≤wr .i64 ((i7.length:Int)-1)∧wr .i64 ((i7.length:Int)-1)<(i7.length:Int) then crawlwayref53_Next (vget (lget i7 (wr .i64 ((i7.length:Int)-1))) 1)>>=fun t20=>if (0:Int)≤wr .i64 ((i7.length:Int)-1)∧wr .i64 ((i7.length:Int)-1)<(i7.length:Int) then if (0:Int)≤i9∧i9<(t1.length:Int) then if ((vget (lget i7 (wr .i64 ((i7.length:Int)-1))) 0).f_V==((lget t1 i9).f_A).f_V)=true then (if (!t20.2)=true then (if (0:Int)≤wr .i64 ((i7.length:Int)-1)∧wr .i64 ((i7.length:Int)-1)<(i7.length:Int) then if (0:Int)≤i9∧i9<(t1.length:Int) then crawlwayref53_last (lget t1 i9)>>=fun t42=>crawlwayref10_Less (vget (lget i7 (wr .i64 ((i7.length:Int)-1))) 1) t42>>=fun t43=>if t43=true then (if (0:Int)≤i9∧i9<(t1.length:Int) then crawlwayref53_last (lget t1 i9)>>=fun t50=>if (0:Int)≤wr .i64 ((i7.length:Int)-1)∧wr .i64 ((i7.length:Int)-1)<(i7.length:Int) then crawlwayref53_Ranges.l0 t1 (lset i7 (wr .i64 ((i7.length:Int)-1)) (vset (lget i7 (wr .i64 ((i7.length:Int)-1))) 1 t50)) (wr .i64 (i9+1)) else none else none) else (crawlwayref53_Ranges.l0 t1 i7 (wr .i64 (i9+1))) else none else none) else (if (0:Int)≤i9∧i9<(t1.length:Int) then crawlwayref10_Less t20.1 ((lget t1 i9).f_A)>>=fun t60=>if (!t60)=true then (if (0:Int)≤wr .i64 ((i7.length:Int)-1)∧wr .i64 ((i7.length:Int)-1)<(i7.length:Int) then if (0:Int)≤i9∧i9<(t1.length:Int) then crawlwayref53_last (lget t1 i9)>>=fun t71=>crawlwayref10_Less (vget (lget i7 (wr .i64 ((i7.length:Int)-1))) 1) t71>>=fun t72=>if t72=true then (if (0:Int)≤i9∧i9<(t1.length:Int) then crawlwayref53_last (lget t1 i9)>>=fun t79=>if (0:Int)≤wr .i64 ((i7.length:Int)-1)∧wr .i64 ((i7.length:Int)-1)<(i7.length:Int) then crawlwayref53_Ranges.l0 t1 (lset i7 (wr .i64 ((i7.length:Int)-1)) (vset (lget i7 (wr .i64 ((i7.length:Int)-1))) 1 t79)) (wr .i64 (i9+1)) else none else none) else (crawlwayref53_Ranges.l0 t1 i7 (wr .i64 (i9+1))) else none else none) else (if (0:Int)≤i9∧i9<(t1.length:Int) then if (0:Int)≤i9∧i9<(t1.length:Int) then crawlwayref53_last (lget t1 i9)>>=fun t93=>if (i7.length+1)*48≤140737488355328 then crawlwayref53_Ranges.l0 t1 (i7++[vset (vset (Vector.replicate 2 ({ f_V:=(0:Int),f_B:=(Vector.replicate 16 (0:Int):(Vector Int 16)) }:S_api_Addr):(Vector S_api_Addr 2)) 0 ((lget t1 i9).f_A)) 1 t93]) (wr .i64 (i9+1)) else none else none else none) else none)) else (if (0:Int)≤i9∧i9<(t1.length:Int) then if (0:Int)≤i9∧i9<(t1.length:Int) then crawlwayref53_last (lget t1 i9)>>=fun t108=>if (i7.length+1)*48≤140737488355328 then crawlwayref53_Ranges.l0 t1 (i7++[vset (vset (Vector.replicate 2 ({ f_V:=(0:Int),f_B:=(Vector.replicate 16 (0:Int):(Vector Int 16)) }:S_api_Addr):(Vector S_api_Addr 2)) 0 ((lget t1 i9).f_A)) 1 t108]) (wr .i64 (i9+1)) else none else none else none) else none else none else none) else (if (0:Int)≤i9∧i9<(t1.length:Int) then if (0:Int)≤i9∧i9<(t1.length:Int) then crawlwayref53_last (lget t1 i9)>>=fun t122=>if (i7.length+1)*48≤140737488355328 then crawlwayref53_Ranges.l0 t1 (i7++[vset (vset (Vector.replicate 2 ({ f_V:=(0:Int),f_B:=(Vector.replicate 16 (0:Int):(Vector Int 16)) }:S_api_Addr):(Vector S_api_Addr 2)) 0 ((lget t1 i9).f_A)) 1 t122]) (wr .i64 (i9+1)) else none else none else none)) else (some i7)
 partial_fixpoint
def crawlwayref53_Ranges(x0:List S_api_Prefix):Option (List (Vector S_api_Addr 2)) :=
 crawlwayref53_sorted x0>>=fun t1=>crawlwayref53_Ranges.l0 t1 ([]:List (Vector S_api_Addr 2)) 0>>=fun q6=>some q6
def crawlwayref53_Cover.l0(t1:List (Vector S_api_Addr 2))(i7:List S_api_Prefix)(i9:Int):Option (List S_api_Prefix) :=
 if (decide (i9<(t1.length:Int)))=true then (if (0:Int)≤i9∧i9<(t1.length:Int) then if (0:Int)≤i9∧i9<(t1.length:Int) then crawlwayref53_Prefixes (vget (lget t1 i9) 0) (vget (lget t1 i9) 1)>>=fun t23=>if (i7.length+t23.length)*32≤140737488355328 then crawlwayref53_Cover.l0 t1 (i7++t23) (wr .i64 (i9+1)) else none else none else none) else (some i7)
 partial_fixpoint
def crawlwayref53_Cover(x0:List S_api_Prefix):Option (List S_api_Prefix) :=
 crawlwayref53_Ranges x0>>=fun t1=>crawlwayref53_Cover.l0 t1 ([]:List S_api_Prefix) 0>>=fun q6=>some q6
abbrev crawlwaylaw53_alive.e0:S_api_Prefix:={ { ({ f_A:=({ f_V:=(0:Int),f_B:=(Vector.replicate 16 (0:Int):(Vector Int 16)) }:S_api_Addr),f_Bits:=(0:Int) }:S_api_Prefix) with f_A:={ { ({ f_V:=(0:Int),f_B:=(Vector.replicate 16 (0:Int):(Vector Int 16)) }:S_api_Addr) with f_V:=4 } with f_B:=vset (vset (Vector.replicate 16 (0:Int):(Vector Int 16)) 0 10) 1 128 } } with f_Bits:=9 }
abbrev crawlwaylaw53_alive.e1:S_api_Prefix:={ { ({ f_A:=({ f_V:=(0:Int),f_B:=(Vector.replicate 16 (0:Int):(Vector Int 16)) }:S_api_Addr),f_Bits:=(0:Int) }:S_api_Prefix) with f_A:={ { ({ f_V:=(0:Int),f_B:=(Vector.replicate 16 (0:Int):(Vector Int 16)) }:S_api_Addr) with f_V:=4 } with f_B:=vset (Vector.replicate 16 (0:Int):(Vector Int 16)) 0 10 } } with f_Bits:=9 }
def crawlwaylaw53_alive:Option (Bool) :=
 aggregate_Prefixes ({ { ({ f_From:=({ f_V:=(0:Int),f_B:=(Vector.replicate 16 (0:Int):(Vector Int 16)) }:S_api_Addr),f_To:=({ f_V:=(0:Int),f_B:=(Vector.replicate 16 (0:Int):(Vector Int 16)) }:S_api_Addr) }:S_aggregate_Range) with f_From:={ { ({ f_V:=(0:Int),f_B:=(Vector.replicate 16 (0:Int):(Vector Int 16)) }:S_api_Addr) with f_V:=4 } with f_B:=vset (vset (vset (vset (Vector.replicate 16 (0:Int):(Vector Int 16)) 0 10) 1 0) 2 0) 3 1 } } with f_To:={ { ({ f_V:=(0:Int),f_B:=(Vector.replicate 16 (0:Int):(Vector Int 16)) }:S_api_Addr) with f_V:=4 } with f_B:=vset (vset (vset (vset (Vector.replicate 16 (0:Int):(Vector Int 16)) 0 10) 1 0) 2 0) 3 4 } })>>=fun t1=>aggregate_Cover ([crawlwaylaw53_alive.e0,crawlwaylaw53_alive.e1])>>=fun t7=>if ((t1.length:Int)==3)=true then (if (0:Int)≤1∧1<(t1.length:Int) then if ((lget t1 1).f_Bits==31)=true then (if ((t7.length:Int)==1)=true then (if (0:Int)≤0∧0<(t7.length:Int) then some ((lget t7 0).f_Bits==8) else none) else (some false)) else (some false) else none) else (some false)
theorem crawlwaylaw53_alive_ok(r:Bool)(hF:crawlwaylaw53_alive =some r)(w:World) :
    Calls Try.prog 13 #[] w (fun e w'=>e=.returned (.bool r)∧Below w.heap.size w w'):=by
 unfold crawlwaylaw53_alive at hF
 refine ce (l:=[]) func13 rfl rfl ?_
 refine at_start ?_
 refine at_weak [] trivial ?_
 refine sr (aa ?_)
 refine nws [] trivial ?_
 refine aw (r_build_array (zs:=Cd.cs (cVec (cInt .u8) 16 (by decide)) zv1) (cs:=Cd.cs (cVec (cInt .u8) 16 (by decide)) (vset (vset (vset (vset zv1 0 10) 1 0) 2 0) 3 1)) underlying22 zeroValue22 rfl sizeOf5 rfl (fill_step (c:=(cInt .u8)) (z:=10) rfl (Lens.vec (cInt .u8) (by decide) zv1 0 (by decide)) rfl (fill_step (c:=(cInt .u8)) (z:=0) rfl (Lens.vec (cInt .u8) (by decide) (vset zv1 0 10) 1 (by decide)) rfl (fill_step (c:=(cInt .u8)) (z:=0) rfl (Lens.vec (cInt .u8) (by decide) (vset (vset zv1 0 10) 1 0) 2 (by decide)) rfl (fill_step (c:=(cInt .u8)) (z:=1) rfl (Lens.vec (cInt .u8) (by decide) (vset (vset (vset zv1 0 10) 1 0) 2 0) 3 (by decide)) rfl rfl))))) ?_
 refine aw (r_build_struct (zs:=Cd.cs c_api_Addr zv0) (cs:=Cd.cs c_api_Addr ({ { zv0 with f_V:=4 } with f_B:=vset (vset (vset (vset zv1 0 10) 1 0) 2 0) 3 1 })) underlying24 zeroValue24 rfl (places_api_Addr_24) rfl (fill_step (c:=(cInt .i64)) (z:=4) rfl (c_api_Addr_f_V zv0) rfl (fill_step (c:=(cVec (cInt .u8) 16 (by decide))) (z:=vset (vset (vset (vset zv1 0 10) 1 0) 2 0) 3 1) rfl (c_api_Addr_f_B ({ zv0 with f_V:=4 })) rfl rfl))) ?_
 refine aw (r_build_array (zs:=Cd.cs (cVec (cInt .u8) 16 (by decide)) zv1) (cs:=Cd.cs (cVec (cInt .u8) 16 (by decide)) (vset (vset (vset (vset zv1 0 10) 1 0) 2 0) 3 4)) underlying22 zeroValue22 rfl sizeOf5 rfl (fill_step (c:=(cInt .u8)) (z:=10) rfl (Lens.vec (cInt .u8) (by decide) zv1 0 (by decide)) rfl (fill_step (c:=(cInt .u8)) (z:=0) rfl (Lens.vec (cInt .u8) (by decide) (vset zv1 0 10) 1 (by decide)) rfl (fill_step (c:=(cInt .u8)) (z:=0) rfl (Lens.vec (cInt .u8) (by decide) (vset (vset zv1 0 10) 1 0) 2 (by decide)) rfl (fill_step (c:=(cInt .u8)) (z:=4) rfl (Lens.vec (cInt .u8) (by decide) (vset (vset (vset zv1 0 10) 1 0) 2 0) 3 (by decide)) rfl rfl))))) ?_
 refine aw (r_build_struct (zs:=Cd.cs c_api_Addr zv0) (cs:=Cd.cs c_api_Addr ({ { zv0 with f_V:=4 } with f_B:=vset (vset (vset (vset zv1 0 10) 1 0) 2 0) 3 4 })) underlying24 zeroValue24 rfl (places_api_Addr_24) rfl (fill_step (c:=(cInt .i64)) (z:=4) rfl (c_api_Addr_f_V zv0) rfl (fill_step (c:=(cVec (cInt .u8) 16 (by decide))) (z:=vset (vset (vset (vset zv1 0 10) 1 0) 2 0) 3 4) rfl (c_api_Addr_f_B ({ zv0 with f_V:=4 })) rfl rfl))) ?_
 refine aw (r_build_struct (zs:=Cd.cs c_aggregate_Range zv3) (cs:=Cd.cs c_aggregate_Range ({ { zv3 with f_From:={ { zv0 with f_V:=4 } with f_B:=vset (vset (vset (vset zv1 0 10) 1 0) 2 0) 3 1 } } with f_To:={ { zv0 with f_V:=4 } with f_B:=vset (vset (vset (vset zv1 0 10) 1 0) 2 0) 3 4 } })) underlying26 zeroValue26 rfl (places_aggregate_Range_26) rfl (fill_step (c:=c_api_Addr) (z:={ { zv0 with f_V:=4 } with f_B:=vset (vset (vset (vset zv1 0 10) 1 0) 2 0) 3 1 }) rfl (c_aggregate_Range_f_From zv3) rfl (fill_step (c:=c_api_Addr) (z:={ { zv0 with f_V:=4 } with f_B:=vset (vset (vset (vset zv1 0 10) 1 0) 2 0) 3 4 }) rfl (c_aggregate_Range_f_To ({ zv3 with f_From:={ { zv0 with f_V:=4 } with f_B:=vset (vset (vset (vset zv1 0 10) 1 0) 2 0) 3 1 } })) rfl rfl))) ?_
 obtain ⟨t1,ht1,hF⟩:=bM hF
 refine at_callO (c:=c_api_Prefix) (e:=37) (ys:=t1) (V:=fun p cap=>.slice p t1.length cap) func8 rfl (by kernel_rfl) rfl rfl (fun w hw=>aggregate_Prefixes_ok _ _ ht1 w) ?_
 intro p2 c3
 refine aa (ns ?_)
 refine aw (r_build_array (zs:=Cd.cs (cVec (cInt .u8) 16 (by decide)) zv1) (cs:=Cd.cs (cVec (cInt .u8) 16 (by decide)) (vset zv1 0 10)) underlying22 zeroValue22 rfl sizeOf5 rfl (fill_step (c:=(cInt .u8)) (z:=10) rfl (Lens.vec (cInt .u8) (by decide) zv1 0 (by decide)) rfl rfl)) ?_
 refine aw (r_build_struct (zs:=Cd.cs c_api_Addr zv0) (cs:=Cd.cs c_api_Addr ({ { zv0 with f_V:=4 } with f_B:=vset zv1 0 10 })) underlying24 zeroValue24 rfl (places_api_Addr_24) rfl (fill_step (c:=(cInt .i64)) (z:=4) rfl (c_api_Addr_f_V zv0) rfl (fill_step (c:=(cVec (cInt .u8) 16 (by decide))) (z:=vset zv1 0 10) rfl (c_api_Addr_f_B ({ zv0 with f_V:=4 })) rfl rfl))) ?_
 refine aw (r_build_struct (zs:=Cd.cs c_api_Prefix zv2) (cs:=Cd.cs c_api_Prefix ({ { zv2 with f_A:={ { zv0 with f_V:=4 } with f_B:=vset zv1 0 10 } } with f_Bits:=9 })) underlying37 zeroValue37 rfl (places_api_Prefix_37) rfl (fill_step (c:=c_api_Addr) (z:={ { zv0 with f_V:=4 } with f_B:=vset zv1 0 10 }) rfl (c_api_Prefix_f_A zv2) rfl (fill_step (c:=(cInt .i64)) (z:=9) rfl (c_api_Prefix_f_Bits ({ zv2 with f_A:={ { zv0 with f_V:=4 } with f_B:=vset zv1 0 10 } })) rfl rfl))) ?_
 refine al (cs:=Cd.cs c_api_Prefix zv2) zeroValue37 ?_
 intro b4
 refine at_store (c:=c_api_Prefix) (z:={ { zv2 with f_A:={ { zv0 with f_V:=4 } with f_B:=vset zv1 0 10 } } with f_Bits:=9 }) .z lw sizeOf37 rfl rfl rfl ?_
 refine ns ?_
 refine aw (r_build_array (zs:=Cd.cs (cVec (cInt .u8) 16 (by decide)) zv1) (cs:=Cd.cs (cVec (cInt .u8) 16 (by decide)) (vset (vset zv1 0 10) 1 128)) underlying22 zeroValue22 rfl sizeOf5 rfl (fill_step (c:=(cInt .u8)) (z:=10) rfl (Lens.vec (cInt .u8) (by decide) zv1 0 (by decide)) rfl (fill_step (c:=(cInt .u8)) (z:=128) rfl (Lens.vec (cInt .u8) (by decide) (vset zv1 0 10) 1 (by decide)) rfl rfl))) ?_
 refine aw (r_build_struct (zs:=Cd.cs c_api_Addr zv0) (cs:=Cd.cs c_api_Addr ({ { zv0 with f_V:=4 } with f_B:=vset (vset zv1 0 10) 1 128 })) underlying24 zeroValue24 rfl (places_api_Addr_24) rfl (fill_step (c:=(cInt .i64)) (z:=4) rfl (c_api_Addr_f_V zv0) rfl (fill_step (c:=(cVec (cInt .u8) 16 (by decide))) (z:=vset (vset zv1 0 10) 1 128) rfl (c_api_Addr_f_B ({ zv0 with f_V:=4 })) rfl rfl))) ?_
 refine aw (r_build_struct (zs:=Cd.cs c_api_Prefix zv2) (cs:=Cd.cs c_api_Prefix ({ { zv2 with f_A:={ { zv0 with f_V:=4 } with f_B:=vset (vset zv1 0 10) 1 128 } } with f_Bits:=9 })) underlying37 zeroValue37 rfl (places_api_Prefix_37) rfl (fill_step (c:=c_api_Addr) (z:={ { zv0 with f_V:=4 } with f_B:=vset (vset zv1 0 10) 1 128 }) rfl (c_api_Prefix_f_A zv2) rfl (fill_step (c:=(cInt .i64)) (z:=9) rfl (c_api_Prefix_f_Bits ({ zv2 with f_A:={ { zv0 with f_V:=4 } with f_B:=vset (vset zv1 0 10) 1 128 } })) rfl rfl))) ?_
 refine al (cs:=Cd.cs c_api_Prefix zv2) zeroValue37 ?_
 intro b5
 refine at_store (c:=c_api_Prefix) (z:={ { zv2 with f_A:={ { zv0 with f_V:=4 } with f_B:=vset (vset zv1 0 10) 1 128 } } with f_Bits:=9 }) .z lw sizeOf37 rfl rfl rfl ?_
 refine ns ?_
 refine aw (r_load_aggc (c:=c_api_Prefix) (z:={ { zv2 with f_A:={ { zv0 with f_V:=4 } with f_B:=vset (vset zv1 0 10) 1 128 } } with f_Bits:=9 }) isAgg37 sizeOf37 rfl (lens_cell .z lw)) ?_
 refine aw (r_load_aggc (c:=c_api_Prefix) (z:={ { zv2 with f_A:={ { zv0 with f_V:=4 } with f_B:=vset zv1 0 10 } } with f_Bits:=9 }) isAgg37 sizeOf37 rfl (lens_cell (.s .z) lw)) ?_
 refine at_litL (c:=c_api_Prefix) ([zv2,zv2]:List S_api_Prefix) ([crawlwaylaw53_alive.e0,crawlwaylaw53_alive.e1]:List S_api_Prefix) underlying27 sizeOf37 zeroValue37 rfl rfl rfl (by kernel_rfl) (fill_step (c:=c_api_Prefix) (z:=crawlwaylaw53_alive.e0) rfl (Lens.all c_api_Prefix ([zv2,zv2]:List S_api_Prefix) 0 (by first | decide | exact Nat.le_of_ble_eq_true rfl)) rfl (fill_step (c:=c_api_Prefix) (z:=crawlwaylaw53_alive.e1) rfl (Lens.all c_api_Prefix ([crawlwaylaw53_alive.e0,zv2]:List S_api_Prefix) 1 (by first | decide | exact Nat.le_of_ble_eq_true rfl)) rfl rfl)) rfl ?_
 intro b6
 obtain ⟨t7,ht7,hF⟩:=bM hF
 refine at_callO (c:=c_api_Prefix) (e:=37) (ys:=t7) (V:=fun p cap=>.slice p t7.length cap) func18 rfl (by kernel_rfl) rfl rfl (fun w hw=>aggregate_Cover_ok _ _ _ _ ht7 w (cells_row (hw.ok (Upd.mem .z)))) ?_
 intro p8 c9
 refine aa (qn ?_)
 refine at_drop (H:=_) (.s .z) ?_
 refine at_drop (H:=_) (.s .z) ?_
 refine at_drop (H:=_) (.s .z) ?_
 refine wq [4,1] ?_
 refine tn (sr (am ?_))
 refine aw (r_len_sl underlying27 rfl) ?_
 refine aw xq (am ?_)
 obtain ⟨h10,hF⟩|⟨h10,hF⟩:=oi hF
 ·refine fx 24 h10 ?_
  refine gy ?_
  refine am ?_
  refine gy ?_
  obtain ⟨h11,hF⟩:=gd hF
  refine at_pure (φ:=∃ b o,p2=some ⟨b,o,none⟩) (fun _ hw=>row_ptr (hw.own (.s .z)).row h11) ?_
  rintro ⟨b13,o14,hp12⟩
  refine aw (r_idx underlying27 sizeOf37 rfl rfl h11 hp12) ?_
  refine gy ?_
  refine fa 17 underlying37 rfl sizeOf3 ?_
  refine gy ?_
  refine aw (r_load_cell isAgg3 rfl (fun w1 hw=>row_lens0 (y:=(lget t1 1).f_Bits) (W:=fun w1=>w1=_) (fun w1 h=>by subst h;exact Below.refl _ _) (hw.own (.s .z)).row h11 hp12 (Lens.comp lw (fun z=>{ (lget t1 1) with f_Bits:=z }) (c_api_Prefix_f_Bits (lget t1 1))) rfl _ rfl)) ?_
  refine gy ?_
  refine aw xq (aw xp (am ?_))
  obtain ⟨h15,hF⟩|⟨h15,hF⟩:=oi hF
  ·refine fx 31 h15 ?_
   refine gy ?_
   refine am ?_
   refine gy ?_
   refine aw (r_len_sl underlying27 rfl) ?_
   refine gy ?_
   refine aw xq (aw xp (am ?_))
   obtain ⟨h16,hF⟩|⟨h16,hF⟩:=oi hF
   ·refine fx 36 h16 ?_
    refine gy ?_
    refine am ?_
    refine gy ?_
    obtain ⟨h17,hF⟩:=gd hF
    refine at_pure (φ:=∃ b o,p8=some ⟨b,o,none⟩) (fun _ hw=>row_ptr (hw.own .z).row h17) ?_
    rintro ⟨b19,o20,hp18⟩
    refine aw (r_idx underlying27 sizeOf37 rfl rfl h17 hp18) ?_
    refine gy ?_
    refine fa 17 underlying37 rfl sizeOf3 ?_
    refine gy ?_
    refine aw (r_load_cell isAgg3 rfl (fun w1 hw=>row_lens0 (y:=(lget t7 0).f_Bits) (W:=fun w1=>w1=_) (fun w1 h=>by subst h;exact Below.refl _ _) (hw.own .z).row h17 hp18 (Lens.comp lw (fun z=>{ (lget t7 0) with f_Bits:=z }) (c_api_Prefix_f_Bits (lget t7 0))) rfl _ rfl)) ?_
    refine gy ?_
    refine aw xq (aw xp (aa (qn (dz (dz (wq [0] ?_))))))
    refine tn (qt ?_)
    have K:=os hF
    subst K
    exact r1 wb
   refine fx 36 h16 ?_
   refine gn ?_
   refine gn ?_
   refine gn ?_
   refine gn ?_
   refine gn ?_
   refine aw xp (aa (qn (dz (dz (wq [0] ?_)))))
   refine tn (qt ?_)
   have K:=os hF
   subst K
   exact r1 wb
  refine fx 31 h15 ?_
  refine gn ?_
  refine gn ?_
  refine gn ?_
  refine aw xp (am ?_)
  refine gn ?_
  refine gn ?_
  refine gn ?_
  refine gn ?_
  refine gn ?_
  refine aw xp (aa (qn (dz (dz (wq [0] ?_)))))
  refine tn (qt ?_)
  have K:=os hF
  subst K
  exact r1 wb
 refine fx 24 h10 ?_
 refine gn ?_
 refine gn ?_
 refine gn ?_
 refine gn ?_
 refine gn ?_
 refine aw xp (am ?_)
 refine gn ?_
 refine gn ?_
 refine gn ?_
 refine aw xp (am ?_)
 refine gn ?_
 refine gn ?_
 refine gn ?_
 refine gn ?_
 refine gn ?_
 refine aw xp (aa (qn (dz (dz (wq [0] ?_)))))
 refine tn (qt ?_)
 have K:=os hF
 subst K
 exact r1 wb
end Go.Proofs.Ytahlbjmafceoeaa
namespace Go.Proofs.Ytahlbjmafceoeaa.Agg
open E Go.RowKit Adr Cid
theorem lget_mid{α:Type}[Inhabited α](A:List α)(x:α)(B:List α):lget (A++x::B) (A.length:Int)=x:=by simp [lget]
theorem in_mid{α:Type}(A:List α)(x:α)(B:List α):(0:Int)≤(A.length:Int)∧(A.length:Int)<((A++x::B).length:Int):=by simp;omega
theorem wr_mid{α:Type}(A:List α)(x:α)(h:A.length≤1000000):wr .i64 ((A.length:Int)+1)=((A++[x]).length:Int):=by rw [wr_i64 (by omega) (by omega)];simp
theorem not_lt_end{α:Type}(A:List α):decide ((A.length:Int)<((A++[]).length:Int))=false:=by simp
def rgt(x:S_api_Prefix):Bool:=(cidr_Right x).getD false
theorem idx_loop(p:S_api_Prefix→Bool):∀ (B A:List S_api_Prefix),(∀ x∈A++B,aggregate_Ranges_1 x=some (!p x))→(A++B).length≤1000000 →
  (∃ (C:List S_api_Prefix) (y:S_api_Prefix) (D:List S_api_Prefix),B=C++y::D∧(∀ x∈C,p x=true)∧p y=false∧slices_IndexFunc_api_Prefix__aggregate_Ranges_1.l0 (A++B) (A.length:Int)=some (.ret ((A++C).length:Int))) ∨
  ((∀ x∈B,p x=true)∧slices_IndexFunc_api_Prefix__aggregate_Ranges_1.l0 (A++B) (A.length:Int)=some (.nx ()))
 | [],A,hp,hn=>by
  right
  refine ⟨fun x hx=>(by cases hx),?_⟩
  rw [slices_IndexFunc_api_Prefix__aggregate_Ranges_1.l0.eq_def,not_lt_end,if_neg Bool.false_ne_true]
 | b::B,A,hp,hn=>by
  rw [slices_IndexFunc_api_Prefix__aggregate_Ranges_1.l0.eq_def,decide_eq_true (in_mid A b B).2,if_pos rfl,if_pos (in_mid A b B),lget_mid,hp b (by simp),bindM_some]
  cases h:p b with
  | false =>
   left
   refine ⟨[],b,B,rfl,fun x hx=>(by cases hx),h,?_⟩
   rw [if_pos (show (!false)=true from rfl),List.append_nil]
  | true =>
   rw [if_neg (by decide),wr_mid A b (by simp at hn;omega)]
   have e:A++b::B=(A++[b])++B:=by simp
   rw [e]
   rcases idx_loop p B (A++[b]) (by rw [←e];exact hp) (by rw [←e];exact hn) with ⟨C,y,D,h1,h2,h3,h4⟩ | ⟨h1,h2⟩
   ·left
    refine ⟨b::C,y,D,by rw [h1];rfl,fun x hx=>?_,h3,by rw [h4];simp⟩
    rcases List.mem_cons.1 hx with rfl | hx
    ·exact h
    ·exact h2 x hx
   ·right
    refine ⟨fun x hx=>?_,h2⟩
    rcases List.mem_cons.1 hx with rfl | hx
    ·exact h
    ·exact h1 x hx
theorem del_loop(p:S_api_Prefix→Bool):∀ (B W G:List S_api_Prefix),(∀ x∈B,aggregate_Ranges_1 x=some (!p x))→(W++(G++B)).length≤1000000→0<G.length →
  ∃ R:List S_api_Prefix,slices_DeleteFunc_api_Prefix__aggregate_Ranges_1.l0 (W++(G++B)) (W.length:Int) ((W.length+G.length:Nat):Int)=some (W++(B.filter p)++R,((W++B.filter p).length:Int))∧(W++B.filter p++R).length=(W++(G++B)).length
 | [],W,G,hp,hn,hg=>by
  refine ⟨G,?_,by simp⟩
  rw [slices_DeleteFunc_api_Prefix__aggregate_Ranges_1.l0.eq_def,decide_eq_false (by simp),if_neg Bool.false_ne_true]
  simp
 | b::B,W,G,hp,hn,hg=>by
  obtain ⟨g,G,rfl⟩:∃ g G',G=g::G':=by
   cases G with
   | nil=>cases hg
   | cons g G=>exact ⟨g,G,rfl⟩
  have e1:W++(g::G++b::B)=(W++g::G)++b::B:=by simp
  have e2:((W.length+(g::G).length:Nat):Int)=((W++g::G).length:Int):=by simp
  have hl:(W++g::G).length≤1000000:=by simp at hn ⊢;omega
  have hwi:wr .i64 (((W++g::G).length:Int)+1)=((W.length+(g::G).length+1:Nat):Int):=by rw [wr_i64 (by omega) (by omega)];simp
  rw [slices_DeleteFunc_api_Prefix__aggregate_Ranges_1.l0.eq_def,e2,e1,decide_eq_true (in_mid _ b B).2,if_pos rfl,if_pos (in_mid _ b B),lget_mid,hp b (by simp),bindM_some,hwi]
  have hpB:∀ x∈B,aggregate_Ranges_1 x=some (!p x):=fun x hx=>hp x (List.mem_cons_of_mem _ hx)
  cases h:p b with
  | false =>
   rw [if_neg (by decide)]
   obtain ⟨R,h1,h2⟩:=del_loop p B W (g::G++[b]) hpB (by simp at hn ⊢;omega) (by simp)
   refine ⟨R,?_,?_⟩
   ·rw [List.filter_cons_of_neg (by rw [h];decide)]
    rw [←h1]
    have e4:W++g::G++b::B=W++(g::G++[b]++B):=by simp
    have e5:W.length+(g::G).length+1=W.length+(g::G++[b]).length:=by simp;omega
    rw [e4,e5]
   ·rw [List.filter_cons_of_neg (by rw [h];decide),h2];simp
  | true =>
   have hw1:(0:Int)≤(W.length:Int)∧(W.length:Int)<((W++g::G++b::B).length:Int):=by simp;omega
   have hset:lset (W++g::G++b::B) (W.length:Int) b=(W++[b])++((G++[b])++B):=by simp [lset]
   have hw2:wr .i64 ((W.length:Int)+1)=((W++[b]).length:Int):=by rw [wr_i64 (by simp at hn;omega) (by simp at hn;omega)];simp
   rw [if_pos (by decide),if_pos hw1,hset,hw2]
   obtain ⟨R,h1,h2⟩:=del_loop p B (W++[b]) (G++[b]) hpB (by simp at hn ⊢;omega) (by simp)
   refine ⟨R,?_,?_⟩
   ·rw [List.filter_cons_of_pos h]
    have e3:((W.length+(g::G).length+1:Nat):Int)=(((W++[b]).length+(G++[b]).length:Nat):Int):=by simp;omega
    rw [e3,h1];simp
   ·rw [List.filter_cons_of_pos h]
    simp at h2 ⊢;omega
theorem del_code(p:S_api_Prefix→Bool)(xs:List S_api_Prefix)(hp:∀ x∈xs,aggregate_Ranges_1 x=some (!p x))(hn:xs.length≤1000000):slices_DeleteFunc_api_Prefix__aggregate_Ranges_1 xs=some (xs.filter p):=by
 unfold slices_DeleteFunc_api_Prefix__aggregate_Ranges_1 slices_IndexFunc_api_Prefix__aggregate_Ranges_1
 rcases idx_loop p xs [] hp hn with ⟨C,y,D,h1,h2,h3,h4⟩ | ⟨h1,h2⟩
 ·rw [List.nil_append,List.nil_append] at h4
  have h4':slices_IndexFunc_api_Prefix__aggregate_Ranges_1.l0 xs 0=some (.ret (C.length:Int)):=h4
  rw [h4',bindM_some,bindM_some]
  have hne:((C.length:Int) == -1)=false:=by rw [beq_eq_false_iff_ne];omega
  have hCl:C.length<xs.length:=by rw [h1];simp
  have hwi:wr .i64 ((C.length:Int)+1)=((C.length+[y].length:Nat):Int):=by rw [wr_i64 (by omega) (by omega)];simp
  obtain ⟨R,h5,h6⟩:=del_loop p D C [y] (fun x hx=>hp x (by rw [h1];simp [hx])) (by rw [h1] at hn;simpa using hn) (by simp)
  have hfil:xs.filter p=C++D.filter p:=by
   rw [h1,List.filter_append,List.filter_cons_of_neg (by rw [h3];decide),List.filter_eq_self.2 h2]
  show (if ((C.length:Int) == -1)=true then _ else _)=_
  have e:xs=C++([y]++D):=by rw [h1];rfl
  rw [hne,if_neg Bool.false_ne_true,hwi]
  conv=>lhs;lhs;rw [e]
  rw [h5,bindM_some]
  have hq:(C++D.filter p).length≤(C++D.filter p++R).length:=by simp
  have htk:List.take (C++D.filter p).length (C++D.filter p++R)=C++D.filter p:=List.take_left ..
  show (if (0:Int)≤((C++D.filter p).length:Int)∧((C++D.filter p).length:Int)≤((C++D.filter p++R).length:Int)∧_ then _ else none)=_
  rw [if_pos ⟨by omega,by omega,Int.le_refl _⟩]
  show (if (0:Int)≤((C++D.filter p).length:Int)∧((C++D.filter p).length:Int)≤((List.take (Int.toNat ((C++D.filter p).length:Int)) (C++D.filter p++R)++_).length:Int) then some (List.take (Int.toNat ((C++D.filter p).length:Int)) (List.take (Int.toNat ((C++D.filter p).length:Int)) (C++D.filter p++R)++_)) else none)=_
  rw [Int.toNat_natCast,htk,if_pos ⟨by omega,by simp;omega⟩,List.take_left,hfil]
 ·have h2':slices_IndexFunc_api_Prefix__aggregate_Ranges_1.l0 xs 0=some (.nx ()):=h2
  rw [h2',bindM_some]
  show some xs=_
  rw [List.filter_eq_self.2 h1]
theorem lessP_prf{V W:Int}{N M k j:Nat}(hN:N<2 ^ wd V)(hM:M<2 ^ wd W):lessP (prf V N k) (prf W M j)=if V=W∧N=M then decide (((wd V-k:Nat):Int)<((wd W-j:Nat):Int)) else ltA V N W M:=by
 have h1:=(adr_less hN hM).1
 rw [less_key] at h1
 unfold lessP
 show (if adr V N=adr W M then decide (((wd V-k:Nat):Int)<((wd W-j:Nat):Int)) else lessK (adr V N) (adr W M))=_
 simp only [adr_inj hN hM]
 split
 ·rfl
 ·exact Option.some.inj h1
theorem less11{V W:Int}{N M k j:Nat}(hN:N<2 ^ wd V)(hM:M<2 ^ wd W):crawlwayref11_Less (prf V N k) (prf W M j)=some (lessP (prf V N k) (prf W M j)):=by
 rw [lessP_prf hN hM]
 unfold crawlwayref11_Less
 show (if (!decide (adr V N=adr W M))=true then (crawlwayref10_Less (adr V N) (adr W M)>>=fun t4=>some t4) else (some (decide (((wd V-k:Nat):Int)<((wd W-j:Nat):Int)))))=_
 rw [(adr_less hN hM).2,bindM_some]
 by_cases h:V=W∧N=M
 ·rw [if_pos h,decide_eq_true ((adr_inj hN hM).2 h),if_neg (by decide)]
 ·rw [if_neg h,decide_eq_false (mt (adr_inj hN hM).1 h),if_pos (by decide)]
structure Good (t:Int×Nat×Nat):Prop where
 fam:fam t.1
 lt:t.2.1<2 ^ wd t.1
 le:t.2.2≤wd t.1
 dvd:2 ^ t.2.2 ∣ t.2.1
def pf(t:Int×Nat×Nat):S_api_Prefix:=prf t.1 t.2.1 t.2.2
theorem okb_vb{l:List UInt8}(hl:l.length=16):okb (vb l)=true:=by
 unfold okb
 rw [vb_toList hl]
 unfold ob
 rw [List.all_map]
 refine List.all_eq_true.2 fun b _=>?_
 have:=b.toNat_lt
 simp;omega
theorem ok_prf(V:Int)(N k:Nat):okP (prf V N k):=okb_vb (bt_len V N)
theorem right_rows(xs:List S_api_Prefix)(hx:∀ x∈xs,ok_api_Prefix x):∃ p:S_api_Prefix→Bool,(∀ x∈xs,cidr_Right x=some (p x)∧crawlwayref11_Right x=some (p x))∧∃ T:List (Int×Nat×Nat),(∀ t∈T,Good t)∧xs.filter p=T.map pf:=by
 refine ⟨rgt,fun x h=>?_,?_⟩
 ·obtain ⟨V,l,b,rfl,hl,_⟩:=exists_mkP x (hx x h)
  unfold rgt
  rw [cright_code hl,cright_ref hl];exact ⟨rfl,rfl⟩
 ·have hall:∀ x∈xs.filter rgt,∃ t,Good t∧x=pf t:=fun x h=>by
   obtain ⟨h1,h2⟩:=List.mem_filter.1 h
   obtain ⟨V,l,b,rfl,hl,_⟩:=exists_mkP x (hx x h1)
   unfold rgt at h2
   rw [cright_code hl] at h2
   obtain ⟨hf,N,k,a1,a2,a3,a4⟩:=right_prf hl h2
   exact ⟨(V,N,k),⟨hf,a1,a2,a3⟩,a4⟩
  generalize xs.filter rgt=ys at hall
  induction ys with
  | nil=>exact ⟨[],fun t h=>(by cases h),rfl⟩
  | cons y ys ih =>
   obtain ⟨t,h1,h2⟩:=hall y (List.mem_cons_self ..)
   obtain ⟨T,h3,h4⟩:=ih fun x hx=>hall x (List.mem_cons_of_mem _ hx)
   refine ⟨t::T,fun u hu=>?_,by rw [List.map_cons,←h2,←h4]⟩
   rcases List.mem_cons.1 hu with rfl | hu
   ·exact h1
   ·exact h3 u hu
theorem ins_at{α:Type}{lt:α→α→Bool}{x:α}:∀ (A B:List α),(∀ y∈A,lt x y=false)→(∀ y∈B,lt x y=true)→ins lt x (A++B)=A++x::B
 | [],B,_,hb=>by
  cases B with
  | nil=>rfl
  | cons b B=>show (if lt x b=true then x::b::B else b::ins lt x B)=_;rw [if_pos (hb b (List.mem_cons_self ..))];rfl
 | a::A,B,ha,hb=>by
  show (if lt x a=true then x::a::(A++B) else a::ins lt x (A++B))=_
  rw [if_neg (by rw [ha a (List.mem_cons_self ..)];decide),ins_at A B (fun y hy=>ha y (List.mem_cons_of_mem _ hy)) hb];rfl
theorem pos_loop(xs:List S_api_Prefix)(i:Nat)(x:S_api_Prefix)(hi:(0:Int)≤(i:Int)∧(i:Int)<(xs.length:Int))(hx:lget xs (i:Int)=x)(kx:okP x)(out:List S_api_Prefix)(hout:∀ y∈out,okP y∧crawlwayref11_Less x y=some (lessP x y))(hup:Up lessP out)(hn:out.length≤1000000) :
  ∀ (A B:List S_api_Prefix),out=A++B→(∀ y∈B,lessP x y=true)→∃ A' B',out=A'++B'∧crawlwayref53_sorted.l1 xs out (i:Int) (A.length:Int)=some (A'.length:Int)∧ins lessP x out=A'++x::B':=by
 intro A
 induction hA:A.length generalizing A with
 | zero =>
  intro B h1 h2
  have:A=[]:=List.eq_nil_of_length_eq_zero hA
  subst this
  refine ⟨[],B,h1,?_,?_⟩
  ·rw [crawlwayref53_sorted.l1.eq_def,decide_eq_false (by simp),if_neg Bool.false_ne_true];rfl
  ·rw [h1];exact ins_at [] B (fun y hy=>by cases hy) h2
 | succ n ih =>
  intro B h1 h2
  obtain ⟨A',a,rfl⟩:∃ A' a,A=A'++[a]:=⟨A.dropLast,A.getLast (by intro e;subst e;cases hA),(List.dropLast_concat_getLast _).symm⟩
  have hA':A'.length=n:=by simpa using hA
  have e1:out=A'++a::B:=by rw [h1];simp
  have hn2:A'.length+1≤1000000:=by rw [e1] at hn;simp at hn;omega
  have hwi:wr .i64 (((n+1:Nat):Int)-1)=(A'.length:Int):=by rw [wr_i64 (by omega) (by omega)];omega
  have hin:(0:Int)≤(A'.length:Int)∧(A'.length:Int)<(out.length:Int):=by rw [e1];exact in_mid A' a B
  have hga:lget out (A'.length:Int)=a:=by rw [e1];exact lget_mid A' a B
  have ha:=hout a (by rw [e1];simp)
  rw [crawlwayref53_sorted.l1.eq_def,decide_eq_true (by omega),if_pos rfl,if_pos hi,hwi,if_pos hin,hx,hga,ha.2,bindM_some]
  cases hl:lessP x a with
  | true =>
   rw [if_pos rfl,hA']
   exact ih A' hA' (a::B) e1 fun y hy=>by
    rcases List.mem_cons.1 hy with rfl | hy
    ·exact hl
    ·exact h2 y hy
  | false =>
   rw [if_neg Bool.false_ne_true]
   refine ⟨A'++[a],B,h1,by simp [hA'],?_⟩
   rw [h1]
   refine ins_at (A'++[a]) B (fun y hy=>?_) h2
   rcases List.mem_append.1 hy with hy | hy
   ·have hya:lessP a y=false:=by
     have h3:Up lessP (A'++a::B):=e1▸hup
     exact (List.pairwise_append.1 h3).2.2 y hy a (List.mem_cons_self ..)
    exact lessP_swo.ntrans x a y kx ha.1 (hout y (by rw [e1];simp [hy])).1 hl hya
   ·rw [List.mem_singleton.1 hy];exact hl
def IsPf(x:S_api_Prefix):Prop:=∃ t,Good t∧x=pf t
theorem IsPf.ok{x:S_api_Prefix}(h:IsPf x):okP x:=by obtain ⟨t,_,rfl⟩:=h;exact ok_prf _ _ _
theorem IsPf.less{x y:S_api_Prefix}(hx:IsPf x)(hy:IsPf y):crawlwayref11_Less x y=some (lessP x y):=by
 obtain ⟨t,ht,rfl⟩:=hx
 obtain ⟨u,hu,rfl⟩:=hy
 exact less11 ht.lt hu.lt
theorem ins_mem{α:Type}{lt:α→α→Bool}{x y:α}{l:List α}(h:y∈ins lt x l):y=x∨y∈l:=List.mem_cons.1 ((ins_perm lt x l).mem_iff.1 h)
theorem sorted_loop(p:S_api_Prefix→Bool)(xs:List S_api_Prefix)(hn:xs.length≤100000):∀ (B A out:List S_api_Prefix),xs=A++B→(∀ x∈B,crawlwayref11_Right x=some (p x))→(∀ x∈B,p x=true→IsPf x)→(∀ y∈out,IsPf y)→Up lessP out→out.length≤A.length →
  crawlwayref53_sorted.l0 xs out (A.length:Int)=some ((B.filter p).foldl (fun o x=>ins lessP x o) out)
 | [],A,out,hx,hp,hk,ho,hu,hlen=>by
  rw [hx,crawlwayref53_sorted.l0.eq_def,not_lt_end,if_neg Bool.false_ne_true];rfl
 | b::B,A,out,hx,hp,hk,ho,hu,hlen=>by
  have hxl:A.length<xs.length:=by rw [hx];simp
  have hin:(0:Int)≤(A.length:Int)∧(A.length:Int)<(xs.length:Int):=by omega
  have hg:lget xs (A.length:Int)=b:=by rw [hx];exact lget_mid A b B
  have hwi:wr .i64 ((A.length:Int)+1)=((A++[b]).length:Int):=wr_mid A b (by omega)
  have hpB:=fun x hx=>hp x (List.mem_cons_of_mem b hx)
  have hkB:=fun x hx=>hk x (List.mem_cons_of_mem b hx)
  have hxB:xs=(A++[b])++B:=by rw [hx];simp
  have hAl:(A++[b]).length=A.length+1:=by simp
  rw [crawlwayref53_sorted.l0.eq_def,decide_eq_true hin.2,if_pos rfl,if_pos hin,hg,hp b (List.mem_cons_self ..),bindM_some]
  cases h:p b with
  | false =>
   rw [if_pos (by decide),hwi,List.filter_cons_of_neg (by rw [h];decide)]
   exact sorted_loop p xs hn B (A++[b]) out hxB hpB hkB ho hu (by omega)
  | true =>
   have hb:=hk b (List.mem_cons_self ..) h
   obtain ⟨A',B',e1,e2,e3⟩:=pos_loop xs A.length b hin hg hb.ok out (fun y hy=>⟨(ho y hy).ok,hb.less (ho y hy)⟩) hu (by omega) out [] (by simp) (fun y hy=>(by cases hy))
   have hl1:A'.length≤out.length:=by rw [e1];simp
   have hs1:lsub out 0 (A'.length:Int)=A':=by
    unfold lsub
    rw [Int.toNat_natCast,Int.toNat_zero,List.drop_zero,e1,List.take_left]
   have hs2:lsub out (A'.length:Int) (out.length:Int)=B':=by
    unfold lsub
    rw [Int.toNat_natCast,Int.toNat_natCast,List.take_length,e1,List.drop_left]
   have hBl:A'.length+B'.length=out.length:=by rw [e1];simp
   rw [if_neg (by decide),e2,bindM_some,if_pos ⟨Int.le_refl _,by omega,by omega⟩,hs1,if_pos (by simp;omega),if_pos hin,if_pos (by simp;omega),if_pos ⟨by omega,by omega,Int.le_refl _⟩,hs2,if_pos (by simp;omega),hwi]
   have e4:([]:List S_api_Prefix)++A'++[b]++B'=ins lessP b out:=by rw [e3];simp
   rw [e4,List.filter_cons_of_pos h,List.foldl_cons]
   refine sorted_loop p xs hn B (A++[b]) (ins lessP b out) hxB hpB hkB (fun y hy=>?_) (ins_up lessP_swo hb.ok (fun y hy=>(ho y hy).ok) hu) ?_
   ·rcases ins_mem hy with rfl | hy
    ·exact hb
    ·exact ho y hy
   ·have:=(ins_perm lessP b out).length_eq
    rw [List.length_cons] at this;omega
theorem sorted_ref(p:S_api_Prefix→Bool)(xs:List S_api_Prefix)(hn:xs.length≤100000)(hp:∀ x∈xs,crawlwayref11_Right x=some (p x))(hk:∀ x∈xs,p x=true→IsPf x):crawlwayref53_sorted xs=some (isort lessP (xs.filter p)):=by
 unfold crawlwayref53_sorted isort
 have:=sorted_loop p xs hn xs [] [] rfl hp hk (fun y hy=>(by cases hy)) List.Pairwise.nil (Nat.le_refl _)
 show (crawlwayref53_sorted.l0 xs [] (([]:List S_api_Prefix).length:Int)>>=_)=_
 rw [this];rfl
theorem sorted_code(p:S_api_Prefix→Bool)(xs:List S_api_Prefix)(hn:xs.length≤100000)(hp:∀ x∈xs,cidr_Right x=some (p x))(hk:∀ x∈xs,p x=true→IsPf x) :
  (slices_Clone_api_Prefix xs>>=fun t1=>slices_DeleteFunc_api_Prefix__aggregate_Ranges_1 t1>>=fun t4=>sort_Prefix t4)=some (isort lessP (xs.filter p)):=by
 unfold slices_Clone_api_Prefix
 rw [if_pos (by omega),bindM_some,del_code p xs (fun x hx=>by unfold aggregate_Ranges_1;rw [hp x hx];rfl) (by omega),bindM_some]
 unfold sort_Prefix
 have hl:(xs.filter p).length≤xs.length:=List.length_filter_le ..
 have hall:((xs.filter p).all fun x=>okb x.f_A.f_B)=true:=List.all_eq_true.2 fun x hx=>by
  obtain ⟨h1,h2⟩:=List.mem_filter.1 hx
  exact (hk x h1 h2).ok
 rw [if_pos ⟨hall,by omega⟩]
end Go.Proofs.Ytahlbjmafceoeaa.Agg
namespace Go.Proofs.Ytahlbjmafceoeaa.Agg
open E Go.RowKit Adr Cid
theorem allPf{l:List S_api_Prefix}(h:∀ x∈l,IsPf x):∃ T:List (Int×Nat×Nat),(∀ t∈T,Good t)∧l=T.map pf:=by
 induction l with
 | nil=>exact ⟨[],fun t h=>(by cases h),rfl⟩
 | cons y ys ih =>
  obtain ⟨t,h1,h2⟩:=h y (List.mem_cons_self ..)
  obtain ⟨T,h3,h4⟩:=ih fun x hx=>h x (List.mem_cons_of_mem _ hx)
  refine ⟨t::T,fun u hu=>?_,by rw [List.map_cons,←h2,←h4]⟩
  rcases List.mem_cons.1 hu with rfl | hu
  ·exact h1
  ·exact h3 u hu
abbrev Rg:=Int×Nat×Nat
structure GoodR (r:Rg):Prop where
 fam:fam r.1
 le:r.2.1≤r.2.2
 lt:r.2.2<2 ^ wd r.1
def toR(r:Rg):S_aggregate_Range:=rng r.1 r.2.1 r.2.2
def toV(r:Rg):Vector S_api_Addr 2:=vset (vset (Vector.replicate 2 zA:Vector S_api_Addr 2) 0 (adr r.1 r.2.1)) 1 (adr r.1 r.2.2)
theorem toV0(r:Rg):vget (toV r) 0=adr r.1 r.2.1:=rfl
theorem toV1(r:Rg):vget (toV r) 1=adr r.1 r.2.2:=rfl
theorem vset_toV(r:Rg)(m:Nat):vset (toV r) 1 (adr r.1 m)=toV (r.1,r.2.1,m):=by
 apply Vector.toList_inj.1
 unfold toV
 simp [vset_toList]
def endT(t:Int×Nat×Nat):Nat:=t.2.1+2 ^ t.2.2-1
theorem Good.end_lt{t:Int×Nat×Nat}(h:Good t):endT t<2 ^ wd t.1:=by
 obtain ⟨V,N,k⟩:=t
 obtain ⟨hf,hN,hk,hd⟩:=h
 simp only at hf hN hk hd
 unfold endT
 simp only
 obtain ⟨m,rfl⟩:=hd
 have hp:0<2 ^ k:=Nat.pow_pos (by omega)
 have e:2 ^ wd V=2 ^ k*2 ^ (wd V-k):=by rw [←Nat.pow_add];congr 1;omega
 rw [e] at hN ⊢
 have h1:=Nat.lt_of_mul_lt_mul_left hN
 have h3:2 ^ k*(m+1)≤2 ^ k*2 ^ (wd V-k):=Nat.mul_le_mul_left _ h1
 rw [Nat.mul_add,Nat.mul_one] at h3
 omega
theorem le_endT(t:Int×Nat×Nat):t.2.1≤endT t:=by
 have hp:0<2 ^ t.2.2:=Nat.pow_pos (by omega)
 unfold endT;omega
def stepR:List Rg→Int×Nat×Nat→List Rg
 | [],t=>[(t.1,t.2.1,endT t)]
 | r::rest,t=>if r.1=t.1∧t.2.1≤r.2.2+1 then (r.1,r.2.1,max r.2.2 (endT t))::rest else (t.1,t.2.1,endT t)::r::rest
theorem stepR_cons(r:Rg)(rest:List Rg)(t:Int×Nat×Nat):stepR (r::rest) t=if r.1=t.1∧t.2.1≤r.2.2+1 then (r.1,r.2.1,max r.2.2 (endT t))::rest else (t.1,t.2.1,endT t)::r::rest:=rfl
theorem stepR_good{rv:List Rg}{t:Int×Nat×Nat}(h:∀ r∈rv,GoodR r)(ht:Good t):∀ r∈stepR rv t,GoodR r:=by
 have hn:GoodR (t.1,t.2.1,endT t):=⟨ht.fam,le_endT t,ht.end_lt⟩
 cases rv with
 | nil=>intro r hr;rw [List.mem_singleton.1 hr];exact hn
 | cons r rest =>
  intro x hx
  rw [stepR_cons] at hx
  have hr:=h r (List.mem_cons_self ..)
  split at hx
  ·next hc =>
   rcases List.mem_cons.1 hx with rfl | hx
   ·refine ⟨hr.fam,Nat.le_trans hr.le (Nat.le_max_left ..),Nat.max_lt.2 ⟨hr.lt,?_⟩⟩
    show endT t<2 ^ wd r.1
    rw [hc.1];exact ht.end_lt
   ·exact h x (List.mem_cons_of_mem _ hx)
  ·rcases List.mem_cons.1 hx with rfl | hx
   ·exact hn
   ·exact h x hx
theorem stepR_len(rv:List Rg)(t:Int×Nat×Nat):(stepR rv t).length≤rv.length+1:=by
 cases rv with
 | nil=>simp [stepR]
 | cons r rest=>rw [stepR_cons];split<;>simp
theorem last_pf{t:Int×Nat×Nat}(h:Good t):aggregate_last (pf t)=some (adr t.1 (endT t))∧crawlwayref53_last (pf t)=some (adr t.1 (endT t)):=⟨last_prf h.fam h.le h.dvd,reflast_prf h.fam h.le h.dvd⟩
theorem nx_pair{V:Int}{N:Nat}:(nx V N).2=decide (N+1<2 ^ wd V)∧(N+1<2 ^ wd V→(nx V N).1=adr V (N+1)):=by
 unfold nx
 split
 ·next h=>exact ⟨(decide_eq_true h).symm,fun _=>rfl⟩
 ·next h=>exact ⟨(decide_eq_false h).symm,fun h'=>absurd h' h⟩
theorem joins_code{r:Rg}{t:Int×Nat×Nat}(hr:GoodR r)(ht:Good t):aggregate_joins (toR r) (pf t)=some (decide (r.1=t.1∧t.2.1≤r.2.2+1)):=by
 unfold aggregate_joins
 show (if (r.1 != t.1)=true then some false else (aggregate_Next (adr r.1 r.2.2)>>=fun t4=>if (!t4.2)=true then (some true) else (addr_Less t4.1 (adr t.1 t.2.1)>>=fun t7=>some (!t7))))=_
 by_cases h:r.1=t.1
 ·have:(r.1 != t.1)=false:=by simpa using h
  rw [this,if_neg Bool.false_ne_true,(next_adr hr.fam hr.lt).1,bindM_some,nx_pair.1]
  have htl:=ht.lt
  by_cases hl:r.2.2+1<2 ^ wd r.1
  ·rw [decide_eq_true hl,if_neg (by decide),nx_pair.2 hl,(adr_less hl ht.lt).1,bindM_some]
   unfold ltA
   rw [if_pos h]
   congr 1
   rw [Bool.eq_iff_iff];simp [h]
  ·rw [decide_eq_false hl,if_pos (by decide)]
   rw [←h] at htl
   congr 1
   exact (decide_eq_true ⟨h,by omega⟩).symm
 ·have:(r.1 != t.1)=true:=by simpa using h
  rw [this,if_pos rfl,decide_eq_false (fun e=>h e.1)]
theorem pf_A(t:Int×Nat×Nat):(pf t).f_A=adr t.1 t.2.1:=rfl
theorem rng_lit(V:Int)(N M:Nat):({ { ({ f_From:=({ f_V:=(0:Int),f_B:=(Vector.replicate 16 (0:Int):(Vector Int 16)) }:S_api_Addr),f_To:=({ f_V:=(0:Int),f_B:=(Vector.replicate 16 (0:Int):(Vector Int 16)) }:S_api_Addr) }:S_aggregate_Range) with f_From:=adr V N } with f_To:=adr V M }:S_aggregate_Range)=rng V N M:=rfl
theorem toR_To(r:Rg):(toR r).f_To=adr r.1 r.2.2:=rfl
theorem ranges_loop(S:List (Int×Nat×Nat))(hS:S.length≤100000):∀ (B A:List (Int×Nat×Nat)) (rv:List Rg),S=A++B→(∀ t∈B,Good t)→(∀ r∈rv,GoodR r)→rv.length≤A.length →
  aggregate_Ranges.l0 (S.map pf) (rv.reverse.map toR) (A.length:Int)=some ((B.foldl stepR rv).reverse.map toR)∧crawlwayref53_Ranges.l0 (S.map pf) (rv.reverse.map toV) (A.length:Int)=some ((B.foldl stepR rv).reverse.map toV)
 | [],A,rv,hx,hb,hr,hl=>by
  have hd:decide ((A.length:Int)<((S.map pf).length:Int))=false:=decide_eq_false (by rw [hx];simp)
  rw [aggregate_Ranges.l0.eq_def,crawlwayref53_Ranges.l0.eq_def,hd,if_neg Bool.false_ne_true,if_neg Bool.false_ne_true];exact ⟨rfl,rfl⟩
 | t::B,A,rv,hx,hb,hr,hl=>by
  have ht:=hb t (List.mem_cons_self ..)
  have hSl:S.length=A.length+(B.length+1):=by rw [hx];simp
  have hin:(0:Int)≤(A.length:Int)∧(A.length:Int)<((S.map pf).length:Int):=by rw [List.length_map];omega
  have hg:lget (S.map pf) (A.length:Int)=pf t:=by
   rw [hx,List.map_append,List.map_cons]
   have:=lget_mid (A.map pf) (pf t) (B.map pf)
   rwa [List.length_map] at this
  have hwi:wr .i64 ((A.length:Int)+1)=((A++[t]).length:Int):=wr_mid A t (by omega)
  have hxB:S=(A++[t])++B:=by rw [hx];simp
  have hAl:(A++[t]).length=A.length+1:=by simp
  obtain ⟨la,lr⟩:=last_pf ht
  obtain ⟨i1,i2⟩:=ranges_loop S hS B (A++[t]) (stepR rv t) hxB (fun u hu=>hb u (List.mem_cons_of_mem _ hu)) (stepR_good hr ht) (by have:=stepR_len rv t;omega)
  rw [List.foldl_cons,←i1,←i2]
  rw [aggregate_Ranges.l0.eq_def,crawlwayref53_Ranges.l0.eq_def,decide_eq_true hin.2,if_pos rfl,if_pos rfl,if_pos hin,hg,hwi]
  have hV2:∀ (V:Int) (N M:Nat),vset (vset (Vector.replicate 2 ({ f_V:=(0:Int),f_B:=(Vector.replicate 16 (0:Int):(Vector Int 16)) }:S_api_Addr):(Vector S_api_Addr 2)) 0 (adr V N)) 1 (adr V M)=toV (V,N,M):=fun _ _ _=>rfl
  cases rv with
  | nil =>
   have h0:((([]:List Rg).reverse.map toR).length:Int)=0:=rfl
   have h0':((([]:List Rg).reverse.map toV).length:Int)=0:=rfl
   rw [h0,h0',if_pos (by rfl),if_neg (by decide),if_pos hin,if_pos hin,la,lr,bindM_some,bindM_some,if_pos (by decide),if_pos (by decide),pf_A,rng_lit,hV2]
   exact ⟨rfl,rfl⟩
  | cons r rest =>
   have hrg:=hr r (List.mem_cons_self ..)
   have e1:(r::rest).reverse.map toR=rest.reverse.map toR++[toR r]:=by simp
   have e2:(r::rest).reverse.map toV=rest.reverse.map toV++[toV r]:=by simp
   have hL:(rest.reverse.map toR).length=rest.length:=by simp
   have hL2:(rest.reverse.map toV).length=rest.length:=by simp
   have hrl:rest.length+1≤A.length:=by simpa using hl
   have l1:((rest.reverse.map toR++[toR r]).length:Int)=((rest.length+1:Nat):Int):=by simp
   have l2:((rest.reverse.map toV++[toV r]).length:Int)=((rest.length+1:Nat):Int):=by simp
   have hw:wr .i64 (((rest.length+1:Nat):Int)-1)=(rest.length:Int):=by rw [wr_i64 (by omega) (by omega)];omega
   have hi:(0:Int)≤(rest.length:Int)∧(rest.length:Int)<((rest.length+1:Nat):Int):=by omega
   have g1:lget (rest.reverse.map toR++[toR r]) (rest.length:Int)=toR r:=by rw [←hL];exact lget_mid _ _ []
   have g2:lget (rest.reverse.map toV++[toV r]) (rest.length:Int)=toV r:=by rw [←hL2];exact lget_mid _ _ []
   have s1:∀ y,lset (rest.reverse.map toR++[toR r]) (rest.length:Int) y=rest.reverse.map toR++[y]:=fun y=>by rw [←hL];simp [lset]
   have s2:∀ y,lset (rest.reverse.map toV++[toV r]) (rest.length:Int) y=rest.reverse.map toV++[y]:=fun y=>by rw [←hL2];simp [lset]
   have hz:(((rest.length+1:Nat):Int)==0)=false:=by rw [beq_eq_false_iff_ne];omega
   have hz2:decide (((rest.length+1:Nat):Int)>0)=true:=decide_eq_true (by omega)
   have hn1:(rest.reverse.map toR++[toR r]).length+1≤100001:=by simp;omega
   have hn2:(rest.reverse.map toV++[toV r]).length+1≤100001:=by simp;omega
   have hV:(adr r.1 r.2.1).f_V=r.1:=rfl
   have hV3:(adr t.1 t.2.1).f_V=t.1:=rfl
   have hnew1:∀ (V:Int) (N M:Nat),(rest.reverse.map toR++[toR r])++[rng V N M]=((V,N,M)::r::rest).reverse.map toR:=fun V N M=>by simp [toR]
   have hnew2:∀ (V:Int) (N M:Nat),(rest.reverse.map toV++[toV r])++[toV (V,N,M)]=((V,N,M)::r::rest).reverse.map toV:=fun V N M=>by simp
   obtain ⟨n1,n2⟩:=next_adr hrg.fam hrg.lt
   rw [e1,e2,l1,l2,hz,if_neg Bool.false_ne_true,hw,if_pos hi,g1,joins_code hrg ht,bindM_some,hz2,if_pos rfl,if_pos hi,g2,toV1,n2,bindM_some,if_pos hi,if_pos hin,toV0,hV,pf_A,hV3]
   by_cases hj:r.1=t.1∧t.2.1≤r.2.2+1
   ·have hq:(r.1==t.1)=true:=by simpa using hj.1
    have hend:endT t<2 ^ wd r.1:=by rw [hj.1];exact ht.end_lt
    have hle1:=(adr_less hrg.lt (W:=t.1) ht.end_lt)
    have hlt:ltA r.1 r.2.2 t.1 (endT t)=decide (r.2.2<endT t):=by unfold ltA;rw [if_pos hj.1]
    have hst:stepR (r::rest) t=(r.1,r.2.1,max r.2.2 (endT t))::rest:=by rw [stepR_cons,if_pos hj]
    have hadr:adr t.1 (endT t)=adr r.1 (endT t):=by rw [hj.1]
    rw [decide_eq_true hj,if_neg (by decide),la,bindM_some,if_pos hi,toR_To,hle1.1,bindM_some,hlt,hq,if_pos rfl,nx_pair.1,hst]
    have hfin1:(if decide (r.2.2<endT t)=true then (if (0:Int)≤(rest.length:Int)∧(rest.length:Int)<((rest.length+1:Nat):Int) then aggregate_Ranges.l0 (S.map pf) (lset (rest.reverse.map toR++[toR r]) (rest.length:Int) { toR r with f_To:=adr t.1 (endT t) }) ((A++[t]).length:Int) else none) else aggregate_Ranges.l0 (S.map pf) (rest.reverse.map toR++[toR r]) ((A++[t]).length:Int))=aggregate_Ranges.l0 (S.map pf) (((r.1,r.2.1,max r.2.2 (endT t))::rest).reverse.map toR) ((A++[t]).length:Int):=by
     by_cases hc:r.2.2<endT t
     ·rw [decide_eq_true hc,if_pos rfl,if_pos hi,s1,hadr,Nat.max_eq_right (by omega)]
      congr 1
      simp [toR,rng]
     ·rw [decide_eq_false hc,if_neg Bool.false_ne_true,Nat.max_eq_left (by omega)]
      congr 1
      simp
    have hfin2:(if decide (r.2.2<endT t)=true then (if (0:Int)≤(A.length:Int)∧(A.length:Int)<((S.map pf).length:Int) then crawlwayref53_last (pf t)>>=fun t50=>if (0:Int)≤(rest.length:Int)∧(rest.length:Int)<((rest.length+1:Nat):Int) then crawlwayref53_Ranges.l0 (S.map pf) (lset (rest.reverse.map toV++[toV r]) (rest.length:Int) (vset (toV r) 1 t50)) ((A++[t]).length:Int) else none else none) else crawlwayref53_Ranges.l0 (S.map pf) (rest.reverse.map toV++[toV r]) ((A++[t]).length:Int))=crawlwayref53_Ranges.l0 (S.map pf) (((r.1,r.2.1,max r.2.2 (endT t))::rest).reverse.map toV) ((A++[t]).length:Int):=by
     by_cases hc:r.2.2<endT t
     ·rw [decide_eq_true hc,if_pos rfl,if_pos hin,lr,bindM_some,if_pos hi,hadr,vset_toV,s2,Nat.max_eq_right (by omega)]
      congr 1
      simp
     ·rw [decide_eq_false hc,if_neg Bool.false_ne_true,Nat.max_eq_left (by omega)]
      congr 1
      simp
    refine ⟨hfin1,?_⟩
    by_cases hl:r.2.2+1<2 ^ wd r.1
    ·have htl:=ht.lt
     rw [decide_eq_true hl,if_neg (by decide),if_pos hin,nx_pair.2 hl,(adr_less hl ht.lt).2,bindM_some]
     have:ltA r.1 (r.2.2+1) t.1 t.2.1=false:=by unfold ltA;rw [if_pos hj.1,decide_eq_false (by omega)]
     rw [this,if_pos (by decide),if_pos hi,if_pos hin,lr,bindM_some,hle1.2,bindM_some,hlt]
     rw [lr] at hfin2;exact hfin2
    ·rw [decide_eq_false hl,if_pos (by decide),if_pos hi,if_pos hin,lr,bindM_some,hle1.2,bindM_some,hlt]
     rw [lr] at hfin2;exact hfin2
   ·have hst:stepR (r::rest) t=(t.1,t.2.1,endT t)::r::rest:=by rw [stepR_cons,if_neg hj]
    rw [decide_eq_false hj,if_pos (by decide),la,bindM_some,if_pos (by omega),rng_lit,hnew1,hst]
    refine ⟨rfl,?_⟩
    by_cases hq:r.1=t.1
    ·have hq':(r.1==t.1)=true:=by simpa using hq
     have htl:=ht.lt
     have hl:r.2.2+1<2 ^ wd r.1:=by
      rw [hq]
      have:¬ t.2.1≤r.2.2+1:=fun h=>hj ⟨hq,h⟩
      omega
     rw [hq',if_pos rfl,nx_pair.1,decide_eq_true hl,if_neg (by decide),if_pos hin,nx_pair.2 hl,(adr_less hl ht.lt).2,bindM_some]
     have:ltA r.1 (r.2.2+1) t.1 t.2.1=true:=by unfold ltA;rw [if_pos hq];exact decide_eq_true (by have:¬ t.2.1≤r.2.2+1:=fun h=>hj ⟨hq,h⟩;omega)
     rw [this,if_neg (by decide),if_pos hin,if_pos hin,lr,bindM_some,if_pos (by omega),hV2,hnew2]
    ·have hq':(r.1==t.1)=false:=by simpa using hq
     rw [hq',if_neg Bool.false_ne_true,if_pos hin,if_pos hin,lr,bindM_some,if_pos (by omega),hV2,hnew2]
noncomputable def pcs(r:Rg):List (Nat×Nat):=if h:r.2.2<2 ^ wd r.1∧r.2.1≤r.2.2 then Classical.choose (cov_ex (w:=wd r.1) h.1 h.2) else []
theorem pcs_cov{r:Rg}(h:GoodR r):Cov (wd r.1) r.2.2 r.2.1 (pcs r)∧(pcs r).length≤257:=by
 have hw:=wd_le r.1
 unfold pcs
 rw [dif_pos ⟨h.lt,h.le⟩]
 have:=Classical.choose_spec (cov_ex (w:=wd r.1) h.lt h.le)
 exact ⟨this.1,by omega⟩
theorem pcs_code{r:Rg}(h:GoodR r):aggregate_Prefixes (toR r)=some (toP r.1 (pcs r))∧crawlwayref53_Prefixes (adr r.1 r.2.1) (adr r.1 r.2.2)=some (toP r.1 (pcs r)):=by
 obtain ⟨L,h1,_,h3,h4⟩:=prefixes_code h.fam h.lt h.le
 rw [h1.uniq (pcs_cov h).1] at h3 h4
 exact ⟨h3,h4⟩
noncomputable def covR(rs:List Rg):List S_api_Prefix:=rs.flatMap fun r=>toP r.1 (pcs r)
theorem covR_len:∀ {rs:List Rg},(∀ r∈rs,GoodR r)→(covR rs).length≤257*rs.length
 | [],_=>by simp [covR]
 | r::rs,h=>by
  have h1:=(pcs_cov (h r (List.mem_cons_self ..))).2
  have h2:=covR_len (rs:=rs) fun x hx=>h x (List.mem_cons_of_mem _ hx)
  unfold covR at h2 ⊢
  have h3:(toP r.1 (pcs r)).length=(pcs r).length:=by unfold toP;rw [List.length_map]
  rw [List.flatMap_cons,List.length_append,List.length_cons,h3]
  omega
theorem cover_loop(rs:List Rg)(hS:rs.length≤10000)(hr:∀ r∈rs,GoodR r):∀ (B A:List Rg),rs=A++B →
  aggregate_Cover.l0 (rs.map toR) (covR A) (A.length:Int)=some (covR rs)∧crawlwayref53_Cover.l0 (rs.map toV) (covR A) (A.length:Int)=some (covR rs)
 | [],A,hx=>by
  have hd:decide ((A.length:Int)<((rs.map toR).length:Int))=false:=decide_eq_false (by rw [hx];simp)
  have hd2:decide ((A.length:Int)<((rs.map toV).length:Int))=false:=decide_eq_false (by rw [hx];simp)
  rw [aggregate_Cover.l0.eq_def,crawlwayref53_Cover.l0.eq_def,hd,hd2,if_neg Bool.false_ne_true,if_neg Bool.false_ne_true]
  rw [List.append_nil] at hx
  rw [hx];exact ⟨rfl,rfl⟩
 | r::B,A,hx=>by
  have hrg:=hr r (by rw [hx];simp)
  have hSl:rs.length=A.length+(B.length+1):=by rw [hx];simp
  have hin:(0:Int)≤(A.length:Int)∧(A.length:Int)<((rs.map toR).length:Int):=by rw [List.length_map];omega
  have hin2:(0:Int)≤(A.length:Int)∧(A.length:Int)<((rs.map toV).length:Int):=by rw [List.length_map];omega
  have hg:lget (rs.map toR) (A.length:Int)=toR r:=by
   rw [hx,List.map_append,List.map_cons]
   have:=lget_mid (A.map toR) (toR r) (B.map toR)
   rwa [List.length_map] at this
  have hg2:lget (rs.map toV) (A.length:Int)=toV r:=by
   rw [hx,List.map_append,List.map_cons]
   have:=lget_mid (A.map toV) (toV r) (B.map toV)
   rwa [List.length_map] at this
  have hwi:wr .i64 ((A.length:Int)+1)=((A++[r]).length:Int):=wr_mid A r (by omega)
  obtain ⟨c1,c2⟩:=pcs_code hrg
  have hA:=covR_len (rs:=A) fun x h=>hr x (by rw [hx];simp [h])
  have hp:(toP r.1 (pcs r)).length≤257:=by unfold toP;rw [List.length_map];exact (pcs_cov hrg).2
  have hc:covR A++toP r.1 (pcs r)=covR (A++[r]):=by unfold covR;rw [List.flatMap_append];simp
  obtain ⟨i1,i2⟩:=cover_loop rs hS hr B (A++[r]) (by rw [hx];simp)
  rw [aggregate_Cover.l0.eq_def,crawlwayref53_Cover.l0.eq_def,decide_eq_true hin.2,decide_eq_true hin2.2,if_pos rfl,if_pos rfl,if_pos hin,if_pos hin2,if_pos hin2,hg,hg2,toV0,toV1,c1,c2,bindM_some,bindM_some,if_pos (by omega),if_pos (by omega),hc,hwi]
  exact ⟨i1,i2⟩
structure Res (xs:List S_api_Prefix) (S:List (Int×Nat×Nat)):Prop where
 good:∀ t∈S,Good t
 up:Up lessP (S.map pf)
 len:S.length≤xs.length
 mem:∀ x,x∈S.map pf↔x∈xs∧crawlwayref11_Right x=some true
 perm:(∀ x∈xs,crawlwayref11_Right x=some true)→(S.map pf).Perm xs
 srt:crawlwayref53_sorted xs=some (S.map pf)
 rs:aggregate_Ranges xs=some ((S.foldl stepR []).reverse.map toR)
 rr:crawlwayref53_Ranges xs=some ((S.foldl stepR []).reverse.map toV)
 cs:aggregate_Cover xs=some (covR (S.foldl stepR []).reverse)
 cr:crawlwayref53_Cover xs=some (covR (S.foldl stepR []).reverse)
theorem fold_good:∀ (S:List (Int×Nat×Nat)) (rv:List Rg),(∀ t∈S,Good t)→(∀ r∈rv,GoodR r)→(∀ r∈S.foldl stepR rv,GoodR r)∧(S.foldl stepR rv).length≤rv.length+S.length
 | [],rv,_,hr=>⟨hr,by simp⟩
 | t::S,rv,hs,hr=>by
  obtain ⟨h1,h2⟩:=fold_good S (stepR rv t) (fun u hu=>hs u (List.mem_cons_of_mem _ hu)) (stepR_good hr (hs t (List.mem_cons_self ..)))
  have:=stepR_len rv t
  rw [List.foldl_cons]
  exact ⟨h1,by simp;omega⟩
theorem res_of(xs:List S_api_Prefix)(hx:∀ x∈xs,ok_api_Prefix x)(hn:xs.length≤10000):∃ S,Res xs S:=by
 obtain ⟨p,hp,T,hT,hfT⟩:=right_rows xs hx
 have hk:∀ x∈xs,p x=true→IsPf x:=fun x h1 h2=>by
  have:x∈T.map pf:=hfT▸List.mem_filter.2 ⟨h1,h2⟩
  obtain ⟨t,ht,rfl⟩:=List.mem_map.1 this
  exact ⟨t,hT t ht,rfl⟩
 have hmem:∀ x,x∈isort lessP (xs.filter p)↔x∈xs∧p x=true:=fun x=>by rw [(isort_perm _ _).mem_iff,List.mem_filter]
 obtain ⟨S,hS,hSe⟩:=allPf (l:=isort lessP (xs.filter p)) fun x h=>hk x ((hmem x).1 h).1 ((hmem x).1 h).2
 have hup:Up lessP (S.map pf):=by
  rw [←hSe]
  exact isort_up lessP_swo _ fun y hy=>by
   obtain ⟨h1,h2⟩:=List.mem_filter.1 hy
   exact (hk y h1 h2).ok
 have hl:S.length≤xs.length:=by
  have h1:=congrArg List.length hSe
  rw [isort_length,List.length_map] at h1
  rw [←h1];exact List.length_filter_le ..
 have hsr:=sorted_ref p xs (by omega) (fun x h=>(hp x h).2) hk
 have hsc:=sorted_code p xs (by omega) (fun x h=>(hp x h).1) hk
 rw [hSe] at hsr hsc
 obtain ⟨r1,r2⟩:=ranges_loop S (by omega) S [] [] rfl hS (fun r h=>(by cases h)) (Nat.le_refl _)
 have hR:aggregate_Ranges xs=some ((S.foldl stepR []).reverse.map toR):=by
  unfold aggregate_Ranges
  obtain ⟨a,ha,h1⟩:=of_bindM hsc
  obtain ⟨b,hb,h2⟩:=of_bindM h1
  rw [ha,bindM_some,hb,bindM_some,h2,bindM_some]
  show (aggregate_Ranges.l0 (S.map pf) (([]:List Rg).reverse.map toR) (([]:List (Int×Nat×Nat)).length:Int)>>=_)=_
  rw [r1];rfl
 have hR2:crawlwayref53_Ranges xs=some ((S.foldl stepR []).reverse.map toV):=by
  unfold crawlwayref53_Ranges
  rw [hsr,bindM_some]
  show (crawlwayref53_Ranges.l0 (S.map pf) (([]:List Rg).reverse.map toV) (([]:List (Int×Nat×Nat)).length:Int)>>=_)=_
  rw [r2];rfl
 obtain ⟨g1,g2⟩:=fold_good S [] hS fun r h=>(by cases h)
 have g3:(S.foldl stepR []).reverse.length≤10000:=by rw [List.length_reverse];simp at g2;omega
 obtain ⟨c1,c2⟩:=cover_loop (S.foldl stepR []).reverse g3 (fun r h=>g1 r (List.mem_reverse.1 h)) (S.foldl stepR []).reverse [] rfl
 refine ⟨S,hS,hup,hl,fun x=>?_,fun h=>?_,hsr,hR,hR2,?_,?_⟩
 ·rw [←hSe,hmem]
  constructor
  ·rintro ⟨h1,h2⟩;exact ⟨h1,by rw [(hp x h1).2,h2]⟩
  ·rintro ⟨h1,h2⟩;exact ⟨h1,by rw [(hp x h1).2] at h2;exact Option.some.inj h2⟩
 ·rw [←hSe]
  refine (isort_perm _ _).trans ?_
  rw [List.filter_eq_self.2 fun x hx=>Option.some.inj ((hp x hx).2.symm.trans (h x hx))]
 ·unfold aggregate_Cover
  rw [hR,bindM_some]
  show (aggregate_Cover.l0 _ (covR []) (([]:List Rg).length:Int)>>=_)=_
  rw [c1];rfl
 ·unfold crawlwayref53_Cover
  rw [hR2,bindM_some]
  show (crawlwayref53_Cover.l0 _ (covR []) (([]:List Rg).length:Int)>>=_)=_
  rw [c2];rfl
end Go.Proofs.Ytahlbjmafceoeaa.Agg
namespace Go.Proofs.Ytahlbjmafceoeaa.Agg
open E Go.RowKit Adr Cid
theorem isG_of{w N M k:Nat}(h1:k≤w)(h2:2 ^ k ∣ N)(h3:N+2 ^ k≤M+1)(h4:¬ 2 ^ (k+1) ∣ N∨M+1<N+2 ^ (k+1)):IsG w N M k:=by
 refine ⟨h1,h2,h3,fun j hj hd hf=>?_⟩
 rcases Nat.lt_or_ge k j with h | h
 ·exfalso
  rcases h4 with h4 | h4
  ·exact h4 (Nat.dvd_trans (Nat.pow_dvd_pow 2 h) hd)
  ·have:=Nat.pow_le_pow_right (show 0<2 by omega) (show k+1≤j from h)
   omega
 ·exact h
theorem pf_inj{t u:Int×Nat×Nat}(ht:Good t)(hu:Good u)(h:pf t=pf u):t=u:=by
 obtain ⟨V,N,k⟩:=t
 obtain ⟨W,M,j⟩:=u
 have h1:adr V N=adr W M:=congrArg S_api_Prefix.f_A h
 have h2:((wd V-k:Nat):Int)=((wd W-j:Nat):Int):=congrArg S_api_Prefix.f_Bits h
 obtain ⟨rfl,rfl⟩:=(adr_inj ht.lt hu.lt).1 h1
 have h3:k≤wd V:=ht.le
 have h4:j≤wd V:=hu.le
 simp only at h2
 have:k=j:=by omega
 rw [this]
theorem ok_pf{t:Int×Nat×Nat}(h:Good t):ok_api_Prefix (pf t):=by
 obtain ⟨V,N,k⟩:=t
 have hw:=wd_le V
 refine ⟨⟨?_,?_⟩,?_⟩
 ·rcases h.fam with e | e
  ·show (Lit.int .i64 V).wf=true
   have e:V=4:=e
   rw [e];rfl
  ·show (Lit.int .i64 V).wf=true
   have e:V=6:=e
   rw [e];rfl
 ·intro x hx
  have hx:x∈(vb (bt V N)).toList:=hx
  rw [vb_toList (bt_len V N)] at hx
  obtain ⟨b,_,rfl⟩:=List.mem_map.1 hx
  have:=b.toNat_lt
  simp [Lit.wf,IntKind.min,IntKind.max,IntKind.signed,IntKind.bits]
  omega
 ·show (Lit.int .i64 ((wd V-k:Nat):Int)).wf=true
  simp [Lit.wf,IntKind.min,IntKind.max,IntKind.signed,IntKind.bits]
  omega
theorem pfx1:aggregate_Prefixes (rng 4 167772161 167772164)=some (toP 4 [(167772161,0),(167772162,1),(167772164,0)]):=by
 obtain ⟨L,h1,_,h3,_⟩:=prefixes_code (V:=4) (.inl rfl) (N:=167772161) (M:=167772164) (by decide) (by decide)
 have hc:Cov (wd 4) 167772164 167772161 [(167772161,0),(167772162,1),(167772164,0)] :=
  .step (isG_of (by decide) (by decide) (by decide) (.inl (by decide))) (by decide) (.step (isG_of (by decide) (by decide) (by decide) (.inl (by decide))) (by decide) (.last (isG_of (by decide) (by decide) (by decide) (.inr (by decide))) (by decide)))
 rw [h1.uniq hc] at h3
 exact h3
theorem e1_pf:crawlwaylaw53_alive.e1=pf (4,167772160,23):=by decide +kernel
theorem e0_pf:crawlwaylaw53_alive.e0=pf (4,176160768,23):=by decide +kernel
theorem g0:Good (4,167772160,23):=⟨.inl rfl,by decide,by decide,by decide⟩
theorem g1:Good (4,176160768,23):=⟨.inl rfl,by decide,by decide,by decide⟩
theorem lessP01:lessP (pf (4,167772160,23)) (pf (4,176160768,23))=true:=by
 show lessP (prf 4 167772160 23) (prf 4 176160768 23)=true
 rw [lessP_prf g0.lt g1.lt];decide
theorem cov1:aggregate_Cover [crawlwaylaw53_alive.e0,crawlwaylaw53_alive.e1]=some (toP 4 [(167772160,24)]):=by
 rw [e0_pf,e1_pf]
 obtain ⟨S,h⟩:=res_of [pf (4,176160768,23),pf (4,167772160,23)] (fun x hx=>by
  rcases List.mem_cons.1 hx with rfl | hx
  ·exact ok_pf g1
  ·rw [List.mem_singleton.1 hx];exact ok_pf g0) (by simp)
 have r0:=(prf_right g0.fam g0.le g0.dvd).2
 have r1:=(prf_right g1.fam g1.le g1.dvd).2
 have m0:=(h.mem (pf (4,167772160,23))).2 ⟨by simp,r0⟩
 have m1:=(h.mem (pf (4,176160768,23))).2 ⟨by simp,r1⟩
 have hne:pf (4,167772160,23)≠pf (4,176160768,23):=fun e=>by
  have:=pf_inj g0 g1 e
  cases this
 have hS:S=[(4,167772160,23),(4,176160768,23)]:=by
  have hl:=h.len
  obtain ⟨t,ht,et⟩:=List.mem_map.1 m0
  obtain ⟨u,hu,eu⟩:=List.mem_map.1 m1
  have et:=pf_inj (h.good t ht) g0 et
  have eu:=pf_inj (h.good u hu) g1 eu
  subst et;subst eu
  match S,hl,ht,hu,h.up with
  | [],_,ht,_,_=>cases ht
  | [x],_,ht,hu,_ =>
   have e1:=List.mem_singleton.1 ht
   have e2:=List.mem_singleton.1 hu
   rw [←e2] at e1
   exact absurd (congrArg pf e1) hne
  | [x,y],_,ht,hu,hup =>
   have hup:lessP (pf y) (pf x)=false:=(List.pairwise_cons.1 hup).1 (pf y) (by simp)
   rcases List.mem_cons.1 ht with e1 | e1
   ·rcases List.mem_cons.1 hu with e2 | e2
    ·rw [←e2] at e1
     exact absurd (congrArg pf e1) hne
    ·rw [←e1,←List.mem_singleton.1 e2]
   ·rcases List.mem_cons.1 hu with e2 | e2
    ·rw [←List.mem_singleton.1 e1,←e2,lessP01] at hup
     cases hup
    ·have e1:=List.mem_singleton.1 e1
     rw [←List.mem_singleton.1 e2] at e1
     exact absurd (congrArg pf e1) hne
  | _::_::_::_,hl,_,_,_=>simp at hl
 have hf:S.foldl stepR []=[((4:Int),(167772160:Nat),(184549375:Nat))]:=by rw [hS];decide
 have hg:GoodR ((4:Int),(167772160:Nat),(184549375:Nat)):=⟨.inl rfl,by decide,by decide⟩
 have hc:Cov (wd 4) 184549375 167772160 [(167772160,24)]:=.last (isG_of (by decide) (by decide) (by decide) (.inr (by decide))) (by decide)
 have hp:pcs ((4:Int),(167772160:Nat),(184549375:Nat))=[(167772160,24)]:=(pcs_cov hg).1.uniq hc
 rw [h.cs,hf,List.reverse_singleton]
 unfold covR
 rw [List.flatMap_cons,hp];rfl
theorem alive53:crawlwaylaw53_alive=some true:=by
 unfold crawlwaylaw53_alive
 have hr:({ { ({ f_From:=({ f_V:=(0:Int),f_B:=(Vector.replicate 16 (0:Int):(Vector Int 16)) }:S_api_Addr),f_To:=({ f_V:=(0:Int),f_B:=(Vector.replicate 16 (0:Int):(Vector Int 16)) }:S_api_Addr) }:S_aggregate_Range) with f_From:={ { ({ f_V:=(0:Int),f_B:=(Vector.replicate 16 (0:Int):(Vector Int 16)) }:S_api_Addr) with f_V:=4 } with f_B:=vset (vset (vset (vset (Vector.replicate 16 (0:Int):(Vector Int 16)) 0 10) 1 0) 2 0) 3 1 } } with f_To:={ { ({ f_V:=(0:Int),f_B:=(Vector.replicate 16 (0:Int):(Vector Int 16)) }:S_api_Addr) with f_V:=4 } with f_B:=vset (vset (vset (vset (Vector.replicate 16 (0:Int):(Vector Int 16)) 0 10) 1 0) 2 0) 3 4 } }:S_aggregate_Range)=rng 4 167772161 167772164:=by decide +kernel
 rw [hr,pfx1,bindM_some,cov1,bindM_some]
 decide +kernel
theorem alive_then53:(crawlwaylaw53_alive>>=fun t=>some t)=some true:=by rw [alive53];rfl
theorem same11_loop(L:List S_api_Prefix)(hn:L.length≤1000000):∀ (k i:Nat),i+k=L.length→crawlwayref11_Same.l0 L L (i:Int)=some (.nx ())
 | 0,i,h=>by rw [crawlwayref11_Same.l0.eq_def,decide_eq_false (by omega),if_neg Bool.false_ne_true]
 | k+1,i,h=>by
  rw [crawlwayref11_Same.l0.eq_def,decide_eq_true (by omega),if_pos rfl,if_pos (by omega),if_pos (by omega),if_neg (by simp),wr_i64 (by omega) (by omega)]
  exact same11_loop L hn k (i+1) (by omega)
theorem same11(L:List S_api_Prefix)(hn:L.length≤1000000):crawlwayref11_Same L L=some true:=by
 unfold crawlwayref11_Same
 rw [if_neg (by simp),show (0:Int)=((0:Nat):Int) from rfl,same11_loop L hn L.length 0 (by omega)];rfl
end Go.Proofs.Ytahlbjmafceoeaa.Agg
namespace Go.Proofs.Ytahlbjmafceoeaa.Agg
open E Go.RowKit Adr Cid
def LeT(t u:Int×Nat×Nat):Prop:=t.1≤u.1∧(t.1=u.1→t.2.1≤u.2.1)
theorem leT_of{t u:Int×Nat×Nat}(ht:Good t)(hu:Good u)(h:lessP (pf u) (pf t)=false):LeT t u:=by
 unfold pf at h
 rw [lessP_prf hu.lt ht.lt] at h
 by_cases e:u.1=t.1∧u.2.1=t.2.1
 ·exact ⟨by omega,fun _=>by omega⟩
 ·rw [if_neg e] at h
  unfold ltA at h
  by_cases e1:u.1=t.1
  ·rw [if_pos e1] at h
   have:=of_decide_eq_false h
   exact ⟨by omega,fun _=>by omega⟩
  ·rw [if_neg e1] at h
   have:=of_decide_eq_false h
   exact ⟨by omega,fun e2=>by omega⟩
def sp(r q:Rg):Prop:=r.1<q.1∨(r.1=q.1∧r.2.2+1<q.2.1)
theorem lessP_anti{t u:Int×Nat×Nat}(ht:Good t)(hu:Good u)(h1:lessP (pf t) (pf u)=false)(h2:lessP (pf u) (pf t)=false):t=u:=by
 have a:=leT_of ht hu h2
 have b:=leT_of hu ht h1
 unfold LeT at a b
 obtain ⟨V,N,k⟩:=t
 obtain ⟨W,M,j⟩:=u
 simp only at a b
 have e1:V=W:=by omega
 subst e1
 have e2:N=M:=by omega
 subst e2
 unfold pf at h1 h2
 rw [lessP_prf ht.lt hu.lt,if_pos ⟨rfl,rfl⟩] at h1
 rw [lessP_prf hu.lt ht.lt,if_pos ⟨rfl,rfl⟩] at h2
 have h3:=of_decide_eq_false h1
 have h4:=of_decide_eq_false h2
 have h5:k≤wd V:=ht.le
 have h6:j≤wd V:=hu.le
 simp only at h3 h4
 have:k=j:=by omega
 rw [this]
end Go.Proofs.Ytahlbjmafceoeaa.Agg
namespace Go.Proofs.Ytahlbjmafceoeaa
open E Go.RowKit _root_.Go.Proofs.Try
def crawlwaylaw53_AggregateRanges.l0(x1:S_api_Addr)(t4:List S_api_Prefix)(i20:Int)(i21:S_api_Addr):Option (Ctl (Bool) (Unit)) :=
 if (decide (i20<(t4.length:Int)))=true then (if (0:Int)≤i20∧i20<(t4.length:Int) then crawlwayref53_Of (lget t4 i20)>>=fun t27=>if (0:Int)≤i20∧i20<(t4.length:Int) then crawlwayref11_Right (lget t4 i20)>>=fun t34=>if (!t34)=true then (some (.ret false)) else (if (!decide (t27.1=i21))=true then (some (.ret false)) else (if (i20==wr .i64 ((t4.length:Int)-1))=true then (if (!decide (t27.2=x1))=true then (some (.ret false)) else (if (decide (i20>0))=true then (if (0:Int)≤wr .i64 (i20-1)∧wr .i64 (i20-1)<(t4.length:Int) then if (0:Int)≤i20∧i20<(t4.length:Int) then if ((lget t4 (wr .i64 (i20-1))).f_Bits==(lget t4 i20).f_Bits)=true then (if (0:Int)≤i20∧i20<(t4.length:Int) then if (decide ((lget t4 i20).f_Bits>0))=true then (if (0:Int)≤wr .i64 (i20-1)∧wr .i64 (i20-1)<(t4.length:Int) then if (0:Int)≤i20∧i20<(t4.length:Int) then crawlwayref10_Mask ((lget t4 (wr .i64 (i20-1))).f_A) (wr .i64 (((lget t4 i20).f_Bits)-1))>>=fun t62=>if (0:Int)≤i20∧i20<(t4.length:Int) then if (0:Int)≤i20∧i20<(t4.length:Int) then crawlwayref10_Mask ((lget t4 i20).f_A) (wr .i64 (((lget t4 i20).f_Bits)-1))>>=fun t71=>if (decide (t62=t71))=true then (some (.ret false)) else (crawlwayref53_Next t27.2>>=fun t74=>crawlwaylaw53_AggregateRanges.l0 x1 t4 (wr .i64 (i20+1)) t74.1) else none else none else none else none) else (crawlwayref53_Next t27.2>>=fun t76=>crawlwaylaw53_AggregateRanges.l0 x1 t4 (wr .i64 (i20+1)) t76.1) else none) else (crawlwayref53_Next t27.2>>=fun t78=>crawlwaylaw53_AggregateRanges.l0 x1 t4 (wr .i64 (i20+1)) t78.1) else none else none) else (crawlwayref53_Next t27.2>>=fun t80=>crawlwaylaw53_AggregateRanges.l0 x1 t4 (wr .i64 (i20+1)) t80.1))) else (if (decide (i20>0))=true then (if (0:Int)≤wr .i64 (i20-1)∧wr .i64 (i20-1)<(t4.length:Int) then if (0:Int)≤i20∧i20<(t4.length:Int) then if ((lget t4 (wr .i64 (i20-1))).f_Bits==(lget t4 i20).f_Bits)=true then (if (0:Int)≤i20∧i20<(t4.length:Int) then if (decide ((lget t4 i20).f_Bits>0))=true then (if (0:Int)≤wr .i64 (i20-1)∧wr .i64 (i20-1)<(t4.length:Int) then if (0:Int)≤i20∧i20<(t4.length:Int) then crawlwayref10_Mask ((lget t4 (wr .i64 (i20-1))).f_A) (wr .i64 (((lget t4 i20).f_Bits)-1))>>=fun t104=>if (0:Int)≤i20∧i20<(t4.length:Int) then if (0:Int)≤i20∧i20<(t4.length:Int) then crawlwayref10_Mask ((lget t4 i20).f_A) (wr .i64 (((lget t4 i20).f_Bits)-1))>>=fun t113=>if (decide (t104=t113))=true then (some (.ret false)) else (crawlwayref53_Next t27.2>>=fun t116=>crawlwaylaw53_AggregateRanges.l0 x1 t4 (wr .i64 (i20+1)) t116.1) else none else none else none else none) else (crawlwayref53_Next t27.2>>=fun t118=>crawlwaylaw53_AggregateRanges.l0 x1 t4 (wr .i64 (i20+1)) t118.1) else none) else (crawlwayref53_Next t27.2>>=fun t120=>crawlwaylaw53_AggregateRanges.l0 x1 t4 (wr .i64 (i20+1)) t120.1) else none else none) else (crawlwayref53_Next t27.2>>=fun t122=>crawlwaylaw53_AggregateRanges.l0 x1 t4 (wr .i64 (i20+1)) t122.1)))) else none else none) else (some (.nx ()))
 partial_fixpoint
def crawlwaylaw53_AggregateRanges(x0:S_api_Addr)(x1:S_api_Addr):Option (Bool) :=
 aggregate_Prefixes ({ { ({ f_From:=({ f_V:=(0:Int),f_B:=(Vector.replicate 16 (0:Int):(Vector Int 16)) }:S_api_Addr),f_To:=({ f_V:=(0:Int),f_B:=(Vector.replicate 16 (0:Int):(Vector Int 16)) }:S_api_Addr) }:S_aggregate_Range) with f_From:=x0 } with f_To:=x1 })>>=fun t4=>crawlwayref53_Right x0 x1>>=fun t7=>aggregate_Right ({ { ({ f_From:=({ f_V:=(0:Int),f_B:=(Vector.replicate 16 (0:Int):(Vector Int 16)) }:S_api_Addr),f_To:=({ f_V:=(0:Int),f_B:=(Vector.replicate 16 (0:Int):(Vector Int 16)) }:S_api_Addr) }:S_aggregate_Range) with f_From:=x0 } with f_To:=x1 })>>=fun t8=>if (t8 != t7)=true then (some false) else (crawlwayref53_Prefixes x0 x1>>=fun t10=>crawlwayref11_Same t4 t10>>=fun t13=>if (!t13)=true then (some false) else (if (!t7)=true then (if ((t4.length:Int)==0)=true then (crawlwaylaw53_alive>>=fun t17=>some t17) else (some false)) else (crawlwaylaw53_AggregateRanges.l0 x1 t4 0 x0>>=fun q19=>match q19 with | .ret r'=>some r' | .nx sq19=>(if (decide ((t4.length:Int)>0))=true then (crawlwaylaw53_alive>>=fun t124=>some t124) else (some false)))))
set_option maxRecDepth 20000 in
set_option maxHeartbeats 3200000 in
theorem crawlwaylaw53_AggregateRanges_ok(x0:S_api_Addr)(x1:S_api_Addr)(r:Bool)(hF:crawlwaylaw53_AggregateRanges x0 x1=some r)(w:World) :
    Calls Try.prog 3 #[.agg (Cd.cs c_api_Addr x0).toArray,.agg (Cd.cs c_api_Addr x1).toArray] w (fun e w'=>e=.returned (.bool r)∧Below w.heap.size w w'):=by
 unfold crawlwaylaw53_AggregateRanges at hF
 refine ce (l:=[.agg (Cd.cs c_api_Addr x0).toArray,.agg (Cd.cs c_api_Addr x1).toArray]) func3 rfl rfl ?_
 refine at_start ?_
 refine sr ?_
 refine at_box (cs:=Cd.cs c_api_Addr x0) rfl rfl rfl ?_
 intro b1
 refine at_box (cs:=Cd.cs c_api_Addr x1) rfl rfl rfl ?_
 intro b2
 refine aa (ns ?_)
 refine aw (r_load_aggc (c:=c_api_Addr) (z:=x0) isAgg24 sizeOf24 rfl (lens_cell (.s .z) lw)) ?_
 refine aw (r_load_aggc (c:=c_api_Addr) (z:=x1) isAgg24 sizeOf24 rfl (lens_cell .z lw)) ?_
 refine aw (r_build_struct (zs:=Cd.cs c_aggregate_Range zv3) (cs:=Cd.cs c_aggregate_Range ({ { zv3 with f_From:=x0 } with f_To:=x1 })) underlying26 zeroValue26 rfl (places_aggregate_Range_26) rfl (fill_step (c:=c_api_Addr) (z:=x0) rfl (c_aggregate_Range_f_From zv3) rfl (fill_step (c:=c_api_Addr) (z:=x1) rfl (c_aggregate_Range_f_To ({ zv3 with f_From:=x0 })) rfl rfl))) ?_
 refine al (cs:=Cd.cs c_aggregate_Range zv3) zeroValue26 ?_
 intro b3
 refine at_store (c:=c_aggregate_Range) (z:={ { zv3 with f_From:=x0 } with f_To:=x1 }) .z lw sizeOf26 rfl rfl rfl ?_
 refine ns ?_
 refine aw (r_load_aggc (c:=c_aggregate_Range) (z:={ { zv3 with f_From:=x0 } with f_To:=x1 }) isAgg26 sizeOf26 rfl (lens_cell .z lw)) ?_
 obtain ⟨t4,ht4,hF⟩:=bM hF
 refine at_callO (c:=c_api_Prefix) (e:=37) (ys:=t4) (V:=fun p cap=>.slice p t4.length cap) func8 rfl (by kernel_rfl) rfl rfl (fun w hw=>aggregate_Prefixes_ok _ _ ht4 w) ?_
 intro p5 c6
 refine aa (ns ?_)
 refine aw (r_load_aggc (c:=c_api_Addr) (z:=x0) isAgg24 sizeOf24 rfl (lens_cell (.s (.s (.s .z))) lw)) ?_
 refine aw (r_load_aggc (c:=c_api_Addr) (z:=x1) isAgg24 sizeOf24 rfl (lens_cell (.s (.s .z)) lw)) ?_
 obtain ⟨t7,ht7,hF⟩:=bM hF
 refine cB func9 rfl (fun w hw=>crawlwayref53_Right_ok _ _ _ ht7 w) ?_
 refine aa (nwq [7,6,5,3,2] ?_)
 refine qs (sr ?_)
 refine aw (r_load_aggc (c:=c_aggregate_Range) (z:={ { zv3 with f_From:=x0 } with f_To:=x1 }) isAgg26 sizeOf26 rfl (lens_cell (.s .z) lw)) ?_
 obtain ⟨t8,ht8,hF⟩:=bM hF
 refine cB func10 rfl (fun w hw=>aggregate_Right_ok _ _ ht8 w) ?_
 refine am ?_
 refine aw (r_bool underlying4 rfl rfl (.inr rfl) rfl) ?_
 refine am ?_
 obtain ⟨h9,hF⟩|⟨h9,hF⟩:=oi hF
 ·refine fx 24 h9 ?_
  refine gn ?_
  refine gn ?_
  refine gn ?_
  refine gn ?_
  refine gn ?_
  refine gn ?_
  refine aw xp (qn ?_)
  refine at_drop (H:=_) (.s .z) ?_
  refine wq [31,7,6,3,2] ?_
  refine tn ?_
  refine ct rfl ?_
  refine sr (aa (qn (dz (dz (dz (wq [4] ?_))))))
  refine tn (rt ?_)
  have K:=os hF
  subst K
  exact r1 wb
 refine fx 24 h9 ?_
 refine gy ?_
 refine am ?_
 refine gy ?_
 refine aw (r_load_aggc (c:=c_api_Addr) (z:=x0) isAgg24 sizeOf24 rfl (lens_cell (.s (.s (.s .z))) lw)) ?_
 refine gy ?_
 refine aw (r_load_aggc (c:=c_api_Addr) (z:=x1) isAgg24 sizeOf24 rfl (lens_cell (.s (.s .z)) lw)) ?_
 refine gy ?_
 obtain ⟨t10,ht10,hF⟩:=bM hF
 refine at_callO (c:=c_api_Prefix) (e:=37) (ys:=t10) (V:=fun p cap=>.slice p t10.length cap) func12 rfl (by kernel_rfl) rfl rfl (fun w hw=>crawlwayref53_Prefixes_ok _ _ _ ht10 w) ?_
 intro p11 c12
 refine gy ?_
 obtain ⟨t13,ht13,hF⟩:=bM hF
 refine cB func11 rfl (fun w hw=>crawlwayref11_Same_ok _ _ _ _ _ _ _ ht13 w (hw.own (.s .z)).row (hw.own .z).row) ?_
 refine gy ?_
 refine aw (r_not rfl) ?_
 refine aw xp (qn (dz ?_))
 refine at_drop (H:=_) (.s .z) ?_
 refine wq [31,7,6,3,2] ?_
 refine tn ?_
 obtain ⟨h14,hF⟩|⟨h14,hF⟩:=oi hF
 ·refine ct h14 ?_
  refine sr (aa (qn (dz (dz (dz (wq [4] ?_))))))
  refine tn (rt ?_)
  have K:=os hF
  subst K
  exact r1 wb
 refine cf h14 ?_
 refine sn (qs (sr (am ?_)))
 refine aw (r_not rfl) ?_
 refine nwq [33,6,3,2] ?_
 obtain ⟨h15,hF⟩|⟨h15,hF⟩:=oi hF
 ·refine ct h15 ?_
  refine sr (am ?_)
  refine aw (r_len_sl underlying27 rfl) ?_
  refine aw xq (am ?_)
  obtain ⟨h16,hF⟩|⟨h16,hF⟩:=oi hF
  ·refine fx 37 h16 ?_
   refine gy ?_
   obtain ⟨t17,ht17,hF⟩:=bM hF
   refine cB func13 rfl (fun w hw=>crawlwaylaw53_alive_ok  _ ht17 w) ?_
   refine aw xp (aa (qn (dz (dz (dz (wq [4] ?_))))))
   refine tn (rt ?_)
   have K:=os hF
   subst K
   exact r1 wb
  refine fx 37 h16 ?_
  refine gn ?_
  refine aw xp (aa (qn (dz (dz (dz (wq [4] ?_))))))
  refine tn (rt ?_)
  have K:=os hF
  subst K
  exact r1 wb
 refine cf h15 ?_
 refine sns ?_
 refine aw (r_load_aggc (c:=c_api_Addr) (z:=x0) isAgg24 sizeOf24 rfl (lens_cell (.s (.s .z)) lw)) ?_
 refine al (cs:=Cd.cs c_api_Addr zv0) zeroValue24 ?_
 intro b18
 refine at_store (c:=c_api_Addr) (z:=x0) .z lw sizeOf24 rfl rfl rfl ?_
 refine qn ?_
 refine at_drop (H:=_) (.s (.s (.s .z))) ?_
 refine tn (qs (sr (aa (nwq [9,8,6,3] ?_))))
 refine qb ?_
 obtain ⟨q19,hq19,hF⟩:=bM hF
 refine wq [9,8,6,3] ?_
 refine at_loop_r (B:=0) (r:=r) (q:=q19) (A:=fun (_:Unit) Y=>At 141 [(6,.slice p5 t4.length c6)] (Wd w [rowE c_api_Prefix 37 p5 c6 t4]) Y) ?_ ?_
 ·intro K
  refine crawlwaylaw53_AggregateRanges.l0.partial_correctness x1 t4 (motive:=fun i20 i21 x=>KR (fun (_:Unit) Y=>At 141 [(6,.slice p5 t4.length c6)] (Wd w [rowE c_api_Prefix 37 p5 c6 t4]) Y) _ 0 r x→Round (fun Y=>At 141 [(3,.pointer (some ⟨b2,0,none⟩)),(6,.slice p5 t4.length c6),(8,.pointer (some ⟨b18,0,none⟩)),(9,.int .i64 i20)] (Wd w [cellsE b18 (Cd.cs c_api_Addr i21) 24,rowE c_api_Prefix 37 p5 c6 t4,cellsE b2 (Cd.cs c_api_Addr x1) 24]) Y) _ _ _) ?_ _ _ _ hq19 K
  ·clear K hF
   intro g ih i20 i21 x hF K
   refine at_round ?_
   refine qs (sr (am (am ?_)))
   refine aw (r_len_sl underlying27 rfl) ?_
   refine aw xl (nwq [44,9,8,6,3] ?_)
   obtain ⟨h22,hF⟩|⟨h22,hF⟩:=oi hF
   ·refine ct h22 ?_
    refine sn (qs ?_)
    refine qb ?_
    refine sr (am (am ?_))
    obtain ⟨h23,hF⟩:=gd hF
    refine at_pure (φ:=∃ b o,p5=some ⟨b,o,none⟩) (fun _ hw=>row_ptr (hw.own (.s .z)).row h23) ?_
    rintro ⟨b25,o26,hp24⟩
    refine aw (r_idx underlying27 sizeOf37 rfl rfl h23 hp24) ?_
    refine aw (r_load_aggc (c:=c_api_Prefix) (z:=lget t4 i20) isAgg37 sizeOf37 rfl (fun w1 hw=>row_cell (W:=fun w1=>w1=_) (fun w1 h=>by subst h;exact Below.refl _ _) (hw.own (.s .z)).row h23 hp24 _ rfl)) ?_
    obtain ⟨t27,ht27,hF⟩:=bM hF
    refine cB func14 rfl (fun w hw=>crawlwayref53_Of_ok _ _ ht27 w) ?_
    refine am ?_
    refine aw xe (aw xe ?_)
    refine al (cs:=Cd.cs c_api_Addr zv0) zeroValue24 ?_
    intro b28
    refine al (cs:=Cd.cs c_api_Addr zv0) zeroValue24 ?_
    intro b29
    refine at_store (c:=c_api_Addr) (z:=t27.1) (.s .z) lw sizeOf24 rfl rfl rfl ?_
    refine at_store (c:=c_api_Addr) (z:=t27.2) .z lw sizeOf24 rfl rfl rfl ?_
    refine nwq [11,10,9,8,6,3] ?_
    refine qs (sr (am (am ?_)))
    obtain ⟨h30,hF⟩:=gd hF
    refine at_pure (φ:=∃ b o,p5=some ⟨b,o,none⟩) (fun _ hw=>row_ptr (hw.own (.s (.s (.s .z)))).row h30) ?_
    rintro ⟨b32,o33,hp31⟩
    refine aw (r_idx underlying27 sizeOf37 rfl rfl h30 hp31) ?_
    refine aw (r_load_aggc (c:=c_api_Prefix) (z:=lget t4 i20) isAgg37 sizeOf37 rfl (fun w1 hw=>row_cell (W:=fun w1=>w1=_) (fun w1 h=>by subst h;exact Below.refl _ _) (hw.own (.s (.s (.s .z)))).row h30 hp31 _ rfl)) ?_
    obtain ⟨t34,ht34,hF⟩:=bM hF
    refine cB func15 rfl (fun w hw=>crawlwayref11_Right_ok _ _ ht34 w) ?_
    refine aw (r_not rfl) ?_
    refine am ?_
    obtain ⟨h35,hF⟩|⟨h35,hF⟩:=oi hF
    ·refine fx 61 h35 ?_
     refine gn ?_
     refine gn ?_
     refine gn ?_
     refine aw xp (am ?_)
     refine gn ?_
     refine gn ?_
     refine gn ?_
     refine gn ?_
     refine gn ?_
     refine gn ?_
     refine at_guard_undef rfl rfl rfl rfl ?_
     refine at_guard_undef rfl rfl rfl rfl ?_
     refine at_guard_undef rfl rfl rfl rfl ?_
     refine gn ?_
     refine aw xp (qn ?_)
     refine at_drop (H:=_) (.s .z) ?_
     refine wq [77,11,9,8,6,3] ?_
     refine tn ?_
     refine ct rfl ?_
     refine sr (aa (qn (dz (dz (dz (dz (wq [4] ?_)))))))
     refine tn (qt ?_)
     refine tr (br (tr (tr (br (tr ?_)))))
     obtain rfl:=os hF
     subst K
     exact r1 wb
    refine fx 61 h35 ?_
    refine gy ?_
    refine aw (r_load_aggc (c:=c_api_Addr) (z:=t27.1) isAgg24 sizeOf24 rfl (lens_cell (.s .z) lw)) ?_
    refine gy ?_
    refine aw (r_load_aggc (c:=c_api_Addr) (z:=i21) isAgg24 sizeOf24 rfl (lens_cell (.s (.s .z)) lw)) ?_
    refine gy ?_
    refine aw (r_eqagg (c:=c_api_Addr) (a:=t27.1) (b:=i21) (eq_api_Addr_24) rfl Try.eqGuardType24 rfl rfl (.inr rfl) rfl) ?_
    refine aw xp (am ?_)
    obtain ⟨h36,hF⟩|⟨h36,hF⟩:=oi hF
    ·refine fx 66 h36 ?_
     refine gn ?_
     refine gn ?_
     refine gn ?_
     refine gn ?_
     refine gn ?_
     refine gn ?_
     refine at_guard_undef rfl rfl rfl rfl ?_
     refine at_guard_undef rfl rfl rfl rfl ?_
     refine at_guard_undef rfl rfl rfl rfl ?_
     refine gn ?_
     refine aw xp (qn ?_)
     refine at_drop (H:=_) (.s .z) ?_
     refine wq [77,11,9,8,6,3] ?_
     refine tn ?_
     refine ct rfl ?_
     refine sr (aa (qn (dz (dz (dz (dz (wq [4] ?_)))))))
     refine tn (qt ?_)
     refine tr (br (tr (tr (br (tr ?_)))))
     obtain rfl:=os hF
     subst K
     exact r1 wb
    refine fx 66 h36 ?_
    refine gy ?_
    refine am ?_
    refine gy ?_
    refine am ?_
    refine gy ?_
    refine aw (r_len_sl underlying27 rfl) ?_
    refine gy ?_
    refine aw (r_isub rfl rfl) ?_
    refine gy ?_
    refine aw xq ?_
    refine gy ?_
    refine am ?_
    obtain ⟨h37,hF⟩|⟨h37,hF⟩:=oi hF
    ·refine fx 72 h37 ?_
     refine gy ?_
     refine aw (r_load_aggc (c:=c_api_Addr) (z:=t27.2) isAgg24 sizeOf24 rfl (lens_cell .z lw)) ?_
     refine gy ?_
     refine aw (r_load_aggc (c:=c_api_Addr) (z:=x1) isAgg24 sizeOf24 rfl (lens_cell (.s (.s (.s (.s .z)))) lw)) ?_
     refine gy ?_
     refine aw (r_eqagg (c:=c_api_Addr) (a:=t27.2) (b:=x1) (eq_api_Addr_24) rfl Try.eqGuardType24 rfl rfl (.inr rfl) rfl) ?_
     refine gy ?_
     refine aw xp (aw xp (qn ?_))
     refine at_drop (H:=_) (.s .z) ?_
     refine wq [77,11,9,8,6,3] ?_
     refine tn ?_
     obtain ⟨h38,hF⟩|⟨h38,hF⟩:=oi hF
     ·refine ct h38 ?_
      refine sr (aa (qn (dz (dz (dz (dz (wq [4] ?_)))))))
      refine tn (qt ?_)
      refine tr (br (tr (tr (br (tr ?_)))))
      obtain rfl:=os hF
      subst K
      exact r1 wb
     refine cf h38 ?_
     refine sn (qs (qs (wq [11,9,8,6,3] ?_)))
     obtain ⟨h39,hF⟩|⟨h39,hF⟩:=oi hF
     ·skip
      obtain ⟨h40,hF⟩:=gd hF
      refine at_pure (φ:=∃ b o,p5=some ⟨b,o,none⟩) (fun _ hw=>row_ptr (hw.own (.s (.s .z))).row h40) ?_
      rintro ⟨b42,o43,hp41⟩
      obtain ⟨h44,hF⟩:=gd hF
      refine at_pure (φ:=∃ b o,p5=some ⟨b,o,none⟩) (fun _ hw=>row_ptr (hw.own (.s (.s .z))).row h44) ?_
      rintro ⟨b46,o47,hp45⟩
      obtain ⟨h48,hF⟩|⟨h48,hF⟩:=oi hF
      ·skip
       obtain ⟨h49,hF⟩:=gd hF
       refine at_pure (φ:=∃ b o,p5=some ⟨b,o,none⟩) (fun _ hw=>row_ptr (hw.own (.s (.s .z))).row h49) ?_
       rintro ⟨b51,o52,hp50⟩
       obtain ⟨h53,hF⟩|⟨h53,hF⟩:=oi hF
       ·skip
        obtain ⟨h54,hF⟩:=gd hF
        refine at_pure (φ:=∃ b o,p5=some ⟨b,o,none⟩) (fun _ hw=>row_ptr (hw.own (.s (.s .z))).row h54) ?_
        rintro ⟨b56,o57,hp55⟩
        obtain ⟨h58,hF⟩:=gd hF
        refine at_pure (φ:=∃ b o,p5=some ⟨b,o,none⟩) (fun _ hw=>row_ptr (hw.own (.s (.s .z))).row h58) ?_
        rintro ⟨b60,o61,hp59⟩
        obtain ⟨t62,ht62,hF⟩:=bM hF
        obtain ⟨h63,hF⟩:=gd hF
        refine at_pure (φ:=∃ b o,p5=some ⟨b,o,none⟩) (fun _ hw=>row_ptr (hw.own (.s (.s .z))).row h63) ?_
        rintro ⟨b65,o66,hp64⟩
        obtain ⟨h67,hF⟩:=gd hF
        refine at_pure (φ:=∃ b o,p5=some ⟨b,o,none⟩) (fun _ hw=>row_ptr (hw.own (.s (.s .z))).row h67) ?_
        rintro ⟨b69,o70,hp68⟩
        obtain ⟨t71,ht71,hF⟩:=bM hF
        refine at_inv [.q 78 (fun g72=>.int .i64 i20) [] 0 0,.q 79 (fun g72=>.bool (decide (i20>0))) [0] 0 0,.q 80 (fun g72=>.bool true) [1] 0 0,.q 81 (fun g72=>.slice p5 t4.length c6) [2] 0 0,.q 82 (fun g72=>.int .i64 i20) [2] 0 0,.q 83 (fun g72=>.int .i64 (wr .i64 (i20-1))) [2,4] 0 0,.q 84 (fun g72=>.pointer (some ⟨b42,o43+Int.toNat (wr .i64 (i20-1))*18,none⟩)) [2,3,5] 0 0,.q 85 (fun g72=>.pointer (some ⟨b42,o43+Int.toNat (wr .i64 (i20-1))*18+17,none⟩)) [2,6] 0 0,.q 86 (fun g72=>.int .i64 ((lget t4 (wr .i64 (i20-1))).f_Bits)) [2,7] 0 0,.q 87 (fun g72=>.slice p5 t4.length c6) [2] 0 0,.q 88 (fun g72=>.int .i64 i20) [2] 0 0,.q 89 (fun g72=>.pointer (some ⟨b46,o47+Int.toNat i20*18,none⟩)) [2,9,10] 0 0,.q 90 (fun g72=>.pointer (some ⟨b46,o47+Int.toNat i20*18+17,none⟩)) [2,11] 0 0,.q 91 (fun g72=>.int .i64 ((lget t4 i20).f_Bits)) [2,12] 0 0,.q 92 (fun g72=>.bool ((lget t4 (wr .i64 (i20-1))).f_Bits==(lget t4 i20).f_Bits)) [2,8,13] 0 0,.q 93 (fun g72=>.bool ((lget t4 (wr .i64 (i20-1))).f_Bits==(lget t4 i20).f_Bits)) [2,14] 0 0,.q 94 (fun g72=>.bool true) [15] 0 0,.q 95 (fun g72=>.slice p5 t4.length c6) [16] 0 0,.q 96 (fun g72=>.int .i64 i20) [16] 0 0,.q 97 (fun g72=>.pointer (some ⟨b51,o52+Int.toNat i20*18,none⟩)) [16,17,18] 0 0,.q 98 (fun g72=>.pointer (some ⟨b51,o52+Int.toNat i20*18+17,none⟩)) [16,19] 0 0,.q 99 (fun g72=>.int .i64 ((lget t4 i20).f_Bits)) [16,20] 0 0,.q 100 (fun g72=>.bool (decide ((lget t4 i20).f_Bits>0))) [16,21] 0 0,.q 101 (fun g72=>.bool (decide ((lget t4 i20).f_Bits>0))) [16,22] 0 0,.q 102 (fun g72=>.bool true) [23] 0 0,.q 103 (fun g72=>.slice p5 t4.length c6) [24] 0 0,.q 104 (fun g72=>.int .i64 i20) [24] 0 0,.q 105 (fun g72=>.int .i64 (wr .i64 (i20-1))) [24,26] 0 0,.q 106 (fun g72=>.pointer (some ⟨b56,o57+Int.toNat (wr .i64 (i20-1))*18,none⟩)) [24,25,27] 0 0,.q 107 (fun g72=>.pointer (some ⟨b56,o57+Int.toNat (wr .i64 (i20-1))*18+0,none⟩)) [24,28] 0 0,.q 108 (fun g72=>.agg (Cd.cs c_api_Addr ((lget t4 (wr .i64 (i20-1))).f_A)).toArray) [24,29] 0 0,.q 109 (fun g72=>.slice p5 t4.length c6) [24] 0 0,.q 110 (fun g72=>.int .i64 i20) [24] 0 0,.q 111 (fun g72=>.pointer (some ⟨b60,o61+Int.toNat i20*18,none⟩)) [24,31,32] 0 0,.q 112 (fun g72=>.pointer (some ⟨b60,o61+Int.toNat i20*18+17,none⟩)) [24,33] 0 0,.q 113 (fun g72=>.int .i64 ((lget t4 i20).f_Bits)) [24,34] 0 0,.q 114 (fun g72=>.int .i64 (wr .i64 (((lget t4 i20).f_Bits)-1))) [24,35] 0 0,.q 115 (fun g72=>.agg (Cd.cs c_api_Addr t62).toArray) [24,30,36] 0 0,.q 116 (fun g72=>.slice p5 t4.length c6) [24] 0 0,.q 117 (fun g72=>.int .i64 i20) [24] 0 0,.q 118 (fun g72=>.pointer (some ⟨b65,o66+Int.toNat i20*18,none⟩)) [24,38,39] 0 0,.q 119 (fun g72=>.pointer (some ⟨b65,o66+Int.toNat i20*18+0,none⟩)) [24,40] 0 0,.q 120 (fun g72=>.agg (Cd.cs c_api_Addr ((lget t4 i20).f_A)).toArray) [24,41] 0 0,.q 121 (fun g72=>.slice p5 t4.length c6) [24] 0 0,.q 122 (fun g72=>.int .i64 i20) [24] 0 0,.q 123 (fun g72=>.pointer (some ⟨b69,o70+Int.toNat i20*18,none⟩)) [24,43,44] 0 0,.q 124 (fun g72=>.pointer (some ⟨b69,o70+Int.toNat i20*18+17,none⟩)) [24,45] 0 0,.q 125 (fun g72=>.int .i64 ((lget t4 i20).f_Bits)) [24,46] 0 0,.q 126 (fun g72=>.int .i64 (wr .i64 (((lget t4 i20).f_Bits)-1))) [24,47] 0 0,.q 127 (fun g72=>.agg (Cd.cs c_api_Addr t71).toArray) [24,42,48] 0 0,.q 128 (fun g72=>.bool (decide (t62=t71))) [24,37,49] 0 0,.q 129 (fun g72=>.bool (decide (t62=t71))) [24,50] 0 0] (fun g72 s=>match s with | _=>(Wd w [cellsE b29 (Cd.cs c_api_Addr t27.2) 24,cellsE b18 (Cd.cs c_api_Addr i21) 24,rowE c_api_Prefix 37 p5 c6 t4,cellsE b2 (Cd.cs c_api_Addr x1) 24])) 0 (by kernel_rfl) (by kernel_rfl) (by kernel_rfl) (by kernel_rfl) (by kernel_rfl) ⟨fun _ _ _=>rfl,fun _ _ _=>rfl,fun _ _ _=>rfl,fun _ _ _=>rfl,fun _ _ _=>rfl,fun _ _ _=>rfl,fun _ _ _=>rfl,fun _ _ _=>rfl,fun _ _ _=>rfl,fun _ _ _=>rfl,fun _ _ _=>rfl,fun _ _ _=>rfl,fun _ _ _=>rfl,fun _ _ _=>rfl,fun _ _ _=>rfl,fun _ _ _=>rfl,fun _ _ _=>rfl,fun _ _ _=>rfl,fun _ _ _=>rfl,fun _ _ _=>rfl,fun _ _ _=>rfl,fun _ _ _=>rfl,fun _ _ _=>rfl,fun _ _ _=>rfl,fun _ _ _=>rfl,fun _ _ _=>rfl,fun _ _ _=>rfl,fun _ _ _=>rfl,fun _ _ _=>rfl,fun _ _ _=>rfl,fun _ _ _=>rfl,fun _ _ _=>rfl,fun _ _ _=>rfl,fun _ _ _=>rfl,fun _ _ _=>rfl,fun _ _ _=>rfl,fun _ _ _=>rfl,fun _ _ _=>rfl,fun _ _ _=>rfl,fun _ _ _=>rfl,fun _ _ _=>rfl,fun _ _ _=>rfl,fun _ _ _=>rfl,fun _ _ _=>rfl,fun _ _ _=>rfl,fun _ _ _=>rfl,fun _ _ _=>rfl,fun _ _ _=>rfl,fun _ _ _=>rfl,fun _ _ _=>rfl,fun _ _ _=>rfl,fun _ _ _=>rfl,trivial⟩ (by kernel_rfl) (fun w_ h=>⟨fun _=>g3 0 none 0 none w_,h.drew⟩) ⟨?_,?_,?_,?_,?_,?_,?_,?_,?_,?_,?_,?_,?_,?_,?_,?_,?_,?_,?_,?_,?_,?_,?_,?_,?_,?_,?_,?_,?_,?_,?_,?_,?_,?_,?_,?_,?_,?_,?_,?_,?_,?_,?_,?_,?_,?_,?_,?_,?_,?_,?_,?_,trivial⟩ ?_
        ·intro Lx g72 s K hl hh k
         show At 141 ((3,_)::(6,_)::(8,_)::(9,_)::(11,_)::Lx) _ _
         refine am ?_
         exact at_nil k
        ·intro Lx g72 s K hl hh k
         show At 141 ((78,_)::(3,_)::(6,_)::(8,_)::(9,_)::(11,_)::Lx) _ _
         refine aw (r_igtr rfl rfl) ?_
         exact at_nil k
        ·intro Lx g72 s K hl hh k
         show At 141 ((79,_)::(3,_)::(6,_)::(8,_)::(9,_)::(11,_)::Lx) _ _
         refine am ?_
         exact at_nil (at_cast h39 k)
        ·intro Lx g72 s K hl hh k
         show At 141 ((80,_)::(3,_)::(6,_)::(8,_)::(9,_)::(11,_)::Lx) _ _
         refine gy ?_
         refine am ?_
         exact at_nil k
        ·intro Lx g72 s K hl hh k
         show At 141 ((80,_)::(3,_)::(6,_)::(8,_)::(9,_)::(11,_)::Lx) _ _
         refine gy ?_
         refine am ?_
         exact at_nil k
        ·intro Lx g72 s K hl hh k
         show At 141 ((80,_)::(82,_)::(3,_)::(6,_)::(8,_)::(9,_)::(11,_)::Lx) _ _
         refine gy ?_
         refine aw (r_isub rfl rfl) ?_
         exact at_nil k
        ·intro Lx g72 s K hl hh k
         show At 141 ((80,_)::(81,_)::(83,_)::(3,_)::(6,_)::(8,_)::(9,_)::(11,_)::Lx) _ _
         refine gy ?_
         refine aw (r_idx underlying27 sizeOf37 rfl rfl h40 hp41) ?_
         exact at_nil k
        ·intro Lx g72 s K hl hh k
         show At 141 ((80,_)::(84,_)::(3,_)::(6,_)::(8,_)::(9,_)::(11,_)::Lx) _ _
         refine gy ?_
         refine fa 17 underlying37 rfl sizeOf3 ?_
         exact at_nil k
        ·intro Lx g72 s K hl hh k
         show At 141 ((80,_)::(85,_)::(3,_)::(6,_)::(8,_)::(9,_)::(11,_)::Lx) _ _
         refine gy ?_
         obtain rfl:s=0:=by omega
         refine aw (r_load_cell isAgg3 rfl (fun w1 hw=>row_lens0 (y:=(lget t4 (wr .i64 (i20-1))).f_Bits) (W:=fun w1=>w1=_) (fun w1 h=>by subst h;exact Below.refl _ _) (hw.own (.s (.s .z))).row h40 hp41 (Lens.comp lw (fun z=>{ (lget t4 (wr .i64 (i20-1))) with f_Bits:=z }) (c_api_Prefix_f_Bits (lget t4 (wr .i64 (i20-1))))) rfl _ rfl)) ?_
         exact at_nil k
        ·intro Lx g72 s K hl hh k
         show At 141 ((80,_)::(3,_)::(6,_)::(8,_)::(9,_)::(11,_)::Lx) _ _
         refine gy ?_
         refine am ?_
         exact at_nil k
        ·intro Lx g72 s K hl hh k
         show At 141 ((80,_)::(3,_)::(6,_)::(8,_)::(9,_)::(11,_)::Lx) _ _
         refine gy ?_
         refine am ?_
         exact at_nil k
        ·intro Lx g72 s K hl hh k
         show At 141 ((80,_)::(87,_)::(88,_)::(3,_)::(6,_)::(8,_)::(9,_)::(11,_)::Lx) _ _
         refine gy ?_
         refine aw (r_idx underlying27 sizeOf37 rfl rfl h44 hp45) ?_
         exact at_nil k
        ·intro Lx g72 s K hl hh k
         show At 141 ((80,_)::(89,_)::(3,_)::(6,_)::(8,_)::(9,_)::(11,_)::Lx) _ _
         refine gy ?_
         refine fa 17 underlying37 rfl sizeOf3 ?_
         exact at_nil k
        ·intro Lx g72 s K hl hh k
         show At 141 ((80,_)::(90,_)::(3,_)::(6,_)::(8,_)::(9,_)::(11,_)::Lx) _ _
         refine gy ?_
         obtain rfl:s=0:=by omega
         refine aw (r_load_cell isAgg3 rfl (fun w1 hw=>row_lens0 (y:=(lget t4 i20).f_Bits) (W:=fun w1=>w1=_) (fun w1 h=>by subst h;exact Below.refl _ _) (hw.own (.s (.s .z))).row h44 hp45 (Lens.comp lw (fun z=>{ (lget t4 i20) with f_Bits:=z }) (c_api_Prefix_f_Bits (lget t4 i20))) rfl _ rfl)) ?_
         exact at_nil k
        ·intro Lx g72 s K hl hh k
         show At 141 ((80,_)::(86,_)::(91,_)::(3,_)::(6,_)::(8,_)::(9,_)::(11,_)::Lx) _ _
         refine gy ?_
         refine aw xq ?_
         exact at_nil k
        ·intro Lx g72 s K hl hh k
         show At 141 ((80,_)::(92,_)::(3,_)::(6,_)::(8,_)::(9,_)::(11,_)::Lx) _ _
         refine aw xp ?_
         exact at_nil k
        ·intro Lx g72 s K hl hh k
         show At 141 ((93,_)::(3,_)::(6,_)::(8,_)::(9,_)::(11,_)::Lx) _ _
         refine am ?_
         exact at_nil (at_cast h48 k)
        ·intro Lx g72 s K hl hh k
         show At 141 ((94,_)::(3,_)::(6,_)::(8,_)::(9,_)::(11,_)::Lx) _ _
         refine gy ?_
         refine am ?_
         exact at_nil k
        ·intro Lx g72 s K hl hh k
         show At 141 ((94,_)::(3,_)::(6,_)::(8,_)::(9,_)::(11,_)::Lx) _ _
         refine gy ?_
         refine am ?_
         exact at_nil k
        ·intro Lx g72 s K hl hh k
         show At 141 ((94,_)::(95,_)::(96,_)::(3,_)::(6,_)::(8,_)::(9,_)::(11,_)::Lx) _ _
         refine gy ?_
         refine aw (r_idx underlying27 sizeOf37 rfl rfl h49 hp50) ?_
         exact at_nil k
        ·intro Lx g72 s K hl hh k
         show At 141 ((94,_)::(97,_)::(3,_)::(6,_)::(8,_)::(9,_)::(11,_)::Lx) _ _
         refine gy ?_
         refine fa 17 underlying37 rfl sizeOf3 ?_
         exact at_nil k
        ·intro Lx g72 s K hl hh k
         show At 141 ((94,_)::(98,_)::(3,_)::(6,_)::(8,_)::(9,_)::(11,_)::Lx) _ _
         refine gy ?_
         obtain rfl:s=0:=by omega
         refine aw (r_load_cell isAgg3 rfl (fun w1 hw=>row_lens0 (y:=(lget t4 i20).f_Bits) (W:=fun w1=>w1=_) (fun w1 h=>by subst h;exact Below.refl _ _) (hw.own (.s (.s .z))).row h49 hp50 (Lens.comp lw (fun z=>{ (lget t4 i20) with f_Bits:=z }) (c_api_Prefix_f_Bits (lget t4 i20))) rfl _ rfl)) ?_
         exact at_nil k
        ·intro Lx g72 s K hl hh k
         show At 141 ((94,_)::(99,_)::(3,_)::(6,_)::(8,_)::(9,_)::(11,_)::Lx) _ _
         refine gy ?_
         refine aw (r_igtr rfl rfl) ?_
         exact at_nil k
        ·intro Lx g72 s K hl hh k
         show At 141 ((94,_)::(100,_)::(3,_)::(6,_)::(8,_)::(9,_)::(11,_)::Lx) _ _
         refine aw xp ?_
         exact at_nil k
        ·intro Lx g72 s K hl hh k
         show At 141 ((101,_)::(3,_)::(6,_)::(8,_)::(9,_)::(11,_)::Lx) _ _
         refine am ?_
         exact at_nil (at_cast h53 k)
        ·intro Lx g72 s K hl hh k
         show At 141 ((102,_)::(3,_)::(6,_)::(8,_)::(9,_)::(11,_)::Lx) _ _
         refine gy ?_
         refine am ?_
         exact at_nil k
        ·intro Lx g72 s K hl hh k
         show At 141 ((102,_)::(3,_)::(6,_)::(8,_)::(9,_)::(11,_)::Lx) _ _
         refine gy ?_
         refine am ?_
         exact at_nil k
        ·intro Lx g72 s K hl hh k
         show At 141 ((102,_)::(104,_)::(3,_)::(6,_)::(8,_)::(9,_)::(11,_)::Lx) _ _
         refine gy ?_
         refine aw (r_isub rfl rfl) ?_
         exact at_nil k
        ·intro Lx g72 s K hl hh k
         show At 141 ((102,_)::(103,_)::(105,_)::(3,_)::(6,_)::(8,_)::(9,_)::(11,_)::Lx) _ _
         refine gy ?_
         refine aw (r_idx underlying27 sizeOf37 rfl rfl h54 hp55) ?_
         exact at_nil k
        ·intro Lx g72 s K hl hh k
         show At 141 ((102,_)::(106,_)::(3,_)::(6,_)::(8,_)::(9,_)::(11,_)::Lx) _ _
         refine gy ?_
         refine fa 0 underlying37 rfl sizeOf24 ?_
         exact at_nil k
        ·intro Lx g72 s K hl hh k
         show At 141 ((102,_)::(107,_)::(3,_)::(6,_)::(8,_)::(9,_)::(11,_)::Lx) _ _
         refine gy ?_
         obtain rfl:s=0:=by omega
         refine aw (r_load_aggc (c:=c_api_Addr) (z:=(lget t4 (wr .i64 (i20-1))).f_A) isAgg24 sizeOf24 rfl (fun w1 hw=>row_lens (y:=(lget t4 (wr .i64 (i20-1))).f_A) (W:=fun w1=>w1=_) (fun w1 h=>by subst h;exact Below.refl _ _) (hw.own (.s (.s .z))).row h54 hp55 (Lens.comp lw (fun z=>{ (lget t4 (wr .i64 (i20-1))) with f_A:=z }) (c_api_Prefix_f_A (lget t4 (wr .i64 (i20-1))))) _ rfl)) ?_
         exact at_nil k
        ·intro Lx g72 s K hl hh k
         show At 141 ((102,_)::(3,_)::(6,_)::(8,_)::(9,_)::(11,_)::Lx) _ _
         refine gy ?_
         refine am ?_
         exact at_nil k
        ·intro Lx g72 s K hl hh k
         show At 141 ((102,_)::(3,_)::(6,_)::(8,_)::(9,_)::(11,_)::Lx) _ _
         refine gy ?_
         refine am ?_
         exact at_nil k
        ·intro Lx g72 s K hl hh k
         show At 141 ((102,_)::(109,_)::(110,_)::(3,_)::(6,_)::(8,_)::(9,_)::(11,_)::Lx) _ _
         refine gy ?_
         refine aw (r_idx underlying27 sizeOf37 rfl rfl h58 hp59) ?_
         exact at_nil k
        ·intro Lx g72 s K hl hh k
         show At 141 ((102,_)::(111,_)::(3,_)::(6,_)::(8,_)::(9,_)::(11,_)::Lx) _ _
         refine gy ?_
         refine fa 17 underlying37 rfl sizeOf3 ?_
         exact at_nil k
        ·intro Lx g72 s K hl hh k
         show At 141 ((102,_)::(112,_)::(3,_)::(6,_)::(8,_)::(9,_)::(11,_)::Lx) _ _
         refine gy ?_
         obtain rfl:s=0:=by omega
         refine aw (r_load_cell isAgg3 rfl (fun w1 hw=>row_lens0 (y:=(lget t4 i20).f_Bits) (W:=fun w1=>w1=_) (fun w1 h=>by subst h;exact Below.refl _ _) (hw.own (.s (.s .z))).row h58 hp59 (Lens.comp lw (fun z=>{ (lget t4 i20) with f_Bits:=z }) (c_api_Prefix_f_Bits (lget t4 i20))) rfl _ rfl)) ?_
         exact at_nil k
        ·intro Lx g72 s K hl hh k
         show At 141 ((102,_)::(113,_)::(3,_)::(6,_)::(8,_)::(9,_)::(11,_)::Lx) _ _
         refine gy ?_
         refine aw (r_isub rfl rfl) ?_
         exact at_nil k
        ·intro Lx g72 s K hl hh k
         show At 141 ((102,_)::(108,_)::(114,_)::(3,_)::(6,_)::(8,_)::(9,_)::(11,_)::Lx) _ _
         refine gy ?_
         obtain rfl:s=0:=by omega
         refine cB func16 rfl (fun w hw=>crawlwayref10_Mask_ok _ _ _ ht62 w) ?_
         exact at_nil k
        ·intro Lx g72 s K hl hh k
         show At 141 ((102,_)::(3,_)::(6,_)::(8,_)::(9,_)::(11,_)::Lx) _ _
         refine gy ?_
         refine am ?_
         exact at_nil k
        ·intro Lx g72 s K hl hh k
         show At 141 ((102,_)::(3,_)::(6,_)::(8,_)::(9,_)::(11,_)::Lx) _ _
         refine gy ?_
         refine am ?_
         exact at_nil k
        ·intro Lx g72 s K hl hh k
         show At 141 ((102,_)::(116,_)::(117,_)::(3,_)::(6,_)::(8,_)::(9,_)::(11,_)::Lx) _ _
         refine gy ?_
         refine aw (r_idx underlying27 sizeOf37 rfl rfl h63 hp64) ?_
         exact at_nil k
        ·intro Lx g72 s K hl hh k
         show At 141 ((102,_)::(118,_)::(3,_)::(6,_)::(8,_)::(9,_)::(11,_)::Lx) _ _
         refine gy ?_
         refine fa 0 underlying37 rfl sizeOf24 ?_
         exact at_nil k
        ·intro Lx g72 s K hl hh k
         show At 141 ((102,_)::(119,_)::(3,_)::(6,_)::(8,_)::(9,_)::(11,_)::Lx) _ _
         refine gy ?_
         obtain rfl:s=0:=by omega
         refine aw (r_load_aggc (c:=c_api_Addr) (z:=(lget t4 i20).f_A) isAgg24 sizeOf24 rfl (fun w1 hw=>row_lens (y:=(lget t4 i20).f_A) (W:=fun w1=>w1=_) (fun w1 h=>by subst h;exact Below.refl _ _) (hw.own (.s (.s .z))).row h63 hp64 (Lens.comp lw (fun z=>{ (lget t4 i20) with f_A:=z }) (c_api_Prefix_f_A (lget t4 i20))) _ rfl)) ?_
         exact at_nil k
        ·intro Lx g72 s K hl hh k
         show At 141 ((102,_)::(3,_)::(6,_)::(8,_)::(9,_)::(11,_)::Lx) _ _
         refine gy ?_
         refine am ?_
         exact at_nil k
        ·intro Lx g72 s K hl hh k
         show At 141 ((102,_)::(3,_)::(6,_)::(8,_)::(9,_)::(11,_)::Lx) _ _
         refine gy ?_
         refine am ?_
         exact at_nil k
        ·intro Lx g72 s K hl hh k
         show At 141 ((102,_)::(121,_)::(122,_)::(3,_)::(6,_)::(8,_)::(9,_)::(11,_)::Lx) _ _
         refine gy ?_
         refine aw (r_idx underlying27 sizeOf37 rfl rfl h67 hp68) ?_
         exact at_nil k
        ·intro Lx g72 s K hl hh k
         show At 141 ((102,_)::(123,_)::(3,_)::(6,_)::(8,_)::(9,_)::(11,_)::Lx) _ _
         refine gy ?_
         refine fa 17 underlying37 rfl sizeOf3 ?_
         exact at_nil k
        ·intro Lx g72 s K hl hh k
         show At 141 ((102,_)::(124,_)::(3,_)::(6,_)::(8,_)::(9,_)::(11,_)::Lx) _ _
         refine gy ?_
         obtain rfl:s=0:=by omega
         refine aw (r_load_cell isAgg3 rfl (fun w1 hw=>row_lens0 (y:=(lget t4 i20).f_Bits) (W:=fun w1=>w1=_) (fun w1 h=>by subst h;exact Below.refl _ _) (hw.own (.s (.s .z))).row h67 hp68 (Lens.comp lw (fun z=>{ (lget t4 i20) with f_Bits:=z }) (c_api_Prefix_f_Bits (lget t4 i20))) rfl _ rfl)) ?_
         exact at_nil k
        ·intro Lx g72 s K hl hh k
         show At 141 ((102,_)::(125,_)::(3,_)::(6,_)::(8,_)::(9,_)::(11,_)::Lx) _ _
         refine gy ?_
         refine aw (r_isub rfl rfl) ?_
         exact at_nil k
        ·intro Lx g72 s K hl hh k
         show At 141 ((102,_)::(120,_)::(126,_)::(3,_)::(6,_)::(8,_)::(9,_)::(11,_)::Lx) _ _
         refine gy ?_
         obtain rfl:s=0:=by omega
         refine cB func16 rfl (fun w hw=>crawlwayref10_Mask_ok _ _ _ ht71 w) ?_
         exact at_nil k
        ·intro Lx g72 s K hl hh k
         show At 141 ((102,_)::(115,_)::(127,_)::(3,_)::(6,_)::(8,_)::(9,_)::(11,_)::Lx) _ _
         refine gy ?_
         refine aw (r_eqagg (c:=c_api_Addr) (a:=t62) (b:=t71) (eq_api_Addr_24) rfl Try.eqGuardType24 rfl rfl (.inl rfl) rfl) ?_
         exact at_nil k
        ·intro Lx g72 s K hl hh k
         show At 141 ((102,_)::(128,_)::(3,_)::(6,_)::(8,_)::(9,_)::(11,_)::Lx) _ _
         refine aw xp ?_
         exact at_nil k
        intro g72
        show At 141 [(78,_),(79,_),(80,_),(81,_),(82,_),(83,_),(84,_),(85,_),(86,_),(87,_),(88,_),(89,_),(90,_),(91,_),(92,_),(93,_),(94,_),(95,_),(96,_),(97,_),(98,_),(99,_),(100,_),(101,_),(102,_),(103,_),(104,_),(105,_),(106,_),(107,_),(108,_),(109,_),(110,_),(111,_),(112,_),(113,_),(114,_),(115,_),(116,_),(117,_),(118,_),(119,_),(120,_),(121,_),(122,_),(123,_),(124,_),(125,_),(126,_),(127,_),(128,_),(129,_),(3,_),(6,_),(8,_),(9,_),(11,_)] _ _
        refine wq [129,11,9,8,6,3] ?_
        refine tn ?_
        obtain ⟨h73,hF⟩|⟨h73,hF⟩:=oi hF
        ·refine ct h73 ?_
         refine sr (aa (qn (dz (dz (dz (dz (wq [4] ?_)))))))
         refine tn (qt ?_)
         refine tr (br (tr (tr (br (tr ?_)))))
         obtain rfl:=os hF
         subst K
         exact r1 wb
        refine cf h73 ?_
        refine sn (qr ?_)
        refine aw (r_load_aggc (c:=c_api_Addr) (z:=t27.2) isAgg24 sizeOf24 rfl (lens_cell .z lw)) ?_
        obtain ⟨t74,ht74,hF⟩:=bM hF
        refine cB func17 rfl (fun w hw=>crawlwayref53_Next_ok _ _ ht74 w) ?_
        refine am ?_
        refine aw xe (aw xe ?_)
        refine at_store (c:=c_api_Addr) (z:=t74.1) (.s .z) lw sizeOf24 rfl rfl rfl ?_
        refine qn (dz (wq [9,8,6,3] ?_))
        refine bm ?_
        refine qr (am (aw xa (aa (nwq [9,8,6,3] ?_))))
        exact at_weak_k (ih _ _ _ hF K) ⟨rfl,rfl,rfl,rfl,trivial⟩
       skip
       refine at_inv [.q 78 (fun g75=>.int .i64 i20) [] 0 0,.q 79 (fun g75=>.bool (decide (i20>0))) [0] 0 0,.q 80 (fun g75=>.bool true) [1] 0 0,.q 81 (fun g75=>.slice p5 t4.length c6) [2] 0 0,.q 82 (fun g75=>.int .i64 i20) [2] 0 0,.q 83 (fun g75=>.int .i64 (wr .i64 (i20-1))) [2,4] 0 0,.q 84 (fun g75=>.pointer (some ⟨b42,o43+Int.toNat (wr .i64 (i20-1))*18,none⟩)) [2,3,5] 0 0,.q 85 (fun g75=>.pointer (some ⟨b42,o43+Int.toNat (wr .i64 (i20-1))*18+17,none⟩)) [2,6] 0 0,.q 86 (fun g75=>.int .i64 ((lget t4 (wr .i64 (i20-1))).f_Bits)) [2,7] 0 0,.q 87 (fun g75=>.slice p5 t4.length c6) [2] 0 0,.q 88 (fun g75=>.int .i64 i20) [2] 0 0,.q 89 (fun g75=>.pointer (some ⟨b46,o47+Int.toNat i20*18,none⟩)) [2,9,10] 0 0,.q 90 (fun g75=>.pointer (some ⟨b46,o47+Int.toNat i20*18+17,none⟩)) [2,11] 0 0,.q 91 (fun g75=>.int .i64 ((lget t4 i20).f_Bits)) [2,12] 0 0,.q 92 (fun g75=>.bool ((lget t4 (wr .i64 (i20-1))).f_Bits==(lget t4 i20).f_Bits)) [2,8,13] 0 0,.q 93 (fun g75=>.bool ((lget t4 (wr .i64 (i20-1))).f_Bits==(lget t4 i20).f_Bits)) [2,14] 0 0,.q 94 (fun g75=>.bool true) [15] 0 0,.q 95 (fun g75=>.slice p5 t4.length c6) [16] 0 0,.q 96 (fun g75=>.int .i64 i20) [16] 0 0,.q 97 (fun g75=>.pointer (some ⟨b51,o52+Int.toNat i20*18,none⟩)) [16,17,18] 0 0,.q 98 (fun g75=>.pointer (some ⟨b51,o52+Int.toNat i20*18+17,none⟩)) [16,19] 0 0,.q 99 (fun g75=>.int .i64 ((lget t4 i20).f_Bits)) [16,20] 0 0,.q 100 (fun g75=>.bool (decide ((lget t4 i20).f_Bits>0))) [16,21] 0 0,.q 101 (fun g75=>.bool (decide ((lget t4 i20).f_Bits>0))) [16,22] 0 0,.q 102 (fun g75=>.bool false) [23] 0 0,.q 103 (fun g75=>undef) [24] 0 0,.q 104 (fun g75=>undef) [24] 0 0,.q 105 (fun g75=>undef) [24,26] 0 0,.q 106 (fun g75=>undef) [24,25,27] 0 0,.q 107 (fun g75=>undef) [24,28] 0 0,.q 108 (fun g75=>undef) [24,29] 0 0,.q 109 (fun g75=>undef) [24] 0 0,.q 110 (fun g75=>undef) [24] 0 0,.q 111 (fun g75=>undef) [24,31,32] 0 0,.q 112 (fun g75=>undef) [24,33] 0 0,.q 113 (fun g75=>undef) [24,34] 0 0,.q 114 (fun g75=>undef) [24,35] 0 0,.q 115 (fun g75=>undef) [24,30,36] 0 0,.q 116 (fun g75=>undef) [24] 0 0,.q 117 (fun g75=>undef) [24] 0 0,.q 118 (fun g75=>undef) [24,38,39] 0 0,.q 119 (fun g75=>undef) [24,40] 0 0,.q 120 (fun g75=>undef) [24,41] 0 0,.q 121 (fun g75=>undef) [24] 0 0,.q 122 (fun g75=>undef) [24] 0 0,.q 123 (fun g75=>undef) [24,43,44] 0 0,.q 124 (fun g75=>undef) [24,45] 0 0,.q 125 (fun g75=>undef) [24,46] 0 0,.q 126 (fun g75=>undef) [24,47] 0 0,.q 127 (fun g75=>undef) [24,42,48] 0 0,.q 128 (fun g75=>undef) [24,37,49] 0 0,.q 129 (fun g75=>.bool false) [24,50] 0 0] (fun g75 s=>match s with | _=>(Wd w [cellsE b29 (Cd.cs c_api_Addr t27.2) 24,cellsE b18 (Cd.cs c_api_Addr i21) 24,rowE c_api_Prefix 37 p5 c6 t4,cellsE b2 (Cd.cs c_api_Addr x1) 24])) 0 (by kernel_rfl) (by kernel_rfl) (by kernel_rfl) (by kernel_rfl) (by kernel_rfl) ⟨fun _ _ _=>rfl,fun _ _ _=>rfl,fun _ _ _=>rfl,fun _ _ _=>rfl,fun _ _ _=>rfl,fun _ _ _=>rfl,fun _ _ _=>rfl,fun _ _ _=>rfl,fun _ _ _=>rfl,fun _ _ _=>rfl,fun _ _ _=>rfl,fun _ _ _=>rfl,fun _ _ _=>rfl,fun _ _ _=>rfl,fun _ _ _=>rfl,fun _ _ _=>rfl,fun _ _ _=>rfl,fun _ _ _=>rfl,fun _ _ _=>rfl,fun _ _ _=>rfl,fun _ _ _=>rfl,fun _ _ _=>rfl,fun _ _ _=>rfl,fun _ _ _=>rfl,fun _ _ _=>rfl,fun _ _ _=>rfl,fun _ _ _=>rfl,fun _ _ _=>rfl,fun _ _ _=>rfl,fun _ _ _=>rfl,fun _ _ _=>rfl,fun _ _ _=>rfl,fun _ _ _=>rfl,fun _ _ _=>rfl,fun _ _ _=>rfl,fun _ _ _=>rfl,fun _ _ _=>rfl,fun _ _ _=>rfl,fun _ _ _=>rfl,fun _ _ _=>rfl,fun _ _ _=>rfl,fun _ _ _=>rfl,fun _ _ _=>rfl,fun _ _ _=>rfl,fun _ _ _=>rfl,fun _ _ _=>rfl,fun _ _ _=>rfl,fun _ _ _=>rfl,fun _ _ _=>rfl,fun _ _ _=>rfl,fun _ _ _=>rfl,fun _ _ _=>rfl,trivial⟩ (by kernel_rfl) (fun w_ h=>⟨fun _=>g3 0 none 0 none w_,h.drew⟩) ⟨?_,?_,?_,?_,?_,?_,?_,?_,?_,?_,?_,?_,?_,?_,?_,?_,?_,?_,?_,?_,?_,?_,?_,?_,?_,?_,?_,?_,?_,?_,?_,?_,?_,?_,?_,?_,?_,?_,?_,?_,?_,?_,?_,?_,?_,?_,?_,?_,?_,?_,?_,?_,trivial⟩ ?_
       ·intro Lx g75 s K hl hh k
        show At 141 ((3,_)::(6,_)::(8,_)::(9,_)::(11,_)::Lx) _ _
        refine am ?_
        exact at_nil k
       ·intro Lx g75 s K hl hh k
        show At 141 ((78,_)::(3,_)::(6,_)::(8,_)::(9,_)::(11,_)::Lx) _ _
        refine aw (r_igtr rfl rfl) ?_
        exact at_nil k
       ·intro Lx g75 s K hl hh k
        show At 141 ((79,_)::(3,_)::(6,_)::(8,_)::(9,_)::(11,_)::Lx) _ _
        refine am ?_
        exact at_nil (at_cast h39 k)
       ·intro Lx g75 s K hl hh k
        show At 141 ((80,_)::(3,_)::(6,_)::(8,_)::(9,_)::(11,_)::Lx) _ _
        refine gy ?_
        refine am ?_
        exact at_nil k
       ·intro Lx g75 s K hl hh k
        show At 141 ((80,_)::(3,_)::(6,_)::(8,_)::(9,_)::(11,_)::Lx) _ _
        refine gy ?_
        refine am ?_
        exact at_nil k
       ·intro Lx g75 s K hl hh k
        show At 141 ((80,_)::(82,_)::(3,_)::(6,_)::(8,_)::(9,_)::(11,_)::Lx) _ _
        refine gy ?_
        refine aw (r_isub rfl rfl) ?_
        exact at_nil k
       ·intro Lx g75 s K hl hh k
        show At 141 ((80,_)::(81,_)::(83,_)::(3,_)::(6,_)::(8,_)::(9,_)::(11,_)::Lx) _ _
        refine gy ?_
        refine aw (r_idx underlying27 sizeOf37 rfl rfl h40 hp41) ?_
        exact at_nil k
       ·intro Lx g75 s K hl hh k
        show At 141 ((80,_)::(84,_)::(3,_)::(6,_)::(8,_)::(9,_)::(11,_)::Lx) _ _
        refine gy ?_
        refine fa 17 underlying37 rfl sizeOf3 ?_
        exact at_nil k
       ·intro Lx g75 s K hl hh k
        show At 141 ((80,_)::(85,_)::(3,_)::(6,_)::(8,_)::(9,_)::(11,_)::Lx) _ _
        refine gy ?_
        obtain rfl:s=0:=by omega
        refine aw (r_load_cell isAgg3 rfl (fun w1 hw=>row_lens0 (y:=(lget t4 (wr .i64 (i20-1))).f_Bits) (W:=fun w1=>w1=_) (fun w1 h=>by subst h;exact Below.refl _ _) (hw.own (.s (.s .z))).row h40 hp41 (Lens.comp lw (fun z=>{ (lget t4 (wr .i64 (i20-1))) with f_Bits:=z }) (c_api_Prefix_f_Bits (lget t4 (wr .i64 (i20-1))))) rfl _ rfl)) ?_
        exact at_nil k
       ·intro Lx g75 s K hl hh k
        show At 141 ((80,_)::(3,_)::(6,_)::(8,_)::(9,_)::(11,_)::Lx) _ _
        refine gy ?_
        refine am ?_
        exact at_nil k
       ·intro Lx g75 s K hl hh k
        show At 141 ((80,_)::(3,_)::(6,_)::(8,_)::(9,_)::(11,_)::Lx) _ _
        refine gy ?_
        refine am ?_
        exact at_nil k
       ·intro Lx g75 s K hl hh k
        show At 141 ((80,_)::(87,_)::(88,_)::(3,_)::(6,_)::(8,_)::(9,_)::(11,_)::Lx) _ _
        refine gy ?_
        refine aw (r_idx underlying27 sizeOf37 rfl rfl h44 hp45) ?_
        exact at_nil k
       ·intro Lx g75 s K hl hh k
        show At 141 ((80,_)::(89,_)::(3,_)::(6,_)::(8,_)::(9,_)::(11,_)::Lx) _ _
        refine gy ?_
        refine fa 17 underlying37 rfl sizeOf3 ?_
        exact at_nil k
       ·intro Lx g75 s K hl hh k
        show At 141 ((80,_)::(90,_)::(3,_)::(6,_)::(8,_)::(9,_)::(11,_)::Lx) _ _
        refine gy ?_
        obtain rfl:s=0:=by omega
        refine aw (r_load_cell isAgg3 rfl (fun w1 hw=>row_lens0 (y:=(lget t4 i20).f_Bits) (W:=fun w1=>w1=_) (fun w1 h=>by subst h;exact Below.refl _ _) (hw.own (.s (.s .z))).row h44 hp45 (Lens.comp lw (fun z=>{ (lget t4 i20) with f_Bits:=z }) (c_api_Prefix_f_Bits (lget t4 i20))) rfl _ rfl)) ?_
        exact at_nil k
       ·intro Lx g75 s K hl hh k
        show At 141 ((80,_)::(86,_)::(91,_)::(3,_)::(6,_)::(8,_)::(9,_)::(11,_)::Lx) _ _
        refine gy ?_
        refine aw xq ?_
        exact at_nil k
       ·intro Lx g75 s K hl hh k
        show At 141 ((80,_)::(92,_)::(3,_)::(6,_)::(8,_)::(9,_)::(11,_)::Lx) _ _
        refine aw xp ?_
        exact at_nil k
       ·intro Lx g75 s K hl hh k
        show At 141 ((93,_)::(3,_)::(6,_)::(8,_)::(9,_)::(11,_)::Lx) _ _
        refine am ?_
        exact at_nil (at_cast h48 k)
       ·intro Lx g75 s K hl hh k
        show At 141 ((94,_)::(3,_)::(6,_)::(8,_)::(9,_)::(11,_)::Lx) _ _
        refine gy ?_
        refine am ?_
        exact at_nil k
       ·intro Lx g75 s K hl hh k
        show At 141 ((94,_)::(3,_)::(6,_)::(8,_)::(9,_)::(11,_)::Lx) _ _
        refine gy ?_
        refine am ?_
        exact at_nil k
       ·intro Lx g75 s K hl hh k
        show At 141 ((94,_)::(95,_)::(96,_)::(3,_)::(6,_)::(8,_)::(9,_)::(11,_)::Lx) _ _
        refine gy ?_
        refine aw (r_idx underlying27 sizeOf37 rfl rfl h49 hp50) ?_
        exact at_nil k
       ·intro Lx g75 s K hl hh k
        show At 141 ((94,_)::(97,_)::(3,_)::(6,_)::(8,_)::(9,_)::(11,_)::Lx) _ _
        refine gy ?_
        refine fa 17 underlying37 rfl sizeOf3 ?_
        exact at_nil k
       ·intro Lx g75 s K hl hh k
        show At 141 ((94,_)::(98,_)::(3,_)::(6,_)::(8,_)::(9,_)::(11,_)::Lx) _ _
        refine gy ?_
        obtain rfl:s=0:=by omega
        refine aw (r_load_cell isAgg3 rfl (fun w1 hw=>row_lens0 (y:=(lget t4 i20).f_Bits) (W:=fun w1=>w1=_) (fun w1 h=>by subst h;exact Below.refl _ _) (hw.own (.s (.s .z))).row h49 hp50 (Lens.comp lw (fun z=>{ (lget t4 i20) with f_Bits:=z }) (c_api_Prefix_f_Bits (lget t4 i20))) rfl _ rfl)) ?_
        exact at_nil k
       ·intro Lx g75 s K hl hh k
        show At 141 ((94,_)::(99,_)::(3,_)::(6,_)::(8,_)::(9,_)::(11,_)::Lx) _ _
        refine gy ?_
        refine aw (r_igtr rfl rfl) ?_
        exact at_nil k
       ·intro Lx g75 s K hl hh k
        show At 141 ((94,_)::(100,_)::(3,_)::(6,_)::(8,_)::(9,_)::(11,_)::Lx) _ _
        refine aw xp ?_
        exact at_nil k
       ·intro Lx g75 s K hl hh k
        show At 141 ((101,_)::(3,_)::(6,_)::(8,_)::(9,_)::(11,_)::Lx) _ _
        refine am ?_
        exact at_nil (at_cast h53 k)
       ·intro Lx g75 s K hl hh k
        show At 141 ((102,_)::(3,_)::(6,_)::(8,_)::(9,_)::(11,_)::Lx) _ _
        refine gn ?_
        exact at_nil k
       ·intro Lx g75 s K hl hh k
        show At 141 ((102,_)::(3,_)::(6,_)::(8,_)::(9,_)::(11,_)::Lx) _ _
        refine gn ?_
        exact at_nil k
       ·intro Lx g75 s K hl hh k
        show At 141 ((102,_)::(104,_)::(3,_)::(6,_)::(8,_)::(9,_)::(11,_)::Lx) _ _
        refine gn ?_
        exact at_nil k
       ·intro Lx g75 s K hl hh k
        show At 141 ((102,_)::(103,_)::(105,_)::(3,_)::(6,_)::(8,_)::(9,_)::(11,_)::Lx) _ _
        refine gn ?_
        exact at_nil k
       ·intro Lx g75 s K hl hh k
        show At 141 ((102,_)::(106,_)::(3,_)::(6,_)::(8,_)::(9,_)::(11,_)::Lx) _ _
        refine gn ?_
        exact at_nil k
       ·intro Lx g75 s K hl hh k
        show At 141 ((102,_)::(107,_)::(3,_)::(6,_)::(8,_)::(9,_)::(11,_)::Lx) _ _
        obtain rfl:s=0:=by omega
        refine gn ?_
        exact at_nil k
       ·intro Lx g75 s K hl hh k
        show At 141 ((102,_)::(3,_)::(6,_)::(8,_)::(9,_)::(11,_)::Lx) _ _
        refine gn ?_
        exact at_nil k
       ·intro Lx g75 s K hl hh k
        show At 141 ((102,_)::(3,_)::(6,_)::(8,_)::(9,_)::(11,_)::Lx) _ _
        refine gn ?_
        exact at_nil k
       ·intro Lx g75 s K hl hh k
        show At 141 ((102,_)::(109,_)::(110,_)::(3,_)::(6,_)::(8,_)::(9,_)::(11,_)::Lx) _ _
        refine gn ?_
        exact at_nil k
       ·intro Lx g75 s K hl hh k
        show At 141 ((102,_)::(111,_)::(3,_)::(6,_)::(8,_)::(9,_)::(11,_)::Lx) _ _
        refine gn ?_
        exact at_nil k
       ·intro Lx g75 s K hl hh k
        show At 141 ((102,_)::(112,_)::(3,_)::(6,_)::(8,_)::(9,_)::(11,_)::Lx) _ _
        obtain rfl:s=0:=by omega
        refine gn ?_
        exact at_nil k
       ·intro Lx g75 s K hl hh k
        show At 141 ((102,_)::(113,_)::(3,_)::(6,_)::(8,_)::(9,_)::(11,_)::Lx) _ _
        refine gn ?_
        exact at_nil k
       ·intro Lx g75 s K hl hh k
        show At 141 ((102,_)::(108,_)::(114,_)::(3,_)::(6,_)::(8,_)::(9,_)::(11,_)::Lx) _ _
        obtain rfl:s=0:=by omega
        refine gn ?_
        exact at_nil k
       ·intro Lx g75 s K hl hh k
        show At 141 ((102,_)::(3,_)::(6,_)::(8,_)::(9,_)::(11,_)::Lx) _ _
        refine gn ?_
        exact at_nil k
       ·intro Lx g75 s K hl hh k
        show At 141 ((102,_)::(3,_)::(6,_)::(8,_)::(9,_)::(11,_)::Lx) _ _
        refine gn ?_
        exact at_nil k
       ·intro Lx g75 s K hl hh k
        show At 141 ((102,_)::(116,_)::(117,_)::(3,_)::(6,_)::(8,_)::(9,_)::(11,_)::Lx) _ _
        refine gn ?_
        exact at_nil k
       ·intro Lx g75 s K hl hh k
        show At 141 ((102,_)::(118,_)::(3,_)::(6,_)::(8,_)::(9,_)::(11,_)::Lx) _ _
        refine gn ?_
        exact at_nil k
       ·intro Lx g75 s K hl hh k
        show At 141 ((102,_)::(119,_)::(3,_)::(6,_)::(8,_)::(9,_)::(11,_)::Lx) _ _
        obtain rfl:s=0:=by omega
        refine gn ?_
        exact at_nil k
       ·intro Lx g75 s K hl hh k
        show At 141 ((102,_)::(3,_)::(6,_)::(8,_)::(9,_)::(11,_)::Lx) _ _
        refine gn ?_
        exact at_nil k
       ·intro Lx g75 s K hl hh k
        show At 141 ((102,_)::(3,_)::(6,_)::(8,_)::(9,_)::(11,_)::Lx) _ _
        refine gn ?_
        exact at_nil k
       ·intro Lx g75 s K hl hh k
        show At 141 ((102,_)::(121,_)::(122,_)::(3,_)::(6,_)::(8,_)::(9,_)::(11,_)::Lx) _ _
        refine gn ?_
        exact at_nil k
       ·intro Lx g75 s K hl hh k
        show At 141 ((102,_)::(123,_)::(3,_)::(6,_)::(8,_)::(9,_)::(11,_)::Lx) _ _
        refine gn ?_
        exact at_nil k
       ·intro Lx g75 s K hl hh k
        show At 141 ((102,_)::(124,_)::(3,_)::(6,_)::(8,_)::(9,_)::(11,_)::Lx) _ _
        obtain rfl:s=0:=by omega
        refine gn ?_
        exact at_nil k
       ·intro Lx g75 s K hl hh k
        show At 141 ((102,_)::(125,_)::(3,_)::(6,_)::(8,_)::(9,_)::(11,_)::Lx) _ _
        refine gn ?_
        exact at_nil k
       ·intro Lx g75 s K hl hh k
        show At 141 ((102,_)::(120,_)::(126,_)::(3,_)::(6,_)::(8,_)::(9,_)::(11,_)::Lx) _ _
        obtain rfl:s=0:=by omega
        refine gn ?_
        exact at_nil k
       ·intro Lx g75 s K hl hh k
        show At 141 ((102,_)::(115,_)::(127,_)::(3,_)::(6,_)::(8,_)::(9,_)::(11,_)::Lx) _ _
        refine gn ?_
        exact at_nil k
       ·intro Lx g75 s K hl hh k
        show At 141 ((102,_)::(128,_)::(3,_)::(6,_)::(8,_)::(9,_)::(11,_)::Lx) _ _
        refine aw xp ?_
        exact at_nil k
       intro g75
       show At 141 [(78,_),(79,_),(80,_),(81,_),(82,_),(83,_),(84,_),(85,_),(86,_),(87,_),(88,_),(89,_),(90,_),(91,_),(92,_),(93,_),(94,_),(95,_),(96,_),(97,_),(98,_),(99,_),(100,_),(101,_),(102,_),(103,_),(104,_),(105,_),(106,_),(107,_),(108,_),(109,_),(110,_),(111,_),(112,_),(113,_),(114,_),(115,_),(116,_),(117,_),(118,_),(119,_),(120,_),(121,_),(122,_),(123,_),(124,_),(125,_),(126,_),(127,_),(128,_),(129,_),(3,_),(6,_),(8,_),(9,_),(11,_)] _ _
       refine wq [129,11,9,8,6,3] ?_
       refine tn ?_
       refine cf rfl ?_
       refine sn (qr ?_)
       refine aw (r_load_aggc (c:=c_api_Addr) (z:=t27.2) isAgg24 sizeOf24 rfl (lens_cell .z lw)) ?_
       obtain ⟨t76,ht76,hF⟩:=bM hF
       refine cB func17 rfl (fun w hw=>crawlwayref53_Next_ok _ _ ht76 w) ?_
       refine am ?_
       refine aw xe (aw xe ?_)
       refine at_store (c:=c_api_Addr) (z:=t76.1) (.s .z) lw sizeOf24 rfl rfl rfl ?_
       refine qn (dz (wq [9,8,6,3] ?_))
       refine bm ?_
       refine qr (am (aw xa (aa (nwq [9,8,6,3] ?_))))
       exact at_weak_k (ih _ _ _ hF K) ⟨rfl,rfl,rfl,rfl,trivial⟩
      skip
      refine at_inv [.q 78 (fun g77=>.int .i64 i20) [] 0 0,.q 79 (fun g77=>.bool (decide (i20>0))) [0] 0 0,.q 80 (fun g77=>.bool true) [1] 0 0,.q 81 (fun g77=>.slice p5 t4.length c6) [2] 0 0,.q 82 (fun g77=>.int .i64 i20) [2] 0 0,.q 83 (fun g77=>.int .i64 (wr .i64 (i20-1))) [2,4] 0 0,.q 84 (fun g77=>.pointer (some ⟨b42,o43+Int.toNat (wr .i64 (i20-1))*18,none⟩)) [2,3,5] 0 0,.q 85 (fun g77=>.pointer (some ⟨b42,o43+Int.toNat (wr .i64 (i20-1))*18+17,none⟩)) [2,6] 0 0,.q 86 (fun g77=>.int .i64 ((lget t4 (wr .i64 (i20-1))).f_Bits)) [2,7] 0 0,.q 87 (fun g77=>.slice p5 t4.length c6) [2] 0 0,.q 88 (fun g77=>.int .i64 i20) [2] 0 0,.q 89 (fun g77=>.pointer (some ⟨b46,o47+Int.toNat i20*18,none⟩)) [2,9,10] 0 0,.q 90 (fun g77=>.pointer (some ⟨b46,o47+Int.toNat i20*18+17,none⟩)) [2,11] 0 0,.q 91 (fun g77=>.int .i64 ((lget t4 i20).f_Bits)) [2,12] 0 0,.q 92 (fun g77=>.bool ((lget t4 (wr .i64 (i20-1))).f_Bits==(lget t4 i20).f_Bits)) [2,8,13] 0 0,.q 93 (fun g77=>.bool ((lget t4 (wr .i64 (i20-1))).f_Bits==(lget t4 i20).f_Bits)) [2,14] 0 0,.q 94 (fun g77=>.bool false) [15] 0 0,.q 95 (fun g77=>undef) [16] 0 0,.q 96 (fun g77=>undef) [16] 0 0,.q 97 (fun g77=>undef) [16,17,18] 0 0,.q 98 (fun g77=>undef) [16,19] 0 0,.q 99 (fun g77=>undef) [16,20] 0 0,.q 100 (fun g77=>undef) [16,21] 0 0,.q 101 (fun g77=>.bool false) [16,22] 0 0,.q 102 (fun g77=>.bool false) [23] 0 0,.q 103 (fun g77=>undef) [24] 0 0,.q 104 (fun g77=>undef) [24] 0 0,.q 105 (fun g77=>undef) [24,26] 0 0,.q 106 (fun g77=>undef) [24,25,27] 0 0,.q 107 (fun g77=>undef) [24,28] 0 0,.q 108 (fun g77=>undef) [24,29] 0 0,.q 109 (fun g77=>undef) [24] 0 0,.q 110 (fun g77=>undef) [24] 0 0,.q 111 (fun g77=>undef) [24,31,32] 0 0,.q 112 (fun g77=>undef) [24,33] 0 0,.q 113 (fun g77=>undef) [24,34] 0 0,.q 114 (fun g77=>undef) [24,35] 0 0,.q 115 (fun g77=>undef) [24,30,36] 0 0,.q 116 (fun g77=>undef) [24] 0 0,.q 117 (fun g77=>undef) [24] 0 0,.q 118 (fun g77=>undef) [24,38,39] 0 0,.q 119 (fun g77=>undef) [24,40] 0 0,.q 120 (fun g77=>undef) [24,41] 0 0,.q 121 (fun g77=>undef) [24] 0 0,.q 122 (fun g77=>undef) [24] 0 0,.q 123 (fun g77=>undef) [24,43,44] 0 0,.q 124 (fun g77=>undef) [24,45] 0 0,.q 125 (fun g77=>undef) [24,46] 0 0,.q 126 (fun g77=>undef) [24,47] 0 0,.q 127 (fun g77=>undef) [24,42,48] 0 0,.q 128 (fun g77=>undef) [24,37,49] 0 0,.q 129 (fun g77=>.bool false) [24,50] 0 0] (fun g77 s=>match s with | _=>(Wd w [cellsE b29 (Cd.cs c_api_Addr t27.2) 24,cellsE b18 (Cd.cs c_api_Addr i21) 24,rowE c_api_Prefix 37 p5 c6 t4,cellsE b2 (Cd.cs c_api_Addr x1) 24])) 0 (by kernel_rfl) (by kernel_rfl) (by kernel_rfl) (by kernel_rfl) (by kernel_rfl) ⟨fun _ _ _=>rfl,fun _ _ _=>rfl,fun _ _ _=>rfl,fun _ _ _=>rfl,fun _ _ _=>rfl,fun _ _ _=>rfl,fun _ _ _=>rfl,fun _ _ _=>rfl,fun _ _ _=>rfl,fun _ _ _=>rfl,fun _ _ _=>rfl,fun _ _ _=>rfl,fun _ _ _=>rfl,fun _ _ _=>rfl,fun _ _ _=>rfl,fun _ _ _=>rfl,fun _ _ _=>rfl,fun _ _ _=>rfl,fun _ _ _=>rfl,fun _ _ _=>rfl,fun _ _ _=>rfl,fun _ _ _=>rfl,fun _ _ _=>rfl,fun _ _ _=>rfl,fun _ _ _=>rfl,fun _ _ _=>rfl,fun _ _ _=>rfl,fun _ _ _=>rfl,fun _ _ _=>rfl,fun _ _ _=>rfl,fun _ _ _=>rfl,fun _ _ _=>rfl,fun _ _ _=>rfl,fun _ _ _=>rfl,fun _ _ _=>rfl,fun _ _ _=>rfl,fun _ _ _=>rfl,fun _ _ _=>rfl,fun _ _ _=>rfl,fun _ _ _=>rfl,fun _ _ _=>rfl,fun _ _ _=>rfl,fun _ _ _=>rfl,fun _ _ _=>rfl,fun _ _ _=>rfl,fun _ _ _=>rfl,fun _ _ _=>rfl,fun _ _ _=>rfl,fun _ _ _=>rfl,fun _ _ _=>rfl,fun _ _ _=>rfl,fun _ _ _=>rfl,trivial⟩ (by kernel_rfl) (fun w_ h=>⟨fun _=>g3 0 none 0 none w_,h.drew⟩) ⟨?_,?_,?_,?_,?_,?_,?_,?_,?_,?_,?_,?_,?_,?_,?_,?_,?_,?_,?_,?_,?_,?_,?_,?_,?_,?_,?_,?_,?_,?_,?_,?_,?_,?_,?_,?_,?_,?_,?_,?_,?_,?_,?_,?_,?_,?_,?_,?_,?_,?_,?_,?_,trivial⟩ ?_
      ·intro Lx g77 s K hl hh k
       show At 141 ((3,_)::(6,_)::(8,_)::(9,_)::(11,_)::Lx) _ _
       refine am ?_
       exact at_nil k
      ·intro Lx g77 s K hl hh k
       show At 141 ((78,_)::(3,_)::(6,_)::(8,_)::(9,_)::(11,_)::Lx) _ _
       refine aw (r_igtr rfl rfl) ?_
       exact at_nil k
      ·intro Lx g77 s K hl hh k
       show At 141 ((79,_)::(3,_)::(6,_)::(8,_)::(9,_)::(11,_)::Lx) _ _
       refine am ?_
       exact at_nil (at_cast h39 k)
      ·intro Lx g77 s K hl hh k
       show At 141 ((80,_)::(3,_)::(6,_)::(8,_)::(9,_)::(11,_)::Lx) _ _
       refine gy ?_
       refine am ?_
       exact at_nil k
      ·intro Lx g77 s K hl hh k
       show At 141 ((80,_)::(3,_)::(6,_)::(8,_)::(9,_)::(11,_)::Lx) _ _
       refine gy ?_
       refine am ?_
       exact at_nil k
      ·intro Lx g77 s K hl hh k
       show At 141 ((80,_)::(82,_)::(3,_)::(6,_)::(8,_)::(9,_)::(11,_)::Lx) _ _
       refine gy ?_
       refine aw (r_isub rfl rfl) ?_
       exact at_nil k
      ·intro Lx g77 s K hl hh k
       show At 141 ((80,_)::(81,_)::(83,_)::(3,_)::(6,_)::(8,_)::(9,_)::(11,_)::Lx) _ _
       refine gy ?_
       refine aw (r_idx underlying27 sizeOf37 rfl rfl h40 hp41) ?_
       exact at_nil k
      ·intro Lx g77 s K hl hh k
       show At 141 ((80,_)::(84,_)::(3,_)::(6,_)::(8,_)::(9,_)::(11,_)::Lx) _ _
       refine gy ?_
       refine fa 17 underlying37 rfl sizeOf3 ?_
       exact at_nil k
      ·intro Lx g77 s K hl hh k
       show At 141 ((80,_)::(85,_)::(3,_)::(6,_)::(8,_)::(9,_)::(11,_)::Lx) _ _
       refine gy ?_
       obtain rfl:s=0:=by omega
       refine aw (r_load_cell isAgg3 rfl (fun w1 hw=>row_lens0 (y:=(lget t4 (wr .i64 (i20-1))).f_Bits) (W:=fun w1=>w1=_) (fun w1 h=>by subst h;exact Below.refl _ _) (hw.own (.s (.s .z))).row h40 hp41 (Lens.comp lw (fun z=>{ (lget t4 (wr .i64 (i20-1))) with f_Bits:=z }) (c_api_Prefix_f_Bits (lget t4 (wr .i64 (i20-1))))) rfl _ rfl)) ?_
       exact at_nil k
      ·intro Lx g77 s K hl hh k
       show At 141 ((80,_)::(3,_)::(6,_)::(8,_)::(9,_)::(11,_)::Lx) _ _
       refine gy ?_
       refine am ?_
       exact at_nil k
      ·intro Lx g77 s K hl hh k
       show At 141 ((80,_)::(3,_)::(6,_)::(8,_)::(9,_)::(11,_)::Lx) _ _
       refine gy ?_
       refine am ?_
       exact at_nil k
      ·intro Lx g77 s K hl hh k
       show At 141 ((80,_)::(87,_)::(88,_)::(3,_)::(6,_)::(8,_)::(9,_)::(11,_)::Lx) _ _
       refine gy ?_
       refine aw (r_idx underlying27 sizeOf37 rfl rfl h44 hp45) ?_
       exact at_nil k
      ·intro Lx g77 s K hl hh k
       show At 141 ((80,_)::(89,_)::(3,_)::(6,_)::(8,_)::(9,_)::(11,_)::Lx) _ _
       refine gy ?_
       refine fa 17 underlying37 rfl sizeOf3 ?_
       exact at_nil k
      ·intro Lx g77 s K hl hh k
       show At 141 ((80,_)::(90,_)::(3,_)::(6,_)::(8,_)::(9,_)::(11,_)::Lx) _ _
       refine gy ?_
       obtain rfl:s=0:=by omega
       refine aw (r_load_cell isAgg3 rfl (fun w1 hw=>row_lens0 (y:=(lget t4 i20).f_Bits) (W:=fun w1=>w1=_) (fun w1 h=>by subst h;exact Below.refl _ _) (hw.own (.s (.s .z))).row h44 hp45 (Lens.comp lw (fun z=>{ (lget t4 i20) with f_Bits:=z }) (c_api_Prefix_f_Bits (lget t4 i20))) rfl _ rfl)) ?_
       exact at_nil k
      ·intro Lx g77 s K hl hh k
       show At 141 ((80,_)::(86,_)::(91,_)::(3,_)::(6,_)::(8,_)::(9,_)::(11,_)::Lx) _ _
       refine gy ?_
       refine aw xq ?_
       exact at_nil k
      ·intro Lx g77 s K hl hh k
       show At 141 ((80,_)::(92,_)::(3,_)::(6,_)::(8,_)::(9,_)::(11,_)::Lx) _ _
       refine aw xp ?_
       exact at_nil k
      ·intro Lx g77 s K hl hh k
       show At 141 ((93,_)::(3,_)::(6,_)::(8,_)::(9,_)::(11,_)::Lx) _ _
       refine am ?_
       exact at_nil (at_cast h48 k)
      ·intro Lx g77 s K hl hh k
       show At 141 ((94,_)::(3,_)::(6,_)::(8,_)::(9,_)::(11,_)::Lx) _ _
       refine gn ?_
       exact at_nil k
      ·intro Lx g77 s K hl hh k
       show At 141 ((94,_)::(3,_)::(6,_)::(8,_)::(9,_)::(11,_)::Lx) _ _
       refine gn ?_
       exact at_nil k
      ·intro Lx g77 s K hl hh k
       show At 141 ((94,_)::(95,_)::(96,_)::(3,_)::(6,_)::(8,_)::(9,_)::(11,_)::Lx) _ _
       refine gn ?_
       exact at_nil k
      ·intro Lx g77 s K hl hh k
       show At 141 ((94,_)::(97,_)::(3,_)::(6,_)::(8,_)::(9,_)::(11,_)::Lx) _ _
       refine gn ?_
       exact at_nil k
      ·intro Lx g77 s K hl hh k
       show At 141 ((94,_)::(98,_)::(3,_)::(6,_)::(8,_)::(9,_)::(11,_)::Lx) _ _
       obtain rfl:s=0:=by omega
       refine gn ?_
       exact at_nil k
      ·intro Lx g77 s K hl hh k
       show At 141 ((94,_)::(99,_)::(3,_)::(6,_)::(8,_)::(9,_)::(11,_)::Lx) _ _
       refine gn ?_
       exact at_nil k
      ·intro Lx g77 s K hl hh k
       show At 141 ((94,_)::(100,_)::(3,_)::(6,_)::(8,_)::(9,_)::(11,_)::Lx) _ _
       refine aw xp ?_
       exact at_nil k
      ·intro Lx g77 s K hl hh k
       show At 141 ((101,_)::(3,_)::(6,_)::(8,_)::(9,_)::(11,_)::Lx) _ _
       refine am ?_
       exact at_nil k
      ·intro Lx g77 s K hl hh k
       show At 141 ((102,_)::(3,_)::(6,_)::(8,_)::(9,_)::(11,_)::Lx) _ _
       refine gn ?_
       exact at_nil k
      ·intro Lx g77 s K hl hh k
       show At 141 ((102,_)::(3,_)::(6,_)::(8,_)::(9,_)::(11,_)::Lx) _ _
       refine gn ?_
       exact at_nil k
      ·intro Lx g77 s K hl hh k
       show At 141 ((102,_)::(104,_)::(3,_)::(6,_)::(8,_)::(9,_)::(11,_)::Lx) _ _
       refine gn ?_
       exact at_nil k
      ·intro Lx g77 s K hl hh k
       show At 141 ((102,_)::(103,_)::(105,_)::(3,_)::(6,_)::(8,_)::(9,_)::(11,_)::Lx) _ _
       refine gn ?_
       exact at_nil k
      ·intro Lx g77 s K hl hh k
       show At 141 ((102,_)::(106,_)::(3,_)::(6,_)::(8,_)::(9,_)::(11,_)::Lx) _ _
       refine gn ?_
       exact at_nil k
      ·intro Lx g77 s K hl hh k
       show At 141 ((102,_)::(107,_)::(3,_)::(6,_)::(8,_)::(9,_)::(11,_)::Lx) _ _
       obtain rfl:s=0:=by omega
       refine gn ?_
       exact at_nil k
      ·intro Lx g77 s K hl hh k
       show At 141 ((102,_)::(3,_)::(6,_)::(8,_)::(9,_)::(11,_)::Lx) _ _
       refine gn ?_
       exact at_nil k
      ·intro Lx g77 s K hl hh k
       show At 141 ((102,_)::(3,_)::(6,_)::(8,_)::(9,_)::(11,_)::Lx) _ _
       refine gn ?_
       exact at_nil k
      ·intro Lx g77 s K hl hh k
       show At 141 ((102,_)::(109,_)::(110,_)::(3,_)::(6,_)::(8,_)::(9,_)::(11,_)::Lx) _ _
       refine gn ?_
       exact at_nil k
      ·intro Lx g77 s K hl hh k
       show At 141 ((102,_)::(111,_)::(3,_)::(6,_)::(8,_)::(9,_)::(11,_)::Lx) _ _
       refine gn ?_
       exact at_nil k
      ·intro Lx g77 s K hl hh k
       show At 141 ((102,_)::(112,_)::(3,_)::(6,_)::(8,_)::(9,_)::(11,_)::Lx) _ _
       obtain rfl:s=0:=by omega
       refine gn ?_
       exact at_nil k
      ·intro Lx g77 s K hl hh k
       show At 141 ((102,_)::(113,_)::(3,_)::(6,_)::(8,_)::(9,_)::(11,_)::Lx) _ _
       refine gn ?_
       exact at_nil k
      ·intro Lx g77 s K hl hh k
       show At 141 ((102,_)::(108,_)::(114,_)::(3,_)::(6,_)::(8,_)::(9,_)::(11,_)::Lx) _ _
       obtain rfl:s=0:=by omega
       refine gn ?_
       exact at_nil k
      ·intro Lx g77 s K hl hh k
       show At 141 ((102,_)::(3,_)::(6,_)::(8,_)::(9,_)::(11,_)::Lx) _ _
       refine gn ?_
       exact at_nil k
      ·intro Lx g77 s K hl hh k
       show At 141 ((102,_)::(3,_)::(6,_)::(8,_)::(9,_)::(11,_)::Lx) _ _
       refine gn ?_
       exact at_nil k
      ·intro Lx g77 s K hl hh k
       show At 141 ((102,_)::(116,_)::(117,_)::(3,_)::(6,_)::(8,_)::(9,_)::(11,_)::Lx) _ _
       refine gn ?_
       exact at_nil k
      ·intro Lx g77 s K hl hh k
       show At 141 ((102,_)::(118,_)::(3,_)::(6,_)::(8,_)::(9,_)::(11,_)::Lx) _ _
       refine gn ?_
       exact at_nil k
      ·intro Lx g77 s K hl hh k
       show At 141 ((102,_)::(119,_)::(3,_)::(6,_)::(8,_)::(9,_)::(11,_)::Lx) _ _
       obtain rfl:s=0:=by omega
       refine gn ?_
       exact at_nil k
      ·intro Lx g77 s K hl hh k
       show At 141 ((102,_)::(3,_)::(6,_)::(8,_)::(9,_)::(11,_)::Lx) _ _
       refine gn ?_
       exact at_nil k
      ·intro Lx g77 s K hl hh k
       show At 141 ((102,_)::(3,_)::(6,_)::(8,_)::(9,_)::(11,_)::Lx) _ _
       refine gn ?_
       exact at_nil k
      ·intro Lx g77 s K hl hh k
       show At 141 ((102,_)::(121,_)::(122,_)::(3,_)::(6,_)::(8,_)::(9,_)::(11,_)::Lx) _ _
       refine gn ?_
       exact at_nil k
      ·intro Lx g77 s K hl hh k
       show At 141 ((102,_)::(123,_)::(3,_)::(6,_)::(8,_)::(9,_)::(11,_)::Lx) _ _
       refine gn ?_
       exact at_nil k
      ·intro Lx g77 s K hl hh k
       show At 141 ((102,_)::(124,_)::(3,_)::(6,_)::(8,_)::(9,_)::(11,_)::Lx) _ _
       obtain rfl:s=0:=by omega
       refine gn ?_
       exact at_nil k
      ·intro Lx g77 s K hl hh k
       show At 141 ((102,_)::(125,_)::(3,_)::(6,_)::(8,_)::(9,_)::(11,_)::Lx) _ _
       refine gn ?_
       exact at_nil k
      ·intro Lx g77 s K hl hh k
       show At 141 ((102,_)::(120,_)::(126,_)::(3,_)::(6,_)::(8,_)::(9,_)::(11,_)::Lx) _ _
       obtain rfl:s=0:=by omega
       refine gn ?_
       exact at_nil k
      ·intro Lx g77 s K hl hh k
       show At 141 ((102,_)::(115,_)::(127,_)::(3,_)::(6,_)::(8,_)::(9,_)::(11,_)::Lx) _ _
       refine gn ?_
       exact at_nil k
      ·intro Lx g77 s K hl hh k
       show At 141 ((102,_)::(128,_)::(3,_)::(6,_)::(8,_)::(9,_)::(11,_)::Lx) _ _
       refine aw xp ?_
       exact at_nil k
      intro g77
      show At 141 [(78,_),(79,_),(80,_),(81,_),(82,_),(83,_),(84,_),(85,_),(86,_),(87,_),(88,_),(89,_),(90,_),(91,_),(92,_),(93,_),(94,_),(95,_),(96,_),(97,_),(98,_),(99,_),(100,_),(101,_),(102,_),(103,_),(104,_),(105,_),(106,_),(107,_),(108,_),(109,_),(110,_),(111,_),(112,_),(113,_),(114,_),(115,_),(116,_),(117,_),(118,_),(119,_),(120,_),(121,_),(122,_),(123,_),(124,_),(125,_),(126,_),(127,_),(128,_),(129,_),(3,_),(6,_),(8,_),(9,_),(11,_)] _ _
      refine wq [129,11,9,8,6,3] ?_
      refine tn ?_
      refine cf rfl ?_
      refine sn (qr ?_)
      refine aw (r_load_aggc (c:=c_api_Addr) (z:=t27.2) isAgg24 sizeOf24 rfl (lens_cell .z lw)) ?_
      obtain ⟨t78,ht78,hF⟩:=bM hF
      refine cB func17 rfl (fun w hw=>crawlwayref53_Next_ok _ _ ht78 w) ?_
      refine am ?_
      refine aw xe (aw xe ?_)
      refine at_store (c:=c_api_Addr) (z:=t78.1) (.s .z) lw sizeOf24 rfl rfl rfl ?_
      refine qn (dz (wq [9,8,6,3] ?_))
      refine bm ?_
      refine qr (am (aw xa (aa (nwq [9,8,6,3] ?_))))
      exact at_weak_k (ih _ _ _ hF K) ⟨rfl,rfl,rfl,rfl,trivial⟩
     skip
     refine at_inv [.q 78 (fun g79=>.int .i64 i20) [] 0 0,.q 79 (fun g79=>.bool (decide (i20>0))) [0] 0 0,.q 80 (fun g79=>.bool false) [1] 0 0,.q 81 (fun g79=>undef) [2] 0 0,.q 82 (fun g79=>undef) [2] 0 0,.q 83 (fun g79=>undef) [2,4] 0 0,.q 84 (fun g79=>undef) [2,3,5] 0 0,.q 85 (fun g79=>undef) [2,6] 0 0,.q 86 (fun g79=>undef) [2,7] 0 0,.q 87 (fun g79=>undef) [2] 0 0,.q 88 (fun g79=>undef) [2] 0 0,.q 89 (fun g79=>undef) [2,9,10] 0 0,.q 90 (fun g79=>undef) [2,11] 0 0,.q 91 (fun g79=>undef) [2,12] 0 0,.q 92 (fun g79=>undef) [2,8,13] 0 0,.q 93 (fun g79=>.bool false) [2,14] 0 0,.q 94 (fun g79=>.bool false) [15] 0 0,.q 95 (fun g79=>undef) [16] 0 0,.q 96 (fun g79=>undef) [16] 0 0,.q 97 (fun g79=>undef) [16,17,18] 0 0,.q 98 (fun g79=>undef) [16,19] 0 0,.q 99 (fun g79=>undef) [16,20] 0 0,.q 100 (fun g79=>undef) [16,21] 0 0,.q 101 (fun g79=>.bool false) [16,22] 0 0,.q 102 (fun g79=>.bool false) [23] 0 0,.q 103 (fun g79=>undef) [24] 0 0,.q 104 (fun g79=>undef) [24] 0 0,.q 105 (fun g79=>undef) [24,26] 0 0,.q 106 (fun g79=>undef) [24,25,27] 0 0,.q 107 (fun g79=>undef) [24,28] 0 0,.q 108 (fun g79=>undef) [24,29] 0 0,.q 109 (fun g79=>undef) [24] 0 0,.q 110 (fun g79=>undef) [24] 0 0,.q 111 (fun g79=>undef) [24,31,32] 0 0,.q 112 (fun g79=>undef) [24,33] 0 0,.q 113 (fun g79=>undef) [24,34] 0 0,.q 114 (fun g79=>undef) [24,35] 0 0,.q 115 (fun g79=>undef) [24,30,36] 0 0,.q 116 (fun g79=>undef) [24] 0 0,.q 117 (fun g79=>undef) [24] 0 0,.q 118 (fun g79=>undef) [24,38,39] 0 0,.q 119 (fun g79=>undef) [24,40] 0 0,.q 120 (fun g79=>undef) [24,41] 0 0,.q 121 (fun g79=>undef) [24] 0 0,.q 122 (fun g79=>undef) [24] 0 0,.q 123 (fun g79=>undef) [24,43,44] 0 0,.q 124 (fun g79=>undef) [24,45] 0 0,.q 125 (fun g79=>undef) [24,46] 0 0,.q 126 (fun g79=>undef) [24,47] 0 0,.q 127 (fun g79=>undef) [24,42,48] 0 0,.q 128 (fun g79=>undef) [24,37,49] 0 0,.q 129 (fun g79=>.bool false) [24,50] 0 0] (fun g79 s=>match s with | _=>(Wd w [cellsE b29 (Cd.cs c_api_Addr t27.2) 24,cellsE b18 (Cd.cs c_api_Addr i21) 24,rowE c_api_Prefix 37 p5 c6 t4,cellsE b2 (Cd.cs c_api_Addr x1) 24])) 0 (by kernel_rfl) (by kernel_rfl) (by kernel_rfl) (by kernel_rfl) (by kernel_rfl) ⟨fun _ _ _=>rfl,fun _ _ _=>rfl,fun _ _ _=>rfl,fun _ _ _=>rfl,fun _ _ _=>rfl,fun _ _ _=>rfl,fun _ _ _=>rfl,fun _ _ _=>rfl,fun _ _ _=>rfl,fun _ _ _=>rfl,fun _ _ _=>rfl,fun _ _ _=>rfl,fun _ _ _=>rfl,fun _ _ _=>rfl,fun _ _ _=>rfl,fun _ _ _=>rfl,fun _ _ _=>rfl,fun _ _ _=>rfl,fun _ _ _=>rfl,fun _ _ _=>rfl,fun _ _ _=>rfl,fun _ _ _=>rfl,fun _ _ _=>rfl,fun _ _ _=>rfl,fun _ _ _=>rfl,fun _ _ _=>rfl,fun _ _ _=>rfl,fun _ _ _=>rfl,fun _ _ _=>rfl,fun _ _ _=>rfl,fun _ _ _=>rfl,fun _ _ _=>rfl,fun _ _ _=>rfl,fun _ _ _=>rfl,fun _ _ _=>rfl,fun _ _ _=>rfl,fun _ _ _=>rfl,fun _ _ _=>rfl,fun _ _ _=>rfl,fun _ _ _=>rfl,fun _ _ _=>rfl,fun _ _ _=>rfl,fun _ _ _=>rfl,fun _ _ _=>rfl,fun _ _ _=>rfl,fun _ _ _=>rfl,fun _ _ _=>rfl,fun _ _ _=>rfl,fun _ _ _=>rfl,fun _ _ _=>rfl,fun _ _ _=>rfl,fun _ _ _=>rfl,trivial⟩ (by kernel_rfl) (fun w_ h=>⟨fun _=>g3 0 none 0 none w_,h.drew⟩) ⟨?_,?_,?_,?_,?_,?_,?_,?_,?_,?_,?_,?_,?_,?_,?_,?_,?_,?_,?_,?_,?_,?_,?_,?_,?_,?_,?_,?_,?_,?_,?_,?_,?_,?_,?_,?_,?_,?_,?_,?_,?_,?_,?_,?_,?_,?_,?_,?_,?_,?_,?_,?_,trivial⟩ ?_
     ·intro Lx g79 s K hl hh k
      show At 141 ((3,_)::(6,_)::(8,_)::(9,_)::(11,_)::Lx) _ _
      refine am ?_
      exact at_nil k
     ·intro Lx g79 s K hl hh k
      show At 141 ((78,_)::(3,_)::(6,_)::(8,_)::(9,_)::(11,_)::Lx) _ _
      refine aw (r_igtr rfl rfl) ?_
      exact at_nil k
     ·intro Lx g79 s K hl hh k
      show At 141 ((79,_)::(3,_)::(6,_)::(8,_)::(9,_)::(11,_)::Lx) _ _
      refine am ?_
      exact at_nil (at_cast h39 k)
     ·intro Lx g79 s K hl hh k
      show At 141 ((80,_)::(3,_)::(6,_)::(8,_)::(9,_)::(11,_)::Lx) _ _
      refine gn ?_
      exact at_nil k
     ·intro Lx g79 s K hl hh k
      show At 141 ((80,_)::(3,_)::(6,_)::(8,_)::(9,_)::(11,_)::Lx) _ _
      refine gn ?_
      exact at_nil k
     ·intro Lx g79 s K hl hh k
      show At 141 ((80,_)::(82,_)::(3,_)::(6,_)::(8,_)::(9,_)::(11,_)::Lx) _ _
      refine gn ?_
      exact at_nil k
     ·intro Lx g79 s K hl hh k
      show At 141 ((80,_)::(81,_)::(83,_)::(3,_)::(6,_)::(8,_)::(9,_)::(11,_)::Lx) _ _
      refine gn ?_
      exact at_nil k
     ·intro Lx g79 s K hl hh k
      show At 141 ((80,_)::(84,_)::(3,_)::(6,_)::(8,_)::(9,_)::(11,_)::Lx) _ _
      refine gn ?_
      exact at_nil k
     ·intro Lx g79 s K hl hh k
      show At 141 ((80,_)::(85,_)::(3,_)::(6,_)::(8,_)::(9,_)::(11,_)::Lx) _ _
      obtain rfl:s=0:=by omega
      refine gn ?_
      exact at_nil k
     ·intro Lx g79 s K hl hh k
      show At 141 ((80,_)::(3,_)::(6,_)::(8,_)::(9,_)::(11,_)::Lx) _ _
      refine gn ?_
      exact at_nil k
     ·intro Lx g79 s K hl hh k
      show At 141 ((80,_)::(3,_)::(6,_)::(8,_)::(9,_)::(11,_)::Lx) _ _
      refine gn ?_
      exact at_nil k
     ·intro Lx g79 s K hl hh k
      show At 141 ((80,_)::(87,_)::(88,_)::(3,_)::(6,_)::(8,_)::(9,_)::(11,_)::Lx) _ _
      refine gn ?_
      exact at_nil k
     ·intro Lx g79 s K hl hh k
      show At 141 ((80,_)::(89,_)::(3,_)::(6,_)::(8,_)::(9,_)::(11,_)::Lx) _ _
      refine gn ?_
      exact at_nil k
     ·intro Lx g79 s K hl hh k
      show At 141 ((80,_)::(90,_)::(3,_)::(6,_)::(8,_)::(9,_)::(11,_)::Lx) _ _
      obtain rfl:s=0:=by omega
      refine gn ?_
      exact at_nil k
     ·intro Lx g79 s K hl hh k
      show At 141 ((80,_)::(86,_)::(91,_)::(3,_)::(6,_)::(8,_)::(9,_)::(11,_)::Lx) _ _
      refine gn ?_
      exact at_nil k
     ·intro Lx g79 s K hl hh k
      show At 141 ((80,_)::(92,_)::(3,_)::(6,_)::(8,_)::(9,_)::(11,_)::Lx) _ _
      refine aw xp ?_
      exact at_nil k
     ·intro Lx g79 s K hl hh k
      show At 141 ((93,_)::(3,_)::(6,_)::(8,_)::(9,_)::(11,_)::Lx) _ _
      refine am ?_
      exact at_nil k
     ·intro Lx g79 s K hl hh k
      show At 141 ((94,_)::(3,_)::(6,_)::(8,_)::(9,_)::(11,_)::Lx) _ _
      refine gn ?_
      exact at_nil k
     ·intro Lx g79 s K hl hh k
      show At 141 ((94,_)::(3,_)::(6,_)::(8,_)::(9,_)::(11,_)::Lx) _ _
      refine gn ?_
      exact at_nil k
     ·intro Lx g79 s K hl hh k
      show At 141 ((94,_)::(95,_)::(96,_)::(3,_)::(6,_)::(8,_)::(9,_)::(11,_)::Lx) _ _
      refine gn ?_
      exact at_nil k
     ·intro Lx g79 s K hl hh k
      show At 141 ((94,_)::(97,_)::(3,_)::(6,_)::(8,_)::(9,_)::(11,_)::Lx) _ _
      refine gn ?_
      exact at_nil k
     ·intro Lx g79 s K hl hh k
      show At 141 ((94,_)::(98,_)::(3,_)::(6,_)::(8,_)::(9,_)::(11,_)::Lx) _ _
      obtain rfl:s=0:=by omega
      refine gn ?_
      exact at_nil k
     ·intro Lx g79 s K hl hh k
      show At 141 ((94,_)::(99,_)::(3,_)::(6,_)::(8,_)::(9,_)::(11,_)::Lx) _ _
      refine gn ?_
      exact at_nil k
     ·intro Lx g79 s K hl hh k
      show At 141 ((94,_)::(100,_)::(3,_)::(6,_)::(8,_)::(9,_)::(11,_)::Lx) _ _
      refine aw xp ?_
      exact at_nil k
     ·intro Lx g79 s K hl hh k
      show At 141 ((101,_)::(3,_)::(6,_)::(8,_)::(9,_)::(11,_)::Lx) _ _
      refine am ?_
      exact at_nil k
     ·intro Lx g79 s K hl hh k
      show At 141 ((102,_)::(3,_)::(6,_)::(8,_)::(9,_)::(11,_)::Lx) _ _
      refine gn ?_
      exact at_nil k
     ·intro Lx g79 s K hl hh k
      show At 141 ((102,_)::(3,_)::(6,_)::(8,_)::(9,_)::(11,_)::Lx) _ _
      refine gn ?_
      exact at_nil k
     ·intro Lx g79 s K hl hh k
      show At 141 ((102,_)::(104,_)::(3,_)::(6,_)::(8,_)::(9,_)::(11,_)::Lx) _ _
      refine gn ?_
      exact at_nil k
     ·intro Lx g79 s K hl hh k
      show At 141 ((102,_)::(103,_)::(105,_)::(3,_)::(6,_)::(8,_)::(9,_)::(11,_)::Lx) _ _
      refine gn ?_
      exact at_nil k
     ·intro Lx g79 s K hl hh k
      show At 141 ((102,_)::(106,_)::(3,_)::(6,_)::(8,_)::(9,_)::(11,_)::Lx) _ _
      refine gn ?_
      exact at_nil k
     ·intro Lx g79 s K hl hh k
      show At 141 ((102,_)::(107,_)::(3,_)::(6,_)::(8,_)::(9,_)::(11,_)::Lx) _ _
      obtain rfl:s=0:=by omega
      refine gn ?_
      exact at_nil k
     ·intro Lx g79 s K hl hh k
      show At 141 ((102,_)::(3,_)::(6,_)::(8,_)::(9,_)::(11,_)::Lx) _ _
      refine gn ?_
      exact at_nil k
     ·intro Lx g79 s K hl hh k
      show At 141 ((102,_)::(3,_)::(6,_)::(8,_)::(9,_)::(11,_)::Lx) _ _
      refine gn ?_
      exact at_nil k
     ·intro Lx g79 s K hl hh k
      show At 141 ((102,_)::(109,_)::(110,_)::(3,_)::(6,_)::(8,_)::(9,_)::(11,_)::Lx) _ _
      refine gn ?_
      exact at_nil k
     ·intro Lx g79 s K hl hh k
      show At 141 ((102,_)::(111,_)::(3,_)::(6,_)::(8,_)::(9,_)::(11,_)::Lx) _ _
      refine gn ?_
      exact at_nil k
     ·intro Lx g79 s K hl hh k
      show At 141 ((102,_)::(112,_)::(3,_)::(6,_)::(8,_)::(9,_)::(11,_)::Lx) _ _
      obtain rfl:s=0:=by omega
      refine gn ?_
      exact at_nil k
     ·intro Lx g79 s K hl hh k
      show At 141 ((102,_)::(113,_)::(3,_)::(6,_)::(8,_)::(9,_)::(11,_)::Lx) _ _
      refine gn ?_
      exact at_nil k
     ·intro Lx g79 s K hl hh k
      show At 141 ((102,_)::(108,_)::(114,_)::(3,_)::(6,_)::(8,_)::(9,_)::(11,_)::Lx) _ _
      obtain rfl:s=0:=by omega
      refine gn ?_
      exact at_nil k
     ·intro Lx g79 s K hl hh k
      show At 141 ((102,_)::(3,_)::(6,_)::(8,_)::(9,_)::(11,_)::Lx) _ _
      refine gn ?_
      exact at_nil k
     ·intro Lx g79 s K hl hh k
      show At 141 ((102,_)::(3,_)::(6,_)::(8,_)::(9,_)::(11,_)::Lx) _ _
      refine gn ?_
      exact at_nil k
     ·intro Lx g79 s K hl hh k
      show At 141 ((102,_)::(116,_)::(117,_)::(3,_)::(6,_)::(8,_)::(9,_)::(11,_)::Lx) _ _
      refine gn ?_
      exact at_nil k
     ·intro Lx g79 s K hl hh k
      show At 141 ((102,_)::(118,_)::(3,_)::(6,_)::(8,_)::(9,_)::(11,_)::Lx) _ _
      refine gn ?_
      exact at_nil k
     ·intro Lx g79 s K hl hh k
      show At 141 ((102,_)::(119,_)::(3,_)::(6,_)::(8,_)::(9,_)::(11,_)::Lx) _ _
      obtain rfl:s=0:=by omega
      refine gn ?_
      exact at_nil k
     ·intro Lx g79 s K hl hh k
      show At 141 ((102,_)::(3,_)::(6,_)::(8,_)::(9,_)::(11,_)::Lx) _ _
      refine gn ?_
      exact at_nil k
     ·intro Lx g79 s K hl hh k
      show At 141 ((102,_)::(3,_)::(6,_)::(8,_)::(9,_)::(11,_)::Lx) _ _
      refine gn ?_
      exact at_nil k
     ·intro Lx g79 s K hl hh k
      show At 141 ((102,_)::(121,_)::(122,_)::(3,_)::(6,_)::(8,_)::(9,_)::(11,_)::Lx) _ _
      refine gn ?_
      exact at_nil k
     ·intro Lx g79 s K hl hh k
      show At 141 ((102,_)::(123,_)::(3,_)::(6,_)::(8,_)::(9,_)::(11,_)::Lx) _ _
      refine gn ?_
      exact at_nil k
     ·intro Lx g79 s K hl hh k
      show At 141 ((102,_)::(124,_)::(3,_)::(6,_)::(8,_)::(9,_)::(11,_)::Lx) _ _
      obtain rfl:s=0:=by omega
      refine gn ?_
      exact at_nil k
     ·intro Lx g79 s K hl hh k
      show At 141 ((102,_)::(125,_)::(3,_)::(6,_)::(8,_)::(9,_)::(11,_)::Lx) _ _
      refine gn ?_
      exact at_nil k
     ·intro Lx g79 s K hl hh k
      show At 141 ((102,_)::(120,_)::(126,_)::(3,_)::(6,_)::(8,_)::(9,_)::(11,_)::Lx) _ _
      obtain rfl:s=0:=by omega
      refine gn ?_
      exact at_nil k
     ·intro Lx g79 s K hl hh k
      show At 141 ((102,_)::(115,_)::(127,_)::(3,_)::(6,_)::(8,_)::(9,_)::(11,_)::Lx) _ _
      refine gn ?_
      exact at_nil k
     ·intro Lx g79 s K hl hh k
      show At 141 ((102,_)::(128,_)::(3,_)::(6,_)::(8,_)::(9,_)::(11,_)::Lx) _ _
      refine aw xp ?_
      exact at_nil k
     intro g79
     show At 141 [(78,_),(79,_),(80,_),(81,_),(82,_),(83,_),(84,_),(85,_),(86,_),(87,_),(88,_),(89,_),(90,_),(91,_),(92,_),(93,_),(94,_),(95,_),(96,_),(97,_),(98,_),(99,_),(100,_),(101,_),(102,_),(103,_),(104,_),(105,_),(106,_),(107,_),(108,_),(109,_),(110,_),(111,_),(112,_),(113,_),(114,_),(115,_),(116,_),(117,_),(118,_),(119,_),(120,_),(121,_),(122,_),(123,_),(124,_),(125,_),(126,_),(127,_),(128,_),(129,_),(3,_),(6,_),(8,_),(9,_),(11,_)] _ _
     refine wq [129,11,9,8,6,3] ?_
     refine tn ?_
     refine cf rfl ?_
     refine sn (qr ?_)
     refine aw (r_load_aggc (c:=c_api_Addr) (z:=t27.2) isAgg24 sizeOf24 rfl (lens_cell .z lw)) ?_
     obtain ⟨t80,ht80,hF⟩:=bM hF
     refine cB func17 rfl (fun w hw=>crawlwayref53_Next_ok _ _ ht80 w) ?_
     refine am ?_
     refine aw xe (aw xe ?_)
     refine at_store (c:=c_api_Addr) (z:=t80.1) (.s .z) lw sizeOf24 rfl rfl rfl ?_
     refine qn (dz (wq [9,8,6,3] ?_))
     refine bm ?_
     refine qr (am (aw xa (aa (nwq [9,8,6,3] ?_))))
     exact at_weak_k (ih _ _ _ hF K) ⟨rfl,rfl,rfl,rfl,trivial⟩
    refine fx 72 h37 ?_
    refine gn ?_
    refine gn ?_
    refine gn ?_
    refine gy ?_
    refine aw xp (aw xp (qn ?_))
    refine at_drop (H:=_) (.s .z) ?_
    refine wq [77,11,9,8,6,3] ?_
    refine tn ?_
    refine cf rfl ?_
    refine sn (qs (qs (wq [11,9,8,6,3] ?_)))
    obtain ⟨h81,hF⟩|⟨h81,hF⟩:=oi hF
    ·skip
     obtain ⟨h82,hF⟩:=gd hF
     refine at_pure (φ:=∃ b o,p5=some ⟨b,o,none⟩) (fun _ hw=>row_ptr (hw.own (.s (.s .z))).row h82) ?_
     rintro ⟨b84,o85,hp83⟩
     obtain ⟨h86,hF⟩:=gd hF
     refine at_pure (φ:=∃ b o,p5=some ⟨b,o,none⟩) (fun _ hw=>row_ptr (hw.own (.s (.s .z))).row h86) ?_
     rintro ⟨b88,o89,hp87⟩
     obtain ⟨h90,hF⟩|⟨h90,hF⟩:=oi hF
     ·skip
      obtain ⟨h91,hF⟩:=gd hF
      refine at_pure (φ:=∃ b o,p5=some ⟨b,o,none⟩) (fun _ hw=>row_ptr (hw.own (.s (.s .z))).row h91) ?_
      rintro ⟨b93,o94,hp92⟩
      obtain ⟨h95,hF⟩|⟨h95,hF⟩:=oi hF
      ·skip
       obtain ⟨h96,hF⟩:=gd hF
       refine at_pure (φ:=∃ b o,p5=some ⟨b,o,none⟩) (fun _ hw=>row_ptr (hw.own (.s (.s .z))).row h96) ?_
       rintro ⟨b98,o99,hp97⟩
       obtain ⟨h100,hF⟩:=gd hF
       refine at_pure (φ:=∃ b o,p5=some ⟨b,o,none⟩) (fun _ hw=>row_ptr (hw.own (.s (.s .z))).row h100) ?_
       rintro ⟨b102,o103,hp101⟩
       obtain ⟨t104,ht104,hF⟩:=bM hF
       obtain ⟨h105,hF⟩:=gd hF
       refine at_pure (φ:=∃ b o,p5=some ⟨b,o,none⟩) (fun _ hw=>row_ptr (hw.own (.s (.s .z))).row h105) ?_
       rintro ⟨b107,o108,hp106⟩
       obtain ⟨h109,hF⟩:=gd hF
       refine at_pure (φ:=∃ b o,p5=some ⟨b,o,none⟩) (fun _ hw=>row_ptr (hw.own (.s (.s .z))).row h109) ?_
       rintro ⟨b111,o112,hp110⟩
       obtain ⟨t113,ht113,hF⟩:=bM hF
       refine at_inv [.q 78 (fun g114=>.int .i64 i20) [] 0 0,.q 79 (fun g114=>.bool (decide (i20>0))) [0] 0 0,.q 80 (fun g114=>.bool true) [1] 0 0,.q 81 (fun g114=>.slice p5 t4.length c6) [2] 0 0,.q 82 (fun g114=>.int .i64 i20) [2] 0 0,.q 83 (fun g114=>.int .i64 (wr .i64 (i20-1))) [2,4] 0 0,.q 84 (fun g114=>.pointer (some ⟨b84,o85+Int.toNat (wr .i64 (i20-1))*18,none⟩)) [2,3,5] 0 0,.q 85 (fun g114=>.pointer (some ⟨b84,o85+Int.toNat (wr .i64 (i20-1))*18+17,none⟩)) [2,6] 0 0,.q 86 (fun g114=>.int .i64 ((lget t4 (wr .i64 (i20-1))).f_Bits)) [2,7] 0 0,.q 87 (fun g114=>.slice p5 t4.length c6) [2] 0 0,.q 88 (fun g114=>.int .i64 i20) [2] 0 0,.q 89 (fun g114=>.pointer (some ⟨b88,o89+Int.toNat i20*18,none⟩)) [2,9,10] 0 0,.q 90 (fun g114=>.pointer (some ⟨b88,o89+Int.toNat i20*18+17,none⟩)) [2,11] 0 0,.q 91 (fun g114=>.int .i64 ((lget t4 i20).f_Bits)) [2,12] 0 0,.q 92 (fun g114=>.bool ((lget t4 (wr .i64 (i20-1))).f_Bits==(lget t4 i20).f_Bits)) [2,8,13] 0 0,.q 93 (fun g114=>.bool ((lget t4 (wr .i64 (i20-1))).f_Bits==(lget t4 i20).f_Bits)) [2,14] 0 0,.q 94 (fun g114=>.bool true) [15] 0 0,.q 95 (fun g114=>.slice p5 t4.length c6) [16] 0 0,.q 96 (fun g114=>.int .i64 i20) [16] 0 0,.q 97 (fun g114=>.pointer (some ⟨b93,o94+Int.toNat i20*18,none⟩)) [16,17,18] 0 0,.q 98 (fun g114=>.pointer (some ⟨b93,o94+Int.toNat i20*18+17,none⟩)) [16,19] 0 0,.q 99 (fun g114=>.int .i64 ((lget t4 i20).f_Bits)) [16,20] 0 0,.q 100 (fun g114=>.bool (decide ((lget t4 i20).f_Bits>0))) [16,21] 0 0,.q 101 (fun g114=>.bool (decide ((lget t4 i20).f_Bits>0))) [16,22] 0 0,.q 102 (fun g114=>.bool true) [23] 0 0,.q 103 (fun g114=>.slice p5 t4.length c6) [24] 0 0,.q 104 (fun g114=>.int .i64 i20) [24] 0 0,.q 105 (fun g114=>.int .i64 (wr .i64 (i20-1))) [24,26] 0 0,.q 106 (fun g114=>.pointer (some ⟨b98,o99+Int.toNat (wr .i64 (i20-1))*18,none⟩)) [24,25,27] 0 0,.q 107 (fun g114=>.pointer (some ⟨b98,o99+Int.toNat (wr .i64 (i20-1))*18+0,none⟩)) [24,28] 0 0,.q 108 (fun g114=>.agg (Cd.cs c_api_Addr ((lget t4 (wr .i64 (i20-1))).f_A)).toArray) [24,29] 0 0,.q 109 (fun g114=>.slice p5 t4.length c6) [24] 0 0,.q 110 (fun g114=>.int .i64 i20) [24] 0 0,.q 111 (fun g114=>.pointer (some ⟨b102,o103+Int.toNat i20*18,none⟩)) [24,31,32] 0 0,.q 112 (fun g114=>.pointer (some ⟨b102,o103+Int.toNat i20*18+17,none⟩)) [24,33] 0 0,.q 113 (fun g114=>.int .i64 ((lget t4 i20).f_Bits)) [24,34] 0 0,.q 114 (fun g114=>.int .i64 (wr .i64 (((lget t4 i20).f_Bits)-1))) [24,35] 0 0,.q 115 (fun g114=>.agg (Cd.cs c_api_Addr t104).toArray) [24,30,36] 0 0,.q 116 (fun g114=>.slice p5 t4.length c6) [24] 0 0,.q 117 (fun g114=>.int .i64 i20) [24] 0 0,.q 118 (fun g114=>.pointer (some ⟨b107,o108+Int.toNat i20*18,none⟩)) [24,38,39] 0 0,.q 119 (fun g114=>.pointer (some ⟨b107,o108+Int.toNat i20*18+0,none⟩)) [24,40] 0 0,.q 120 (fun g114=>.agg (Cd.cs c_api_Addr ((lget t4 i20).f_A)).toArray) [24,41] 0 0,.q 121 (fun g114=>.slice p5 t4.length c6) [24] 0 0,.q 122 (fun g114=>.int .i64 i20) [24] 0 0,.q 123 (fun g114=>.pointer (some ⟨b111,o112+Int.toNat i20*18,none⟩)) [24,43,44] 0 0,.q 124 (fun g114=>.pointer (some ⟨b111,o112+Int.toNat i20*18+17,none⟩)) [24,45] 0 0,.q 125 (fun g114=>.int .i64 ((lget t4 i20).f_Bits)) [24,46] 0 0,.q 126 (fun g114=>.int .i64 (wr .i64 (((lget t4 i20).f_Bits)-1))) [24,47] 0 0,.q 127 (fun g114=>.agg (Cd.cs c_api_Addr t113).toArray) [24,42,48] 0 0,.q 128 (fun g114=>.bool (decide (t104=t113))) [24,37,49] 0 0,.q 129 (fun g114=>.bool (decide (t104=t113))) [24,50] 0 0] (fun g114 s=>match s with | _=>(Wd w [cellsE b29 (Cd.cs c_api_Addr t27.2) 24,cellsE b18 (Cd.cs c_api_Addr i21) 24,rowE c_api_Prefix 37 p5 c6 t4,cellsE b2 (Cd.cs c_api_Addr x1) 24])) 0 (by kernel_rfl) (by kernel_rfl) (by kernel_rfl) (by kernel_rfl) (by kernel_rfl) ⟨fun _ _ _=>rfl,fun _ _ _=>rfl,fun _ _ _=>rfl,fun _ _ _=>rfl,fun _ _ _=>rfl,fun _ _ _=>rfl,fun _ _ _=>rfl,fun _ _ _=>rfl,fun _ _ _=>rfl,fun _ _ _=>rfl,fun _ _ _=>rfl,fun _ _ _=>rfl,fun _ _ _=>rfl,fun _ _ _=>rfl,fun _ _ _=>rfl,fun _ _ _=>rfl,fun _ _ _=>rfl,fun _ _ _=>rfl,fun _ _ _=>rfl,fun _ _ _=>rfl,fun _ _ _=>rfl,fun _ _ _=>rfl,fun _ _ _=>rfl,fun _ _ _=>rfl,fun _ _ _=>rfl,fun _ _ _=>rfl,fun _ _ _=>rfl,fun _ _ _=>rfl,fun _ _ _=>rfl,fun _ _ _=>rfl,fun _ _ _=>rfl,fun _ _ _=>rfl,fun _ _ _=>rfl,fun _ _ _=>rfl,fun _ _ _=>rfl,fun _ _ _=>rfl,fun _ _ _=>rfl,fun _ _ _=>rfl,fun _ _ _=>rfl,fun _ _ _=>rfl,fun _ _ _=>rfl,fun _ _ _=>rfl,fun _ _ _=>rfl,fun _ _ _=>rfl,fun _ _ _=>rfl,fun _ _ _=>rfl,fun _ _ _=>rfl,fun _ _ _=>rfl,fun _ _ _=>rfl,fun _ _ _=>rfl,fun _ _ _=>rfl,fun _ _ _=>rfl,trivial⟩ (by kernel_rfl) (fun w_ h=>⟨fun _=>g3 0 none 0 none w_,h.drew⟩) ⟨?_,?_,?_,?_,?_,?_,?_,?_,?_,?_,?_,?_,?_,?_,?_,?_,?_,?_,?_,?_,?_,?_,?_,?_,?_,?_,?_,?_,?_,?_,?_,?_,?_,?_,?_,?_,?_,?_,?_,?_,?_,?_,?_,?_,?_,?_,?_,?_,?_,?_,?_,?_,trivial⟩ ?_
       ·intro Lx g114 s K hl hh k
        show At 141 ((3,_)::(6,_)::(8,_)::(9,_)::(11,_)::Lx) _ _
        refine am ?_
        exact at_nil k
       ·intro Lx g114 s K hl hh k
        show At 141 ((78,_)::(3,_)::(6,_)::(8,_)::(9,_)::(11,_)::Lx) _ _
        refine aw (r_igtr rfl rfl) ?_
        exact at_nil k
       ·intro Lx g114 s K hl hh k
        show At 141 ((79,_)::(3,_)::(6,_)::(8,_)::(9,_)::(11,_)::Lx) _ _
        refine am ?_
        exact at_nil (at_cast h81 k)
       ·intro Lx g114 s K hl hh k
        show At 141 ((80,_)::(3,_)::(6,_)::(8,_)::(9,_)::(11,_)::Lx) _ _
        refine gy ?_
        refine am ?_
        exact at_nil k
       ·intro Lx g114 s K hl hh k
        show At 141 ((80,_)::(3,_)::(6,_)::(8,_)::(9,_)::(11,_)::Lx) _ _
        refine gy ?_
        refine am ?_
        exact at_nil k
       ·intro Lx g114 s K hl hh k
        show At 141 ((80,_)::(82,_)::(3,_)::(6,_)::(8,_)::(9,_)::(11,_)::Lx) _ _
        refine gy ?_
        refine aw (r_isub rfl rfl) ?_
        exact at_nil k
       ·intro Lx g114 s K hl hh k
        show At 141 ((80,_)::(81,_)::(83,_)::(3,_)::(6,_)::(8,_)::(9,_)::(11,_)::Lx) _ _
        refine gy ?_
        refine aw (r_idx underlying27 sizeOf37 rfl rfl h82 hp83) ?_
        exact at_nil k
       ·intro Lx g114 s K hl hh k
        show At 141 ((80,_)::(84,_)::(3,_)::(6,_)::(8,_)::(9,_)::(11,_)::Lx) _ _
        refine gy ?_
        refine fa 17 underlying37 rfl sizeOf3 ?_
        exact at_nil k
       ·intro Lx g114 s K hl hh k
        show At 141 ((80,_)::(85,_)::(3,_)::(6,_)::(8,_)::(9,_)::(11,_)::Lx) _ _
        refine gy ?_
        obtain rfl:s=0:=by omega
        refine aw (r_load_cell isAgg3 rfl (fun w1 hw=>row_lens0 (y:=(lget t4 (wr .i64 (i20-1))).f_Bits) (W:=fun w1=>w1=_) (fun w1 h=>by subst h;exact Below.refl _ _) (hw.own (.s (.s .z))).row h82 hp83 (Lens.comp lw (fun z=>{ (lget t4 (wr .i64 (i20-1))) with f_Bits:=z }) (c_api_Prefix_f_Bits (lget t4 (wr .i64 (i20-1))))) rfl _ rfl)) ?_
        exact at_nil k
       ·intro Lx g114 s K hl hh k
        show At 141 ((80,_)::(3,_)::(6,_)::(8,_)::(9,_)::(11,_)::Lx) _ _
        refine gy ?_
        refine am ?_
        exact at_nil k
       ·intro Lx g114 s K hl hh k
        show At 141 ((80,_)::(3,_)::(6,_)::(8,_)::(9,_)::(11,_)::Lx) _ _
        refine gy ?_
        refine am ?_
        exact at_nil k
       ·intro Lx g114 s K hl hh k
        show At 141 ((80,_)::(87,_)::(88,_)::(3,_)::(6,_)::(8,_)::(9,_)::(11,_)::Lx) _ _
        refine gy ?_
        refine aw (r_idx underlying27 sizeOf37 rfl rfl h86 hp87) ?_
        exact at_nil k
       ·intro Lx g114 s K hl hh k
        show At 141 ((80,_)::(89,_)::(3,_)::(6,_)::(8,_)::(9,_)::(11,_)::Lx) _ _
        refine gy ?_
        refine fa 17 underlying37 rfl sizeOf3 ?_
        exact at_nil k
       ·intro Lx g114 s K hl hh k
        show At 141 ((80,_)::(90,_)::(3,_)::(6,_)::(8,_)::(9,_)::(11,_)::Lx) _ _
        refine gy ?_
        obtain rfl:s=0:=by omega
        refine aw (r_load_cell isAgg3 rfl (fun w1 hw=>row_lens0 (y:=(lget t4 i20).f_Bits) (W:=fun w1=>w1=_) (fun w1 h=>by subst h;exact Below.refl _ _) (hw.own (.s (.s .z))).row h86 hp87 (Lens.comp lw (fun z=>{ (lget t4 i20) with f_Bits:=z }) (c_api_Prefix_f_Bits (lget t4 i20))) rfl _ rfl)) ?_
        exact at_nil k
       ·intro Lx g114 s K hl hh k
        show At 141 ((80,_)::(86,_)::(91,_)::(3,_)::(6,_)::(8,_)::(9,_)::(11,_)::Lx) _ _
        refine gy ?_
        refine aw xq ?_
        exact at_nil k
       ·intro Lx g114 s K hl hh k
        show At 141 ((80,_)::(92,_)::(3,_)::(6,_)::(8,_)::(9,_)::(11,_)::Lx) _ _
        refine aw xp ?_
        exact at_nil k
       ·intro Lx g114 s K hl hh k
        show At 141 ((93,_)::(3,_)::(6,_)::(8,_)::(9,_)::(11,_)::Lx) _ _
        refine am ?_
        exact at_nil (at_cast h90 k)
       ·intro Lx g114 s K hl hh k
        show At 141 ((94,_)::(3,_)::(6,_)::(8,_)::(9,_)::(11,_)::Lx) _ _
        refine gy ?_
        refine am ?_
        exact at_nil k
       ·intro Lx g114 s K hl hh k
        show At 141 ((94,_)::(3,_)::(6,_)::(8,_)::(9,_)::(11,_)::Lx) _ _
        refine gy ?_
        refine am ?_
        exact at_nil k
       ·intro Lx g114 s K hl hh k
        show At 141 ((94,_)::(95,_)::(96,_)::(3,_)::(6,_)::(8,_)::(9,_)::(11,_)::Lx) _ _
        refine gy ?_
        refine aw (r_idx underlying27 sizeOf37 rfl rfl h91 hp92) ?_
        exact at_nil k
       ·intro Lx g114 s K hl hh k
        show At 141 ((94,_)::(97,_)::(3,_)::(6,_)::(8,_)::(9,_)::(11,_)::Lx) _ _
        refine gy ?_
        refine fa 17 underlying37 rfl sizeOf3 ?_
        exact at_nil k
       ·intro Lx g114 s K hl hh k
        show At 141 ((94,_)::(98,_)::(3,_)::(6,_)::(8,_)::(9,_)::(11,_)::Lx) _ _
        refine gy ?_
        obtain rfl:s=0:=by omega
        refine aw (r_load_cell isAgg3 rfl (fun w1 hw=>row_lens0 (y:=(lget t4 i20).f_Bits) (W:=fun w1=>w1=_) (fun w1 h=>by subst h;exact Below.refl _ _) (hw.own (.s (.s .z))).row h91 hp92 (Lens.comp lw (fun z=>{ (lget t4 i20) with f_Bits:=z }) (c_api_Prefix_f_Bits (lget t4 i20))) rfl _ rfl)) ?_
        exact at_nil k
       ·intro Lx g114 s K hl hh k
        show At 141 ((94,_)::(99,_)::(3,_)::(6,_)::(8,_)::(9,_)::(11,_)::Lx) _ _
        refine gy ?_
        refine aw (r_igtr rfl rfl) ?_
        exact at_nil k
       ·intro Lx g114 s K hl hh k
        show At 141 ((94,_)::(100,_)::(3,_)::(6,_)::(8,_)::(9,_)::(11,_)::Lx) _ _
        refine aw xp ?_
        exact at_nil k
       ·intro Lx g114 s K hl hh k
        show At 141 ((101,_)::(3,_)::(6,_)::(8,_)::(9,_)::(11,_)::Lx) _ _
        refine am ?_
        exact at_nil (at_cast h95 k)
       ·intro Lx g114 s K hl hh k
        show At 141 ((102,_)::(3,_)::(6,_)::(8,_)::(9,_)::(11,_)::Lx) _ _
        refine gy ?_
        refine am ?_
        exact at_nil k
       ·intro Lx g114 s K hl hh k
        show At 141 ((102,_)::(3,_)::(6,_)::(8,_)::(9,_)::(11,_)::Lx) _ _
        refine gy ?_
        refine am ?_
        exact at_nil k
       ·intro Lx g114 s K hl hh k
        show At 141 ((102,_)::(104,_)::(3,_)::(6,_)::(8,_)::(9,_)::(11,_)::Lx) _ _
        refine gy ?_
        refine aw (r_isub rfl rfl) ?_
        exact at_nil k
       ·intro Lx g114 s K hl hh k
        show At 141 ((102,_)::(103,_)::(105,_)::(3,_)::(6,_)::(8,_)::(9,_)::(11,_)::Lx) _ _
        refine gy ?_
        refine aw (r_idx underlying27 sizeOf37 rfl rfl h96 hp97) ?_
        exact at_nil k
       ·intro Lx g114 s K hl hh k
        show At 141 ((102,_)::(106,_)::(3,_)::(6,_)::(8,_)::(9,_)::(11,_)::Lx) _ _
        refine gy ?_
        refine fa 0 underlying37 rfl sizeOf24 ?_
        exact at_nil k
       ·intro Lx g114 s K hl hh k
        show At 141 ((102,_)::(107,_)::(3,_)::(6,_)::(8,_)::(9,_)::(11,_)::Lx) _ _
        refine gy ?_
        obtain rfl:s=0:=by omega
        refine aw (r_load_aggc (c:=c_api_Addr) (z:=(lget t4 (wr .i64 (i20-1))).f_A) isAgg24 sizeOf24 rfl (fun w1 hw=>row_lens (y:=(lget t4 (wr .i64 (i20-1))).f_A) (W:=fun w1=>w1=_) (fun w1 h=>by subst h;exact Below.refl _ _) (hw.own (.s (.s .z))).row h96 hp97 (Lens.comp lw (fun z=>{ (lget t4 (wr .i64 (i20-1))) with f_A:=z }) (c_api_Prefix_f_A (lget t4 (wr .i64 (i20-1))))) _ rfl)) ?_
        exact at_nil k
       ·intro Lx g114 s K hl hh k
        show At 141 ((102,_)::(3,_)::(6,_)::(8,_)::(9,_)::(11,_)::Lx) _ _
        refine gy ?_
        refine am ?_
        exact at_nil k
       ·intro Lx g114 s K hl hh k
        show At 141 ((102,_)::(3,_)::(6,_)::(8,_)::(9,_)::(11,_)::Lx) _ _
        refine gy ?_
        refine am ?_
        exact at_nil k
       ·intro Lx g114 s K hl hh k
        show At 141 ((102,_)::(109,_)::(110,_)::(3,_)::(6,_)::(8,_)::(9,_)::(11,_)::Lx) _ _
        refine gy ?_
        refine aw (r_idx underlying27 sizeOf37 rfl rfl h100 hp101) ?_
        exact at_nil k
       ·intro Lx g114 s K hl hh k
        show At 141 ((102,_)::(111,_)::(3,_)::(6,_)::(8,_)::(9,_)::(11,_)::Lx) _ _
        refine gy ?_
        refine fa 17 underlying37 rfl sizeOf3 ?_
        exact at_nil k
       ·intro Lx g114 s K hl hh k
        show At 141 ((102,_)::(112,_)::(3,_)::(6,_)::(8,_)::(9,_)::(11,_)::Lx) _ _
        refine gy ?_
        obtain rfl:s=0:=by omega
        refine aw (r_load_cell isAgg3 rfl (fun w1 hw=>row_lens0 (y:=(lget t4 i20).f_Bits) (W:=fun w1=>w1=_) (fun w1 h=>by subst h;exact Below.refl _ _) (hw.own (.s (.s .z))).row h100 hp101 (Lens.comp lw (fun z=>{ (lget t4 i20) with f_Bits:=z }) (c_api_Prefix_f_Bits (lget t4 i20))) rfl _ rfl)) ?_
        exact at_nil k
       ·intro Lx g114 s K hl hh k
        show At 141 ((102,_)::(113,_)::(3,_)::(6,_)::(8,_)::(9,_)::(11,_)::Lx) _ _
        refine gy ?_
        refine aw (r_isub rfl rfl) ?_
        exact at_nil k
       ·intro Lx g114 s K hl hh k
        show At 141 ((102,_)::(108,_)::(114,_)::(3,_)::(6,_)::(8,_)::(9,_)::(11,_)::Lx) _ _
        refine gy ?_
        obtain rfl:s=0:=by omega
        refine cB func16 rfl (fun w hw=>crawlwayref10_Mask_ok _ _ _ ht104 w) ?_
        exact at_nil k
       ·intro Lx g114 s K hl hh k
        show At 141 ((102,_)::(3,_)::(6,_)::(8,_)::(9,_)::(11,_)::Lx) _ _
        refine gy ?_
        refine am ?_
        exact at_nil k
       ·intro Lx g114 s K hl hh k
        show At 141 ((102,_)::(3,_)::(6,_)::(8,_)::(9,_)::(11,_)::Lx) _ _
        refine gy ?_
        refine am ?_
        exact at_nil k
       ·intro Lx g114 s K hl hh k
        show At 141 ((102,_)::(116,_)::(117,_)::(3,_)::(6,_)::(8,_)::(9,_)::(11,_)::Lx) _ _
        refine gy ?_
        refine aw (r_idx underlying27 sizeOf37 rfl rfl h105 hp106) ?_
        exact at_nil k
       ·intro Lx g114 s K hl hh k
        show At 141 ((102,_)::(118,_)::(3,_)::(6,_)::(8,_)::(9,_)::(11,_)::Lx) _ _
        refine gy ?_
        refine fa 0 underlying37 rfl sizeOf24 ?_
        exact at_nil k
       ·intro Lx g114 s K hl hh k
        show At 141 ((102,_)::(119,_)::(3,_)::(6,_)::(8,_)::(9,_)::(11,_)::Lx) _ _
        refine gy ?_
        obtain rfl:s=0:=by omega
        refine aw (r_load_aggc (c:=c_api_Addr) (z:=(lget t4 i20).f_A) isAgg24 sizeOf24 rfl (fun w1 hw=>row_lens (y:=(lget t4 i20).f_A) (W:=fun w1=>w1=_) (fun w1 h=>by subst h;exact Below.refl _ _) (hw.own (.s (.s .z))).row h105 hp106 (Lens.comp lw (fun z=>{ (lget t4 i20) with f_A:=z }) (c_api_Prefix_f_A (lget t4 i20))) _ rfl)) ?_
        exact at_nil k
       ·intro Lx g114 s K hl hh k
        show At 141 ((102,_)::(3,_)::(6,_)::(8,_)::(9,_)::(11,_)::Lx) _ _
        refine gy ?_
        refine am ?_
        exact at_nil k
       ·intro Lx g114 s K hl hh k
        show At 141 ((102,_)::(3,_)::(6,_)::(8,_)::(9,_)::(11,_)::Lx) _ _
        refine gy ?_
        refine am ?_
        exact at_nil k
       ·intro Lx g114 s K hl hh k
        show At 141 ((102,_)::(121,_)::(122,_)::(3,_)::(6,_)::(8,_)::(9,_)::(11,_)::Lx) _ _
        refine gy ?_
        refine aw (r_idx underlying27 sizeOf37 rfl rfl h109 hp110) ?_
        exact at_nil k
       ·intro Lx g114 s K hl hh k
        show At 141 ((102,_)::(123,_)::(3,_)::(6,_)::(8,_)::(9,_)::(11,_)::Lx) _ _
        refine gy ?_
        refine fa 17 underlying37 rfl sizeOf3 ?_
        exact at_nil k
       ·intro Lx g114 s K hl hh k
        show At 141 ((102,_)::(124,_)::(3,_)::(6,_)::(8,_)::(9,_)::(11,_)::Lx) _ _
        refine gy ?_
        obtain rfl:s=0:=by omega
        refine aw (r_load_cell isAgg3 rfl (fun w1 hw=>row_lens0 (y:=(lget t4 i20).f_Bits) (W:=fun w1=>w1=_) (fun w1 h=>by subst h;exact Below.refl _ _) (hw.own (.s (.s .z))).row h109 hp110 (Lens.comp lw (fun z=>{ (lget t4 i20) with f_Bits:=z }) (c_api_Prefix_f_Bits (lget t4 i20))) rfl _ rfl)) ?_
        exact at_nil k
       ·intro Lx g114 s K hl hh k
        show At 141 ((102,_)::(125,_)::(3,_)::(6,_)::(8,_)::(9,_)::(11,_)::Lx) _ _
        refine gy ?_
        refine aw (r_isub rfl rfl) ?_
        exact at_nil k
       ·intro Lx g114 s K hl hh k
        show At 141 ((102,_)::(120,_)::(126,_)::(3,_)::(6,_)::(8,_)::(9,_)::(11,_)::Lx) _ _
        refine gy ?_
        obtain rfl:s=0:=by omega
        refine cB func16 rfl (fun w hw=>crawlwayref10_Mask_ok _ _ _ ht113 w) ?_
        exact at_nil k
       ·intro Lx g114 s K hl hh k
        show At 141 ((102,_)::(115,_)::(127,_)::(3,_)::(6,_)::(8,_)::(9,_)::(11,_)::Lx) _ _
        refine gy ?_
        refine aw (r_eqagg (c:=c_api_Addr) (a:=t104) (b:=t113) (eq_api_Addr_24) rfl Try.eqGuardType24 rfl rfl (.inl rfl) rfl) ?_
        exact at_nil k
       ·intro Lx g114 s K hl hh k
        show At 141 ((102,_)::(128,_)::(3,_)::(6,_)::(8,_)::(9,_)::(11,_)::Lx) _ _
        refine aw xp ?_
        exact at_nil k
       intro g114
       show At 141 [(78,_),(79,_),(80,_),(81,_),(82,_),(83,_),(84,_),(85,_),(86,_),(87,_),(88,_),(89,_),(90,_),(91,_),(92,_),(93,_),(94,_),(95,_),(96,_),(97,_),(98,_),(99,_),(100,_),(101,_),(102,_),(103,_),(104,_),(105,_),(106,_),(107,_),(108,_),(109,_),(110,_),(111,_),(112,_),(113,_),(114,_),(115,_),(116,_),(117,_),(118,_),(119,_),(120,_),(121,_),(122,_),(123,_),(124,_),(125,_),(126,_),(127,_),(128,_),(129,_),(3,_),(6,_),(8,_),(9,_),(11,_)] _ _
       refine wq [129,11,9,8,6,3] ?_
       refine tn ?_
       obtain ⟨h115,hF⟩|⟨h115,hF⟩:=oi hF
       ·refine ct h115 ?_
        refine sr (aa (qn (dz (dz (dz (dz (wq [4] ?_)))))))
        refine tn (qt ?_)
        refine tr (br (tr (tr (br (tr ?_)))))
        obtain rfl:=os hF
        subst K
        exact r1 wb
       refine cf h115 ?_
       refine sn (qr ?_)
       refine aw (r_load_aggc (c:=c_api_Addr) (z:=t27.2) isAgg24 sizeOf24 rfl (lens_cell .z lw)) ?_
       obtain ⟨t116,ht116,hF⟩:=bM hF
       refine cB func17 rfl (fun w hw=>crawlwayref53_Next_ok _ _ ht116 w) ?_
       refine am ?_
       refine aw xe (aw xe ?_)
       refine at_store (c:=c_api_Addr) (z:=t116.1) (.s .z) lw sizeOf24 rfl rfl rfl ?_
       refine qn (dz (wq [9,8,6,3] ?_))
       refine bm ?_
       refine qr (am (aw xa (aa (nwq [9,8,6,3] ?_))))
       exact at_weak_k (ih _ _ _ hF K) ⟨rfl,rfl,rfl,rfl,trivial⟩
      skip
      refine at_inv [.q 78 (fun g117=>.int .i64 i20) [] 0 0,.q 79 (fun g117=>.bool (decide (i20>0))) [0] 0 0,.q 80 (fun g117=>.bool true) [1] 0 0,.q 81 (fun g117=>.slice p5 t4.length c6) [2] 0 0,.q 82 (fun g117=>.int .i64 i20) [2] 0 0,.q 83 (fun g117=>.int .i64 (wr .i64 (i20-1))) [2,4] 0 0,.q 84 (fun g117=>.pointer (some ⟨b84,o85+Int.toNat (wr .i64 (i20-1))*18,none⟩)) [2,3,5] 0 0,.q 85 (fun g117=>.pointer (some ⟨b84,o85+Int.toNat (wr .i64 (i20-1))*18+17,none⟩)) [2,6] 0 0,.q 86 (fun g117=>.int .i64 ((lget t4 (wr .i64 (i20-1))).f_Bits)) [2,7] 0 0,.q 87 (fun g117=>.slice p5 t4.length c6) [2] 0 0,.q 88 (fun g117=>.int .i64 i20) [2] 0 0,.q 89 (fun g117=>.pointer (some ⟨b88,o89+Int.toNat i20*18,none⟩)) [2,9,10] 0 0,.q 90 (fun g117=>.pointer (some ⟨b88,o89+Int.toNat i20*18+17,none⟩)) [2,11] 0 0,.q 91 (fun g117=>.int .i64 ((lget t4 i20).f_Bits)) [2,12] 0 0,.q 92 (fun g117=>.bool ((lget t4 (wr .i64 (i20-1))).f_Bits==(lget t4 i20).f_Bits)) [2,8,13] 0 0,.q 93 (fun g117=>.bool ((lget t4 (wr .i64 (i20-1))).f_Bits==(lget t4 i20).f_Bits)) [2,14] 0 0,.q 94 (fun g117=>.bool true) [15] 0 0,.q 95 (fun g117=>.slice p5 t4.length c6) [16] 0 0,.q 96 (fun g117=>.int .i64 i20) [16] 0 0,.q 97 (fun g117=>.pointer (some ⟨b93,o94+Int.toNat i20*18,none⟩)) [16,17,18] 0 0,.q 98 (fun g117=>.pointer (some ⟨b93,o94+Int.toNat i20*18+17,none⟩)) [16,19] 0 0,.q 99 (fun g117=>.int .i64 ((lget t4 i20).f_Bits)) [16,20] 0 0,.q 100 (fun g117=>.bool (decide ((lget t4 i20).f_Bits>0))) [16,21] 0 0,.q 101 (fun g117=>.bool (decide ((lget t4 i20).f_Bits>0))) [16,22] 0 0,.q 102 (fun g117=>.bool false) [23] 0 0,.q 103 (fun g117=>undef) [24] 0 0,.q 104 (fun g117=>undef) [24] 0 0,.q 105 (fun g117=>undef) [24,26] 0 0,.q 106 (fun g117=>undef) [24,25,27] 0 0,.q 107 (fun g117=>undef) [24,28] 0 0,.q 108 (fun g117=>undef) [24,29] 0 0,.q 109 (fun g117=>undef) [24] 0 0,.q 110 (fun g117=>undef) [24] 0 0,.q 111 (fun g117=>undef) [24,31,32] 0 0,.q 112 (fun g117=>undef) [24,33] 0 0,.q 113 (fun g117=>undef) [24,34] 0 0,.q 114 (fun g117=>undef) [24,35] 0 0,.q 115 (fun g117=>undef) [24,30,36] 0 0,.q 116 (fun g117=>undef) [24] 0 0,.q 117 (fun g117=>undef) [24] 0 0,.q 118 (fun g117=>undef) [24,38,39] 0 0,.q 119 (fun g117=>undef) [24,40] 0 0,.q 120 (fun g117=>undef) [24,41] 0 0,.q 121 (fun g117=>undef) [24] 0 0,.q 122 (fun g117=>undef) [24] 0 0,.q 123 (fun g117=>undef) [24,43,44] 0 0,.q 124 (fun g117=>undef) [24,45] 0 0,.q 125 (fun g117=>undef) [24,46] 0 0,.q 126 (fun g117=>undef) [24,47] 0 0,.q 127 (fun g117=>undef) [24,42,48] 0 0,.q 128 (fun g117=>undef) [24,37,49] 0 0,.q 129 (fun g117=>.bool false) [24,50] 0 0] (fun g117 s=>match s with | _=>(Wd w [cellsE b29 (Cd.cs c_api_Addr t27.2) 24,cellsE b18 (Cd.cs c_api_Addr i21) 24,rowE c_api_Prefix 37 p5 c6 t4,cellsE b2 (Cd.cs c_api_Addr x1) 24])) 0 (by kernel_rfl) (by kernel_rfl) (by kernel_rfl) (by kernel_rfl) (by kernel_rfl) ⟨fun _ _ _=>rfl,fun _ _ _=>rfl,fun _ _ _=>rfl,fun _ _ _=>rfl,fun _ _ _=>rfl,fun _ _ _=>rfl,fun _ _ _=>rfl,fun _ _ _=>rfl,fun _ _ _=>rfl,fun _ _ _=>rfl,fun _ _ _=>rfl,fun _ _ _=>rfl,fun _ _ _=>rfl,fun _ _ _=>rfl,fun _ _ _=>rfl,fun _ _ _=>rfl,fun _ _ _=>rfl,fun _ _ _=>rfl,fun _ _ _=>rfl,fun _ _ _=>rfl,fun _ _ _=>rfl,fun _ _ _=>rfl,fun _ _ _=>rfl,fun _ _ _=>rfl,fun _ _ _=>rfl,fun _ _ _=>rfl,fun _ _ _=>rfl,fun _ _ _=>rfl,fun _ _ _=>rfl,fun _ _ _=>rfl,fun _ _ _=>rfl,fun _ _ _=>rfl,fun _ _ _=>rfl,fun _ _ _=>rfl,fun _ _ _=>rfl,fun _ _ _=>rfl,fun _ _ _=>rfl,fun _ _ _=>rfl,fun _ _ _=>rfl,fun _ _ _=>rfl,fun _ _ _=>rfl,fun _ _ _=>rfl,fun _ _ _=>rfl,fun _ _ _=>rfl,fun _ _ _=>rfl,fun _ _ _=>rfl,fun _ _ _=>rfl,fun _ _ _=>rfl,fun _ _ _=>rfl,fun _ _ _=>rfl,fun _ _ _=>rfl,fun _ _ _=>rfl,trivial⟩ (by kernel_rfl) (fun w_ h=>⟨fun _=>g3 0 none 0 none w_,h.drew⟩) ⟨?_,?_,?_,?_,?_,?_,?_,?_,?_,?_,?_,?_,?_,?_,?_,?_,?_,?_,?_,?_,?_,?_,?_,?_,?_,?_,?_,?_,?_,?_,?_,?_,?_,?_,?_,?_,?_,?_,?_,?_,?_,?_,?_,?_,?_,?_,?_,?_,?_,?_,?_,?_,trivial⟩ ?_
      ·intro Lx g117 s K hl hh k
       show At 141 ((3,_)::(6,_)::(8,_)::(9,_)::(11,_)::Lx) _ _
       refine am ?_
       exact at_nil k
      ·intro Lx g117 s K hl hh k
       show At 141 ((78,_)::(3,_)::(6,_)::(8,_)::(9,_)::(11,_)::Lx) _ _
       refine aw (r_igtr rfl rfl) ?_
       exact at_nil k
      ·intro Lx g117 s K hl hh k
       show At 141 ((79,_)::(3,_)::(6,_)::(8,_)::(9,_)::(11,_)::Lx) _ _
       refine am ?_
       exact at_nil (at_cast h81 k)
      ·intro Lx g117 s K hl hh k
       show At 141 ((80,_)::(3,_)::(6,_)::(8,_)::(9,_)::(11,_)::Lx) _ _
       refine gy ?_
       refine am ?_
       exact at_nil k
      ·intro Lx g117 s K hl hh k
       show At 141 ((80,_)::(3,_)::(6,_)::(8,_)::(9,_)::(11,_)::Lx) _ _
       refine gy ?_
       refine am ?_
       exact at_nil k
      ·intro Lx g117 s K hl hh k
       show At 141 ((80,_)::(82,_)::(3,_)::(6,_)::(8,_)::(9,_)::(11,_)::Lx) _ _
       refine gy ?_
       refine aw (r_isub rfl rfl) ?_
       exact at_nil k
      ·intro Lx g117 s K hl hh k
       show At 141 ((80,_)::(81,_)::(83,_)::(3,_)::(6,_)::(8,_)::(9,_)::(11,_)::Lx) _ _
       refine gy ?_
       refine aw (r_idx underlying27 sizeOf37 rfl rfl h82 hp83) ?_
       exact at_nil k
      ·intro Lx g117 s K hl hh k
       show At 141 ((80,_)::(84,_)::(3,_)::(6,_)::(8,_)::(9,_)::(11,_)::Lx) _ _
       refine gy ?_
       refine fa 17 underlying37 rfl sizeOf3 ?_
       exact at_nil k
      ·intro Lx g117 s K hl hh k
       show At 141 ((80,_)::(85,_)::(3,_)::(6,_)::(8,_)::(9,_)::(11,_)::Lx) _ _
       refine gy ?_
       obtain rfl:s=0:=by omega
       refine aw (r_load_cell isAgg3 rfl (fun w1 hw=>row_lens0 (y:=(lget t4 (wr .i64 (i20-1))).f_Bits) (W:=fun w1=>w1=_) (fun w1 h=>by subst h;exact Below.refl _ _) (hw.own (.s (.s .z))).row h82 hp83 (Lens.comp lw (fun z=>{ (lget t4 (wr .i64 (i20-1))) with f_Bits:=z }) (c_api_Prefix_f_Bits (lget t4 (wr .i64 (i20-1))))) rfl _ rfl)) ?_
       exact at_nil k
      ·intro Lx g117 s K hl hh k
       show At 141 ((80,_)::(3,_)::(6,_)::(8,_)::(9,_)::(11,_)::Lx) _ _
       refine gy ?_
       refine am ?_
       exact at_nil k
      ·intro Lx g117 s K hl hh k
       show At 141 ((80,_)::(3,_)::(6,_)::(8,_)::(9,_)::(11,_)::Lx) _ _
       refine gy ?_
       refine am ?_
       exact at_nil k
      ·intro Lx g117 s K hl hh k
       show At 141 ((80,_)::(87,_)::(88,_)::(3,_)::(6,_)::(8,_)::(9,_)::(11,_)::Lx) _ _
       refine gy ?_
       refine aw (r_idx underlying27 sizeOf37 rfl rfl h86 hp87) ?_
       exact at_nil k
      ·intro Lx g117 s K hl hh k
       show At 141 ((80,_)::(89,_)::(3,_)::(6,_)::(8,_)::(9,_)::(11,_)::Lx) _ _
       refine gy ?_
       refine fa 17 underlying37 rfl sizeOf3 ?_
       exact at_nil k
      ·intro Lx g117 s K hl hh k
       show At 141 ((80,_)::(90,_)::(3,_)::(6,_)::(8,_)::(9,_)::(11,_)::Lx) _ _
       refine gy ?_
       obtain rfl:s=0:=by omega
       refine aw (r_load_cell isAgg3 rfl (fun w1 hw=>row_lens0 (y:=(lget t4 i20).f_Bits) (W:=fun w1=>w1=_) (fun w1 h=>by subst h;exact Below.refl _ _) (hw.own (.s (.s .z))).row h86 hp87 (Lens.comp lw (fun z=>{ (lget t4 i20) with f_Bits:=z }) (c_api_Prefix_f_Bits (lget t4 i20))) rfl _ rfl)) ?_
       exact at_nil k
      ·intro Lx g117 s K hl hh k
       show At 141 ((80,_)::(86,_)::(91,_)::(3,_)::(6,_)::(8,_)::(9,_)::(11,_)::Lx) _ _
       refine gy ?_
       refine aw xq ?_
       exact at_nil k
      ·intro Lx g117 s K hl hh k
       show At 141 ((80,_)::(92,_)::(3,_)::(6,_)::(8,_)::(9,_)::(11,_)::Lx) _ _
       refine aw xp ?_
       exact at_nil k
      ·intro Lx g117 s K hl hh k
       show At 141 ((93,_)::(3,_)::(6,_)::(8,_)::(9,_)::(11,_)::Lx) _ _
       refine am ?_
       exact at_nil (at_cast h90 k)
      ·intro Lx g117 s K hl hh k
       show At 141 ((94,_)::(3,_)::(6,_)::(8,_)::(9,_)::(11,_)::Lx) _ _
       refine gy ?_
       refine am ?_
       exact at_nil k
      ·intro Lx g117 s K hl hh k
       show At 141 ((94,_)::(3,_)::(6,_)::(8,_)::(9,_)::(11,_)::Lx) _ _
       refine gy ?_
       refine am ?_
       exact at_nil k
      ·intro Lx g117 s K hl hh k
       show At 141 ((94,_)::(95,_)::(96,_)::(3,_)::(6,_)::(8,_)::(9,_)::(11,_)::Lx) _ _
       refine gy ?_
       refine aw (r_idx underlying27 sizeOf37 rfl rfl h91 hp92) ?_
       exact at_nil k
      ·intro Lx g117 s K hl hh k
       show At 141 ((94,_)::(97,_)::(3,_)::(6,_)::(8,_)::(9,_)::(11,_)::Lx) _ _
       refine gy ?_
       refine fa 17 underlying37 rfl sizeOf3 ?_
       exact at_nil k
      ·intro Lx g117 s K hl hh k
       show At 141 ((94,_)::(98,_)::(3,_)::(6,_)::(8,_)::(9,_)::(11,_)::Lx) _ _
       refine gy ?_
       obtain rfl:s=0:=by omega
       refine aw (r_load_cell isAgg3 rfl (fun w1 hw=>row_lens0 (y:=(lget t4 i20).f_Bits) (W:=fun w1=>w1=_) (fun w1 h=>by subst h;exact Below.refl _ _) (hw.own (.s (.s .z))).row h91 hp92 (Lens.comp lw (fun z=>{ (lget t4 i20) with f_Bits:=z }) (c_api_Prefix_f_Bits (lget t4 i20))) rfl _ rfl)) ?_
       exact at_nil k
      ·intro Lx g117 s K hl hh k
       show At 141 ((94,_)::(99,_)::(3,_)::(6,_)::(8,_)::(9,_)::(11,_)::Lx) _ _
       refine gy ?_
       refine aw (r_igtr rfl rfl) ?_
       exact at_nil k
      ·intro Lx g117 s K hl hh k
       show At 141 ((94,_)::(100,_)::(3,_)::(6,_)::(8,_)::(9,_)::(11,_)::Lx) _ _
       refine aw xp ?_
       exact at_nil k
      ·intro Lx g117 s K hl hh k
       show At 141 ((101,_)::(3,_)::(6,_)::(8,_)::(9,_)::(11,_)::Lx) _ _
       refine am ?_
       exact at_nil (at_cast h95 k)
      ·intro Lx g117 s K hl hh k
       show At 141 ((102,_)::(3,_)::(6,_)::(8,_)::(9,_)::(11,_)::Lx) _ _
       refine gn ?_
       exact at_nil k
      ·intro Lx g117 s K hl hh k
       show At 141 ((102,_)::(3,_)::(6,_)::(8,_)::(9,_)::(11,_)::Lx) _ _
       refine gn ?_
       exact at_nil k
      ·intro Lx g117 s K hl hh k
       show At 141 ((102,_)::(104,_)::(3,_)::(6,_)::(8,_)::(9,_)::(11,_)::Lx) _ _
       refine gn ?_
       exact at_nil k
      ·intro Lx g117 s K hl hh k
       show At 141 ((102,_)::(103,_)::(105,_)::(3,_)::(6,_)::(8,_)::(9,_)::(11,_)::Lx) _ _
       refine gn ?_
       exact at_nil k
      ·intro Lx g117 s K hl hh k
       show At 141 ((102,_)::(106,_)::(3,_)::(6,_)::(8,_)::(9,_)::(11,_)::Lx) _ _
       refine gn ?_
       exact at_nil k
      ·intro Lx g117 s K hl hh k
       show At 141 ((102,_)::(107,_)::(3,_)::(6,_)::(8,_)::(9,_)::(11,_)::Lx) _ _
       obtain rfl:s=0:=by omega
       refine gn ?_
       exact at_nil k
      ·intro Lx g117 s K hl hh k
       show At 141 ((102,_)::(3,_)::(6,_)::(8,_)::(9,_)::(11,_)::Lx) _ _
       refine gn ?_
       exact at_nil k
      ·intro Lx g117 s K hl hh k
       show At 141 ((102,_)::(3,_)::(6,_)::(8,_)::(9,_)::(11,_)::Lx) _ _
       refine gn ?_
       exact at_nil k
      ·intro Lx g117 s K hl hh k
       show At 141 ((102,_)::(109,_)::(110,_)::(3,_)::(6,_)::(8,_)::(9,_)::(11,_)::Lx) _ _
       refine gn ?_
       exact at_nil k
      ·intro Lx g117 s K hl hh k
       show At 141 ((102,_)::(111,_)::(3,_)::(6,_)::(8,_)::(9,_)::(11,_)::Lx) _ _
       refine gn ?_
       exact at_nil k
      ·intro Lx g117 s K hl hh k
       show At 141 ((102,_)::(112,_)::(3,_)::(6,_)::(8,_)::(9,_)::(11,_)::Lx) _ _
       obtain rfl:s=0:=by omega
       refine gn ?_
       exact at_nil k
      ·intro Lx g117 s K hl hh k
       show At 141 ((102,_)::(113,_)::(3,_)::(6,_)::(8,_)::(9,_)::(11,_)::Lx) _ _
       refine gn ?_
       exact at_nil k
      ·intro Lx g117 s K hl hh k
       show At 141 ((102,_)::(108,_)::(114,_)::(3,_)::(6,_)::(8,_)::(9,_)::(11,_)::Lx) _ _
       obtain rfl:s=0:=by omega
       refine gn ?_
       exact at_nil k
      ·intro Lx g117 s K hl hh k
       show At 141 ((102,_)::(3,_)::(6,_)::(8,_)::(9,_)::(11,_)::Lx) _ _
       refine gn ?_
       exact at_nil k
      ·intro Lx g117 s K hl hh k
       show At 141 ((102,_)::(3,_)::(6,_)::(8,_)::(9,_)::(11,_)::Lx) _ _
       refine gn ?_
       exact at_nil k
      ·intro Lx g117 s K hl hh k
       show At 141 ((102,_)::(116,_)::(117,_)::(3,_)::(6,_)::(8,_)::(9,_)::(11,_)::Lx) _ _
       refine gn ?_
       exact at_nil k
      ·intro Lx g117 s K hl hh k
       show At 141 ((102,_)::(118,_)::(3,_)::(6,_)::(8,_)::(9,_)::(11,_)::Lx) _ _
       refine gn ?_
       exact at_nil k
      ·intro Lx g117 s K hl hh k
       show At 141 ((102,_)::(119,_)::(3,_)::(6,_)::(8,_)::(9,_)::(11,_)::Lx) _ _
       obtain rfl:s=0:=by omega
       refine gn ?_
       exact at_nil k
      ·intro Lx g117 s K hl hh k
       show At 141 ((102,_)::(3,_)::(6,_)::(8,_)::(9,_)::(11,_)::Lx) _ _
       refine gn ?_
       exact at_nil k
      ·intro Lx g117 s K hl hh k
       show At 141 ((102,_)::(3,_)::(6,_)::(8,_)::(9,_)::(11,_)::Lx) _ _
       refine gn ?_
       exact at_nil k
      ·intro Lx g117 s K hl hh k
       show At 141 ((102,_)::(121,_)::(122,_)::(3,_)::(6,_)::(8,_)::(9,_)::(11,_)::Lx) _ _
       refine gn ?_
       exact at_nil k
      ·intro Lx g117 s K hl hh k
       show At 141 ((102,_)::(123,_)::(3,_)::(6,_)::(8,_)::(9,_)::(11,_)::Lx) _ _
       refine gn ?_
       exact at_nil k
      ·intro Lx g117 s K hl hh k
       show At 141 ((102,_)::(124,_)::(3,_)::(6,_)::(8,_)::(9,_)::(11,_)::Lx) _ _
       obtain rfl:s=0:=by omega
       refine gn ?_
       exact at_nil k
      ·intro Lx g117 s K hl hh k
       show At 141 ((102,_)::(125,_)::(3,_)::(6,_)::(8,_)::(9,_)::(11,_)::Lx) _ _
       refine gn ?_
       exact at_nil k
      ·intro Lx g117 s K hl hh k
       show At 141 ((102,_)::(120,_)::(126,_)::(3,_)::(6,_)::(8,_)::(9,_)::(11,_)::Lx) _ _
       obtain rfl:s=0:=by omega
       refine gn ?_
       exact at_nil k
      ·intro Lx g117 s K hl hh k
       show At 141 ((102,_)::(115,_)::(127,_)::(3,_)::(6,_)::(8,_)::(9,_)::(11,_)::Lx) _ _
       refine gn ?_
       exact at_nil k
      ·intro Lx g117 s K hl hh k
       show At 141 ((102,_)::(128,_)::(3,_)::(6,_)::(8,_)::(9,_)::(11,_)::Lx) _ _
       refine aw xp ?_
       exact at_nil k
      intro g117
      show At 141 [(78,_),(79,_),(80,_),(81,_),(82,_),(83,_),(84,_),(85,_),(86,_),(87,_),(88,_),(89,_),(90,_),(91,_),(92,_),(93,_),(94,_),(95,_),(96,_),(97,_),(98,_),(99,_),(100,_),(101,_),(102,_),(103,_),(104,_),(105,_),(106,_),(107,_),(108,_),(109,_),(110,_),(111,_),(112,_),(113,_),(114,_),(115,_),(116,_),(117,_),(118,_),(119,_),(120,_),(121,_),(122,_),(123,_),(124,_),(125,_),(126,_),(127,_),(128,_),(129,_),(3,_),(6,_),(8,_),(9,_),(11,_)] _ _
      refine wq [129,11,9,8,6,3] ?_
      refine tn ?_
      refine cf rfl ?_
      refine sn (qr ?_)
      refine aw (r_load_aggc (c:=c_api_Addr) (z:=t27.2) isAgg24 sizeOf24 rfl (lens_cell .z lw)) ?_
      obtain ⟨t118,ht118,hF⟩:=bM hF
      refine cB func17 rfl (fun w hw=>crawlwayref53_Next_ok _ _ ht118 w) ?_
      refine am ?_
      refine aw xe (aw xe ?_)
      refine at_store (c:=c_api_Addr) (z:=t118.1) (.s .z) lw sizeOf24 rfl rfl rfl ?_
      refine qn (dz (wq [9,8,6,3] ?_))
      refine bm ?_
      refine qr (am (aw xa (aa (nwq [9,8,6,3] ?_))))
      exact at_weak_k (ih _ _ _ hF K) ⟨rfl,rfl,rfl,rfl,trivial⟩
     skip
     refine at_inv [.q 78 (fun g119=>.int .i64 i20) [] 0 0,.q 79 (fun g119=>.bool (decide (i20>0))) [0] 0 0,.q 80 (fun g119=>.bool true) [1] 0 0,.q 81 (fun g119=>.slice p5 t4.length c6) [2] 0 0,.q 82 (fun g119=>.int .i64 i20) [2] 0 0,.q 83 (fun g119=>.int .i64 (wr .i64 (i20-1))) [2,4] 0 0,.q 84 (fun g119=>.pointer (some ⟨b84,o85+Int.toNat (wr .i64 (i20-1))*18,none⟩)) [2,3,5] 0 0,.q 85 (fun g119=>.pointer (some ⟨b84,o85+Int.toNat (wr .i64 (i20-1))*18+17,none⟩)) [2,6] 0 0,.q 86 (fun g119=>.int .i64 ((lget t4 (wr .i64 (i20-1))).f_Bits)) [2,7] 0 0,.q 87 (fun g119=>.slice p5 t4.length c6) [2] 0 0,.q 88 (fun g119=>.int .i64 i20) [2] 0 0,.q 89 (fun g119=>.pointer (some ⟨b88,o89+Int.toNat i20*18,none⟩)) [2,9,10] 0 0,.q 90 (fun g119=>.pointer (some ⟨b88,o89+Int.toNat i20*18+17,none⟩)) [2,11] 0 0,.q 91 (fun g119=>.int .i64 ((lget t4 i20).f_Bits)) [2,12] 0 0,.q 92 (fun g119=>.bool ((lget t4 (wr .i64 (i20-1))).f_Bits==(lget t4 i20).f_Bits)) [2,8,13] 0 0,.q 93 (fun g119=>.bool ((lget t4 (wr .i64 (i20-1))).f_Bits==(lget t4 i20).f_Bits)) [2,14] 0 0,.q 94 (fun g119=>.bool false) [15] 0 0,.q 95 (fun g119=>undef) [16] 0 0,.q 96 (fun g119=>undef) [16] 0 0,.q 97 (fun g119=>undef) [16,17,18] 0 0,.q 98 (fun g119=>undef) [16,19] 0 0,.q 99 (fun g119=>undef) [16,20] 0 0,.q 100 (fun g119=>undef) [16,21] 0 0,.q 101 (fun g119=>.bool false) [16,22] 0 0,.q 102 (fun g119=>.bool false) [23] 0 0,.q 103 (fun g119=>undef) [24] 0 0,.q 104 (fun g119=>undef) [24] 0 0,.q 105 (fun g119=>undef) [24,26] 0 0,.q 106 (fun g119=>undef) [24,25,27] 0 0,.q 107 (fun g119=>undef) [24,28] 0 0,.q 108 (fun g119=>undef) [24,29] 0 0,.q 109 (fun g119=>undef) [24] 0 0,.q 110 (fun g119=>undef) [24] 0 0,.q 111 (fun g119=>undef) [24,31,32] 0 0,.q 112 (fun g119=>undef) [24,33] 0 0,.q 113 (fun g119=>undef) [24,34] 0 0,.q 114 (fun g119=>undef) [24,35] 0 0,.q 115 (fun g119=>undef) [24,30,36] 0 0,.q 116 (fun g119=>undef) [24] 0 0,.q 117 (fun g119=>undef) [24] 0 0,.q 118 (fun g119=>undef) [24,38,39] 0 0,.q 119 (fun g119=>undef) [24,40] 0 0,.q 120 (fun g119=>undef) [24,41] 0 0,.q 121 (fun g119=>undef) [24] 0 0,.q 122 (fun g119=>undef) [24] 0 0,.q 123 (fun g119=>undef) [24,43,44] 0 0,.q 124 (fun g119=>undef) [24,45] 0 0,.q 125 (fun g119=>undef) [24,46] 0 0,.q 126 (fun g119=>undef) [24,47] 0 0,.q 127 (fun g119=>undef) [24,42,48] 0 0,.q 128 (fun g119=>undef) [24,37,49] 0 0,.q 129 (fun g119=>.bool false) [24,50] 0 0] (fun g119 s=>match s with | _=>(Wd w [cellsE b29 (Cd.cs c_api_Addr t27.2) 24,cellsE b18 (Cd.cs c_api_Addr i21) 24,rowE c_api_Prefix 37 p5 c6 t4,cellsE b2 (Cd.cs c_api_Addr x1) 24])) 0 (by kernel_rfl) (by kernel_rfl) (by kernel_rfl) (by kernel_rfl) (by kernel_rfl) ⟨fun _ _ _=>rfl,fun _ _ _=>rfl,fun _ _ _=>rfl,fun _ _ _=>rfl,fun _ _ _=>rfl,fun _ _ _=>rfl,fun _ _ _=>rfl,fun _ _ _=>rfl,fun _ _ _=>rfl,fun _ _ _=>rfl,fun _ _ _=>rfl,fun _ _ _=>rfl,fun _ _ _=>rfl,fun _ _ _=>rfl,fun _ _ _=>rfl,fun _ _ _=>rfl,fun _ _ _=>rfl,fun _ _ _=>rfl,fun _ _ _=>rfl,fun _ _ _=>rfl,fun _ _ _=>rfl,fun _ _ _=>rfl,fun _ _ _=>rfl,fun _ _ _=>rfl,fun _ _ _=>rfl,fun _ _ _=>rfl,fun _ _ _=>rfl,fun _ _ _=>rfl,fun _ _ _=>rfl,fun _ _ _=>rfl,fun _ _ _=>rfl,fun _ _ _=>rfl,fun _ _ _=>rfl,fun _ _ _=>rfl,fun _ _ _=>rfl,fun _ _ _=>rfl,fun _ _ _=>rfl,fun _ _ _=>rfl,fun _ _ _=>rfl,fun _ _ _=>rfl,fun _ _ _=>rfl,fun _ _ _=>rfl,fun _ _ _=>rfl,fun _ _ _=>rfl,fun _ _ _=>rfl,fun _ _ _=>rfl,fun _ _ _=>rfl,fun _ _ _=>rfl,fun _ _ _=>rfl,fun _ _ _=>rfl,fun _ _ _=>rfl,fun _ _ _=>rfl,trivial⟩ (by kernel_rfl) (fun w_ h=>⟨fun _=>g3 0 none 0 none w_,h.drew⟩) ⟨?_,?_,?_,?_,?_,?_,?_,?_,?_,?_,?_,?_,?_,?_,?_,?_,?_,?_,?_,?_,?_,?_,?_,?_,?_,?_,?_,?_,?_,?_,?_,?_,?_,?_,?_,?_,?_,?_,?_,?_,?_,?_,?_,?_,?_,?_,?_,?_,?_,?_,?_,?_,trivial⟩ ?_
     ·intro Lx g119 s K hl hh k
      show At 141 ((3,_)::(6,_)::(8,_)::(9,_)::(11,_)::Lx) _ _
      refine am ?_
      exact at_nil k
     ·intro Lx g119 s K hl hh k
      show At 141 ((78,_)::(3,_)::(6,_)::(8,_)::(9,_)::(11,_)::Lx) _ _
      refine aw (r_igtr rfl rfl) ?_
      exact at_nil k
     ·intro Lx g119 s K hl hh k
      show At 141 ((79,_)::(3,_)::(6,_)::(8,_)::(9,_)::(11,_)::Lx) _ _
      refine am ?_
      exact at_nil (at_cast h81 k)
     ·intro Lx g119 s K hl hh k
      show At 141 ((80,_)::(3,_)::(6,_)::(8,_)::(9,_)::(11,_)::Lx) _ _
      refine gy ?_
      refine am ?_
      exact at_nil k
     ·intro Lx g119 s K hl hh k
      show At 141 ((80,_)::(3,_)::(6,_)::(8,_)::(9,_)::(11,_)::Lx) _ _
      refine gy ?_
      refine am ?_
      exact at_nil k
     ·intro Lx g119 s K hl hh k
      show At 141 ((80,_)::(82,_)::(3,_)::(6,_)::(8,_)::(9,_)::(11,_)::Lx) _ _
      refine gy ?_
      refine aw (r_isub rfl rfl) ?_
      exact at_nil k
     ·intro Lx g119 s K hl hh k
      show At 141 ((80,_)::(81,_)::(83,_)::(3,_)::(6,_)::(8,_)::(9,_)::(11,_)::Lx) _ _
      refine gy ?_
      refine aw (r_idx underlying27 sizeOf37 rfl rfl h82 hp83) ?_
      exact at_nil k
     ·intro Lx g119 s K hl hh k
      show At 141 ((80,_)::(84,_)::(3,_)::(6,_)::(8,_)::(9,_)::(11,_)::Lx) _ _
      refine gy ?_
      refine fa 17 underlying37 rfl sizeOf3 ?_
      exact at_nil k
     ·intro Lx g119 s K hl hh k
      show At 141 ((80,_)::(85,_)::(3,_)::(6,_)::(8,_)::(9,_)::(11,_)::Lx) _ _
      refine gy ?_
      obtain rfl:s=0:=by omega
      refine aw (r_load_cell isAgg3 rfl (fun w1 hw=>row_lens0 (y:=(lget t4 (wr .i64 (i20-1))).f_Bits) (W:=fun w1=>w1=_) (fun w1 h=>by subst h;exact Below.refl _ _) (hw.own (.s (.s .z))).row h82 hp83 (Lens.comp lw (fun z=>{ (lget t4 (wr .i64 (i20-1))) with f_Bits:=z }) (c_api_Prefix_f_Bits (lget t4 (wr .i64 (i20-1))))) rfl _ rfl)) ?_
      exact at_nil k
     ·intro Lx g119 s K hl hh k
      show At 141 ((80,_)::(3,_)::(6,_)::(8,_)::(9,_)::(11,_)::Lx) _ _
      refine gy ?_
      refine am ?_
      exact at_nil k
     ·intro Lx g119 s K hl hh k
      show At 141 ((80,_)::(3,_)::(6,_)::(8,_)::(9,_)::(11,_)::Lx) _ _
      refine gy ?_
      refine am ?_
      exact at_nil k
     ·intro Lx g119 s K hl hh k
      show At 141 ((80,_)::(87,_)::(88,_)::(3,_)::(6,_)::(8,_)::(9,_)::(11,_)::Lx) _ _
      refine gy ?_
      refine aw (r_idx underlying27 sizeOf37 rfl rfl h86 hp87) ?_
      exact at_nil k
     ·intro Lx g119 s K hl hh k
      show At 141 ((80,_)::(89,_)::(3,_)::(6,_)::(8,_)::(9,_)::(11,_)::Lx) _ _
      refine gy ?_
      refine fa 17 underlying37 rfl sizeOf3 ?_
      exact at_nil k
     ·intro Lx g119 s K hl hh k
      show At 141 ((80,_)::(90,_)::(3,_)::(6,_)::(8,_)::(9,_)::(11,_)::Lx) _ _
      refine gy ?_
      obtain rfl:s=0:=by omega
      refine aw (r_load_cell isAgg3 rfl (fun w1 hw=>row_lens0 (y:=(lget t4 i20).f_Bits) (W:=fun w1=>w1=_) (fun w1 h=>by subst h;exact Below.refl _ _) (hw.own (.s (.s .z))).row h86 hp87 (Lens.comp lw (fun z=>{ (lget t4 i20) with f_Bits:=z }) (c_api_Prefix_f_Bits (lget t4 i20))) rfl _ rfl)) ?_
      exact at_nil k
     ·intro Lx g119 s K hl hh k
      show At 141 ((80,_)::(86,_)::(91,_)::(3,_)::(6,_)::(8,_)::(9,_)::(11,_)::Lx) _ _
      refine gy ?_
      refine aw xq ?_
      exact at_nil k
     ·intro Lx g119 s K hl hh k
      show At 141 ((80,_)::(92,_)::(3,_)::(6,_)::(8,_)::(9,_)::(11,_)::Lx) _ _
      refine aw xp ?_
      exact at_nil k
     ·intro Lx g119 s K hl hh k
      show At 141 ((93,_)::(3,_)::(6,_)::(8,_)::(9,_)::(11,_)::Lx) _ _
      refine am ?_
      exact at_nil (at_cast h90 k)
     ·intro Lx g119 s K hl hh k
      show At 141 ((94,_)::(3,_)::(6,_)::(8,_)::(9,_)::(11,_)::Lx) _ _
      refine gn ?_
      exact at_nil k
     ·intro Lx g119 s K hl hh k
      show At 141 ((94,_)::(3,_)::(6,_)::(8,_)::(9,_)::(11,_)::Lx) _ _
      refine gn ?_
      exact at_nil k
     ·intro Lx g119 s K hl hh k
      show At 141 ((94,_)::(95,_)::(96,_)::(3,_)::(6,_)::(8,_)::(9,_)::(11,_)::Lx) _ _
      refine gn ?_
      exact at_nil k
     ·intro Lx g119 s K hl hh k
      show At 141 ((94,_)::(97,_)::(3,_)::(6,_)::(8,_)::(9,_)::(11,_)::Lx) _ _
      refine gn ?_
      exact at_nil k
     ·intro Lx g119 s K hl hh k
      show At 141 ((94,_)::(98,_)::(3,_)::(6,_)::(8,_)::(9,_)::(11,_)::Lx) _ _
      obtain rfl:s=0:=by omega
      refine gn ?_
      exact at_nil k
     ·intro Lx g119 s K hl hh k
      show At 141 ((94,_)::(99,_)::(3,_)::(6,_)::(8,_)::(9,_)::(11,_)::Lx) _ _
      refine gn ?_
      exact at_nil k
     ·intro Lx g119 s K hl hh k
      show At 141 ((94,_)::(100,_)::(3,_)::(6,_)::(8,_)::(9,_)::(11,_)::Lx) _ _
      refine aw xp ?_
      exact at_nil k
     ·intro Lx g119 s K hl hh k
      show At 141 ((101,_)::(3,_)::(6,_)::(8,_)::(9,_)::(11,_)::Lx) _ _
      refine am ?_
      exact at_nil k
     ·intro Lx g119 s K hl hh k
      show At 141 ((102,_)::(3,_)::(6,_)::(8,_)::(9,_)::(11,_)::Lx) _ _
      refine gn ?_
      exact at_nil k
     ·intro Lx g119 s K hl hh k
      show At 141 ((102,_)::(3,_)::(6,_)::(8,_)::(9,_)::(11,_)::Lx) _ _
      refine gn ?_
      exact at_nil k
     ·intro Lx g119 s K hl hh k
      show At 141 ((102,_)::(104,_)::(3,_)::(6,_)::(8,_)::(9,_)::(11,_)::Lx) _ _
      refine gn ?_
      exact at_nil k
     ·intro Lx g119 s K hl hh k
      show At 141 ((102,_)::(103,_)::(105,_)::(3,_)::(6,_)::(8,_)::(9,_)::(11,_)::Lx) _ _
      refine gn ?_
      exact at_nil k
     ·intro Lx g119 s K hl hh k
      show At 141 ((102,_)::(106,_)::(3,_)::(6,_)::(8,_)::(9,_)::(11,_)::Lx) _ _
      refine gn ?_
      exact at_nil k
     ·intro Lx g119 s K hl hh k
      show At 141 ((102,_)::(107,_)::(3,_)::(6,_)::(8,_)::(9,_)::(11,_)::Lx) _ _
      obtain rfl:s=0:=by omega
      refine gn ?_
      exact at_nil k
     ·intro Lx g119 s K hl hh k
      show At 141 ((102,_)::(3,_)::(6,_)::(8,_)::(9,_)::(11,_)::Lx) _ _
      refine gn ?_
      exact at_nil k
     ·intro Lx g119 s K hl hh k
      show At 141 ((102,_)::(3,_)::(6,_)::(8,_)::(9,_)::(11,_)::Lx) _ _
      refine gn ?_
      exact at_nil k
     ·intro Lx g119 s K hl hh k
      show At 141 ((102,_)::(109,_)::(110,_)::(3,_)::(6,_)::(8,_)::(9,_)::(11,_)::Lx) _ _
      refine gn ?_
      exact at_nil k
     ·intro Lx g119 s K hl hh k
      show At 141 ((102,_)::(111,_)::(3,_)::(6,_)::(8,_)::(9,_)::(11,_)::Lx) _ _
      refine gn ?_
      exact at_nil k
     ·intro Lx g119 s K hl hh k
      show At 141 ((102,_)::(112,_)::(3,_)::(6,_)::(8,_)::(9,_)::(11,_)::Lx) _ _
      obtain rfl:s=0:=by omega
      refine gn ?_
      exact at_nil k
     ·intro Lx g119 s K hl hh k
      show At 141 ((102,_)::(113,_)::(3,_)::(6,_)::(8,_)::(9,_)::(11,_)::Lx) _ _
      refine gn ?_
      exact at_nil k
     ·intro Lx g119 s K hl hh k
      show At 141 ((102,_)::(108,_)::(114,_)::(3,_)::(6,_)::(8,_)::(9,_)::(11,_)::Lx) _ _
      obtain rfl:s=0:=by omega
      refine gn ?_
      exact at_nil k
     ·intro Lx g119 s K hl hh k
      show At 141 ((102,_)::(3,_)::(6,_)::(8,_)::(9,_)::(11,_)::Lx) _ _
      refine gn ?_
      exact at_nil k
     ·intro Lx g119 s K hl hh k
      show At 141 ((102,_)::(3,_)::(6,_)::(8,_)::(9,_)::(11,_)::Lx) _ _
      refine gn ?_
      exact at_nil k
     ·intro Lx g119 s K hl hh k
      show At 141 ((102,_)::(116,_)::(117,_)::(3,_)::(6,_)::(8,_)::(9,_)::(11,_)::Lx) _ _
      refine gn ?_
      exact at_nil k
     ·intro Lx g119 s K hl hh k
      show At 141 ((102,_)::(118,_)::(3,_)::(6,_)::(8,_)::(9,_)::(11,_)::Lx) _ _
      refine gn ?_
      exact at_nil k
     ·intro Lx g119 s K hl hh k
      show At 141 ((102,_)::(119,_)::(3,_)::(6,_)::(8,_)::(9,_)::(11,_)::Lx) _ _
      obtain rfl:s=0:=by omega
      refine gn ?_
      exact at_nil k
     ·intro Lx g119 s K hl hh k
      show At 141 ((102,_)::(3,_)::(6,_)::(8,_)::(9,_)::(11,_)::Lx) _ _
      refine gn ?_
      exact at_nil k
     ·intro Lx g119 s K hl hh k
      show At 141 ((102,_)::(3,_)::(6,_)::(8,_)::(9,_)::(11,_)::Lx) _ _
      refine gn ?_
      exact at_nil k
     ·intro Lx g119 s K hl hh k
      show At 141 ((102,_)::(121,_)::(122,_)::(3,_)::(6,_)::(8,_)::(9,_)::(11,_)::Lx) _ _
      refine gn ?_
      exact at_nil k
     ·intro Lx g119 s K hl hh k
      show At 141 ((102,_)::(123,_)::(3,_)::(6,_)::(8,_)::(9,_)::(11,_)::Lx) _ _
      refine gn ?_
      exact at_nil k
     ·intro Lx g119 s K hl hh k
      show At 141 ((102,_)::(124,_)::(3,_)::(6,_)::(8,_)::(9,_)::(11,_)::Lx) _ _
      obtain rfl:s=0:=by omega
      refine gn ?_
      exact at_nil k
     ·intro Lx g119 s K hl hh k
      show At 141 ((102,_)::(125,_)::(3,_)::(6,_)::(8,_)::(9,_)::(11,_)::Lx) _ _
      refine gn ?_
      exact at_nil k
     ·intro Lx g119 s K hl hh k
      show At 141 ((102,_)::(120,_)::(126,_)::(3,_)::(6,_)::(8,_)::(9,_)::(11,_)::Lx) _ _
      obtain rfl:s=0:=by omega
      refine gn ?_
      exact at_nil k
     ·intro Lx g119 s K hl hh k
      show At 141 ((102,_)::(115,_)::(127,_)::(3,_)::(6,_)::(8,_)::(9,_)::(11,_)::Lx) _ _
      refine gn ?_
      exact at_nil k
     ·intro Lx g119 s K hl hh k
      show At 141 ((102,_)::(128,_)::(3,_)::(6,_)::(8,_)::(9,_)::(11,_)::Lx) _ _
      refine aw xp ?_
      exact at_nil k
     intro g119
     show At 141 [(78,_),(79,_),(80,_),(81,_),(82,_),(83,_),(84,_),(85,_),(86,_),(87,_),(88,_),(89,_),(90,_),(91,_),(92,_),(93,_),(94,_),(95,_),(96,_),(97,_),(98,_),(99,_),(100,_),(101,_),(102,_),(103,_),(104,_),(105,_),(106,_),(107,_),(108,_),(109,_),(110,_),(111,_),(112,_),(113,_),(114,_),(115,_),(116,_),(117,_),(118,_),(119,_),(120,_),(121,_),(122,_),(123,_),(124,_),(125,_),(126,_),(127,_),(128,_),(129,_),(3,_),(6,_),(8,_),(9,_),(11,_)] _ _
     refine wq [129,11,9,8,6,3] ?_
     refine tn ?_
     refine cf rfl ?_
     refine sn (qr ?_)
     refine aw (r_load_aggc (c:=c_api_Addr) (z:=t27.2) isAgg24 sizeOf24 rfl (lens_cell .z lw)) ?_
     obtain ⟨t120,ht120,hF⟩:=bM hF
     refine cB func17 rfl (fun w hw=>crawlwayref53_Next_ok _ _ ht120 w) ?_
     refine am ?_
     refine aw xe (aw xe ?_)
     refine at_store (c:=c_api_Addr) (z:=t120.1) (.s .z) lw sizeOf24 rfl rfl rfl ?_
     refine qn (dz (wq [9,8,6,3] ?_))
     refine bm ?_
     refine qr (am (aw xa (aa (nwq [9,8,6,3] ?_))))
     exact at_weak_k (ih _ _ _ hF K) ⟨rfl,rfl,rfl,rfl,trivial⟩
    skip
    refine at_inv [.q 78 (fun g121=>.int .i64 i20) [] 0 0,.q 79 (fun g121=>.bool (decide (i20>0))) [0] 0 0,.q 80 (fun g121=>.bool false) [1] 0 0,.q 81 (fun g121=>undef) [2] 0 0,.q 82 (fun g121=>undef) [2] 0 0,.q 83 (fun g121=>undef) [2,4] 0 0,.q 84 (fun g121=>undef) [2,3,5] 0 0,.q 85 (fun g121=>undef) [2,6] 0 0,.q 86 (fun g121=>undef) [2,7] 0 0,.q 87 (fun g121=>undef) [2] 0 0,.q 88 (fun g121=>undef) [2] 0 0,.q 89 (fun g121=>undef) [2,9,10] 0 0,.q 90 (fun g121=>undef) [2,11] 0 0,.q 91 (fun g121=>undef) [2,12] 0 0,.q 92 (fun g121=>undef) [2,8,13] 0 0,.q 93 (fun g121=>.bool false) [2,14] 0 0,.q 94 (fun g121=>.bool false) [15] 0 0,.q 95 (fun g121=>undef) [16] 0 0,.q 96 (fun g121=>undef) [16] 0 0,.q 97 (fun g121=>undef) [16,17,18] 0 0,.q 98 (fun g121=>undef) [16,19] 0 0,.q 99 (fun g121=>undef) [16,20] 0 0,.q 100 (fun g121=>undef) [16,21] 0 0,.q 101 (fun g121=>.bool false) [16,22] 0 0,.q 102 (fun g121=>.bool false) [23] 0 0,.q 103 (fun g121=>undef) [24] 0 0,.q 104 (fun g121=>undef) [24] 0 0,.q 105 (fun g121=>undef) [24,26] 0 0,.q 106 (fun g121=>undef) [24,25,27] 0 0,.q 107 (fun g121=>undef) [24,28] 0 0,.q 108 (fun g121=>undef) [24,29] 0 0,.q 109 (fun g121=>undef) [24] 0 0,.q 110 (fun g121=>undef) [24] 0 0,.q 111 (fun g121=>undef) [24,31,32] 0 0,.q 112 (fun g121=>undef) [24,33] 0 0,.q 113 (fun g121=>undef) [24,34] 0 0,.q 114 (fun g121=>undef) [24,35] 0 0,.q 115 (fun g121=>undef) [24,30,36] 0 0,.q 116 (fun g121=>undef) [24] 0 0,.q 117 (fun g121=>undef) [24] 0 0,.q 118 (fun g121=>undef) [24,38,39] 0 0,.q 119 (fun g121=>undef) [24,40] 0 0,.q 120 (fun g121=>undef) [24,41] 0 0,.q 121 (fun g121=>undef) [24] 0 0,.q 122 (fun g121=>undef) [24] 0 0,.q 123 (fun g121=>undef) [24,43,44] 0 0,.q 124 (fun g121=>undef) [24,45] 0 0,.q 125 (fun g121=>undef) [24,46] 0 0,.q 126 (fun g121=>undef) [24,47] 0 0,.q 127 (fun g121=>undef) [24,42,48] 0 0,.q 128 (fun g121=>undef) [24,37,49] 0 0,.q 129 (fun g121=>.bool false) [24,50] 0 0] (fun g121 s=>match s with | _=>(Wd w [cellsE b29 (Cd.cs c_api_Addr t27.2) 24,cellsE b18 (Cd.cs c_api_Addr i21) 24,rowE c_api_Prefix 37 p5 c6 t4,cellsE b2 (Cd.cs c_api_Addr x1) 24])) 0 (by kernel_rfl) (by kernel_rfl) (by kernel_rfl) (by kernel_rfl) (by kernel_rfl) ⟨fun _ _ _=>rfl,fun _ _ _=>rfl,fun _ _ _=>rfl,fun _ _ _=>rfl,fun _ _ _=>rfl,fun _ _ _=>rfl,fun _ _ _=>rfl,fun _ _ _=>rfl,fun _ _ _=>rfl,fun _ _ _=>rfl,fun _ _ _=>rfl,fun _ _ _=>rfl,fun _ _ _=>rfl,fun _ _ _=>rfl,fun _ _ _=>rfl,fun _ _ _=>rfl,fun _ _ _=>rfl,fun _ _ _=>rfl,fun _ _ _=>rfl,fun _ _ _=>rfl,fun _ _ _=>rfl,fun _ _ _=>rfl,fun _ _ _=>rfl,fun _ _ _=>rfl,fun _ _ _=>rfl,fun _ _ _=>rfl,fun _ _ _=>rfl,fun _ _ _=>rfl,fun _ _ _=>rfl,fun _ _ _=>rfl,fun _ _ _=>rfl,fun _ _ _=>rfl,fun _ _ _=>rfl,fun _ _ _=>rfl,fun _ _ _=>rfl,fun _ _ _=>rfl,fun _ _ _=>rfl,fun _ _ _=>rfl,fun _ _ _=>rfl,fun _ _ _=>rfl,fun _ _ _=>rfl,fun _ _ _=>rfl,fun _ _ _=>rfl,fun _ _ _=>rfl,fun _ _ _=>rfl,fun _ _ _=>rfl,fun _ _ _=>rfl,fun _ _ _=>rfl,fun _ _ _=>rfl,fun _ _ _=>rfl,fun _ _ _=>rfl,fun _ _ _=>rfl,trivial⟩ (by kernel_rfl) (fun w_ h=>⟨fun _=>g3 0 none 0 none w_,h.drew⟩) ⟨?_,?_,?_,?_,?_,?_,?_,?_,?_,?_,?_,?_,?_,?_,?_,?_,?_,?_,?_,?_,?_,?_,?_,?_,?_,?_,?_,?_,?_,?_,?_,?_,?_,?_,?_,?_,?_,?_,?_,?_,?_,?_,?_,?_,?_,?_,?_,?_,?_,?_,?_,?_,trivial⟩ ?_
    ·intro Lx g121 s K hl hh k
     show At 141 ((3,_)::(6,_)::(8,_)::(9,_)::(11,_)::Lx) _ _
     refine am ?_
     exact at_nil k
    ·intro Lx g121 s K hl hh k
     show At 141 ((78,_)::(3,_)::(6,_)::(8,_)::(9,_)::(11,_)::Lx) _ _
     refine aw (r_igtr rfl rfl) ?_
     exact at_nil k
    ·intro Lx g121 s K hl hh k
     show At 141 ((79,_)::(3,_)::(6,_)::(8,_)::(9,_)::(11,_)::Lx) _ _
     refine am ?_
     exact at_nil (at_cast h81 k)
    ·intro Lx g121 s K hl hh k
     show At 141 ((80,_)::(3,_)::(6,_)::(8,_)::(9,_)::(11,_)::Lx) _ _
     refine gn ?_
     exact at_nil k
    ·intro Lx g121 s K hl hh k
     show At 141 ((80,_)::(3,_)::(6,_)::(8,_)::(9,_)::(11,_)::Lx) _ _
     refine gn ?_
     exact at_nil k
    ·intro Lx g121 s K hl hh k
     show At 141 ((80,_)::(82,_)::(3,_)::(6,_)::(8,_)::(9,_)::(11,_)::Lx) _ _
     refine gn ?_
     exact at_nil k
    ·intro Lx g121 s K hl hh k
     show At 141 ((80,_)::(81,_)::(83,_)::(3,_)::(6,_)::(8,_)::(9,_)::(11,_)::Lx) _ _
     refine gn ?_
     exact at_nil k
    ·intro Lx g121 s K hl hh k
     show At 141 ((80,_)::(84,_)::(3,_)::(6,_)::(8,_)::(9,_)::(11,_)::Lx) _ _
     refine gn ?_
     exact at_nil k
    ·intro Lx g121 s K hl hh k
     show At 141 ((80,_)::(85,_)::(3,_)::(6,_)::(8,_)::(9,_)::(11,_)::Lx) _ _
     obtain rfl:s=0:=by omega
     refine gn ?_
     exact at_nil k
    ·intro Lx g121 s K hl hh k
     show At 141 ((80,_)::(3,_)::(6,_)::(8,_)::(9,_)::(11,_)::Lx) _ _
     refine gn ?_
     exact at_nil k
    ·intro Lx g121 s K hl hh k
     show At 141 ((80,_)::(3,_)::(6,_)::(8,_)::(9,_)::(11,_)::Lx) _ _
     refine gn ?_
     exact at_nil k
    ·intro Lx g121 s K hl hh k
     show At 141 ((80,_)::(87,_)::(88,_)::(3,_)::(6,_)::(8,_)::(9,_)::(11,_)::Lx) _ _
     refine gn ?_
     exact at_nil k
    ·intro Lx g121 s K hl hh k
     show At 141 ((80,_)::(89,_)::(3,_)::(6,_)::(8,_)::(9,_)::(11,_)::Lx) _ _
     refine gn ?_
     exact at_nil k
    ·intro Lx g121 s K hl hh k
     show At 141 ((80,_)::(90,_)::(3,_)::(6,_)::(8,_)::(9,_)::(11,_)::Lx) _ _
     obtain rfl:s=0:=by omega
     refine gn ?_
     exact at_nil k
    ·intro Lx g121 s K hl hh k
     show At 141 ((80,_)::(86,_)::(91,_)::(3,_)::(6,_)::(8,_)::(9,_)::(11,_)::Lx) _ _
     refine gn ?_
     exact at_nil k
    ·intro Lx g121 s K hl hh k
     show At 141 ((80,_)::(92,_)::(3,_)::(6,_)::(8,_)::(9,_)::(11,_)::Lx) _ _
     refine aw xp ?_
     exact at_nil k
    ·intro Lx g121 s K hl hh k
     show At 141 ((93,_)::(3,_)::(6,_)::(8,_)::(9,_)::(11,_)::Lx) _ _
     refine am ?_
     exact at_nil k
    ·intro Lx g121 s K hl hh k
     show At 141 ((94,_)::(3,_)::(6,_)::(8,_)::(9,_)::(11,_)::Lx) _ _
     refine gn ?_
     exact at_nil k
    ·intro Lx g121 s K hl hh k
     show At 141 ((94,_)::(3,_)::(6,_)::(8,_)::(9,_)::(11,_)::Lx) _ _
     refine gn ?_
     exact at_nil k
    ·intro Lx g121 s K hl hh k
     show At 141 ((94,_)::(95,_)::(96,_)::(3,_)::(6,_)::(8,_)::(9,_)::(11,_)::Lx) _ _
     refine gn ?_
     exact at_nil k
    ·intro Lx g121 s K hl hh k
     show At 141 ((94,_)::(97,_)::(3,_)::(6,_)::(8,_)::(9,_)::(11,_)::Lx) _ _
     refine gn ?_
     exact at_nil k
    ·intro Lx g121 s K hl hh k
     show At 141 ((94,_)::(98,_)::(3,_)::(6,_)::(8,_)::(9,_)::(11,_)::Lx) _ _
     obtain rfl:s=0:=by omega
     refine gn ?_
     exact at_nil k
    ·intro Lx g121 s K hl hh k
     show At 141 ((94,_)::(99,_)::(3,_)::(6,_)::(8,_)::(9,_)::(11,_)::Lx) _ _
     refine gn ?_
     exact at_nil k
    ·intro Lx g121 s K hl hh k
     show At 141 ((94,_)::(100,_)::(3,_)::(6,_)::(8,_)::(9,_)::(11,_)::Lx) _ _
     refine aw xp ?_
     exact at_nil k
    ·intro Lx g121 s K hl hh k
     show At 141 ((101,_)::(3,_)::(6,_)::(8,_)::(9,_)::(11,_)::Lx) _ _
     refine am ?_
     exact at_nil k
    ·intro Lx g121 s K hl hh k
     show At 141 ((102,_)::(3,_)::(6,_)::(8,_)::(9,_)::(11,_)::Lx) _ _
     refine gn ?_
     exact at_nil k
    ·intro Lx g121 s K hl hh k
     show At 141 ((102,_)::(3,_)::(6,_)::(8,_)::(9,_)::(11,_)::Lx) _ _
     refine gn ?_
     exact at_nil k
    ·intro Lx g121 s K hl hh k
     show At 141 ((102,_)::(104,_)::(3,_)::(6,_)::(8,_)::(9,_)::(11,_)::Lx) _ _
     refine gn ?_
     exact at_nil k
    ·intro Lx g121 s K hl hh k
     show At 141 ((102,_)::(103,_)::(105,_)::(3,_)::(6,_)::(8,_)::(9,_)::(11,_)::Lx) _ _
     refine gn ?_
     exact at_nil k
    ·intro Lx g121 s K hl hh k
     show At 141 ((102,_)::(106,_)::(3,_)::(6,_)::(8,_)::(9,_)::(11,_)::Lx) _ _
     refine gn ?_
     exact at_nil k
    ·intro Lx g121 s K hl hh k
     show At 141 ((102,_)::(107,_)::(3,_)::(6,_)::(8,_)::(9,_)::(11,_)::Lx) _ _
     obtain rfl:s=0:=by omega
     refine gn ?_
     exact at_nil k
    ·intro Lx g121 s K hl hh k
     show At 141 ((102,_)::(3,_)::(6,_)::(8,_)::(9,_)::(11,_)::Lx) _ _
     refine gn ?_
     exact at_nil k
    ·intro Lx g121 s K hl hh k
     show At 141 ((102,_)::(3,_)::(6,_)::(8,_)::(9,_)::(11,_)::Lx) _ _
     refine gn ?_
     exact at_nil k
    ·intro Lx g121 s K hl hh k
     show At 141 ((102,_)::(109,_)::(110,_)::(3,_)::(6,_)::(8,_)::(9,_)::(11,_)::Lx) _ _
     refine gn ?_
     exact at_nil k
    ·intro Lx g121 s K hl hh k
     show At 141 ((102,_)::(111,_)::(3,_)::(6,_)::(8,_)::(9,_)::(11,_)::Lx) _ _
     refine gn ?_
     exact at_nil k
    ·intro Lx g121 s K hl hh k
     show At 141 ((102,_)::(112,_)::(3,_)::(6,_)::(8,_)::(9,_)::(11,_)::Lx) _ _
     obtain rfl:s=0:=by omega
     refine gn ?_
     exact at_nil k
    ·intro Lx g121 s K hl hh k
     show At 141 ((102,_)::(113,_)::(3,_)::(6,_)::(8,_)::(9,_)::(11,_)::Lx) _ _
     refine gn ?_
     exact at_nil k
    ·intro Lx g121 s K hl hh k
     show At 141 ((102,_)::(108,_)::(114,_)::(3,_)::(6,_)::(8,_)::(9,_)::(11,_)::Lx) _ _
     obtain rfl:s=0:=by omega
     refine gn ?_
     exact at_nil k
    ·intro Lx g121 s K hl hh k
     show At 141 ((102,_)::(3,_)::(6,_)::(8,_)::(9,_)::(11,_)::Lx) _ _
     refine gn ?_
     exact at_nil k
    ·intro Lx g121 s K hl hh k
     show At 141 ((102,_)::(3,_)::(6,_)::(8,_)::(9,_)::(11,_)::Lx) _ _
     refine gn ?_
     exact at_nil k
    ·intro Lx g121 s K hl hh k
     show At 141 ((102,_)::(116,_)::(117,_)::(3,_)::(6,_)::(8,_)::(9,_)::(11,_)::Lx) _ _
     refine gn ?_
     exact at_nil k
    ·intro Lx g121 s K hl hh k
     show At 141 ((102,_)::(118,_)::(3,_)::(6,_)::(8,_)::(9,_)::(11,_)::Lx) _ _
     refine gn ?_
     exact at_nil k
    ·intro Lx g121 s K hl hh k
     show At 141 ((102,_)::(119,_)::(3,_)::(6,_)::(8,_)::(9,_)::(11,_)::Lx) _ _
     obtain rfl:s=0:=by omega
     refine gn ?_
     exact at_nil k
    ·intro Lx g121 s K hl hh k
     show At 141 ((102,_)::(3,_)::(6,_)::(8,_)::(9,_)::(11,_)::Lx) _ _
     refine gn ?_
     exact at_nil k
    ·intro Lx g121 s K hl hh k
     show At 141 ((102,_)::(3,_)::(6,_)::(8,_)::(9,_)::(11,_)::Lx) _ _
     refine gn ?_
     exact at_nil k
    ·intro Lx g121 s K hl hh k
     show At 141 ((102,_)::(121,_)::(122,_)::(3,_)::(6,_)::(8,_)::(9,_)::(11,_)::Lx) _ _
     refine gn ?_
     exact at_nil k
    ·intro Lx g121 s K hl hh k
     show At 141 ((102,_)::(123,_)::(3,_)::(6,_)::(8,_)::(9,_)::(11,_)::Lx) _ _
     refine gn ?_
     exact at_nil k
    ·intro Lx g121 s K hl hh k
     show At 141 ((102,_)::(124,_)::(3,_)::(6,_)::(8,_)::(9,_)::(11,_)::Lx) _ _
     obtain rfl:s=0:=by omega
     refine gn ?_
     exact at_nil k
    ·intro Lx g121 s K hl hh k
     show At 141 ((102,_)::(125,_)::(3,_)::(6,_)::(8,_)::(9,_)::(11,_)::Lx) _ _
     refine gn ?_
     exact at_nil k
    ·intro Lx g121 s K hl hh k
     show At 141 ((102,_)::(120,_)::(126,_)::(3,_)::(6,_)::(8,_)::(9,_)::(11,_)::Lx) _ _
     obtain rfl:s=0:=by omega
     refine gn ?_
     exact at_nil k
    ·intro Lx g121 s K hl hh k
     show At 141 ((102,_)::(115,_)::(127,_)::(3,_)::(6,_)::(8,_)::(9,_)::(11,_)::Lx) _ _
     refine gn ?_
     exact at_nil k
    ·intro Lx g121 s K hl hh k
     show At 141 ((102,_)::(128,_)::(3,_)::(6,_)::(8,_)::(9,_)::(11,_)::Lx) _ _
     refine aw xp ?_
     exact at_nil k
    intro g121
    show At 141 [(78,_),(79,_),(80,_),(81,_),(82,_),(83,_),(84,_),(85,_),(86,_),(87,_),(88,_),(89,_),(90,_),(91,_),(92,_),(93,_),(94,_),(95,_),(96,_),(97,_),(98,_),(99,_),(100,_),(101,_),(102,_),(103,_),(104,_),(105,_),(106,_),(107,_),(108,_),(109,_),(110,_),(111,_),(112,_),(113,_),(114,_),(115,_),(116,_),(117,_),(118,_),(119,_),(120,_),(121,_),(122,_),(123,_),(124,_),(125,_),(126,_),(127,_),(128,_),(129,_),(3,_),(6,_),(8,_),(9,_),(11,_)] _ _
    refine wq [129,11,9,8,6,3] ?_
    refine tn ?_
    refine cf rfl ?_
    refine sn (qr ?_)
    refine aw (r_load_aggc (c:=c_api_Addr) (z:=t27.2) isAgg24 sizeOf24 rfl (lens_cell .z lw)) ?_
    obtain ⟨t122,ht122,hF⟩:=bM hF
    refine cB func17 rfl (fun w hw=>crawlwayref53_Next_ok _ _ ht122 w) ?_
    refine am ?_
    refine aw xe (aw xe ?_)
    refine at_store (c:=c_api_Addr) (z:=t122.1) (.s .z) lw sizeOf24 rfl rfl rfl ?_
    refine qn (dz (wq [9,8,6,3] ?_))
    refine bm ?_
    refine qr (am (aw xa (aa (nwq [9,8,6,3] ?_))))
    exact at_weak_k (ih _ _ _ hF K) ⟨rfl,rfl,rfl,rfl,trivial⟩
   refine cf h22 ?_
   refine at_exit ?_
   refine te (te ?_)
   refine dz ?_
   refine at_drop (H:=_) (.s .z) ?_
   obtain rfl:=os hF
   exact at_weak_k K ⟨rfl,trivial⟩
 cases q19 with
 | ret r'=>exact os hF
 | nx sq19 =>
  skip
  refine at_blk_same ?_
  refine tn (sr (am ?_))
  refine aw (r_len_sl underlying27 rfl) ?_
  refine aw (r_igtr rfl rfl) ?_
  refine am ?_
  obtain ⟨h123,hF⟩|⟨h123,hF⟩:=oi hF
  ·refine fx 138 h123 ?_
   refine gy ?_
   obtain ⟨t124,ht124,hF⟩:=bM hF
   refine cB func13 rfl (fun w hw=>crawlwaylaw53_alive_ok  _ ht124 w) ?_
   refine aw xp (aa (qn (dz (wq [4] ?_))))
   refine tn (qt ?_)
   have K:=os hF
   subst K
   exact r1 wb
  ·refine fx 138 h123 ?_
   refine gn ?_
   refine aw xp (aa (qn (dz (wq [4] ?_))))
   refine tn (qt ?_)
   have K:=os hF
   subst K
   exact r1 wb
end Go.Proofs.Ytahlbjmafceoeaa
namespace Go.Proofs.Ytahlbjmafceoeaa.Agg
open E Go.RowKit Adr Cid
theorem of_ref{V:Int}{N k:Nat}(h:Good (V,N,k)):crawlwayref53_Of (prf V N k)=some (adr V N,adr V (N+2 ^ k-1)):=by
 unfold crawlwayref53_Of
 rw [reflast_prf h.fam h.le h.dvd];rfl
theorem noHalf_of{w N M k:Nat}(h:IsG w N M k)(hf:N+2 ^ k+2 ^ k≤M+1)(hk:k<w):N/2 ^ (k+1)*2 ^ (k+1)≠(N+2 ^ k)/2 ^ (k+1)*2 ^ (k+1):=by
 intro e
 have hp:0<2 ^ k:=Nat.pow_pos (by omega)
 have hd:=h.dvd
 have hp2:2 ^ (k+1)=2*2 ^ k:=by rw [Nat.pow_succ,Nat.mul_comm]
 have hm:2 ^ (k+1) ∣ N:=by
  obtain ⟨m,hm⟩:=hd
  have e1:N+2 ^ k=2 ^ k*(m+1):=by rw [Nat.mul_add,Nat.mul_one,hm]
  rcases Nat.mod_two_eq_zero_or_one m with h2 | h2
  ·obtain ⟨n,hn⟩:=Nat.dvd_of_mod_eq_zero h2
   exact ⟨n,by rw [hm,hn,Nat.pow_succ,Nat.mul_assoc]⟩
  ·exfalso
   have:(m+1)%2=0:=by omega
   obtain ⟨n,hn⟩:=Nat.dvd_of_mod_eq_zero this
   have e2:N+2 ^ k=2 ^ (k+1)*n:=by rw [e1,hn,Nat.pow_succ,Nat.mul_assoc]
   rw [e2,Nat.mul_div_cancel_left _ (by omega)] at e
   have a4:N/2 ^ (k+1)*2 ^ (k+1)≤N:=Nat.div_mul_le_self _ _
   rw [e,Nat.mul_comm] at a4
   omega
 have:=h.top (k+1) hk hm (by omega)
 omega
theorem step_piece{V:Int}(hf:fam V){M:Nat}(hM:M<2 ^ wd V)(T:List (Nat×Nat))(hT:T.length≤100000){N k:Nat}(A B:List (Nat×Nat))(hx:T=A++(N,k)::B)(hG:IsG (wd V) N M k)(hA:∀ A' q,A=A'++[q]→IsG (wd V) q.1 M q.2∧N=q.1+2 ^ q.2)(hend:B=[]→M<N+2 ^ k) :
  crawlwaylaw53_AggregateRanges.l0 (adr V M) (toP V T) (A.length:Int) (adr V N)=crawlwaylaw53_AggregateRanges.l0 (adr V M) (toP V T) ((A++[(N,k)]).length:Int) (nx V (N+2 ^ k-1)).1:=by
 have hfit:=hG.fit
 have hp:0<2 ^ k:=Nat.pow_pos (by omega)
 have hk:=hG.le
 have hw:=wd_le V
 have hN:N<2 ^ wd V:=by omega
 have hGd:Good (V,N,k):=⟨hf,hN,hG.le,hG.dvd⟩
 have hTl:T.length=A.length+(B.length+1):=by rw [hx];simp
 have hl:(toP V T).length=T.length:=by unfold toP;rw [List.length_map]
 have hin:(0:Int)≤(A.length:Int)∧(A.length:Int)<((toP V T).length:Int):=by omega
 have hg:lget (toP V T) (A.length:Int)=prf V N k:=by
  rw [hx]
  unfold toP
  rw [List.map_append,List.map_cons]
  have:=lget_mid (A.map fun p=>prf V p.1 p.2) (prf V N k) (B.map fun p=>prf V p.1 p.2)
  rwa [List.length_map] at this
 have hwi:wr .i64 ((A.length:Int)+1)=((A++[(N,k)]).length:Int):=wr_mid A _ (by omega)
 have hnx:=(next_adr hf (show N+2 ^ k-1<2 ^ wd V by omega)).2
 obtain ⟨R,hR⟩:∃ R,R=crawlwaylaw53_AggregateRanges.l0 (adr V M) (toP V T) ((A++[(N,k)]).length:Int) (nx V (N+2 ^ k-1)).1:=⟨_,rfl⟩
 rw [←hR,crawlwaylaw53_AggregateRanges.l0.eq_def,decide_eq_true hin.2,if_pos rfl,if_pos hin,hg,of_ref hGd,bindM_some,if_pos hin,(prf_right hf hk hG.dvd).2,bindM_some,if_neg (by decide),decide_eq_true rfl,if_neg (by decide)]
 simp only [if_pos hin,hwi,hnx,bindM_some,←hR]
 have hbits:(prf V N k).f_Bits=((wd V-k:Nat):Int):=rfl
 have hA0:(prf V N k).f_A=adr V N:=rfl
 have htail:(if decide ((A.length:Int)>0)=true then (if (0:Int)≤wr .i64 ((A.length:Int)-1)∧wr .i64 ((A.length:Int)-1)<((toP V T).length:Int) then (if ((lget (toP V T) (wr .i64 ((A.length:Int)-1))).f_Bits==(prf V N k).f_Bits)=true then (if decide ((prf V N k).f_Bits>0)=true then (if (0:Int)≤wr .i64 ((A.length:Int)-1)∧wr .i64 ((A.length:Int)-1)<((toP V T).length:Int) then crawlwayref10_Mask ((lget (toP V T) (wr .i64 ((A.length:Int)-1))).f_A) (wr .i64 (((prf V N k).f_Bits)-1))>>=fun t62=>crawlwayref10_Mask ((prf V N k).f_A) (wr .i64 (((prf V N k).f_Bits)-1))>>=fun t71=>if (decide (t62=t71))=true then (some (.ret false)) else R else none) else R) else R) else none) else R)=R:=by
  rcases List.eq_nil_or_concat A with e | ⟨A',q,e⟩
  ·have:decide ((A.length:Int)>0)=false:=by rw [e];rfl
   rw [this,if_neg Bool.false_ne_true]
  ·obtain ⟨hq,hNq⟩:=hA A' q (by rw [e,List.concat_eq_append])
   have hAl:A.length=A'.length+1:=by rw [e];simp
   have hpos:decide ((A.length:Int)>0)=true:=decide_eq_true (by omega)
   have hw1:wr .i64 ((A.length:Int)-1)=(A'.length:Int):=by rw [wr_i64 (by omega) (by omega)];omega
   have hin':(0:Int)≤(A'.length:Int)∧(A'.length:Int)<((toP V T).length:Int):=by omega
   have hg':lget (toP V T) (A'.length:Int)=prf V q.1 q.2:=by
    rw [hx,e]
    unfold toP
    rw [List.concat_eq_append,List.append_assoc,List.map_append]
    have:=lget_mid (A'.map fun p=>prf V p.1 p.2) (prf V q.1 q.2) (((N,k)::B).map fun p=>prf V p.1 p.2)
    rwa [List.length_map] at this
   rw [hpos,if_pos rfl,hw1,if_pos hin',if_pos hin',hg',hbits,hA0]
   have hb':(prf V q.1 q.2).f_Bits=((wd V-q.2:Nat):Int):=rfl
   have hA':(prf V q.1 q.2).f_A=adr V q.1:=rfl
   rw [hb',hA']
   have hqle:=hq.le
   have hqp:0<2 ^ q.2:=Nat.pow_pos (by omega)
   by_cases hqk:q.2=k
   ·have:(((wd V-q.2:Nat):Int)==((wd V-k:Nat):Int))=true:=by rw [beq_iff_eq,hqk]
    rw [this,if_pos rfl]
    by_cases hkw:k<wd V
    ·have hd:decide (((wd V-k:Nat):Int)>0)=true:=decide_eq_true (by omega)
     have hw2:wr .i64 (((wd V-k:Nat):Int)-1)=((wd V-(k+1):Nat):Int):=by rw [wr_i64 (by omega) (by omega)];omega
     have hqN:q.1<2 ^ wd V:=by omega
     rw [hd,if_pos rfl,hw2,mask_adr hf (by omega),bindM_some,mask_adr hf (by omega),bindM_some,show wd V-(wd V-(k+1))=k+1 by omega]
     have hne:decide (adr V (q.1/2 ^ (k+1)*2 ^ (k+1))=adr V (N/2 ^ (k+1)*2 ^ (k+1)))=false:=by
      refine decide_eq_false fun he=>?_
      have h1:=((adr_inj (Nat.lt_of_le_of_lt (Nat.div_mul_le_self _ _) hqN) (Nat.lt_of_le_of_lt (Nat.div_mul_le_self _ _) hN)).1 he).2
      rw [hqk] at hq hNq
      rw [hNq] at h1
      exact noHalf_of hq (by omega) hkw h1
     rw [hne,if_neg Bool.false_ne_true]
    ·have hd:decide (((wd V-k:Nat):Int)>0)=false:=decide_eq_false (by omega)
     rw [hd,if_neg Bool.false_ne_true]
   ·have:(((wd V-q.2:Nat):Int)==((wd V-k:Nat):Int))=false:=by rw [beq_eq_false_iff_ne];omega
    rw [this,if_neg Bool.false_ne_true]
 have hw3:wr .i64 (((toP V T).length:Int)-1)=((T.length-1:Nat):Int):=by rw [wr_i64 (by omega) (by omega)];omega
 rw [hw3]
 by_cases hi:A.length=T.length-1
 ·have hB:B=[]:=List.eq_nil_of_length_eq_zero (by omega)
  have:=hend hB
  have hM':N+2 ^ k-1=M:=by omega
  have hq:((A.length:Int)==((T.length-1:Nat):Int))=true:=by rw [beq_iff_eq];omega
  rw [hq,if_pos rfl,hM',decide_eq_true rfl,if_neg (by decide)]
  exact htail
 ·have hq:((A.length:Int)==((T.length-1:Nat):Int))=false:=by rw [beq_eq_false_iff_ne];omega
  rw [hq,if_neg Bool.false_ne_true]
  exact htail
theorem walk_loop{V:Int}(hf:fam V){M:Nat}(hM:M<2 ^ wd V)(T:List (Nat×Nat))(hT:T.length≤100000){N:Nat}{L:List (Nat×Nat)}(h:Cov (wd V) M N L):∀ (A:List (Nat×Nat)),T=A++L→(∀ A' q,A=A'++[q]→IsG (wd V) q.1 M q.2∧N=q.1+2 ^ q.2) →
  crawlwaylaw53_AggregateRanges.l0 (adr V M) (toP V T) (A.length:Int) (adr V N)=some (.nx ()):=by
 have hl:(toP V T).length=T.length:=by unfold toP;rw [List.length_map]
 induction h with
 | @last N k h he =>
  intro A hx hA
  rw [step_piece hf hM T hT A [] hx h hA (fun _=>he),crawlwaylaw53_AggregateRanges.l0.eq_def,decide_eq_false (by rw [hl,hx];omega),if_neg Bool.false_ne_true]
 | @step N k L h he t ih =>
  intro A hx hA
  have hp:0<2 ^ k:=Nat.pow_pos (by omega)
  have hne:L≠[]:=fun e=>by rw [e] at t;cases t
  rw [step_piece hf hM T hT A L hx h hA (fun e=>absurd e hne)]
  have hnx:(nx V (N+2 ^ k-1)).1=adr V (N+2 ^ k):=by
   have e:N+2 ^ k-1+1=N+2 ^ k:=by omega
   have:=(@nx_pair V (N+2 ^ k-1)).2 (by omega)
   rw [e] at this
   exact this
  rw [hnx]
  refine ih (A++[(N,k)]) (by rw [hx];simp) fun A' q e=>?_
  have:=List.append_inj_right' e rfl
  have hq:=(List.cons.inj this).1
  subst hq
  exact ⟨h,rfl⟩
theorem AggregateRanges_pure(a0:S_api_Addr)(w0:ok_api_Addr a0)(a1:S_api_Addr)(w1:ok_api_Addr a1):crawlwaylaw53_AggregateRanges a0 a1=some true:=by
 obtain ⟨V,l,rfl,hl,_⟩:=exists_mkA a0 w0
 obtain ⟨W,k,rfl,hk,_⟩:=exists_mkA a1 w1
 unfold crawlwaylaw53_AggregateRanges
 show (aggregate_Prefixes ⟨mkA V l,mkA W k⟩>>=fun t4=>crawlwayref53_Right (mkA V l) (mkA W k)>>=fun t7=>aggregate_Right ⟨mkA V l,mkA W k⟩>>=fun t8=>_)=_
 have hcase:(aggregate_Right ⟨mkA V l,mkA W k⟩=some false∧crawlwayref53_Right (mkA V l) (mkA W k)=some false)∨(fam V∧∃ N M,N≤M∧M<2 ^ wd V∧mkA V l=adr V N∧mkA W k=adr V M):=by
  cases h1:rightL V l with
  | false =>
   left
   unfold aggregate_Right crawlwayref53_Right
   show (addr_Right (mkA V l)>>=fun t2=>_)=_∧(crawlwayref10_Right (mkA V l)>>=fun t3=>_)=_
   rw [right_code hl,right_ref hl,h1];exact ⟨rfl,rfl⟩
  | true =>
   cases h2:rightL W k with
   | false =>
    left
    unfold aggregate_Right crawlwayref53_Right
    show (addr_Right (mkA V l)>>=fun t2=>if t2=true then (addr_Right (mkA W k)>>=fun t4=>_) else _)=_∧(crawlwayref10_Right (mkA V l)>>=fun t3=>if t3=true then (crawlwayref10_Right (mkA W k)>>=fun t5=>_) else _)=_
    rw [right_code hl,right_ref hl,h1,right_code hk,right_ref hk,h2];exact ⟨rfl,rfl⟩
   | true =>
    obtain ⟨hf,N,hN,rfl⟩:=right_is hl h1
    obtain ⟨hg,M,hM,rfl⟩:=right_is hk h2
    obtain ⟨r1,r2⟩:=rright hf hg hN hM
    by_cases hV:V=W
    ·subst hV
     by_cases hle:N≤M
     ·right
      exact ⟨hf,N,M,hle,hM,rfl,rfl⟩
     ·left
      have:(decide (V=V)&&!ltA V M V N)=false:=by
       unfold ltA
       rw [if_pos rfl,decide_eq_true (show M<N by omega)];simp
      rw [this] at r1 r2
      exact ⟨r1,r2⟩
    ·left
     rw [decide_eq_false hV,Bool.false_and] at r1 r2
     exact ⟨r1,r2⟩
 rcases hcase with ⟨h1,h2⟩ | ⟨hf,N,M,hle,hM,e1,e2⟩
 ·have p1:aggregate_Prefixes ⟨mkA V l,mkA W k⟩=some []:=by
   unfold aggregate_Prefixes
   rw [h1];rfl
  have p2:crawlwayref53_Prefixes (mkA V l) (mkA W k)=some []:=by
   unfold crawlwayref53_Prefixes
   rw [h2];rfl
  rw [p1,bindM_some,h2,bindM_some,h1,bindM_some,if_neg (by decide),p2,bindM_some,same11 _ (by simp),bindM_some,if_neg (by decide),if_pos (by decide),if_pos (show ((([]:List S_api_Prefix).length:Int)==0)=true from rfl)]
  exact alive_then53
 ·rw [e1,e2]
  obtain ⟨L,hc,hL,p1,p2⟩:=prefixes_code hf hM hle
  obtain ⟨r1,r2⟩:=rright hf hf (show N<2 ^ wd V by omega) hM
  have hr:(decide (V=V)&&!ltA V M V N)=true:=by
   unfold ltA
   rw [if_pos rfl,decide_eq_true rfl,decide_eq_false (by omega)];rfl
  rw [hr] at r1 r2
  have hlen:(toP V L).length=L.length:=by unfold toP;rw [List.length_map]
  have hne:L≠[]:=fun e=>by rw [e] at hc;cases hc
  have hpos:0<L.length:=List.length_pos_iff.2 hne
  have hloop:=walk_loop hf hM L (by omega) hc [] rfl (fun A' q e=>by simp at e)
  have hloop:crawlwaylaw53_AggregateRanges.l0 (adr V M) (toP V L) 0 (adr V N)=some (.nx ()):=hloop
  unfold rng at p1
  rw [p1,bindM_some,r2,bindM_some,r1,bindM_some,if_neg (by decide),p2,bindM_some,same11 _ (by omega),bindM_some,if_neg (by decide),if_neg (by decide),hloop,bindM_some]
  show (if decide (((toP V L).length:Int)>0)=true then _ else _)=_
  rw [decide_eq_true (by omega),if_pos rfl]
  exact alive_then53
end Go.Proofs.Ytahlbjmafceoeaa.Agg
