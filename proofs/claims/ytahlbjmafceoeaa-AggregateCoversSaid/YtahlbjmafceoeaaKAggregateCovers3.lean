/- Texts of this claim, those in one that belong together; printed by a program of this project. -/
import Derived.Test.YtahlbjmafceoeaaProg
import Derived.Test.YtahlbjmafceoeaaKAggregateCovers2
set_option linter.unusedVariables false
set_option linter.unusedSimpArgs false
namespace Go.Proofs.Ytahlbjmafceoeaa
open E Go.RowKit _root_.Go.Proofs.Try
def crawlwaylaw53_AggregateCovers.l0(x0:List S_api_Prefix)(x1:S_api_Addr)(i20:Bool)(i21:Int):Option (Bool) :=
 if (decide (i21<(x0.length:Int)))=true then (if i20=true then (crawlwaylaw53_AggregateCovers.l0 x0 x1 true (wr .i64 (i21+1))) else (if (0:Int)≤i21∧i21<(x0.length:Int) then crawlwayref11_Has (lget x0 i21) x1>>=fun t28=>crawlwaylaw53_AggregateCovers.l0 x0 x1 t28 (wr .i64 (i21+1)) else none)) else (some i20)
 partial_fixpoint
def crawlwaylaw53_AggregateCovers.l1(x1:S_api_Addr)(t4:List S_api_Prefix)(i30:Bool)(i31:Int):Option (Bool) :=
 if (decide (i31<(t4.length:Int)))=true then (if i30=true then (crawlwaylaw53_AggregateCovers.l1 x1 t4 true (wr .i64 (i31+1))) else (if (0:Int)≤i31∧i31<(t4.length:Int) then crawlwayref11_Has (lget t4 i31) x1>>=fun t40=>crawlwaylaw53_AggregateCovers.l1 x1 t4 t40 (wr .i64 (i31+1)) else none)) else (some i30)
 partial_fixpoint
def crawlwaylaw53_AggregateCovers.l2(x1:S_api_Addr)(t7:List S_aggregate_Range)(t10:List (Vector S_api_Addr 2))(i42:Bool)(i43:Int):Option (Ctl (Bool) (Bool)) :=
 if (decide (i43<(t7.length:Int)))=true then (if (0:Int)≤i43∧i43<(t7.length:Int) then if (0:Int)≤i43∧i43<(t10.length:Int) then if (!decide ((lget t7 i43).f_From=vget (lget t10 i43) 0))=true then (some (.ret false)) else (if (0:Int)≤i43∧i43<(t7.length:Int) then if (0:Int)≤i43∧i43<(t10.length:Int) then if (!decide ((lget t7 i43).f_To=vget (lget t10 i43) 1))=true then (some (.ret false)) else (if i42=true then (crawlwaylaw53_AggregateCovers.l2 x1 t7 t10 true (wr .i64 (i43+1))) else (crawlwayref10_Right x1>>=fun t67=>if t67=true then (if (0:Int)≤i43∧i43<(t7.length:Int) then if (x1.f_V==((lget t7 i43).f_From).f_V)=true then (if (0:Int)≤i43∧i43<(t7.length:Int) then crawlwayref10_Less x1 ((lget t7 i43).f_From)>>=fun t78=>if (!t78)=true then (if (0:Int)≤i43∧i43<(t7.length:Int) then crawlwayref10_Less ((lget t7 i43).f_To) x1>>=fun t85=>crawlwaylaw53_AggregateCovers.l2 x1 t7 t10 (!t85) (wr .i64 (i43+1)) else none) else (crawlwaylaw53_AggregateCovers.l2 x1 t7 t10 false (wr .i64 (i43+1))) else none) else (crawlwaylaw53_AggregateCovers.l2 x1 t7 t10 false (wr .i64 (i43+1))) else none) else (crawlwaylaw53_AggregateCovers.l2 x1 t7 t10 false (wr .i64 (i43+1))))) else none else none) else none else none) else (some (.nx i42))
 partial_fixpoint
def crawlwaylaw53_AggregateCovers(x0:List S_api_Prefix)(x1:S_api_Addr):Option (Bool) :=
 if (decide ((x0.length:Int)>20))=true then (crawlwaylaw53_alive>>=fun t3=>some t3) else (aggregate_Cover x0>>=fun t4=>aggregate_Ranges x0>>=fun t7=>crawlwayref53_Ranges x0>>=fun t10=>crawlwayref53_Cover x0>>=fun t13=>crawlwayref11_Same t4 t13>>=fun t16=>if (!t16)=true then (some false) else (if ((t7.length:Int) != (t10.length:Int))=true then (some false) else (crawlwaylaw53_AggregateCovers.l0 x0 x1 false 0>>=fun q19=>crawlwaylaw53_AggregateCovers.l1 x1 t4 false 0>>=fun q29=>crawlwaylaw53_AggregateCovers.l2 x1 t7 t10 false 0>>=fun q41=>match q41 with | .ret r'=>some r' | .nx sq41=>(if (q19==q29)=true then (if (q19==sq41)=true then (aggregate_Cover t4>>=fun t91=>crawlwayref11_Same t91 t4>>=fun t94=>if t94=true then (crawlwaylaw53_alive>>=fun t96=>some t96) else (some false)) else (some false)) else (some false)))))
set_option maxRecDepth 20000 in
set_option maxHeartbeats 3200000 in
theorem crawlwaylaw53_AggregateCovers_ok(x0:List S_api_Prefix)(p0_:Option Addr)(c0_:Nat)(x1:S_api_Addr)(r:Bool)(hF:crawlwaylaw53_AggregateCovers x0 x1=some r)(w:World)(hr0:Row c_api_Prefix w p0_ c0_ x0) :
    Calls Try.prog 4 #[.slice p0_ x0.length c0_,.agg (Cd.cs c_api_Addr x1).toArray] w (fun e w'=>e=.returned (.bool r)∧Below w.heap.size w w'):=by
 unfold crawlwaylaw53_AggregateCovers at hF
 refine ce (l:=[.slice p0_ x0.length c0_,.agg (Cd.cs c_api_Addr x1).toArray]) func4 rfl rfl ?_
 refine at_start ?_
 refine sr ?_
 refine at_box (cs:=Cd.cs c_api_Addr x1) rfl rfl rfl ?_
 intro b1
 refine aa (nt (qs (sr (am ?_))))
 refine aw (r_len_sl underlying27 rfl) ?_
 refine aw (r_igtr rfl rfl) ?_
 refine nwq [16,3,0] ?_
 obtain ⟨h2,hF⟩|⟨h2,hF⟩:=oi hF
 ·refine ct h2 ?_
  refine sr ?_
  obtain ⟨t3,ht3,hF⟩:=bM hF
  refine cB func13 rfl (fun w hw=>crawlwaylaw53_alive_ok  _ ht3 w) ?_
  refine aa (qn (dz (wq [4] ?_)))
  refine tn (rt ?_)
  have K:=os hF
  subst K
  exact r1 wb
 refine cf h2 ?_
 refine sns (am ?_)
 obtain ⟨t4,ht4,hF⟩:=bM hF
 refine at_callO (c:=c_api_Prefix) (e:=37) (ys:=t4) (V:=fun p cap=>.slice p t4.length cap) func18 rfl (by kernel_rfl) rfl rfl (fun w hw=>aggregate_Cover_ok _ _ _ _ ht4 w (hr0.below hw.below)) ?_
 intro p5 c6
 refine aa (ns (am ?_))
 obtain ⟨t7,ht7,hF⟩:=bM hF
 refine at_callO (c:=c_aggregate_Range) (e:=26) (ys:=t7) (V:=fun p cap=>.slice p t7.length cap) func19 rfl (by kernel_rfl) rfl rfl (fun w hw=>aggregate_Ranges_ok _ _ _ _ ht7 w (hr0.below hw.below)) ?_
 intro p8 c9
 refine aa (ns (am ?_))
 obtain ⟨t10,ht10,hF⟩:=bM hF
 refine at_callO (c:=(cVec c_api_Addr 2 (by decide))) (e:=48) (ys:=t10) (V:=fun p cap=>.slice p t10.length cap) func20 rfl (by kernel_rfl) rfl rfl (fun w hw=>crawlwayref53_Ranges_ok _ _ _ _ ht10 w (hr0.below hw.below)) ?_
 intro p11 c12
 refine aa (nwq [7,6,5,3,0] ?_)
 refine qs (sr (am (am ?_)))
 obtain ⟨t13,ht13,hF⟩:=bM hF
 refine at_callO (c:=c_api_Prefix) (e:=37) (ys:=t13) (V:=fun p cap=>.slice p t13.length cap) func21 rfl (by kernel_rfl) rfl rfl (fun w hw=>crawlwayref53_Cover_ok _ _ _ _ ht13 w (hr0.below hw.below)) ?_
 intro p14 c15
 obtain ⟨t16,ht16,hF⟩:=bM hF
 refine cB func11 rfl (fun w hw=>crawlwayref11_Same_ok _ _ _ _ _ _ _ ht16 w (hw.own (.s (.s (.s .z)))).row (hw.own .z).row) ?_
 refine aw (r_not rfl) ?_
 refine am ?_
 obtain ⟨h17,hF⟩|⟨h17,hF⟩:=oi hF
 ·refine fx 29 h17 ?_
  refine gn ?_
  refine gn ?_
  refine gn ?_
  refine gn ?_
  refine gn ?_
  refine aw xp (qn (dz (wq [35,7,6,5,3,0] ?_)))
  refine tn ?_
  refine ct rfl ?_
  refine sr (aa (qn (dz (dz (dz (dz (wq [4] ?_)))))))
  refine tn (rt ?_)
  have K:=os hF
  subst K
  exact r1 wb
 refine fx 29 h17 ?_
 refine gy ?_
 refine am ?_
 refine gy ?_
 refine aw (r_len_sl underlying43 rfl) ?_
 refine gy ?_
 refine am ?_
 refine gy ?_
 refine aw (r_len_sl underlying45 rfl) ?_
 refine gy ?_
 refine aw xn (aw xp (qn (dz (wq [35,7,6,5,3,0] ?_))))
 refine tn ?_
 obtain ⟨h18,hF⟩|⟨h18,hF⟩:=oi hF
 ·refine ct h18 ?_
  refine sr (aa (qn (dz (dz (dz (dz (wq [4] ?_)))))))
  refine tn (rt ?_)
  have K:=os hF
  subst K
  exact r1 wb
 refine cf h18 ?_
 refine sns (aa (nt (qs (sr (aa (nwq [9,8,7,6,5,3,0] ?_))))))
 refine qb ?_
 obtain ⟨q19,hq19,hF⟩:=bM hF
 refine wq [9,8,7,6,5,3,0] ?_
 refine at_loop_n (B:=0) (A:=fun Y=>At 149 [(3,.pointer (some ⟨b1,0,none⟩)),(5,.slice p5 t4.length c6),(6,.slice p8 t7.length c9),(7,.slice p11 t10.length c12),(8,.bool q19)] (Wd w [rowE (cVec c_api_Addr 2 (by decide)) 48 p11 c12 t10,rowE c_aggregate_Range 26 p8 c9 t7,rowE c_api_Prefix 37 p5 c6 t4,cellsE b1 (Cd.cs c_api_Addr x1) 24]) Y) ?_ ?_
 ·intro K
  refine crawlwaylaw53_AggregateCovers.l0.partial_correctness x0 x1 (motive:=fun i20 i21 x=>KN (fun Y=>At 149 [(3,.pointer (some ⟨b1,0,none⟩)),(5,.slice p5 t4.length c6),(6,.slice p8 t7.length c9),(7,.slice p11 t10.length c12),(8,.bool x)] (Wd w [rowE (cVec c_api_Addr 2 (by decide)) 48 p11 c12 t10,rowE c_aggregate_Range 26 p8 c9 t7,rowE c_api_Prefix 37 p5 c6 t4,cellsE b1 (Cd.cs c_api_Addr x1) 24]) Y) _ 0→Round (fun Y=>At 149 [(0,.slice p0_ x0.length c0_),(3,.pointer (some ⟨b1,0,none⟩)),(5,.slice p5 t4.length c6),(6,.slice p8 t7.length c9),(7,.slice p11 t10.length c12),(8,.bool i20),(9,.int .i64 i21)] (Wd w [rowE (cVec c_api_Addr 2 (by decide)) 48 p11 c12 t10,rowE c_aggregate_Range 26 p8 c9 t7,rowE c_api_Prefix 37 p5 c6 t4,cellsE b1 (Cd.cs c_api_Addr x1) 24]) Y) _ _ _) ?_ _ _ _ hq19 K
  ·clear K hF
   intro g ih i20 i21 x hF K
   refine at_round ?_
   refine qs (sr (am (am ?_)))
   refine aw (r_len_sl underlying27 rfl) ?_
   refine aw xl (nwq [39,9,8,7,6,5,3,0] ?_)
   obtain ⟨h22,hF⟩|⟨h22,hF⟩:=oi hF
   ·refine ct h22 ?_
    refine sn (qs ?_)
    refine qb ?_
    refine at_draw (by kernel_rfl) (by kernel_rfl) (fun _ h=>h.drew) ?_
    refine atq_val rfl rfl rfl (r_move rfl) ?_
    refine atq_val rfl rfl rfl (r_move rfl) ?_
    obtain ⟨h23,hF⟩|⟨h23,hF⟩:=oi hF
    ·refine atq_fix (g:=43) rfl h23 ?_
     refine atq_guard_no rfl rfl rfl rfl rfl ?_
     refine atq_guard_no rfl rfl rfl rfl rfl ?_
     refine atq_guard_no rfl rfl rfl rfl rfl ?_
     refine atq_guard_no rfl rfl rfl rfl rfl ?_
     refine atq_guard_no rfl rfl rfl rfl rfl ?_
     refine atq_guard_no rfl rfl rfl rfl rfl ?_
     refine atq_val rfl rfl rfl (r_pick rfl rfl rfl) ?_
     refine atq_val rfl rfl rfl (r_assign rfl) ?_
     refine atq_nil ?_
     refine wq [9,8,7,6,5,3,0] ?_
     refine bm ?_
     refine qr (am (aw xa (aa (nwq [9,8,7,6,5,3,0] ?_))))
     exact at_weak_k (ih _ _ _ hF K) ⟨rfl,rfl,rfl,rfl,rfl,rfl,rfl,trivial⟩
    refine atq_fix (g:=43) rfl h23 ?_
    refine atq_guard_yes rfl rfl rfl ?_
    refine atq_val rfl rfl rfl (r_move rfl) ?_
    refine atq_guard_yes rfl rfl rfl ?_
    refine atq_val rfl rfl rfl (r_move rfl) ?_
    refine atq_guard_yes rfl rfl rfl ?_
    obtain ⟨h24,hF⟩:=gd hF
    obtain ⟨b26,o27,hp25⟩:=row_ptr hr0 h24
    refine atq_val rfl rfl rfl (r_idx underlying27 sizeOf37 rfl rfl h24 hp25) ?_
    refine atq_guard_yes rfl rfl rfl ?_
    refine atq_val rfl rfl rfl (r_load_aggc (c:=c_api_Prefix) (z:=lget x0 i21) isAgg37 sizeOf37 rfl (row_cell (fun _ h=>h.below) hr0 h24 hp25)) ?_
    refine atq_guard_yes rfl rfl rfl ?_
    refine atq_val rfl rfl rfl (r_load_aggc (c:=c_api_Addr) (z:=x1) isAgg24 sizeOf24 rfl (lens_cell (.s (.s (.s .z))) lw)) ?_
    refine atq_guard_yes rfl rfl rfl ?_
    obtain ⟨t28,ht28,hF⟩:=bM hF
    refine atq_call func22 rfl (by kernel_rfl) rfl rfl (fun w hw=>(crawlwayref11_Has_ok _ _ _ ht28 w).mono fun _ _ h=>⟨h.1,hw.call h.2⟩) ?_
    refine atq_val rfl rfl rfl (r_pick rfl rfl rfl) ?_
    refine atq_val rfl rfl rfl (r_assign rfl) ?_
    refine atq_nil ?_
    refine wq [9,8,7,6,5,3,0] ?_
    refine bm ?_
    refine qr (am (aw xa (aa (nwq [9,8,7,6,5,3,0] ?_))))
    exact at_weak_k (ih _ _ _ hF K) ⟨rfl,rfl,rfl,rfl,rfl,rfl,rfl,trivial⟩
   refine cf h22 ?_
   refine at_exit ?_
   refine te (te ?_)
   obtain rfl:=os hF
   exact at_weak_k K ⟨rfl,rfl,rfl,rfl,rfl,trivial⟩
 skip
 skip
 refine at_blk_same ?_
 refine tn (sr (aa (nt (qs (sr (aa (nwq [11,10,8,7,6,5,3] ?_)))))))
 refine qb ?_
 obtain ⟨q29,hq29,hF⟩:=bM hF
 refine wq [11,10,8,7,6,5,3] ?_
 refine at_loop_n (B:=2) (A:=fun Y=>At 149 [(3,.pointer (some ⟨b1,0,none⟩)),(5,.slice p5 t4.length c6),(6,.slice p8 t7.length c9),(7,.slice p11 t10.length c12),(8,.bool q19),(10,.bool q29)] (Wd w [rowE (cVec c_api_Addr 2 (by decide)) 48 p11 c12 t10,rowE c_aggregate_Range 26 p8 c9 t7,rowE c_api_Prefix 37 p5 c6 t4,cellsE b1 (Cd.cs c_api_Addr x1) 24]) Y) ?_ ?_
 ·intro K
  refine crawlwaylaw53_AggregateCovers.l1.partial_correctness x1 t4 (motive:=fun i30 i31 x=>KN (fun Y=>At 149 [(3,.pointer (some ⟨b1,0,none⟩)),(5,.slice p5 t4.length c6),(6,.slice p8 t7.length c9),(7,.slice p11 t10.length c12),(8,.bool q19),(10,.bool x)] (Wd w [rowE (cVec c_api_Addr 2 (by decide)) 48 p11 c12 t10,rowE c_aggregate_Range 26 p8 c9 t7,rowE c_api_Prefix 37 p5 c6 t4,cellsE b1 (Cd.cs c_api_Addr x1) 24]) Y) _ 2→Round (fun Y=>At 149 [(3,.pointer (some ⟨b1,0,none⟩)),(5,.slice p5 t4.length c6),(6,.slice p8 t7.length c9),(7,.slice p11 t10.length c12),(8,.bool q19),(10,.bool i30),(11,.int .i64 i31)] (Wd w [rowE (cVec c_api_Addr 2 (by decide)) 48 p11 c12 t10,rowE c_aggregate_Range 26 p8 c9 t7,rowE c_api_Prefix 37 p5 c6 t4,cellsE b1 (Cd.cs c_api_Addr x1) 24]) Y) _ _ _) ?_ _ _ _ hq29 K
  ·clear K hF
   intro g ih i30 i31 x hF K
   refine at_round ?_
   refine qs (sr (am (am ?_)))
   refine aw (r_len_sl underlying27 rfl) ?_
   refine aw xl (nwq [54,11,10,8,7,6,5,3] ?_)
   obtain ⟨h32,hF⟩|⟨h32,hF⟩:=oi hF
   ·refine ct h32 ?_
    refine sn (qs ?_)
    refine qb ?_
    refine wq [11,10,8,7,6,5,3] ?_
    obtain ⟨h33,hF⟩|⟨h33,hF⟩:=oi hF
    ·skip
     refine at_invT [.q 57 (fun g34=>.bool i30) [] 0 0,.q 58 (fun g34=>.bool true) [0] 0 0,.q 59 (fun g34=>undef) [1] 0 0,.q 60 (fun g34=>undef) [1] 0 0,.q 61 (fun g34=>undef) [1,2,3] 0 0,.q 62 (fun g34=>undef) [1,4] 0 0,.q 63 (fun g34=>undef) [1] 0 0] (fun g34 s=>match s with | _=>(Wd w [rowE (cVec c_api_Addr 2 (by decide)) 48 p11 c12 t10,rowE c_aggregate_Range 26 p8 c9 t7,rowE c_api_Prefix 37 p5 c6 t4,cellsE b1 (Cd.cs c_api_Addr x1) 24])) 0 7 (by kernel_rfl) (by kernel_rfl) (by kernel_rfl) (by kernel_rfl) (by kernel_rfl) (by kernel_rfl) ⟨fun _ _ _=>rfl,fun _ _ _=>rfl,fun _ _ _=>rfl,fun _ _ _=>rfl,fun _ _ _=>rfl,fun _ _ _=>rfl,fun _ _ _=>rfl,trivial⟩ (by kernel_rfl) (fun w_ h=>⟨fun _=>g3 0 none 0 none w_,h.drew⟩) ⟨?_,?_,?_,?_,?_,?_,?_,trivial⟩ ?_
     ·intro Lx g34 s K hl hh k
      show At 149 ((3,_)::(5,_)::(6,_)::(7,_)::(8,_)::(10,_)::(11,_)::Lx) _ _
      refine am ?_
      exact at_nil k
     ·intro Lx g34 s K hl hh k
      show At 149 ((57,_)::(3,_)::(5,_)::(6,_)::(7,_)::(8,_)::(10,_)::(11,_)::Lx) _ _
      refine am ?_
      exact at_nil (at_cast h33 k)
     ·intro Lx g34 s K hl hh k
      show At 149 ((58,_)::(3,_)::(5,_)::(6,_)::(7,_)::(8,_)::(10,_)::(11,_)::Lx) _ _
      refine gn ?_
      exact at_nil k
     ·intro Lx g34 s K hl hh k
      show At 149 ((58,_)::(3,_)::(5,_)::(6,_)::(7,_)::(8,_)::(10,_)::(11,_)::Lx) _ _
      refine gn ?_
      exact at_nil k
     ·intro Lx g34 s K hl hh k
      show At 149 ((58,_)::(59,_)::(60,_)::(3,_)::(5,_)::(6,_)::(7,_)::(8,_)::(10,_)::(11,_)::Lx) _ _
      refine gn ?_
      exact at_nil k
     ·intro Lx g34 s K hl hh k
      show At 149 ((58,_)::(61,_)::(3,_)::(5,_)::(6,_)::(7,_)::(8,_)::(10,_)::(11,_)::Lx) _ _
      obtain rfl:s=0:=by omega
      refine gn ?_
      exact at_nil k
     ·intro Lx g34 s K hl hh k
      show At 149 ((58,_)::(3,_)::(5,_)::(6,_)::(7,_)::(8,_)::(10,_)::(11,_)::Lx) _ _
      obtain rfl:s=0:=by omega
      refine gn ?_
      exact at_nil k
     intro g34
     show At 149 [(57,_),(58,_),(59,_),(60,_),(61,_),(62,_),(63,_),(3,_),(5,_),(6,_),(7,_),(8,_),(10,_),(11,_)] _ _
     refine gn ?_
     refine aw xp (aa (qn (wq [11,10,8,7,6,5,3] ?_)))
     refine bm ?_
     refine qr (am (aw xa (aa (nwq [11,10,8,7,6,5,3] ?_))))
     exact at_weak_k (ih _ _ _ hF K) ⟨rfl,rfl,rfl,rfl,rfl,rfl,rfl,trivial⟩
    skip
    obtain ⟨h35,hF⟩:=gd hF
    refine at_pure (φ:=∃ b o,p5=some ⟨b,o,none⟩) (fun _ hw=>row_ptr (hw.own (.s (.s .z))).row h35) ?_
    rintro ⟨b37,o38,hp36⟩
    refine at_invT [.q 57 (fun g39=>.bool i30) [] 0 0,.q 58 (fun g39=>.bool false) [0] 0 0,.q 59 (fun g39=>.slice p5 t4.length c6) [1] 0 0,.q 60 (fun g39=>.int .i64 i31) [1] 0 0,.q 61 (fun g39=>.pointer (some ⟨b37,o38+Int.toNat i31*18,none⟩)) [1,2,3] 0 0,.q 62 (fun g39=>.agg (Cd.cs c_api_Prefix (lget t4 i31)).toArray) [1,4] 0 0,.q 63 (fun g39=>.agg (Cd.cs c_api_Addr x1).toArray) [1] 0 0] (fun g39 s=>match s with | _=>(Wd w [rowE (cVec c_api_Addr 2 (by decide)) 48 p11 c12 t10,rowE c_aggregate_Range 26 p8 c9 t7,rowE c_api_Prefix 37 p5 c6 t4,cellsE b1 (Cd.cs c_api_Addr x1) 24])) 0 7 (by kernel_rfl) (by kernel_rfl) (by kernel_rfl) (by kernel_rfl) (by kernel_rfl) (by kernel_rfl) ⟨fun _ _ _=>rfl,fun _ _ _=>rfl,fun _ _ _=>rfl,fun _ _ _=>rfl,fun _ _ _=>rfl,fun _ _ _=>rfl,fun _ _ _=>rfl,trivial⟩ (by kernel_rfl) (fun w_ h=>⟨fun _=>g3 0 none 0 none w_,h.drew⟩) ⟨?_,?_,?_,?_,?_,?_,?_,trivial⟩ ?_
    ·intro Lx g39 s K hl hh k
     show At 149 ((3,_)::(5,_)::(6,_)::(7,_)::(8,_)::(10,_)::(11,_)::Lx) _ _
     refine am ?_
     exact at_nil k
    ·intro Lx g39 s K hl hh k
     show At 149 ((57,_)::(3,_)::(5,_)::(6,_)::(7,_)::(8,_)::(10,_)::(11,_)::Lx) _ _
     refine am ?_
     exact at_nil (at_cast h33 k)
    ·intro Lx g39 s K hl hh k
     show At 149 ((58,_)::(3,_)::(5,_)::(6,_)::(7,_)::(8,_)::(10,_)::(11,_)::Lx) _ _
     refine gy ?_
     refine am ?_
     exact at_nil k
    ·intro Lx g39 s K hl hh k
     show At 149 ((58,_)::(3,_)::(5,_)::(6,_)::(7,_)::(8,_)::(10,_)::(11,_)::Lx) _ _
     refine gy ?_
     refine am ?_
     exact at_nil k
    ·intro Lx g39 s K hl hh k
     show At 149 ((58,_)::(59,_)::(60,_)::(3,_)::(5,_)::(6,_)::(7,_)::(8,_)::(10,_)::(11,_)::Lx) _ _
     refine gy ?_
     refine aw (r_idx underlying27 sizeOf37 rfl rfl h35 hp36) ?_
     exact at_nil k
    ·intro Lx g39 s K hl hh k
     show At 149 ((58,_)::(61,_)::(3,_)::(5,_)::(6,_)::(7,_)::(8,_)::(10,_)::(11,_)::Lx) _ _
     refine gy ?_
     obtain rfl:s=0:=by omega
     refine aw (r_load_aggc (c:=c_api_Prefix) (z:=lget t4 i31) isAgg37 sizeOf37 rfl (fun w1 hw=>row_cell (W:=fun w1=>w1=_) (fun w1 h=>by subst h;exact Below.refl _ _) (hw.own (.s (.s .z))).row h35 hp36 _ rfl)) ?_
     exact at_nil k
    ·intro Lx g39 s K hl hh k
     show At 149 ((58,_)::(3,_)::(5,_)::(6,_)::(7,_)::(8,_)::(10,_)::(11,_)::Lx) _ _
     refine gy ?_
     obtain rfl:s=0:=by omega
     refine aw (r_load_aggc (c:=c_api_Addr) (z:=x1) isAgg24 sizeOf24 rfl (lens_cell (.s (.s (.s .z))) lw)) ?_
     exact at_nil k
    intro g39
    show At 149 [(57,_),(58,_),(59,_),(60,_),(61,_),(62,_),(63,_),(3,_),(5,_),(6,_),(7,_),(8,_),(10,_),(11,_)] _ _
    refine gy ?_
    obtain ⟨t40,ht40,hF⟩:=bM hF
    refine cB func22 rfl (fun w hw=>crawlwayref11_Has_ok _ _ _ ht40 w) ?_
    refine aw xp (aa (qn (wq [11,10,8,7,6,5,3] ?_)))
    refine bm ?_
    refine qr (am (aw xa (aa (nwq [11,10,8,7,6,5,3] ?_))))
    exact at_weak_k (ih _ _ _ hF K) ⟨rfl,rfl,rfl,rfl,rfl,rfl,rfl,trivial⟩
   refine cf h32 ?_
   refine at_exit ?_
   refine te (te ?_)
   obtain rfl:=os hF
   exact at_weak_k K ⟨rfl,rfl,rfl,rfl,rfl,rfl,trivial⟩
 skip
 skip
 refine at_blk_same ?_
 refine tn (sr (aa (nt (qs (sr (aa (nwq [13,12,10,8,7,6,5,3] ?_)))))))
 refine qb ?_
 obtain ⟨q41,hq41,hF⟩:=bM hF
 refine wq [13,12,10,8,7,6,5,3] ?_
 refine at_loop_r (B:=4) (r:=r) (q:=q41) (A:=fun sq41 Y=>At 149 [(5,.slice p5 t4.length c6),(8,.bool q19),(10,.bool q29),(12,.bool sq41)] (Wd w [rowE c_api_Prefix 37 p5 c6 t4]) Y) ?_ ?_
 ·intro K
  refine crawlwaylaw53_AggregateCovers.l2.partial_correctness x1 t7 t10 (motive:=fun i42 i43 x=>KR (fun sq41 Y=>At 149 [(5,.slice p5 t4.length c6),(8,.bool q19),(10,.bool q29),(12,.bool sq41)] (Wd w [rowE c_api_Prefix 37 p5 c6 t4]) Y) _ 4 r x→Round (fun Y=>At 149 [(3,.pointer (some ⟨b1,0,none⟩)),(5,.slice p5 t4.length c6),(6,.slice p8 t7.length c9),(7,.slice p11 t10.length c12),(8,.bool q19),(10,.bool q29),(12,.bool i42),(13,.int .i64 i43)] (Wd w [rowE (cVec c_api_Addr 2 (by decide)) 48 p11 c12 t10,rowE c_aggregate_Range 26 p8 c9 t7,rowE c_api_Prefix 37 p5 c6 t4,cellsE b1 (Cd.cs c_api_Addr x1) 24]) Y) _ _ _) ?_ _ _ _ hq41 K
  ·clear K hF
   intro g ih i42 i43 x hF K
   refine at_round ?_
   refine qs (sr (am (am ?_)))
   refine aw (r_len_sl underlying43 rfl) ?_
   refine aw xl (nwq [69,13,12,10,8,7,6,5,3] ?_)
   obtain ⟨h44,hF⟩|⟨h44,hF⟩:=oi hF
   ·refine ct h44 ?_
    refine sn (qs ?_)
    refine qb ?_
    refine qs (qs (wq [13,12,10,8,7,6,5,3] ?_))
    obtain ⟨h45,hF⟩:=gd hF
    refine at_pure (φ:=∃ b o,p8=some ⟨b,o,none⟩) (fun _ hw=>row_ptr (hw.own (.s .z)).row h45) ?_
    rintro ⟨b47,o48,hp46⟩
    obtain ⟨h49,hF⟩:=gd hF
    refine at_pure (φ:=∃ b o,p11=some ⟨b,o,none⟩) (fun _ hw=>row_ptr (hw.own .z).row h49) ?_
    rintro ⟨b51,o52,hp50⟩
    obtain ⟨h53,hF⟩|⟨h53,hF⟩:=oi hF
    ·skip
     refine at_inv [.q 72 (fun g54=>.slice p8 t7.length c9) [] 0 0,.q 73 (fun g54=>.int .i64 i43) [] 0 0,.q 74 (fun g54=>.pointer (some ⟨b47,o48+Int.toNat i43*34,none⟩)) [0,1] 0 0,.q 75 (fun g54=>.pointer (some ⟨b47,o48+Int.toNat i43*34+0,none⟩)) [2] 0 0,.q 76 (fun g54=>.agg (Cd.cs c_api_Addr ((lget t7 i43).f_From)).toArray) [3] 0 0,.q 77 (fun g54=>.slice p11 t10.length c12) [] 0 0,.q 78 (fun g54=>.int .i64 i43) [] 0 0,.q 79 (fun g54=>.pointer (some ⟨b51,o52+Int.toNat i43*34,none⟩)) [5,6] 0 0,.q 80 (fun g54=>.pointer (some ⟨b51,o52+Int.toNat i43*34+Int.toNat 0*17,none⟩)) [7] 0 0,.q 81 (fun g54=>.agg (Cd.cs c_api_Addr (vget (lget t10 i43) 0)).toArray) [8] 0 0,.q 82 (fun g54=>.bool (!decide ((lget t7 i43).f_From=vget (lget t10 i43) 0))) [4,9] 0 0,.q 83 (fun g54=>.bool true) [10] 0 0,.q 84 (fun g54=>undef) [11] 0 0,.q 85 (fun g54=>undef) [11] 0 0,.q 86 (fun g54=>undef) [11,12,13] 0 0,.q 87 (fun g54=>undef) [11,14] 0 0,.q 88 (fun g54=>undef) [11,15] 0 0,.q 89 (fun g54=>undef) [11] 0 0,.q 90 (fun g54=>undef) [11] 0 0,.q 91 (fun g54=>undef) [11,17,18] 0 0,.q 92 (fun g54=>undef) [11,19] 0 0,.q 93 (fun g54=>undef) [11,20] 0 0,.q 94 (fun g54=>undef) [11,16,21] 0 0,.q 95 (fun g54=>.bool true) [11,22] 0 0] (fun g54 s=>match s with | _=>(Wd w [rowE (cVec c_api_Addr 2 (by decide)) 48 p11 c12 t10,rowE c_aggregate_Range 26 p8 c9 t7,rowE c_api_Prefix 37 p5 c6 t4,cellsE b1 (Cd.cs c_api_Addr x1) 24])) 0 (by kernel_rfl) (by kernel_rfl) (by kernel_rfl) (by kernel_rfl) (by kernel_rfl) ⟨fun _ _ _=>rfl,fun _ _ _=>rfl,fun _ _ _=>rfl,fun _ _ _=>rfl,fun _ _ _=>rfl,fun _ _ _=>rfl,fun _ _ _=>rfl,fun _ _ _=>rfl,fun _ _ _=>rfl,fun _ _ _=>rfl,fun _ _ _=>rfl,fun _ _ _=>rfl,fun _ _ _=>rfl,fun _ _ _=>rfl,fun _ _ _=>rfl,fun _ _ _=>rfl,fun _ _ _=>rfl,fun _ _ _=>rfl,fun _ _ _=>rfl,fun _ _ _=>rfl,fun _ _ _=>rfl,fun _ _ _=>rfl,fun _ _ _=>rfl,fun _ _ _=>rfl,trivial⟩ (by kernel_rfl) (fun w_ h=>⟨fun _=>g3 0 none 0 none w_,h.drew⟩) ⟨?_,?_,?_,?_,?_,?_,?_,?_,?_,?_,?_,?_,?_,?_,?_,?_,?_,?_,?_,?_,?_,?_,?_,?_,trivial⟩ ?_
     ·intro Lx g54 s K hl hh k
      show At 149 ((3,_)::(5,_)::(6,_)::(7,_)::(8,_)::(10,_)::(12,_)::(13,_)::Lx) _ _
      refine am ?_
      exact at_nil k
     ·intro Lx g54 s K hl hh k
      show At 149 ((3,_)::(5,_)::(6,_)::(7,_)::(8,_)::(10,_)::(12,_)::(13,_)::Lx) _ _
      refine am ?_
      exact at_nil k
     ·intro Lx g54 s K hl hh k
      show At 149 ((72,_)::(73,_)::(3,_)::(5,_)::(6,_)::(7,_)::(8,_)::(10,_)::(12,_)::(13,_)::Lx) _ _
      refine aw (r_idx underlying43 sizeOf26 rfl rfl h45 hp46) ?_
      exact at_nil k
     ·intro Lx g54 s K hl hh k
      show At 149 ((74,_)::(3,_)::(5,_)::(6,_)::(7,_)::(8,_)::(10,_)::(12,_)::(13,_)::Lx) _ _
      refine fa 0 underlying26 rfl sizeOf24 ?_
      exact at_nil k
     ·intro Lx g54 s K hl hh k
      show At 149 ((75,_)::(3,_)::(5,_)::(6,_)::(7,_)::(8,_)::(10,_)::(12,_)::(13,_)::Lx) _ _
      obtain rfl:s=0:=by omega
      refine aw (r_load_aggc (c:=c_api_Addr) (z:=(lget t7 i43).f_From) isAgg24 sizeOf24 rfl (fun w1 hw=>row_lens (y:=(lget t7 i43).f_From) (W:=fun w1=>w1=_) (fun w1 h=>by subst h;exact Below.refl _ _) (hw.own (.s .z)).row h45 hp46 (Lens.comp lw (fun z=>{ (lget t7 i43) with f_From:=z }) (c_aggregate_Range_f_From (lget t7 i43))) _ rfl)) ?_
      exact at_nil k
     ·intro Lx g54 s K hl hh k
      show At 149 ((3,_)::(5,_)::(6,_)::(7,_)::(8,_)::(10,_)::(12,_)::(13,_)::Lx) _ _
      refine am ?_
      exact at_nil k
     ·intro Lx g54 s K hl hh k
      show At 149 ((3,_)::(5,_)::(6,_)::(7,_)::(8,_)::(10,_)::(12,_)::(13,_)::Lx) _ _
      refine am ?_
      exact at_nil k
     ·intro Lx g54 s K hl hh k
      show At 149 ((77,_)::(78,_)::(3,_)::(5,_)::(6,_)::(7,_)::(8,_)::(10,_)::(12,_)::(13,_)::Lx) _ _
      refine aw (r_idx underlying45 sizeOf48 rfl rfl h49 hp50) ?_
      exact at_nil k
     ·intro Lx g54 s K hl hh k
      show At 149 ((79,_)::(3,_)::(5,_)::(6,_)::(7,_)::(8,_)::(10,_)::(12,_)::(13,_)::Lx) _ _
      refine aw (r_idxArr underlying48 sizeOf24 rfl rfl (by decide)) ?_
      exact at_nil k
     ·intro Lx g54 s K hl hh k
      show At 149 ((80,_)::(3,_)::(5,_)::(6,_)::(7,_)::(8,_)::(10,_)::(12,_)::(13,_)::Lx) _ _
      obtain rfl:s=0:=by omega
      refine aw (r_load_aggc (c:=c_api_Addr) (z:=vget (lget t10 i43) 0) isAgg24 sizeOf24 rfl (fun w1 hw=>row_lens (y:=vget (lget t10 i43) 0) (W:=fun w1=>w1=_) (fun w1 h=>by subst h;exact Below.refl _ _) (hw.own .z).row h49 hp50 (Lens.comp lw (fun z=>vset (lget t10 i43) 0 z) (Lens.vec c_api_Addr (by decide) (lget t10 i43) 0 (by decide))) _ rfl)) ?_
      exact at_nil k
     ·intro Lx g54 s K hl hh k
      show At 149 ((76,_)::(81,_)::(3,_)::(5,_)::(6,_)::(7,_)::(8,_)::(10,_)::(12,_)::(13,_)::Lx) _ _
      refine aw (r_eqagg (c:=c_api_Addr) (a:=(lget t7 i43).f_From) (b:=vget (lget t10 i43) 0) (eq_api_Addr_24) rfl Try.eqGuardType24 rfl rfl (.inr rfl) rfl) ?_
      exact at_nil k
     ·intro Lx g54 s K hl hh k
      show At 149 ((82,_)::(3,_)::(5,_)::(6,_)::(7,_)::(8,_)::(10,_)::(12,_)::(13,_)::Lx) _ _
      refine am ?_
      exact at_nil (at_cast h53 k)
     ·intro Lx g54 s K hl hh k
      show At 149 ((83,_)::(3,_)::(5,_)::(6,_)::(7,_)::(8,_)::(10,_)::(12,_)::(13,_)::Lx) _ _
      refine gn ?_
      exact at_nil k
     ·intro Lx g54 s K hl hh k
      show At 149 ((83,_)::(3,_)::(5,_)::(6,_)::(7,_)::(8,_)::(10,_)::(12,_)::(13,_)::Lx) _ _
      refine gn ?_
      exact at_nil k
     ·intro Lx g54 s K hl hh k
      show At 149 ((83,_)::(84,_)::(85,_)::(3,_)::(5,_)::(6,_)::(7,_)::(8,_)::(10,_)::(12,_)::(13,_)::Lx) _ _
      refine gn ?_
      exact at_nil k
     ·intro Lx g54 s K hl hh k
      show At 149 ((83,_)::(86,_)::(3,_)::(5,_)::(6,_)::(7,_)::(8,_)::(10,_)::(12,_)::(13,_)::Lx) _ _
      refine gn ?_
      exact at_nil k
     ·intro Lx g54 s K hl hh k
      show At 149 ((83,_)::(87,_)::(3,_)::(5,_)::(6,_)::(7,_)::(8,_)::(10,_)::(12,_)::(13,_)::Lx) _ _
      obtain rfl:s=0:=by omega
      refine gn ?_
      exact at_nil k
     ·intro Lx g54 s K hl hh k
      show At 149 ((83,_)::(3,_)::(5,_)::(6,_)::(7,_)::(8,_)::(10,_)::(12,_)::(13,_)::Lx) _ _
      refine gn ?_
      exact at_nil k
     ·intro Lx g54 s K hl hh k
      show At 149 ((83,_)::(3,_)::(5,_)::(6,_)::(7,_)::(8,_)::(10,_)::(12,_)::(13,_)::Lx) _ _
      refine gn ?_
      exact at_nil k
     ·intro Lx g54 s K hl hh k
      show At 149 ((83,_)::(89,_)::(90,_)::(3,_)::(5,_)::(6,_)::(7,_)::(8,_)::(10,_)::(12,_)::(13,_)::Lx) _ _
      refine gn ?_
      exact at_nil k
     ·intro Lx g54 s K hl hh k
      show At 149 ((83,_)::(91,_)::(3,_)::(5,_)::(6,_)::(7,_)::(8,_)::(10,_)::(12,_)::(13,_)::Lx) _ _
      refine gn ?_
      exact at_nil k
     ·intro Lx g54 s K hl hh k
      show At 149 ((83,_)::(92,_)::(3,_)::(5,_)::(6,_)::(7,_)::(8,_)::(10,_)::(12,_)::(13,_)::Lx) _ _
      obtain rfl:s=0:=by omega
      refine gn ?_
      exact at_nil k
     ·intro Lx g54 s K hl hh k
      show At 149 ((83,_)::(88,_)::(93,_)::(3,_)::(5,_)::(6,_)::(7,_)::(8,_)::(10,_)::(12,_)::(13,_)::Lx) _ _
      refine gn ?_
      exact at_nil k
     ·intro Lx g54 s K hl hh k
      show At 149 ((83,_)::(94,_)::(3,_)::(5,_)::(6,_)::(7,_)::(8,_)::(10,_)::(12,_)::(13,_)::Lx) _ _
      refine aw xp ?_
      exact at_nil k
     intro g54
     show At 149 [(72,_),(73,_),(74,_),(75,_),(76,_),(77,_),(78,_),(79,_),(80,_),(81,_),(82,_),(83,_),(84,_),(85,_),(86,_),(87,_),(88,_),(89,_),(90,_),(91,_),(92,_),(93,_),(94,_),(95,_),(3,_),(5,_),(6,_),(7,_),(8,_),(10,_),(12,_),(13,_)] _ _
     refine wq [95,13,12,10,8,7,6,5,3] ?_
     refine tn ?_
     refine ct rfl ?_
     refine sr (aa (qn (dz (dz (dz (dz (wq [4] ?_)))))))
     refine tn (qt ?_)
     refine tr (br (tr (tr (br (tr ?_)))))
     obtain rfl:=os hF
     subst K
     exact r1 wb
    skip
    obtain ⟨h55,hF⟩:=gd hF
    refine at_pure (φ:=∃ b o,p8=some ⟨b,o,none⟩) (fun _ hw=>row_ptr (hw.own (.s .z)).row h55) ?_
    rintro ⟨b57,o58,hp56⟩
    obtain ⟨h59,hF⟩:=gd hF
    refine at_pure (φ:=∃ b o,p11=some ⟨b,o,none⟩) (fun _ hw=>row_ptr (hw.own .z).row h59) ?_
    rintro ⟨b61,o62,hp60⟩
    refine at_inv [.q 72 (fun g63=>.slice p8 t7.length c9) [] 0 0,.q 73 (fun g63=>.int .i64 i43) [] 0 0,.q 74 (fun g63=>.pointer (some ⟨b47,o48+Int.toNat i43*34,none⟩)) [0,1] 0 0,.q 75 (fun g63=>.pointer (some ⟨b47,o48+Int.toNat i43*34+0,none⟩)) [2] 0 0,.q 76 (fun g63=>.agg (Cd.cs c_api_Addr ((lget t7 i43).f_From)).toArray) [3] 0 0,.q 77 (fun g63=>.slice p11 t10.length c12) [] 0 0,.q 78 (fun g63=>.int .i64 i43) [] 0 0,.q 79 (fun g63=>.pointer (some ⟨b51,o52+Int.toNat i43*34,none⟩)) [5,6] 0 0,.q 80 (fun g63=>.pointer (some ⟨b51,o52+Int.toNat i43*34+Int.toNat 0*17,none⟩)) [7] 0 0,.q 81 (fun g63=>.agg (Cd.cs c_api_Addr (vget (lget t10 i43) 0)).toArray) [8] 0 0,.q 82 (fun g63=>.bool (!decide ((lget t7 i43).f_From=vget (lget t10 i43) 0))) [4,9] 0 0,.q 83 (fun g63=>.bool false) [10] 0 0,.q 84 (fun g63=>.slice p8 t7.length c9) [11] 0 0,.q 85 (fun g63=>.int .i64 i43) [11] 0 0,.q 86 (fun g63=>.pointer (some ⟨b57,o58+Int.toNat i43*34,none⟩)) [11,12,13] 0 0,.q 87 (fun g63=>.pointer (some ⟨b57,o58+Int.toNat i43*34+17,none⟩)) [11,14] 0 0,.q 88 (fun g63=>.agg (Cd.cs c_api_Addr ((lget t7 i43).f_To)).toArray) [11,15] 0 0,.q 89 (fun g63=>.slice p11 t10.length c12) [11] 0 0,.q 90 (fun g63=>.int .i64 i43) [11] 0 0,.q 91 (fun g63=>.pointer (some ⟨b61,o62+Int.toNat i43*34,none⟩)) [11,17,18] 0 0,.q 92 (fun g63=>.pointer (some ⟨b61,o62+Int.toNat i43*34+Int.toNat 1*17,none⟩)) [11,19] 0 0,.q 93 (fun g63=>.agg (Cd.cs c_api_Addr (vget (lget t10 i43) 1)).toArray) [11,20] 0 0,.q 94 (fun g63=>.bool (!decide ((lget t7 i43).f_To=vget (lget t10 i43) 1))) [11,16,21] 0 0,.q 95 (fun g63=>.bool (!decide ((lget t7 i43).f_To=vget (lget t10 i43) 1))) [11,22] 0 0] (fun g63 s=>match s with | _=>(Wd w [rowE (cVec c_api_Addr 2 (by decide)) 48 p11 c12 t10,rowE c_aggregate_Range 26 p8 c9 t7,rowE c_api_Prefix 37 p5 c6 t4,cellsE b1 (Cd.cs c_api_Addr x1) 24])) 0 (by kernel_rfl) (by kernel_rfl) (by kernel_rfl) (by kernel_rfl) (by kernel_rfl) ⟨fun _ _ _=>rfl,fun _ _ _=>rfl,fun _ _ _=>rfl,fun _ _ _=>rfl,fun _ _ _=>rfl,fun _ _ _=>rfl,fun _ _ _=>rfl,fun _ _ _=>rfl,fun _ _ _=>rfl,fun _ _ _=>rfl,fun _ _ _=>rfl,fun _ _ _=>rfl,fun _ _ _=>rfl,fun _ _ _=>rfl,fun _ _ _=>rfl,fun _ _ _=>rfl,fun _ _ _=>rfl,fun _ _ _=>rfl,fun _ _ _=>rfl,fun _ _ _=>rfl,fun _ _ _=>rfl,fun _ _ _=>rfl,fun _ _ _=>rfl,fun _ _ _=>rfl,trivial⟩ (by kernel_rfl) (fun w_ h=>⟨fun _=>g3 0 none 0 none w_,h.drew⟩) ⟨?_,?_,?_,?_,?_,?_,?_,?_,?_,?_,?_,?_,?_,?_,?_,?_,?_,?_,?_,?_,?_,?_,?_,?_,trivial⟩ ?_
    ·intro Lx g63 s K hl hh k
     show At 149 ((3,_)::(5,_)::(6,_)::(7,_)::(8,_)::(10,_)::(12,_)::(13,_)::Lx) _ _
     refine am ?_
     exact at_nil k
    ·intro Lx g63 s K hl hh k
     show At 149 ((3,_)::(5,_)::(6,_)::(7,_)::(8,_)::(10,_)::(12,_)::(13,_)::Lx) _ _
     refine am ?_
     exact at_nil k
    ·intro Lx g63 s K hl hh k
     show At 149 ((72,_)::(73,_)::(3,_)::(5,_)::(6,_)::(7,_)::(8,_)::(10,_)::(12,_)::(13,_)::Lx) _ _
     refine aw (r_idx underlying43 sizeOf26 rfl rfl h45 hp46) ?_
     exact at_nil k
    ·intro Lx g63 s K hl hh k
     show At 149 ((74,_)::(3,_)::(5,_)::(6,_)::(7,_)::(8,_)::(10,_)::(12,_)::(13,_)::Lx) _ _
     refine fa 0 underlying26 rfl sizeOf24 ?_
     exact at_nil k
    ·intro Lx g63 s K hl hh k
     show At 149 ((75,_)::(3,_)::(5,_)::(6,_)::(7,_)::(8,_)::(10,_)::(12,_)::(13,_)::Lx) _ _
     obtain rfl:s=0:=by omega
     refine aw (r_load_aggc (c:=c_api_Addr) (z:=(lget t7 i43).f_From) isAgg24 sizeOf24 rfl (fun w1 hw=>row_lens (y:=(lget t7 i43).f_From) (W:=fun w1=>w1=_) (fun w1 h=>by subst h;exact Below.refl _ _) (hw.own (.s .z)).row h45 hp46 (Lens.comp lw (fun z=>{ (lget t7 i43) with f_From:=z }) (c_aggregate_Range_f_From (lget t7 i43))) _ rfl)) ?_
     exact at_nil k
    ·intro Lx g63 s K hl hh k
     show At 149 ((3,_)::(5,_)::(6,_)::(7,_)::(8,_)::(10,_)::(12,_)::(13,_)::Lx) _ _
     refine am ?_
     exact at_nil k
    ·intro Lx g63 s K hl hh k
     show At 149 ((3,_)::(5,_)::(6,_)::(7,_)::(8,_)::(10,_)::(12,_)::(13,_)::Lx) _ _
     refine am ?_
     exact at_nil k
    ·intro Lx g63 s K hl hh k
     show At 149 ((77,_)::(78,_)::(3,_)::(5,_)::(6,_)::(7,_)::(8,_)::(10,_)::(12,_)::(13,_)::Lx) _ _
     refine aw (r_idx underlying45 sizeOf48 rfl rfl h49 hp50) ?_
     exact at_nil k
    ·intro Lx g63 s K hl hh k
     show At 149 ((79,_)::(3,_)::(5,_)::(6,_)::(7,_)::(8,_)::(10,_)::(12,_)::(13,_)::Lx) _ _
     refine aw (r_idxArr underlying48 sizeOf24 rfl rfl (by decide)) ?_
     exact at_nil k
    ·intro Lx g63 s K hl hh k
     show At 149 ((80,_)::(3,_)::(5,_)::(6,_)::(7,_)::(8,_)::(10,_)::(12,_)::(13,_)::Lx) _ _
     obtain rfl:s=0:=by omega
     refine aw (r_load_aggc (c:=c_api_Addr) (z:=vget (lget t10 i43) 0) isAgg24 sizeOf24 rfl (fun w1 hw=>row_lens (y:=vget (lget t10 i43) 0) (W:=fun w1=>w1=_) (fun w1 h=>by subst h;exact Below.refl _ _) (hw.own .z).row h49 hp50 (Lens.comp lw (fun z=>vset (lget t10 i43) 0 z) (Lens.vec c_api_Addr (by decide) (lget t10 i43) 0 (by decide))) _ rfl)) ?_
     exact at_nil k
    ·intro Lx g63 s K hl hh k
     show At 149 ((76,_)::(81,_)::(3,_)::(5,_)::(6,_)::(7,_)::(8,_)::(10,_)::(12,_)::(13,_)::Lx) _ _
     refine aw (r_eqagg (c:=c_api_Addr) (a:=(lget t7 i43).f_From) (b:=vget (lget t10 i43) 0) (eq_api_Addr_24) rfl Try.eqGuardType24 rfl rfl (.inr rfl) rfl) ?_
     exact at_nil k
    ·intro Lx g63 s K hl hh k
     show At 149 ((82,_)::(3,_)::(5,_)::(6,_)::(7,_)::(8,_)::(10,_)::(12,_)::(13,_)::Lx) _ _
     refine am ?_
     exact at_nil (at_cast h53 k)
    ·intro Lx g63 s K hl hh k
     show At 149 ((83,_)::(3,_)::(5,_)::(6,_)::(7,_)::(8,_)::(10,_)::(12,_)::(13,_)::Lx) _ _
     refine gy ?_
     refine am ?_
     exact at_nil k
    ·intro Lx g63 s K hl hh k
     show At 149 ((83,_)::(3,_)::(5,_)::(6,_)::(7,_)::(8,_)::(10,_)::(12,_)::(13,_)::Lx) _ _
     refine gy ?_
     refine am ?_
     exact at_nil k
    ·intro Lx g63 s K hl hh k
     show At 149 ((83,_)::(84,_)::(85,_)::(3,_)::(5,_)::(6,_)::(7,_)::(8,_)::(10,_)::(12,_)::(13,_)::Lx) _ _
     refine gy ?_
     refine aw (r_idx underlying43 sizeOf26 rfl rfl h55 hp56) ?_
     exact at_nil k
    ·intro Lx g63 s K hl hh k
     show At 149 ((83,_)::(86,_)::(3,_)::(5,_)::(6,_)::(7,_)::(8,_)::(10,_)::(12,_)::(13,_)::Lx) _ _
     refine gy ?_
     refine fa 17 underlying26 rfl sizeOf24 ?_
     exact at_nil k
    ·intro Lx g63 s K hl hh k
     show At 149 ((83,_)::(87,_)::(3,_)::(5,_)::(6,_)::(7,_)::(8,_)::(10,_)::(12,_)::(13,_)::Lx) _ _
     refine gy ?_
     obtain rfl:s=0:=by omega
     refine aw (r_load_aggc (c:=c_api_Addr) (z:=(lget t7 i43).f_To) isAgg24 sizeOf24 rfl (fun w1 hw=>row_lens (y:=(lget t7 i43).f_To) (W:=fun w1=>w1=_) (fun w1 h=>by subst h;exact Below.refl _ _) (hw.own (.s .z)).row h55 hp56 (Lens.comp lw (fun z=>{ (lget t7 i43) with f_To:=z }) (c_aggregate_Range_f_To (lget t7 i43))) _ rfl)) ?_
     exact at_nil k
    ·intro Lx g63 s K hl hh k
     show At 149 ((83,_)::(3,_)::(5,_)::(6,_)::(7,_)::(8,_)::(10,_)::(12,_)::(13,_)::Lx) _ _
     refine gy ?_
     refine am ?_
     exact at_nil k
    ·intro Lx g63 s K hl hh k
     show At 149 ((83,_)::(3,_)::(5,_)::(6,_)::(7,_)::(8,_)::(10,_)::(12,_)::(13,_)::Lx) _ _
     refine gy ?_
     refine am ?_
     exact at_nil k
    ·intro Lx g63 s K hl hh k
     show At 149 ((83,_)::(89,_)::(90,_)::(3,_)::(5,_)::(6,_)::(7,_)::(8,_)::(10,_)::(12,_)::(13,_)::Lx) _ _
     refine gy ?_
     refine aw (r_idx underlying45 sizeOf48 rfl rfl h59 hp60) ?_
     exact at_nil k
    ·intro Lx g63 s K hl hh k
     show At 149 ((83,_)::(91,_)::(3,_)::(5,_)::(6,_)::(7,_)::(8,_)::(10,_)::(12,_)::(13,_)::Lx) _ _
     refine gy ?_
     refine aw (r_idxArr underlying48 sizeOf24 rfl rfl (by decide)) ?_
     exact at_nil k
    ·intro Lx g63 s K hl hh k
     show At 149 ((83,_)::(92,_)::(3,_)::(5,_)::(6,_)::(7,_)::(8,_)::(10,_)::(12,_)::(13,_)::Lx) _ _
     refine gy ?_
     obtain rfl:s=0:=by omega
     refine aw (r_load_aggc (c:=c_api_Addr) (z:=vget (lget t10 i43) 1) isAgg24 sizeOf24 rfl (fun w1 hw=>row_lens (y:=vget (lget t10 i43) 1) (W:=fun w1=>w1=_) (fun w1 h=>by subst h;exact Below.refl _ _) (hw.own .z).row h59 hp60 (Lens.comp lw (fun z=>vset (lget t10 i43) 1 z) (Lens.vec c_api_Addr (by decide) (lget t10 i43) 1 (by decide))) _ rfl)) ?_
     exact at_nil k
    ·intro Lx g63 s K hl hh k
     show At 149 ((83,_)::(88,_)::(93,_)::(3,_)::(5,_)::(6,_)::(7,_)::(8,_)::(10,_)::(12,_)::(13,_)::Lx) _ _
     refine gy ?_
     refine aw (r_eqagg (c:=c_api_Addr) (a:=(lget t7 i43).f_To) (b:=vget (lget t10 i43) 1) (eq_api_Addr_24) rfl Try.eqGuardType24 rfl rfl (.inr rfl) rfl) ?_
     exact at_nil k
    ·intro Lx g63 s K hl hh k
     show At 149 ((83,_)::(94,_)::(3,_)::(5,_)::(6,_)::(7,_)::(8,_)::(10,_)::(12,_)::(13,_)::Lx) _ _
     refine aw xp ?_
     exact at_nil k
    intro g63
    show At 149 [(72,_),(73,_),(74,_),(75,_),(76,_),(77,_),(78,_),(79,_),(80,_),(81,_),(82,_),(83,_),(84,_),(85,_),(86,_),(87,_),(88,_),(89,_),(90,_),(91,_),(92,_),(93,_),(94,_),(95,_),(3,_),(5,_),(6,_),(7,_),(8,_),(10,_),(12,_),(13,_)] _ _
    refine wq [95,13,12,10,8,7,6,5,3] ?_
    refine tn ?_
    obtain ⟨h64,hF⟩|⟨h64,hF⟩:=oi hF
    ·refine ct h64 ?_
     refine sr (aa (qn (dz (dz (dz (dz (wq [4] ?_)))))))
     refine tn (qt ?_)
     refine tr (br (tr (tr (br (tr ?_)))))
     obtain rfl:=os hF
     subst K
     exact r1 wb
    refine cf h64 ?_
    refine sn (wq [13,12,10,8,7,6,5,3] ?_)
    obtain ⟨h65,hF⟩|⟨h65,hF⟩:=oi hF
    ·skip
     refine at_invT [.q 96 (fun g66=>.bool i42) [] 0 0,.q 97 (fun g66=>.bool true) [0] 0 0,.q 98 (fun g66=>undef) [1] 0 0,.q 99 (fun g66=>undef) [1,2] 0 0,.q 100 (fun g66=>undef) [1,3] 0 0,.q 101 (fun g66=>undef) [4] 0 0,.q 102 (fun g66=>undef) [4,5] 0 0,.q 103 (fun g66=>undef) [4] 0 0,.q 104 (fun g66=>undef) [4] 0 0,.q 105 (fun g66=>undef) [4,7,8] 0 0,.q 106 (fun g66=>undef) [4,9] 0 0,.q 107 (fun g66=>undef) [4,10] 0 0,.q 108 (fun g66=>undef) [4,11] 0 0,.q 109 (fun g66=>undef) [4,6,12] 0 0,.q 110 (fun g66=>undef) [1,4,13] 0 0,.q 111 (fun g66=>undef) [1,14] 0 0,.q 112 (fun g66=>undef) [15] 0 0,.q 113 (fun g66=>undef) [15] 0 0,.q 114 (fun g66=>undef) [15] 0 0,.q 115 (fun g66=>undef) [15,17,18] 0 0,.q 116 (fun g66=>undef) [15,19] 0 0,.q 117 (fun g66=>undef) [15,20] 0 0,.q 118 (fun g66=>undef) [15,16,21] 0 0,.q 119 (fun g66=>undef) [15,22] 0 0,.q 120 (fun g66=>undef) [1,15,23] 0 0,.q 121 (fun g66=>undef) [1,24] 0 0,.q 122 (fun g66=>undef) [25] 0 0,.q 123 (fun g66=>undef) [25] 0 0,.q 124 (fun g66=>undef) [25,26,27] 0 0,.q 125 (fun g66=>undef) [25,28] 0 0,.q 126 (fun g66=>undef) [25,29] 0 0,.q 127 (fun g66=>undef) [25] 0 0] (fun g66 s=>match s with | _=>(Wd w [rowE (cVec c_api_Addr 2 (by decide)) 48 p11 c12 t10,rowE c_aggregate_Range 26 p8 c9 t7,rowE c_api_Prefix 37 p5 c6 t4,cellsE b1 (Cd.cs c_api_Addr x1) 24])) 0 32 (by kernel_rfl) (by kernel_rfl) (by kernel_rfl) (by kernel_rfl) (by kernel_rfl) (by kernel_rfl) ⟨fun _ _ _=>rfl,fun _ _ _=>rfl,fun _ _ _=>rfl,fun _ _ _=>rfl,fun _ _ _=>rfl,fun _ _ _=>rfl,fun _ _ _=>rfl,fun _ _ _=>rfl,fun _ _ _=>rfl,fun _ _ _=>rfl,fun _ _ _=>rfl,fun _ _ _=>rfl,fun _ _ _=>rfl,fun _ _ _=>rfl,fun _ _ _=>rfl,fun _ _ _=>rfl,fun _ _ _=>rfl,fun _ _ _=>rfl,fun _ _ _=>rfl,fun _ _ _=>rfl,fun _ _ _=>rfl,fun _ _ _=>rfl,fun _ _ _=>rfl,fun _ _ _=>rfl,fun _ _ _=>rfl,fun _ _ _=>rfl,fun _ _ _=>rfl,fun _ _ _=>rfl,fun _ _ _=>rfl,fun _ _ _=>rfl,fun _ _ _=>rfl,fun _ _ _=>rfl,trivial⟩ (by kernel_rfl) (fun w_ h=>⟨fun _=>g3 0 none 0 none w_,h.drew⟩) ⟨?_,?_,?_,?_,?_,?_,?_,?_,?_,?_,?_,?_,?_,?_,?_,?_,?_,?_,?_,?_,?_,?_,?_,?_,?_,?_,?_,?_,?_,?_,?_,?_,trivial⟩ ?_
     ·intro Lx g66 s K hl hh k
      show At 149 ((3,_)::(5,_)::(6,_)::(7,_)::(8,_)::(10,_)::(12,_)::(13,_)::Lx) _ _
      refine am ?_
      exact at_nil k
     ·intro Lx g66 s K hl hh k
      show At 149 ((96,_)::(3,_)::(5,_)::(6,_)::(7,_)::(8,_)::(10,_)::(12,_)::(13,_)::Lx) _ _
      refine am ?_
      exact at_nil (at_cast h65 k)
     ·intro Lx g66 s K hl hh k
      show At 149 ((97,_)::(3,_)::(5,_)::(6,_)::(7,_)::(8,_)::(10,_)::(12,_)::(13,_)::Lx) _ _
      obtain rfl:s=0:=by omega
      refine gn ?_
      exact at_nil k
     ·intro Lx g66 s K hl hh k
      show At 149 ((97,_)::(98,_)::(3,_)::(5,_)::(6,_)::(7,_)::(8,_)::(10,_)::(12,_)::(13,_)::Lx) _ _
      obtain rfl:s=0:=by omega
      refine gn ?_
      exact at_nil k
     ·intro Lx g66 s K hl hh k
      show At 149 ((97,_)::(99,_)::(3,_)::(5,_)::(6,_)::(7,_)::(8,_)::(10,_)::(12,_)::(13,_)::Lx) _ _
      refine gn ?_
      exact at_nil k
     ·intro Lx g66 s K hl hh k
      show At 149 ((100,_)::(3,_)::(5,_)::(6,_)::(7,_)::(8,_)::(10,_)::(12,_)::(13,_)::Lx) _ _
      refine at_guard_undef rfl rfl rfl rfl ?_
      exact at_nil k
     ·intro Lx g66 s K hl hh k
      show At 149 ((100,_)::(101,_)::(3,_)::(5,_)::(6,_)::(7,_)::(8,_)::(10,_)::(12,_)::(13,_)::Lx) _ _
      obtain rfl:s=0:=by omega
      refine at_guard_undef rfl rfl rfl rfl ?_
      exact at_nil k
     ·intro Lx g66 s K hl hh k
      show At 149 ((100,_)::(3,_)::(5,_)::(6,_)::(7,_)::(8,_)::(10,_)::(12,_)::(13,_)::Lx) _ _
      refine at_guard_undef rfl rfl rfl rfl ?_
      exact at_nil k
     ·intro Lx g66 s K hl hh k
      show At 149 ((100,_)::(3,_)::(5,_)::(6,_)::(7,_)::(8,_)::(10,_)::(12,_)::(13,_)::Lx) _ _
      refine at_guard_undef rfl rfl rfl rfl ?_
      exact at_nil k
     ·intro Lx g66 s K hl hh k
      show At 149 ((100,_)::(103,_)::(104,_)::(3,_)::(5,_)::(6,_)::(7,_)::(8,_)::(10,_)::(12,_)::(13,_)::Lx) _ _
      refine at_guard_undef rfl rfl rfl rfl ?_
      exact at_nil k
     ·intro Lx g66 s K hl hh k
      show At 149 ((100,_)::(105,_)::(3,_)::(5,_)::(6,_)::(7,_)::(8,_)::(10,_)::(12,_)::(13,_)::Lx) _ _
      refine at_guard_undef rfl rfl rfl rfl ?_
      exact at_nil k
     ·intro Lx g66 s K hl hh k
      show At 149 ((100,_)::(106,_)::(3,_)::(5,_)::(6,_)::(7,_)::(8,_)::(10,_)::(12,_)::(13,_)::Lx) _ _
      refine at_guard_undef rfl rfl rfl rfl ?_
      exact at_nil k
     ·intro Lx g66 s K hl hh k
      show At 149 ((100,_)::(107,_)::(3,_)::(5,_)::(6,_)::(7,_)::(8,_)::(10,_)::(12,_)::(13,_)::Lx) _ _
      obtain rfl:s=0:=by omega
      refine at_guard_undef rfl rfl rfl rfl ?_
      exact at_nil k
     ·intro Lx g66 s K hl hh k
      show At 149 ((100,_)::(102,_)::(108,_)::(3,_)::(5,_)::(6,_)::(7,_)::(8,_)::(10,_)::(12,_)::(13,_)::Lx) _ _
      refine at_guard_undef rfl rfl rfl rfl ?_
      exact at_nil k
     ·intro Lx g66 s K hl hh k
      show At 149 ((97,_)::(100,_)::(109,_)::(3,_)::(5,_)::(6,_)::(7,_)::(8,_)::(10,_)::(12,_)::(13,_)::Lx) _ _
      refine gn ?_
      exact at_nil k
     ·intro Lx g66 s K hl hh k
      show At 149 ((97,_)::(110,_)::(3,_)::(5,_)::(6,_)::(7,_)::(8,_)::(10,_)::(12,_)::(13,_)::Lx) _ _
      refine gn ?_
      exact at_nil k
     ·intro Lx g66 s K hl hh k
      show At 149 ((111,_)::(3,_)::(5,_)::(6,_)::(7,_)::(8,_)::(10,_)::(12,_)::(13,_)::Lx) _ _
      obtain rfl:s=0:=by omega
      refine at_guard_undef rfl rfl rfl rfl ?_
      exact at_nil k
     ·intro Lx g66 s K hl hh k
      show At 149 ((111,_)::(3,_)::(5,_)::(6,_)::(7,_)::(8,_)::(10,_)::(12,_)::(13,_)::Lx) _ _
      refine at_guard_undef rfl rfl rfl rfl ?_
      exact at_nil k
     ·intro Lx g66 s K hl hh k
      show At 149 ((111,_)::(3,_)::(5,_)::(6,_)::(7,_)::(8,_)::(10,_)::(12,_)::(13,_)::Lx) _ _
      refine at_guard_undef rfl rfl rfl rfl ?_
      exact at_nil k
     ·intro Lx g66 s K hl hh k
      show At 149 ((111,_)::(113,_)::(114,_)::(3,_)::(5,_)::(6,_)::(7,_)::(8,_)::(10,_)::(12,_)::(13,_)::Lx) _ _
      refine at_guard_undef rfl rfl rfl rfl ?_
      exact at_nil k
     ·intro Lx g66 s K hl hh k
      show At 149 ((111,_)::(115,_)::(3,_)::(5,_)::(6,_)::(7,_)::(8,_)::(10,_)::(12,_)::(13,_)::Lx) _ _
      refine at_guard_undef rfl rfl rfl rfl ?_
      exact at_nil k
     ·intro Lx g66 s K hl hh k
      show At 149 ((111,_)::(116,_)::(3,_)::(5,_)::(6,_)::(7,_)::(8,_)::(10,_)::(12,_)::(13,_)::Lx) _ _
      obtain rfl:s=0:=by omega
      refine at_guard_undef rfl rfl rfl rfl ?_
      exact at_nil k
     ·intro Lx g66 s K hl hh k
      show At 149 ((111,_)::(112,_)::(117,_)::(3,_)::(5,_)::(6,_)::(7,_)::(8,_)::(10,_)::(12,_)::(13,_)::Lx) _ _
      obtain rfl:s=0:=by omega
      refine at_guard_undef rfl rfl rfl rfl ?_
      exact at_nil k
     ·intro Lx g66 s K hl hh k
      show At 149 ((111,_)::(118,_)::(3,_)::(5,_)::(6,_)::(7,_)::(8,_)::(10,_)::(12,_)::(13,_)::Lx) _ _
      refine at_guard_undef rfl rfl rfl rfl ?_
      exact at_nil k
     ·intro Lx g66 s K hl hh k
      show At 149 ((97,_)::(111,_)::(119,_)::(3,_)::(5,_)::(6,_)::(7,_)::(8,_)::(10,_)::(12,_)::(13,_)::Lx) _ _
      refine gn ?_
      exact at_nil k
     ·intro Lx g66 s K hl hh k
      show At 149 ((97,_)::(120,_)::(3,_)::(5,_)::(6,_)::(7,_)::(8,_)::(10,_)::(12,_)::(13,_)::Lx) _ _
      refine gn ?_
      exact at_nil k
     ·intro Lx g66 s K hl hh k
      show At 149 ((121,_)::(3,_)::(5,_)::(6,_)::(7,_)::(8,_)::(10,_)::(12,_)::(13,_)::Lx) _ _
      refine at_guard_undef rfl rfl rfl rfl ?_
      exact at_nil k
     ·intro Lx g66 s K hl hh k
      show At 149 ((121,_)::(3,_)::(5,_)::(6,_)::(7,_)::(8,_)::(10,_)::(12,_)::(13,_)::Lx) _ _
      refine at_guard_undef rfl rfl rfl rfl ?_
      exact at_nil k
     ·intro Lx g66 s K hl hh k
      show At 149 ((121,_)::(122,_)::(123,_)::(3,_)::(5,_)::(6,_)::(7,_)::(8,_)::(10,_)::(12,_)::(13,_)::Lx) _ _
      refine at_guard_undef rfl rfl rfl rfl ?_
      exact at_nil k
     ·intro Lx g66 s K hl hh k
      show At 149 ((121,_)::(124,_)::(3,_)::(5,_)::(6,_)::(7,_)::(8,_)::(10,_)::(12,_)::(13,_)::Lx) _ _
      refine at_guard_undef rfl rfl rfl rfl ?_
      exact at_nil k
     ·intro Lx g66 s K hl hh k
      show At 149 ((121,_)::(125,_)::(3,_)::(5,_)::(6,_)::(7,_)::(8,_)::(10,_)::(12,_)::(13,_)::Lx) _ _
      obtain rfl:s=0:=by omega
      refine at_guard_undef rfl rfl rfl rfl ?_
      exact at_nil k
     ·intro Lx g66 s K hl hh k
      show At 149 ((121,_)::(3,_)::(5,_)::(6,_)::(7,_)::(8,_)::(10,_)::(12,_)::(13,_)::Lx) _ _
      obtain rfl:s=0:=by omega
      refine at_guard_undef rfl rfl rfl rfl ?_
      exact at_nil k
     intro g66
     show At 149 [(96,_),(97,_),(98,_),(99,_),(100,_),(101,_),(102,_),(103,_),(104,_),(105,_),(106,_),(107,_),(108,_),(109,_),(110,_),(111,_),(112,_),(113,_),(114,_),(115,_),(116,_),(117,_),(118,_),(119,_),(120,_),(121,_),(122,_),(123,_),(124,_),(125,_),(126,_),(127,_),(3,_),(5,_),(6,_),(7,_),(8,_),(10,_),(12,_),(13,_)] _ _
     refine at_guard_undef rfl rfl rfl rfl ?_
     refine at_guard_undef rfl rfl rfl rfl ?_
     refine gn ?_
     refine aw xp (aa (qn (wq [13,12,10,8,7,6,5,3] ?_)))
     refine bm ?_
     refine qr (am (aw xa (aa (nwq [13,12,10,8,7,6,5,3] ?_))))
     exact at_weak_k (ih _ _ _ hF K) ⟨rfl,rfl,rfl,rfl,rfl,rfl,rfl,rfl,trivial⟩
    skip
    obtain ⟨t67,ht67,hF⟩:=bM hF
    obtain ⟨h68,hF⟩|⟨h68,hF⟩:=oi hF
    ·skip
     obtain ⟨h69,hF⟩:=gd hF
     refine at_pure (φ:=∃ b o,p8=some ⟨b,o,none⟩) (fun _ hw=>row_ptr (hw.own (.s .z)).row h69) ?_
     rintro ⟨b71,o72,hp70⟩
     obtain ⟨h73,hF⟩|⟨h73,hF⟩:=oi hF
     ·skip
      obtain ⟨h74,hF⟩:=gd hF
      refine at_pure (φ:=∃ b o,p8=some ⟨b,o,none⟩) (fun _ hw=>row_ptr (hw.own (.s .z)).row h74) ?_
      rintro ⟨b76,o77,hp75⟩
      obtain ⟨t78,ht78,hF⟩:=bM hF
      obtain ⟨h79,hF⟩|⟨h79,hF⟩:=oi hF
      ·skip
       obtain ⟨h80,hF⟩:=gd hF
       refine at_pure (φ:=∃ b o,p8=some ⟨b,o,none⟩) (fun _ hw=>row_ptr (hw.own (.s .z)).row h80) ?_
       rintro ⟨b82,o83,hp81⟩
       refine at_invT [.q 96 (fun g84=>.bool i42) [] 0 0,.q 97 (fun g84=>.bool false) [0] 0 0,.q 98 (fun g84=>.agg (Cd.cs c_api_Addr x1).toArray) [1] 0 0,.q 99 (fun g84=>.bool t67) [1,2] 0 0,.q 100 (fun g84=>.bool true) [1,3] 0 0,.q 101 (fun g84=>.pointer (some ⟨b1,0+0,none⟩)) [4] 0 0,.q 102 (fun g84=>.int .i64 x1.f_V) [4,5] 0 0,.q 103 (fun g84=>.slice p8 t7.length c9) [4] 0 0,.q 104 (fun g84=>.int .i64 i43) [4] 0 0,.q 105 (fun g84=>.pointer (some ⟨b71,o72+Int.toNat i43*34,none⟩)) [4,7,8] 0 0,.q 106 (fun g84=>.pointer (some ⟨b71,o72+Int.toNat i43*34+0,none⟩)) [4,9] 0 0,.q 107 (fun g84=>.pointer (some ⟨b71,o72+Int.toNat i43*34+0+0,none⟩)) [4,10] 0 0,.q 108 (fun g84=>.int .i64 (((lget t7 i43).f_From).f_V)) [4,11] 0 0,.q 109 (fun g84=>.bool (x1.f_V==((lget t7 i43).f_From).f_V)) [4,6,12] 0 0,.q 110 (fun g84=>.bool (x1.f_V==((lget t7 i43).f_From).f_V)) [1,4,13] 0 0,.q 111 (fun g84=>.bool true) [1,14] 0 0,.q 112 (fun g84=>.agg (Cd.cs c_api_Addr x1).toArray) [15] 0 0,.q 113 (fun g84=>.slice p8 t7.length c9) [15] 0 0,.q 114 (fun g84=>.int .i64 i43) [15] 0 0,.q 115 (fun g84=>.pointer (some ⟨b76,o77+Int.toNat i43*34,none⟩)) [15,17,18] 0 0,.q 116 (fun g84=>.pointer (some ⟨b76,o77+Int.toNat i43*34+0,none⟩)) [15,19] 0 0,.q 117 (fun g84=>.agg (Cd.cs c_api_Addr ((lget t7 i43).f_From)).toArray) [15,20] 0 0,.q 118 (fun g84=>.bool t78) [15,16,21] 0 0,.q 119 (fun g84=>.bool (!t78)) [15,22] 0 0,.q 120 (fun g84=>.bool (!t78)) [1,15,23] 0 0,.q 121 (fun g84=>.bool true) [1,24] 0 0,.q 122 (fun g84=>.slice p8 t7.length c9) [25] 0 0,.q 123 (fun g84=>.int .i64 i43) [25] 0 0,.q 124 (fun g84=>.pointer (some ⟨b82,o83+Int.toNat i43*34,none⟩)) [25,26,27] 0 0,.q 125 (fun g84=>.pointer (some ⟨b82,o83+Int.toNat i43*34+17,none⟩)) [25,28] 0 0,.q 126 (fun g84=>.agg (Cd.cs c_api_Addr ((lget t7 i43).f_To)).toArray) [25,29] 0 0,.q 127 (fun g84=>.agg (Cd.cs c_api_Addr x1).toArray) [25] 0 0] (fun g84 s=>match s with | _=>(Wd w [rowE (cVec c_api_Addr 2 (by decide)) 48 p11 c12 t10,rowE c_aggregate_Range 26 p8 c9 t7,rowE c_api_Prefix 37 p5 c6 t4,cellsE b1 (Cd.cs c_api_Addr x1) 24])) 0 32 (by kernel_rfl) (by kernel_rfl) (by kernel_rfl) (by kernel_rfl) (by kernel_rfl) (by kernel_rfl) ⟨fun _ _ _=>rfl,fun _ _ _=>rfl,fun _ _ _=>rfl,fun _ _ _=>rfl,fun _ _ _=>rfl,fun _ _ _=>rfl,fun _ _ _=>rfl,fun _ _ _=>rfl,fun _ _ _=>rfl,fun _ _ _=>rfl,fun _ _ _=>rfl,fun _ _ _=>rfl,fun _ _ _=>rfl,fun _ _ _=>rfl,fun _ _ _=>rfl,fun _ _ _=>rfl,fun _ _ _=>rfl,fun _ _ _=>rfl,fun _ _ _=>rfl,fun _ _ _=>rfl,fun _ _ _=>rfl,fun _ _ _=>rfl,fun _ _ _=>rfl,fun _ _ _=>rfl,fun _ _ _=>rfl,fun _ _ _=>rfl,fun _ _ _=>rfl,fun _ _ _=>rfl,fun _ _ _=>rfl,fun _ _ _=>rfl,fun _ _ _=>rfl,fun _ _ _=>rfl,trivial⟩ (by kernel_rfl) (fun w_ h=>⟨fun _=>g3 0 none 0 none w_,h.drew⟩) ⟨?_,?_,?_,?_,?_,?_,?_,?_,?_,?_,?_,?_,?_,?_,?_,?_,?_,?_,?_,?_,?_,?_,?_,?_,?_,?_,?_,?_,?_,?_,?_,?_,trivial⟩ ?_
       ·intro Lx g84 s K hl hh k
        show At 149 ((3,_)::(5,_)::(6,_)::(7,_)::(8,_)::(10,_)::(12,_)::(13,_)::Lx) _ _
        refine am ?_
        exact at_nil k
       ·intro Lx g84 s K hl hh k
        show At 149 ((96,_)::(3,_)::(5,_)::(6,_)::(7,_)::(8,_)::(10,_)::(12,_)::(13,_)::Lx) _ _
        refine am ?_
        exact at_nil (at_cast h65 k)
       ·intro Lx g84 s K hl hh k
        show At 149 ((97,_)::(3,_)::(5,_)::(6,_)::(7,_)::(8,_)::(10,_)::(12,_)::(13,_)::Lx) _ _
        refine gy ?_
        obtain rfl:s=0:=by omega
        refine aw (r_load_aggc (c:=c_api_Addr) (z:=x1) isAgg24 sizeOf24 rfl (lens_cell (.s (.s (.s .z))) lw)) ?_
        exact at_nil k
       ·intro Lx g84 s K hl hh k
        show At 149 ((97,_)::(98,_)::(3,_)::(5,_)::(6,_)::(7,_)::(8,_)::(10,_)::(12,_)::(13,_)::Lx) _ _
        refine gy ?_
        obtain rfl:s=0:=by omega
        refine cB func23 rfl (fun w hw=>crawlwayref10_Right_ok _ _ ht67 w) ?_
        exact at_nil k
       ·intro Lx g84 s K hl hh k
        show At 149 ((97,_)::(99,_)::(3,_)::(5,_)::(6,_)::(7,_)::(8,_)::(10,_)::(12,_)::(13,_)::Lx) _ _
        refine gy ?_
        refine am ?_
        exact at_nil (at_cast h68 k)
       ·intro Lx g84 s K hl hh k
        show At 149 ((100,_)::(3,_)::(5,_)::(6,_)::(7,_)::(8,_)::(10,_)::(12,_)::(13,_)::Lx) _ _
        refine gy ?_
        refine fa 0 underlying24 rfl sizeOf3 ?_
        exact at_nil k
       ·intro Lx g84 s K hl hh k
        show At 149 ((100,_)::(101,_)::(3,_)::(5,_)::(6,_)::(7,_)::(8,_)::(10,_)::(12,_)::(13,_)::Lx) _ _
        refine gy ?_
        obtain rfl:s=0:=by omega
        refine aw (r_load_cell isAgg3 rfl (lens_cell0 (c:=(cInt .i64)) (y:=x1.f_V) (.s (.s (.s .z))) (Lens.comp lw (fun z=>{ x1 with f_V:=z }) (c_api_Addr_f_V x1)) rfl)) ?_
        exact at_nil k
       ·intro Lx g84 s K hl hh k
        show At 149 ((100,_)::(3,_)::(5,_)::(6,_)::(7,_)::(8,_)::(10,_)::(12,_)::(13,_)::Lx) _ _
        refine gy ?_
        refine am ?_
        exact at_nil k
       ·intro Lx g84 s K hl hh k
        show At 149 ((100,_)::(3,_)::(5,_)::(6,_)::(7,_)::(8,_)::(10,_)::(12,_)::(13,_)::Lx) _ _
        refine gy ?_
        refine am ?_
        exact at_nil k
       ·intro Lx g84 s K hl hh k
        show At 149 ((100,_)::(103,_)::(104,_)::(3,_)::(5,_)::(6,_)::(7,_)::(8,_)::(10,_)::(12,_)::(13,_)::Lx) _ _
        refine gy ?_
        refine aw (r_idx underlying43 sizeOf26 rfl rfl h69 hp70) ?_
        exact at_nil k
       ·intro Lx g84 s K hl hh k
        show At 149 ((100,_)::(105,_)::(3,_)::(5,_)::(6,_)::(7,_)::(8,_)::(10,_)::(12,_)::(13,_)::Lx) _ _
        refine gy ?_
        refine fa 0 underlying26 rfl sizeOf24 ?_
        exact at_nil k
       ·intro Lx g84 s K hl hh k
        show At 149 ((100,_)::(106,_)::(3,_)::(5,_)::(6,_)::(7,_)::(8,_)::(10,_)::(12,_)::(13,_)::Lx) _ _
        refine gy ?_
        refine fa 0 underlying24 rfl sizeOf3 ?_
        exact at_nil k
       ·intro Lx g84 s K hl hh k
        show At 149 ((100,_)::(107,_)::(3,_)::(5,_)::(6,_)::(7,_)::(8,_)::(10,_)::(12,_)::(13,_)::Lx) _ _
        refine gy ?_
        obtain rfl:s=0:=by omega
        refine aw (r_load_cell isAgg3 rfl (fun w1 hw=>row_lens0 (y:=((lget t7 i43).f_From).f_V) (W:=fun w1=>w1=_) (fun w1 h=>by subst h;exact Below.refl _ _) (hw.own (.s .z)).row h69 hp70 (Lens.comp (Lens.comp lw (fun z=>{ (lget t7 i43) with f_From:=z }) (c_aggregate_Range_f_From (lget t7 i43))) (fun z=>{ (lget t7 i43).f_From with f_V:=z }) (c_api_Addr_f_V ((lget t7 i43).f_From))) rfl _ rfl)) ?_
        exact at_nil k
       ·intro Lx g84 s K hl hh k
        show At 149 ((100,_)::(102,_)::(108,_)::(3,_)::(5,_)::(6,_)::(7,_)::(8,_)::(10,_)::(12,_)::(13,_)::Lx) _ _
        refine gy ?_
        refine aw xq ?_
        exact at_nil k
       ·intro Lx g84 s K hl hh k
        show At 149 ((97,_)::(100,_)::(109,_)::(3,_)::(5,_)::(6,_)::(7,_)::(8,_)::(10,_)::(12,_)::(13,_)::Lx) _ _
        refine gy ?_
        refine aw xp ?_
        exact at_nil k
       ·intro Lx g84 s K hl hh k
        show At 149 ((97,_)::(110,_)::(3,_)::(5,_)::(6,_)::(7,_)::(8,_)::(10,_)::(12,_)::(13,_)::Lx) _ _
        refine gy ?_
        refine am ?_
        exact at_nil (at_cast h73 k)
       ·intro Lx g84 s K hl hh k
        show At 149 ((111,_)::(3,_)::(5,_)::(6,_)::(7,_)::(8,_)::(10,_)::(12,_)::(13,_)::Lx) _ _
        refine gy ?_
        obtain rfl:s=0:=by omega
        refine aw (r_load_aggc (c:=c_api_Addr) (z:=x1) isAgg24 sizeOf24 rfl (lens_cell (.s (.s (.s .z))) lw)) ?_
        exact at_nil k
       ·intro Lx g84 s K hl hh k
        show At 149 ((111,_)::(3,_)::(5,_)::(6,_)::(7,_)::(8,_)::(10,_)::(12,_)::(13,_)::Lx) _ _
        refine gy ?_
        refine am ?_
        exact at_nil k
       ·intro Lx g84 s K hl hh k
        show At 149 ((111,_)::(3,_)::(5,_)::(6,_)::(7,_)::(8,_)::(10,_)::(12,_)::(13,_)::Lx) _ _
        refine gy ?_
        refine am ?_
        exact at_nil k
       ·intro Lx g84 s K hl hh k
        show At 149 ((111,_)::(113,_)::(114,_)::(3,_)::(5,_)::(6,_)::(7,_)::(8,_)::(10,_)::(12,_)::(13,_)::Lx) _ _
        refine gy ?_
        refine aw (r_idx underlying43 sizeOf26 rfl rfl h74 hp75) ?_
        exact at_nil k
       ·intro Lx g84 s K hl hh k
        show At 149 ((111,_)::(115,_)::(3,_)::(5,_)::(6,_)::(7,_)::(8,_)::(10,_)::(12,_)::(13,_)::Lx) _ _
        refine gy ?_
        refine fa 0 underlying26 rfl sizeOf24 ?_
        exact at_nil k
       ·intro Lx g84 s K hl hh k
        show At 149 ((111,_)::(116,_)::(3,_)::(5,_)::(6,_)::(7,_)::(8,_)::(10,_)::(12,_)::(13,_)::Lx) _ _
        refine gy ?_
        obtain rfl:s=0:=by omega
        refine aw (r_load_aggc (c:=c_api_Addr) (z:=(lget t7 i43).f_From) isAgg24 sizeOf24 rfl (fun w1 hw=>row_lens (y:=(lget t7 i43).f_From) (W:=fun w1=>w1=_) (fun w1 h=>by subst h;exact Below.refl _ _) (hw.own (.s .z)).row h74 hp75 (Lens.comp lw (fun z=>{ (lget t7 i43) with f_From:=z }) (c_aggregate_Range_f_From (lget t7 i43))) _ rfl)) ?_
        exact at_nil k
       ·intro Lx g84 s K hl hh k
        show At 149 ((111,_)::(112,_)::(117,_)::(3,_)::(5,_)::(6,_)::(7,_)::(8,_)::(10,_)::(12,_)::(13,_)::Lx) _ _
        refine gy ?_
        obtain rfl:s=0:=by omega
        refine cB func24 rfl (fun w hw=>crawlwayref10_Less_ok _ _ _ ht78 w) ?_
        exact at_nil k
       ·intro Lx g84 s K hl hh k
        show At 149 ((111,_)::(118,_)::(3,_)::(5,_)::(6,_)::(7,_)::(8,_)::(10,_)::(12,_)::(13,_)::Lx) _ _
        refine gy ?_
        refine aw (r_not rfl) ?_
        exact at_nil k
       ·intro Lx g84 s K hl hh k
        show At 149 ((97,_)::(111,_)::(119,_)::(3,_)::(5,_)::(6,_)::(7,_)::(8,_)::(10,_)::(12,_)::(13,_)::Lx) _ _
        refine gy ?_
        refine aw xp ?_
        exact at_nil k
       ·intro Lx g84 s K hl hh k
        show At 149 ((97,_)::(120,_)::(3,_)::(5,_)::(6,_)::(7,_)::(8,_)::(10,_)::(12,_)::(13,_)::Lx) _ _
        refine gy ?_
        refine am ?_
        exact at_nil (at_cast h79 k)
       ·intro Lx g84 s K hl hh k
        show At 149 ((121,_)::(3,_)::(5,_)::(6,_)::(7,_)::(8,_)::(10,_)::(12,_)::(13,_)::Lx) _ _
        refine gy ?_
        refine am ?_
        exact at_nil k
       ·intro Lx g84 s K hl hh k
        show At 149 ((121,_)::(3,_)::(5,_)::(6,_)::(7,_)::(8,_)::(10,_)::(12,_)::(13,_)::Lx) _ _
        refine gy ?_
        refine am ?_
        exact at_nil k
       ·intro Lx g84 s K hl hh k
        show At 149 ((121,_)::(122,_)::(123,_)::(3,_)::(5,_)::(6,_)::(7,_)::(8,_)::(10,_)::(12,_)::(13,_)::Lx) _ _
        refine gy ?_
        refine aw (r_idx underlying43 sizeOf26 rfl rfl h80 hp81) ?_
        exact at_nil k
       ·intro Lx g84 s K hl hh k
        show At 149 ((121,_)::(124,_)::(3,_)::(5,_)::(6,_)::(7,_)::(8,_)::(10,_)::(12,_)::(13,_)::Lx) _ _
        refine gy ?_
        refine fa 17 underlying26 rfl sizeOf24 ?_
        exact at_nil k
       ·intro Lx g84 s K hl hh k
        show At 149 ((121,_)::(125,_)::(3,_)::(5,_)::(6,_)::(7,_)::(8,_)::(10,_)::(12,_)::(13,_)::Lx) _ _
        refine gy ?_
        obtain rfl:s=0:=by omega
        refine aw (r_load_aggc (c:=c_api_Addr) (z:=(lget t7 i43).f_To) isAgg24 sizeOf24 rfl (fun w1 hw=>row_lens (y:=(lget t7 i43).f_To) (W:=fun w1=>w1=_) (fun w1 h=>by subst h;exact Below.refl _ _) (hw.own (.s .z)).row h80 hp81 (Lens.comp lw (fun z=>{ (lget t7 i43) with f_To:=z }) (c_aggregate_Range_f_To (lget t7 i43))) _ rfl)) ?_
        exact at_nil k
       ·intro Lx g84 s K hl hh k
        show At 149 ((121,_)::(3,_)::(5,_)::(6,_)::(7,_)::(8,_)::(10,_)::(12,_)::(13,_)::Lx) _ _
        refine gy ?_
        obtain rfl:s=0:=by omega
        refine aw (r_load_aggc (c:=c_api_Addr) (z:=x1) isAgg24 sizeOf24 rfl (lens_cell (.s (.s (.s .z))) lw)) ?_
        exact at_nil k
       intro g84
       show At 149 [(96,_),(97,_),(98,_),(99,_),(100,_),(101,_),(102,_),(103,_),(104,_),(105,_),(106,_),(107,_),(108,_),(109,_),(110,_),(111,_),(112,_),(113,_),(114,_),(115,_),(116,_),(117,_),(118,_),(119,_),(120,_),(121,_),(122,_),(123,_),(124,_),(125,_),(126,_),(127,_),(3,_),(5,_),(6,_),(7,_),(8,_),(10,_),(12,_),(13,_)] _ _
       refine gy ?_
       obtain ⟨t85,ht85,hF⟩:=bM hF
       refine cB func24 rfl (fun w hw=>crawlwayref10_Less_ok _ _ _ ht85 w) ?_
       refine gy ?_
       refine aw (r_not rfl) ?_
       refine gy ?_
       refine aw xp (aw xp (aa (qn (wq [13,12,10,8,7,6,5,3] ?_))))
       refine bm ?_
       refine qr (am (aw xa (aa (nwq [13,12,10,8,7,6,5,3] ?_))))
       exact at_weak_k (ih _ _ _ hF K) ⟨rfl,rfl,rfl,rfl,rfl,rfl,rfl,rfl,trivial⟩
      skip
      refine at_invT [.q 96 (fun g86=>.bool i42) [] 0 0,.q 97 (fun g86=>.bool false) [0] 0 0,.q 98 (fun g86=>.agg (Cd.cs c_api_Addr x1).toArray) [1] 0 0,.q 99 (fun g86=>.bool t67) [1,2] 0 0,.q 100 (fun g86=>.bool true) [1,3] 0 0,.q 101 (fun g86=>.pointer (some ⟨b1,0+0,none⟩)) [4] 0 0,.q 102 (fun g86=>.int .i64 x1.f_V) [4,5] 0 0,.q 103 (fun g86=>.slice p8 t7.length c9) [4] 0 0,.q 104 (fun g86=>.int .i64 i43) [4] 0 0,.q 105 (fun g86=>.pointer (some ⟨b71,o72+Int.toNat i43*34,none⟩)) [4,7,8] 0 0,.q 106 (fun g86=>.pointer (some ⟨b71,o72+Int.toNat i43*34+0,none⟩)) [4,9] 0 0,.q 107 (fun g86=>.pointer (some ⟨b71,o72+Int.toNat i43*34+0+0,none⟩)) [4,10] 0 0,.q 108 (fun g86=>.int .i64 (((lget t7 i43).f_From).f_V)) [4,11] 0 0,.q 109 (fun g86=>.bool (x1.f_V==((lget t7 i43).f_From).f_V)) [4,6,12] 0 0,.q 110 (fun g86=>.bool (x1.f_V==((lget t7 i43).f_From).f_V)) [1,4,13] 0 0,.q 111 (fun g86=>.bool true) [1,14] 0 0,.q 112 (fun g86=>.agg (Cd.cs c_api_Addr x1).toArray) [15] 0 0,.q 113 (fun g86=>.slice p8 t7.length c9) [15] 0 0,.q 114 (fun g86=>.int .i64 i43) [15] 0 0,.q 115 (fun g86=>.pointer (some ⟨b76,o77+Int.toNat i43*34,none⟩)) [15,17,18] 0 0,.q 116 (fun g86=>.pointer (some ⟨b76,o77+Int.toNat i43*34+0,none⟩)) [15,19] 0 0,.q 117 (fun g86=>.agg (Cd.cs c_api_Addr ((lget t7 i43).f_From)).toArray) [15,20] 0 0,.q 118 (fun g86=>.bool t78) [15,16,21] 0 0,.q 119 (fun g86=>.bool (!t78)) [15,22] 0 0,.q 120 (fun g86=>.bool (!t78)) [1,15,23] 0 0,.q 121 (fun g86=>.bool false) [1,24] 0 0,.q 122 (fun g86=>undef) [25] 0 0,.q 123 (fun g86=>undef) [25] 0 0,.q 124 (fun g86=>undef) [25,26,27] 0 0,.q 125 (fun g86=>undef) [25,28] 0 0,.q 126 (fun g86=>undef) [25,29] 0 0,.q 127 (fun g86=>undef) [25] 0 0] (fun g86 s=>match s with | _=>(Wd w [rowE (cVec c_api_Addr 2 (by decide)) 48 p11 c12 t10,rowE c_aggregate_Range 26 p8 c9 t7,rowE c_api_Prefix 37 p5 c6 t4,cellsE b1 (Cd.cs c_api_Addr x1) 24])) 0 32 (by kernel_rfl) (by kernel_rfl) (by kernel_rfl) (by kernel_rfl) (by kernel_rfl) (by kernel_rfl) ⟨fun _ _ _=>rfl,fun _ _ _=>rfl,fun _ _ _=>rfl,fun _ _ _=>rfl,fun _ _ _=>rfl,fun _ _ _=>rfl,fun _ _ _=>rfl,fun _ _ _=>rfl,fun _ _ _=>rfl,fun _ _ _=>rfl,fun _ _ _=>rfl,fun _ _ _=>rfl,fun _ _ _=>rfl,fun _ _ _=>rfl,fun _ _ _=>rfl,fun _ _ _=>rfl,fun _ _ _=>rfl,fun _ _ _=>rfl,fun _ _ _=>rfl,fun _ _ _=>rfl,fun _ _ _=>rfl,fun _ _ _=>rfl,fun _ _ _=>rfl,fun _ _ _=>rfl,fun _ _ _=>rfl,fun _ _ _=>rfl,fun _ _ _=>rfl,fun _ _ _=>rfl,fun _ _ _=>rfl,fun _ _ _=>rfl,fun _ _ _=>rfl,fun _ _ _=>rfl,trivial⟩ (by kernel_rfl) (fun w_ h=>⟨fun _=>g3 0 none 0 none w_,h.drew⟩) ⟨?_,?_,?_,?_,?_,?_,?_,?_,?_,?_,?_,?_,?_,?_,?_,?_,?_,?_,?_,?_,?_,?_,?_,?_,?_,?_,?_,?_,?_,?_,?_,?_,trivial⟩ ?_
      ·intro Lx g86 s K hl hh k
       show At 149 ((3,_)::(5,_)::(6,_)::(7,_)::(8,_)::(10,_)::(12,_)::(13,_)::Lx) _ _
       refine am ?_
       exact at_nil k
      ·intro Lx g86 s K hl hh k
       show At 149 ((96,_)::(3,_)::(5,_)::(6,_)::(7,_)::(8,_)::(10,_)::(12,_)::(13,_)::Lx) _ _
       refine am ?_
       exact at_nil (at_cast h65 k)
      ·intro Lx g86 s K hl hh k
       show At 149 ((97,_)::(3,_)::(5,_)::(6,_)::(7,_)::(8,_)::(10,_)::(12,_)::(13,_)::Lx) _ _
       refine gy ?_
       obtain rfl:s=0:=by omega
       refine aw (r_load_aggc (c:=c_api_Addr) (z:=x1) isAgg24 sizeOf24 rfl (lens_cell (.s (.s (.s .z))) lw)) ?_
       exact at_nil k
      ·intro Lx g86 s K hl hh k
       show At 149 ((97,_)::(98,_)::(3,_)::(5,_)::(6,_)::(7,_)::(8,_)::(10,_)::(12,_)::(13,_)::Lx) _ _
       refine gy ?_
       obtain rfl:s=0:=by omega
       refine cB func23 rfl (fun w hw=>crawlwayref10_Right_ok _ _ ht67 w) ?_
       exact at_nil k
      ·intro Lx g86 s K hl hh k
       show At 149 ((97,_)::(99,_)::(3,_)::(5,_)::(6,_)::(7,_)::(8,_)::(10,_)::(12,_)::(13,_)::Lx) _ _
       refine gy ?_
       refine am ?_
       exact at_nil (at_cast h68 k)
      ·intro Lx g86 s K hl hh k
       show At 149 ((100,_)::(3,_)::(5,_)::(6,_)::(7,_)::(8,_)::(10,_)::(12,_)::(13,_)::Lx) _ _
       refine gy ?_
       refine fa 0 underlying24 rfl sizeOf3 ?_
       exact at_nil k
      ·intro Lx g86 s K hl hh k
       show At 149 ((100,_)::(101,_)::(3,_)::(5,_)::(6,_)::(7,_)::(8,_)::(10,_)::(12,_)::(13,_)::Lx) _ _
       refine gy ?_
       obtain rfl:s=0:=by omega
       refine aw (r_load_cell isAgg3 rfl (lens_cell0 (c:=(cInt .i64)) (y:=x1.f_V) (.s (.s (.s .z))) (Lens.comp lw (fun z=>{ x1 with f_V:=z }) (c_api_Addr_f_V x1)) rfl)) ?_
       exact at_nil k
      ·intro Lx g86 s K hl hh k
       show At 149 ((100,_)::(3,_)::(5,_)::(6,_)::(7,_)::(8,_)::(10,_)::(12,_)::(13,_)::Lx) _ _
       refine gy ?_
       refine am ?_
       exact at_nil k
      ·intro Lx g86 s K hl hh k
       show At 149 ((100,_)::(3,_)::(5,_)::(6,_)::(7,_)::(8,_)::(10,_)::(12,_)::(13,_)::Lx) _ _
       refine gy ?_
       refine am ?_
       exact at_nil k
      ·intro Lx g86 s K hl hh k
       show At 149 ((100,_)::(103,_)::(104,_)::(3,_)::(5,_)::(6,_)::(7,_)::(8,_)::(10,_)::(12,_)::(13,_)::Lx) _ _
       refine gy ?_
       refine aw (r_idx underlying43 sizeOf26 rfl rfl h69 hp70) ?_
       exact at_nil k
      ·intro Lx g86 s K hl hh k
       show At 149 ((100,_)::(105,_)::(3,_)::(5,_)::(6,_)::(7,_)::(8,_)::(10,_)::(12,_)::(13,_)::Lx) _ _
       refine gy ?_
       refine fa 0 underlying26 rfl sizeOf24 ?_
       exact at_nil k
      ·intro Lx g86 s K hl hh k
       show At 149 ((100,_)::(106,_)::(3,_)::(5,_)::(6,_)::(7,_)::(8,_)::(10,_)::(12,_)::(13,_)::Lx) _ _
       refine gy ?_
       refine fa 0 underlying24 rfl sizeOf3 ?_
       exact at_nil k
      ·intro Lx g86 s K hl hh k
       show At 149 ((100,_)::(107,_)::(3,_)::(5,_)::(6,_)::(7,_)::(8,_)::(10,_)::(12,_)::(13,_)::Lx) _ _
       refine gy ?_
       obtain rfl:s=0:=by omega
       refine aw (r_load_cell isAgg3 rfl (fun w1 hw=>row_lens0 (y:=((lget t7 i43).f_From).f_V) (W:=fun w1=>w1=_) (fun w1 h=>by subst h;exact Below.refl _ _) (hw.own (.s .z)).row h69 hp70 (Lens.comp (Lens.comp lw (fun z=>{ (lget t7 i43) with f_From:=z }) (c_aggregate_Range_f_From (lget t7 i43))) (fun z=>{ (lget t7 i43).f_From with f_V:=z }) (c_api_Addr_f_V ((lget t7 i43).f_From))) rfl _ rfl)) ?_
       exact at_nil k
      ·intro Lx g86 s K hl hh k
       show At 149 ((100,_)::(102,_)::(108,_)::(3,_)::(5,_)::(6,_)::(7,_)::(8,_)::(10,_)::(12,_)::(13,_)::Lx) _ _
       refine gy ?_
       refine aw xq ?_
       exact at_nil k
      ·intro Lx g86 s K hl hh k
       show At 149 ((97,_)::(100,_)::(109,_)::(3,_)::(5,_)::(6,_)::(7,_)::(8,_)::(10,_)::(12,_)::(13,_)::Lx) _ _
       refine gy ?_
       refine aw xp ?_
       exact at_nil k
      ·intro Lx g86 s K hl hh k
       show At 149 ((97,_)::(110,_)::(3,_)::(5,_)::(6,_)::(7,_)::(8,_)::(10,_)::(12,_)::(13,_)::Lx) _ _
       refine gy ?_
       refine am ?_
       exact at_nil (at_cast h73 k)
      ·intro Lx g86 s K hl hh k
       show At 149 ((111,_)::(3,_)::(5,_)::(6,_)::(7,_)::(8,_)::(10,_)::(12,_)::(13,_)::Lx) _ _
       refine gy ?_
       obtain rfl:s=0:=by omega
       refine aw (r_load_aggc (c:=c_api_Addr) (z:=x1) isAgg24 sizeOf24 rfl (lens_cell (.s (.s (.s .z))) lw)) ?_
       exact at_nil k
      ·intro Lx g86 s K hl hh k
       show At 149 ((111,_)::(3,_)::(5,_)::(6,_)::(7,_)::(8,_)::(10,_)::(12,_)::(13,_)::Lx) _ _
       refine gy ?_
       refine am ?_
       exact at_nil k
      ·intro Lx g86 s K hl hh k
       show At 149 ((111,_)::(3,_)::(5,_)::(6,_)::(7,_)::(8,_)::(10,_)::(12,_)::(13,_)::Lx) _ _
       refine gy ?_
       refine am ?_
       exact at_nil k
      ·intro Lx g86 s K hl hh k
       show At 149 ((111,_)::(113,_)::(114,_)::(3,_)::(5,_)::(6,_)::(7,_)::(8,_)::(10,_)::(12,_)::(13,_)::Lx) _ _
       refine gy ?_
       refine aw (r_idx underlying43 sizeOf26 rfl rfl h74 hp75) ?_
       exact at_nil k
      ·intro Lx g86 s K hl hh k
       show At 149 ((111,_)::(115,_)::(3,_)::(5,_)::(6,_)::(7,_)::(8,_)::(10,_)::(12,_)::(13,_)::Lx) _ _
       refine gy ?_
       refine fa 0 underlying26 rfl sizeOf24 ?_
       exact at_nil k
      ·intro Lx g86 s K hl hh k
       show At 149 ((111,_)::(116,_)::(3,_)::(5,_)::(6,_)::(7,_)::(8,_)::(10,_)::(12,_)::(13,_)::Lx) _ _
       refine gy ?_
       obtain rfl:s=0:=by omega
       refine aw (r_load_aggc (c:=c_api_Addr) (z:=(lget t7 i43).f_From) isAgg24 sizeOf24 rfl (fun w1 hw=>row_lens (y:=(lget t7 i43).f_From) (W:=fun w1=>w1=_) (fun w1 h=>by subst h;exact Below.refl _ _) (hw.own (.s .z)).row h74 hp75 (Lens.comp lw (fun z=>{ (lget t7 i43) with f_From:=z }) (c_aggregate_Range_f_From (lget t7 i43))) _ rfl)) ?_
       exact at_nil k
      ·intro Lx g86 s K hl hh k
       show At 149 ((111,_)::(112,_)::(117,_)::(3,_)::(5,_)::(6,_)::(7,_)::(8,_)::(10,_)::(12,_)::(13,_)::Lx) _ _
       refine gy ?_
       obtain rfl:s=0:=by omega
       refine cB func24 rfl (fun w hw=>crawlwayref10_Less_ok _ _ _ ht78 w) ?_
       exact at_nil k
      ·intro Lx g86 s K hl hh k
       show At 149 ((111,_)::(118,_)::(3,_)::(5,_)::(6,_)::(7,_)::(8,_)::(10,_)::(12,_)::(13,_)::Lx) _ _
       refine gy ?_
       refine aw (r_not rfl) ?_
       exact at_nil k
      ·intro Lx g86 s K hl hh k
       show At 149 ((97,_)::(111,_)::(119,_)::(3,_)::(5,_)::(6,_)::(7,_)::(8,_)::(10,_)::(12,_)::(13,_)::Lx) _ _
       refine gy ?_
       refine aw xp ?_
       exact at_nil k
      ·intro Lx g86 s K hl hh k
       show At 149 ((97,_)::(120,_)::(3,_)::(5,_)::(6,_)::(7,_)::(8,_)::(10,_)::(12,_)::(13,_)::Lx) _ _
       refine gy ?_
       refine am ?_
       exact at_nil (at_cast h79 k)
      ·intro Lx g86 s K hl hh k
       show At 149 ((121,_)::(3,_)::(5,_)::(6,_)::(7,_)::(8,_)::(10,_)::(12,_)::(13,_)::Lx) _ _
       refine gn ?_
       exact at_nil k
      ·intro Lx g86 s K hl hh k
       show At 149 ((121,_)::(3,_)::(5,_)::(6,_)::(7,_)::(8,_)::(10,_)::(12,_)::(13,_)::Lx) _ _
       refine gn ?_
       exact at_nil k
      ·intro Lx g86 s K hl hh k
       show At 149 ((121,_)::(122,_)::(123,_)::(3,_)::(5,_)::(6,_)::(7,_)::(8,_)::(10,_)::(12,_)::(13,_)::Lx) _ _
       refine gn ?_
       exact at_nil k
      ·intro Lx g86 s K hl hh k
       show At 149 ((121,_)::(124,_)::(3,_)::(5,_)::(6,_)::(7,_)::(8,_)::(10,_)::(12,_)::(13,_)::Lx) _ _
       refine gn ?_
       exact at_nil k
      ·intro Lx g86 s K hl hh k
       show At 149 ((121,_)::(125,_)::(3,_)::(5,_)::(6,_)::(7,_)::(8,_)::(10,_)::(12,_)::(13,_)::Lx) _ _
       obtain rfl:s=0:=by omega
       refine gn ?_
       exact at_nil k
      ·intro Lx g86 s K hl hh k
       show At 149 ((121,_)::(3,_)::(5,_)::(6,_)::(7,_)::(8,_)::(10,_)::(12,_)::(13,_)::Lx) _ _
       obtain rfl:s=0:=by omega
       refine gn ?_
       exact at_nil k
      intro g86
      show At 149 [(96,_),(97,_),(98,_),(99,_),(100,_),(101,_),(102,_),(103,_),(104,_),(105,_),(106,_),(107,_),(108,_),(109,_),(110,_),(111,_),(112,_),(113,_),(114,_),(115,_),(116,_),(117,_),(118,_),(119,_),(120,_),(121,_),(122,_),(123,_),(124,_),(125,_),(126,_),(127,_),(3,_),(5,_),(6,_),(7,_),(8,_),(10,_),(12,_),(13,_)] _ _
      refine gn ?_
      refine gn ?_
      refine gy ?_
      refine aw xp (aw xp (aa (qn (wq [13,12,10,8,7,6,5,3] ?_))))
      refine bm ?_
      refine qr (am (aw xa (aa (nwq [13,12,10,8,7,6,5,3] ?_))))
      exact at_weak_k (ih _ _ _ hF K) ⟨rfl,rfl,rfl,rfl,rfl,rfl,rfl,rfl,trivial⟩
     skip
     refine at_invT [.q 96 (fun g87=>.bool i42) [] 0 0,.q 97 (fun g87=>.bool false) [0] 0 0,.q 98 (fun g87=>.agg (Cd.cs c_api_Addr x1).toArray) [1] 0 0,.q 99 (fun g87=>.bool t67) [1,2] 0 0,.q 100 (fun g87=>.bool true) [1,3] 0 0,.q 101 (fun g87=>.pointer (some ⟨b1,0+0,none⟩)) [4] 0 0,.q 102 (fun g87=>.int .i64 x1.f_V) [4,5] 0 0,.q 103 (fun g87=>.slice p8 t7.length c9) [4] 0 0,.q 104 (fun g87=>.int .i64 i43) [4] 0 0,.q 105 (fun g87=>.pointer (some ⟨b71,o72+Int.toNat i43*34,none⟩)) [4,7,8] 0 0,.q 106 (fun g87=>.pointer (some ⟨b71,o72+Int.toNat i43*34+0,none⟩)) [4,9] 0 0,.q 107 (fun g87=>.pointer (some ⟨b71,o72+Int.toNat i43*34+0+0,none⟩)) [4,10] 0 0,.q 108 (fun g87=>.int .i64 (((lget t7 i43).f_From).f_V)) [4,11] 0 0,.q 109 (fun g87=>.bool (x1.f_V==((lget t7 i43).f_From).f_V)) [4,6,12] 0 0,.q 110 (fun g87=>.bool (x1.f_V==((lget t7 i43).f_From).f_V)) [1,4,13] 0 0,.q 111 (fun g87=>.bool false) [1,14] 0 0,.q 112 (fun g87=>undef) [15] 0 0,.q 113 (fun g87=>undef) [15] 0 0,.q 114 (fun g87=>undef) [15] 0 0,.q 115 (fun g87=>undef) [15,17,18] 0 0,.q 116 (fun g87=>undef) [15,19] 0 0,.q 117 (fun g87=>undef) [15,20] 0 0,.q 118 (fun g87=>undef) [15,16,21] 0 0,.q 119 (fun g87=>undef) [15,22] 0 0,.q 120 (fun g87=>.bool false) [1,15,23] 0 0,.q 121 (fun g87=>.bool false) [1,24] 0 0,.q 122 (fun g87=>undef) [25] 0 0,.q 123 (fun g87=>undef) [25] 0 0,.q 124 (fun g87=>undef) [25,26,27] 0 0,.q 125 (fun g87=>undef) [25,28] 0 0,.q 126 (fun g87=>undef) [25,29] 0 0,.q 127 (fun g87=>undef) [25] 0 0] (fun g87 s=>match s with | _=>(Wd w [rowE (cVec c_api_Addr 2 (by decide)) 48 p11 c12 t10,rowE c_aggregate_Range 26 p8 c9 t7,rowE c_api_Prefix 37 p5 c6 t4,cellsE b1 (Cd.cs c_api_Addr x1) 24])) 0 32 (by kernel_rfl) (by kernel_rfl) (by kernel_rfl) (by kernel_rfl) (by kernel_rfl) (by kernel_rfl) ⟨fun _ _ _=>rfl,fun _ _ _=>rfl,fun _ _ _=>rfl,fun _ _ _=>rfl,fun _ _ _=>rfl,fun _ _ _=>rfl,fun _ _ _=>rfl,fun _ _ _=>rfl,fun _ _ _=>rfl,fun _ _ _=>rfl,fun _ _ _=>rfl,fun _ _ _=>rfl,fun _ _ _=>rfl,fun _ _ _=>rfl,fun _ _ _=>rfl,fun _ _ _=>rfl,fun _ _ _=>rfl,fun _ _ _=>rfl,fun _ _ _=>rfl,fun _ _ _=>rfl,fun _ _ _=>rfl,fun _ _ _=>rfl,fun _ _ _=>rfl,fun _ _ _=>rfl,fun _ _ _=>rfl,fun _ _ _=>rfl,fun _ _ _=>rfl,fun _ _ _=>rfl,fun _ _ _=>rfl,fun _ _ _=>rfl,fun _ _ _=>rfl,fun _ _ _=>rfl,trivial⟩ (by kernel_rfl) (fun w_ h=>⟨fun _=>g3 0 none 0 none w_,h.drew⟩) ⟨?_,?_,?_,?_,?_,?_,?_,?_,?_,?_,?_,?_,?_,?_,?_,?_,?_,?_,?_,?_,?_,?_,?_,?_,?_,?_,?_,?_,?_,?_,?_,?_,trivial⟩ ?_
     ·intro Lx g87 s K hl hh k
      show At 149 ((3,_)::(5,_)::(6,_)::(7,_)::(8,_)::(10,_)::(12,_)::(13,_)::Lx) _ _
      refine am ?_
      exact at_nil k
     ·intro Lx g87 s K hl hh k
      show At 149 ((96,_)::(3,_)::(5,_)::(6,_)::(7,_)::(8,_)::(10,_)::(12,_)::(13,_)::Lx) _ _
      refine am ?_
      exact at_nil (at_cast h65 k)
     ·intro Lx g87 s K hl hh k
      show At 149 ((97,_)::(3,_)::(5,_)::(6,_)::(7,_)::(8,_)::(10,_)::(12,_)::(13,_)::Lx) _ _
      refine gy ?_
      obtain rfl:s=0:=by omega
      refine aw (r_load_aggc (c:=c_api_Addr) (z:=x1) isAgg24 sizeOf24 rfl (lens_cell (.s (.s (.s .z))) lw)) ?_
      exact at_nil k
     ·intro Lx g87 s K hl hh k
      show At 149 ((97,_)::(98,_)::(3,_)::(5,_)::(6,_)::(7,_)::(8,_)::(10,_)::(12,_)::(13,_)::Lx) _ _
      refine gy ?_
      obtain rfl:s=0:=by omega
      refine cB func23 rfl (fun w hw=>crawlwayref10_Right_ok _ _ ht67 w) ?_
      exact at_nil k
     ·intro Lx g87 s K hl hh k
      show At 149 ((97,_)::(99,_)::(3,_)::(5,_)::(6,_)::(7,_)::(8,_)::(10,_)::(12,_)::(13,_)::Lx) _ _
      refine gy ?_
      refine am ?_
      exact at_nil (at_cast h68 k)
     ·intro Lx g87 s K hl hh k
      show At 149 ((100,_)::(3,_)::(5,_)::(6,_)::(7,_)::(8,_)::(10,_)::(12,_)::(13,_)::Lx) _ _
      refine gy ?_
      refine fa 0 underlying24 rfl sizeOf3 ?_
      exact at_nil k
     ·intro Lx g87 s K hl hh k
      show At 149 ((100,_)::(101,_)::(3,_)::(5,_)::(6,_)::(7,_)::(8,_)::(10,_)::(12,_)::(13,_)::Lx) _ _
      refine gy ?_
      obtain rfl:s=0:=by omega
      refine aw (r_load_cell isAgg3 rfl (lens_cell0 (c:=(cInt .i64)) (y:=x1.f_V) (.s (.s (.s .z))) (Lens.comp lw (fun z=>{ x1 with f_V:=z }) (c_api_Addr_f_V x1)) rfl)) ?_
      exact at_nil k
     ·intro Lx g87 s K hl hh k
      show At 149 ((100,_)::(3,_)::(5,_)::(6,_)::(7,_)::(8,_)::(10,_)::(12,_)::(13,_)::Lx) _ _
      refine gy ?_
      refine am ?_
      exact at_nil k
     ·intro Lx g87 s K hl hh k
      show At 149 ((100,_)::(3,_)::(5,_)::(6,_)::(7,_)::(8,_)::(10,_)::(12,_)::(13,_)::Lx) _ _
      refine gy ?_
      refine am ?_
      exact at_nil k
     ·intro Lx g87 s K hl hh k
      show At 149 ((100,_)::(103,_)::(104,_)::(3,_)::(5,_)::(6,_)::(7,_)::(8,_)::(10,_)::(12,_)::(13,_)::Lx) _ _
      refine gy ?_
      refine aw (r_idx underlying43 sizeOf26 rfl rfl h69 hp70) ?_
      exact at_nil k
     ·intro Lx g87 s K hl hh k
      show At 149 ((100,_)::(105,_)::(3,_)::(5,_)::(6,_)::(7,_)::(8,_)::(10,_)::(12,_)::(13,_)::Lx) _ _
      refine gy ?_
      refine fa 0 underlying26 rfl sizeOf24 ?_
      exact at_nil k
     ·intro Lx g87 s K hl hh k
      show At 149 ((100,_)::(106,_)::(3,_)::(5,_)::(6,_)::(7,_)::(8,_)::(10,_)::(12,_)::(13,_)::Lx) _ _
      refine gy ?_
      refine fa 0 underlying24 rfl sizeOf3 ?_
      exact at_nil k
     ·intro Lx g87 s K hl hh k
      show At 149 ((100,_)::(107,_)::(3,_)::(5,_)::(6,_)::(7,_)::(8,_)::(10,_)::(12,_)::(13,_)::Lx) _ _
      refine gy ?_
      obtain rfl:s=0:=by omega
      refine aw (r_load_cell isAgg3 rfl (fun w1 hw=>row_lens0 (y:=((lget t7 i43).f_From).f_V) (W:=fun w1=>w1=_) (fun w1 h=>by subst h;exact Below.refl _ _) (hw.own (.s .z)).row h69 hp70 (Lens.comp (Lens.comp lw (fun z=>{ (lget t7 i43) with f_From:=z }) (c_aggregate_Range_f_From (lget t7 i43))) (fun z=>{ (lget t7 i43).f_From with f_V:=z }) (c_api_Addr_f_V ((lget t7 i43).f_From))) rfl _ rfl)) ?_
      exact at_nil k
     ·intro Lx g87 s K hl hh k
      show At 149 ((100,_)::(102,_)::(108,_)::(3,_)::(5,_)::(6,_)::(7,_)::(8,_)::(10,_)::(12,_)::(13,_)::Lx) _ _
      refine gy ?_
      refine aw xq ?_
      exact at_nil k
     ·intro Lx g87 s K hl hh k
      show At 149 ((97,_)::(100,_)::(109,_)::(3,_)::(5,_)::(6,_)::(7,_)::(8,_)::(10,_)::(12,_)::(13,_)::Lx) _ _
      refine gy ?_
      refine aw xp ?_
      exact at_nil k
     ·intro Lx g87 s K hl hh k
      show At 149 ((97,_)::(110,_)::(3,_)::(5,_)::(6,_)::(7,_)::(8,_)::(10,_)::(12,_)::(13,_)::Lx) _ _
      refine gy ?_
      refine am ?_
      exact at_nil (at_cast h73 k)
     ·intro Lx g87 s K hl hh k
      show At 149 ((111,_)::(3,_)::(5,_)::(6,_)::(7,_)::(8,_)::(10,_)::(12,_)::(13,_)::Lx) _ _
      obtain rfl:s=0:=by omega
      refine gn ?_
      exact at_nil k
     ·intro Lx g87 s K hl hh k
      show At 149 ((111,_)::(3,_)::(5,_)::(6,_)::(7,_)::(8,_)::(10,_)::(12,_)::(13,_)::Lx) _ _
      refine gn ?_
      exact at_nil k
     ·intro Lx g87 s K hl hh k
      show At 149 ((111,_)::(3,_)::(5,_)::(6,_)::(7,_)::(8,_)::(10,_)::(12,_)::(13,_)::Lx) _ _
      refine gn ?_
      exact at_nil k
     ·intro Lx g87 s K hl hh k
      show At 149 ((111,_)::(113,_)::(114,_)::(3,_)::(5,_)::(6,_)::(7,_)::(8,_)::(10,_)::(12,_)::(13,_)::Lx) _ _
      refine gn ?_
      exact at_nil k
     ·intro Lx g87 s K hl hh k
      show At 149 ((111,_)::(115,_)::(3,_)::(5,_)::(6,_)::(7,_)::(8,_)::(10,_)::(12,_)::(13,_)::Lx) _ _
      refine gn ?_
      exact at_nil k
     ·intro Lx g87 s K hl hh k
      show At 149 ((111,_)::(116,_)::(3,_)::(5,_)::(6,_)::(7,_)::(8,_)::(10,_)::(12,_)::(13,_)::Lx) _ _
      obtain rfl:s=0:=by omega
      refine gn ?_
      exact at_nil k
     ·intro Lx g87 s K hl hh k
      show At 149 ((111,_)::(112,_)::(117,_)::(3,_)::(5,_)::(6,_)::(7,_)::(8,_)::(10,_)::(12,_)::(13,_)::Lx) _ _
      obtain rfl:s=0:=by omega
      refine gn ?_
      exact at_nil k
     ·intro Lx g87 s K hl hh k
      show At 149 ((111,_)::(118,_)::(3,_)::(5,_)::(6,_)::(7,_)::(8,_)::(10,_)::(12,_)::(13,_)::Lx) _ _
      refine gn ?_
      exact at_nil k
     ·intro Lx g87 s K hl hh k
      show At 149 ((97,_)::(111,_)::(119,_)::(3,_)::(5,_)::(6,_)::(7,_)::(8,_)::(10,_)::(12,_)::(13,_)::Lx) _ _
      refine gy ?_
      refine aw xp ?_
      exact at_nil k
     ·intro Lx g87 s K hl hh k
      show At 149 ((97,_)::(120,_)::(3,_)::(5,_)::(6,_)::(7,_)::(8,_)::(10,_)::(12,_)::(13,_)::Lx) _ _
      refine gy ?_
      refine am ?_
      exact at_nil k
     ·intro Lx g87 s K hl hh k
      show At 149 ((121,_)::(3,_)::(5,_)::(6,_)::(7,_)::(8,_)::(10,_)::(12,_)::(13,_)::Lx) _ _
      refine gn ?_
      exact at_nil k
     ·intro Lx g87 s K hl hh k
      show At 149 ((121,_)::(3,_)::(5,_)::(6,_)::(7,_)::(8,_)::(10,_)::(12,_)::(13,_)::Lx) _ _
      refine gn ?_
      exact at_nil k
     ·intro Lx g87 s K hl hh k
      show At 149 ((121,_)::(122,_)::(123,_)::(3,_)::(5,_)::(6,_)::(7,_)::(8,_)::(10,_)::(12,_)::(13,_)::Lx) _ _
      refine gn ?_
      exact at_nil k
     ·intro Lx g87 s K hl hh k
      show At 149 ((121,_)::(124,_)::(3,_)::(5,_)::(6,_)::(7,_)::(8,_)::(10,_)::(12,_)::(13,_)::Lx) _ _
      refine gn ?_
      exact at_nil k
     ·intro Lx g87 s K hl hh k
      show At 149 ((121,_)::(125,_)::(3,_)::(5,_)::(6,_)::(7,_)::(8,_)::(10,_)::(12,_)::(13,_)::Lx) _ _
      obtain rfl:s=0:=by omega
      refine gn ?_
      exact at_nil k
     ·intro Lx g87 s K hl hh k
      show At 149 ((121,_)::(3,_)::(5,_)::(6,_)::(7,_)::(8,_)::(10,_)::(12,_)::(13,_)::Lx) _ _
      obtain rfl:s=0:=by omega
      refine gn ?_
      exact at_nil k
     intro g87
     show At 149 [(96,_),(97,_),(98,_),(99,_),(100,_),(101,_),(102,_),(103,_),(104,_),(105,_),(106,_),(107,_),(108,_),(109,_),(110,_),(111,_),(112,_),(113,_),(114,_),(115,_),(116,_),(117,_),(118,_),(119,_),(120,_),(121,_),(122,_),(123,_),(124,_),(125,_),(126,_),(127,_),(3,_),(5,_),(6,_),(7,_),(8,_),(10,_),(12,_),(13,_)] _ _
     refine gn ?_
     refine gn ?_
     refine gy ?_
     refine aw xp (aw xp (aa (qn (wq [13,12,10,8,7,6,5,3] ?_))))
     refine bm ?_
     refine qr (am (aw xa (aa (nwq [13,12,10,8,7,6,5,3] ?_))))
     exact at_weak_k (ih _ _ _ hF K) ⟨rfl,rfl,rfl,rfl,rfl,rfl,rfl,rfl,trivial⟩
    skip
    refine at_invT [.q 96 (fun g88=>.bool i42) [] 0 0,.q 97 (fun g88=>.bool false) [0] 0 0,.q 98 (fun g88=>.agg (Cd.cs c_api_Addr x1).toArray) [1] 0 0,.q 99 (fun g88=>.bool t67) [1,2] 0 0,.q 100 (fun g88=>.bool false) [1,3] 0 0,.q 101 (fun g88=>undef) [4] 0 0,.q 102 (fun g88=>undef) [4,5] 0 0,.q 103 (fun g88=>undef) [4] 0 0,.q 104 (fun g88=>undef) [4] 0 0,.q 105 (fun g88=>undef) [4,7,8] 0 0,.q 106 (fun g88=>undef) [4,9] 0 0,.q 107 (fun g88=>undef) [4,10] 0 0,.q 108 (fun g88=>undef) [4,11] 0 0,.q 109 (fun g88=>undef) [4,6,12] 0 0,.q 110 (fun g88=>.bool false) [1,4,13] 0 0,.q 111 (fun g88=>.bool false) [1,14] 0 0,.q 112 (fun g88=>undef) [15] 0 0,.q 113 (fun g88=>undef) [15] 0 0,.q 114 (fun g88=>undef) [15] 0 0,.q 115 (fun g88=>undef) [15,17,18] 0 0,.q 116 (fun g88=>undef) [15,19] 0 0,.q 117 (fun g88=>undef) [15,20] 0 0,.q 118 (fun g88=>undef) [15,16,21] 0 0,.q 119 (fun g88=>undef) [15,22] 0 0,.q 120 (fun g88=>.bool false) [1,15,23] 0 0,.q 121 (fun g88=>.bool false) [1,24] 0 0,.q 122 (fun g88=>undef) [25] 0 0,.q 123 (fun g88=>undef) [25] 0 0,.q 124 (fun g88=>undef) [25,26,27] 0 0,.q 125 (fun g88=>undef) [25,28] 0 0,.q 126 (fun g88=>undef) [25,29] 0 0,.q 127 (fun g88=>undef) [25] 0 0] (fun g88 s=>match s with | _=>(Wd w [rowE (cVec c_api_Addr 2 (by decide)) 48 p11 c12 t10,rowE c_aggregate_Range 26 p8 c9 t7,rowE c_api_Prefix 37 p5 c6 t4,cellsE b1 (Cd.cs c_api_Addr x1) 24])) 0 32 (by kernel_rfl) (by kernel_rfl) (by kernel_rfl) (by kernel_rfl) (by kernel_rfl) (by kernel_rfl) ⟨fun _ _ _=>rfl,fun _ _ _=>rfl,fun _ _ _=>rfl,fun _ _ _=>rfl,fun _ _ _=>rfl,fun _ _ _=>rfl,fun _ _ _=>rfl,fun _ _ _=>rfl,fun _ _ _=>rfl,fun _ _ _=>rfl,fun _ _ _=>rfl,fun _ _ _=>rfl,fun _ _ _=>rfl,fun _ _ _=>rfl,fun _ _ _=>rfl,fun _ _ _=>rfl,fun _ _ _=>rfl,fun _ _ _=>rfl,fun _ _ _=>rfl,fun _ _ _=>rfl,fun _ _ _=>rfl,fun _ _ _=>rfl,fun _ _ _=>rfl,fun _ _ _=>rfl,fun _ _ _=>rfl,fun _ _ _=>rfl,fun _ _ _=>rfl,fun _ _ _=>rfl,fun _ _ _=>rfl,fun _ _ _=>rfl,fun _ _ _=>rfl,fun _ _ _=>rfl,trivial⟩ (by kernel_rfl) (fun w_ h=>⟨fun _=>g3 0 none 0 none w_,h.drew⟩) ⟨?_,?_,?_,?_,?_,?_,?_,?_,?_,?_,?_,?_,?_,?_,?_,?_,?_,?_,?_,?_,?_,?_,?_,?_,?_,?_,?_,?_,?_,?_,?_,?_,trivial⟩ ?_
    ·intro Lx g88 s K hl hh k
     show At 149 ((3,_)::(5,_)::(6,_)::(7,_)::(8,_)::(10,_)::(12,_)::(13,_)::Lx) _ _
     refine am ?_
     exact at_nil k
    ·intro Lx g88 s K hl hh k
     show At 149 ((96,_)::(3,_)::(5,_)::(6,_)::(7,_)::(8,_)::(10,_)::(12,_)::(13,_)::Lx) _ _
     refine am ?_
     exact at_nil (at_cast h65 k)
    ·intro Lx g88 s K hl hh k
     show At 149 ((97,_)::(3,_)::(5,_)::(6,_)::(7,_)::(8,_)::(10,_)::(12,_)::(13,_)::Lx) _ _
     refine gy ?_
     obtain rfl:s=0:=by omega
     refine aw (r_load_aggc (c:=c_api_Addr) (z:=x1) isAgg24 sizeOf24 rfl (lens_cell (.s (.s (.s .z))) lw)) ?_
     exact at_nil k
    ·intro Lx g88 s K hl hh k
     show At 149 ((97,_)::(98,_)::(3,_)::(5,_)::(6,_)::(7,_)::(8,_)::(10,_)::(12,_)::(13,_)::Lx) _ _
     refine gy ?_
     obtain rfl:s=0:=by omega
     refine cB func23 rfl (fun w hw=>crawlwayref10_Right_ok _ _ ht67 w) ?_
     exact at_nil k
    ·intro Lx g88 s K hl hh k
     show At 149 ((97,_)::(99,_)::(3,_)::(5,_)::(6,_)::(7,_)::(8,_)::(10,_)::(12,_)::(13,_)::Lx) _ _
     refine gy ?_
     refine am ?_
     exact at_nil (at_cast h68 k)
    ·intro Lx g88 s K hl hh k
     show At 149 ((100,_)::(3,_)::(5,_)::(6,_)::(7,_)::(8,_)::(10,_)::(12,_)::(13,_)::Lx) _ _
     refine gn ?_
     exact at_nil k
    ·intro Lx g88 s K hl hh k
     show At 149 ((100,_)::(101,_)::(3,_)::(5,_)::(6,_)::(7,_)::(8,_)::(10,_)::(12,_)::(13,_)::Lx) _ _
     obtain rfl:s=0:=by omega
     refine gn ?_
     exact at_nil k
    ·intro Lx g88 s K hl hh k
     show At 149 ((100,_)::(3,_)::(5,_)::(6,_)::(7,_)::(8,_)::(10,_)::(12,_)::(13,_)::Lx) _ _
     refine gn ?_
     exact at_nil k
    ·intro Lx g88 s K hl hh k
     show At 149 ((100,_)::(3,_)::(5,_)::(6,_)::(7,_)::(8,_)::(10,_)::(12,_)::(13,_)::Lx) _ _
     refine gn ?_
     exact at_nil k
    ·intro Lx g88 s K hl hh k
     show At 149 ((100,_)::(103,_)::(104,_)::(3,_)::(5,_)::(6,_)::(7,_)::(8,_)::(10,_)::(12,_)::(13,_)::Lx) _ _
     refine gn ?_
     exact at_nil k
    ·intro Lx g88 s K hl hh k
     show At 149 ((100,_)::(105,_)::(3,_)::(5,_)::(6,_)::(7,_)::(8,_)::(10,_)::(12,_)::(13,_)::Lx) _ _
     refine gn ?_
     exact at_nil k
    ·intro Lx g88 s K hl hh k
     show At 149 ((100,_)::(106,_)::(3,_)::(5,_)::(6,_)::(7,_)::(8,_)::(10,_)::(12,_)::(13,_)::Lx) _ _
     refine gn ?_
     exact at_nil k
    ·intro Lx g88 s K hl hh k
     show At 149 ((100,_)::(107,_)::(3,_)::(5,_)::(6,_)::(7,_)::(8,_)::(10,_)::(12,_)::(13,_)::Lx) _ _
     obtain rfl:s=0:=by omega
     refine gn ?_
     exact at_nil k
    ·intro Lx g88 s K hl hh k
     show At 149 ((100,_)::(102,_)::(108,_)::(3,_)::(5,_)::(6,_)::(7,_)::(8,_)::(10,_)::(12,_)::(13,_)::Lx) _ _
     refine gn ?_
     exact at_nil k
    ·intro Lx g88 s K hl hh k
     show At 149 ((97,_)::(100,_)::(109,_)::(3,_)::(5,_)::(6,_)::(7,_)::(8,_)::(10,_)::(12,_)::(13,_)::Lx) _ _
     refine gy ?_
     refine aw xp ?_
     exact at_nil k
    ·intro Lx g88 s K hl hh k
     show At 149 ((97,_)::(110,_)::(3,_)::(5,_)::(6,_)::(7,_)::(8,_)::(10,_)::(12,_)::(13,_)::Lx) _ _
     refine gy ?_
     refine am ?_
     exact at_nil k
    ·intro Lx g88 s K hl hh k
     show At 149 ((111,_)::(3,_)::(5,_)::(6,_)::(7,_)::(8,_)::(10,_)::(12,_)::(13,_)::Lx) _ _
     obtain rfl:s=0:=by omega
     refine gn ?_
     exact at_nil k
    ·intro Lx g88 s K hl hh k
     show At 149 ((111,_)::(3,_)::(5,_)::(6,_)::(7,_)::(8,_)::(10,_)::(12,_)::(13,_)::Lx) _ _
     refine gn ?_
     exact at_nil k
    ·intro Lx g88 s K hl hh k
     show At 149 ((111,_)::(3,_)::(5,_)::(6,_)::(7,_)::(8,_)::(10,_)::(12,_)::(13,_)::Lx) _ _
     refine gn ?_
     exact at_nil k
    ·intro Lx g88 s K hl hh k
     show At 149 ((111,_)::(113,_)::(114,_)::(3,_)::(5,_)::(6,_)::(7,_)::(8,_)::(10,_)::(12,_)::(13,_)::Lx) _ _
     refine gn ?_
     exact at_nil k
    ·intro Lx g88 s K hl hh k
     show At 149 ((111,_)::(115,_)::(3,_)::(5,_)::(6,_)::(7,_)::(8,_)::(10,_)::(12,_)::(13,_)::Lx) _ _
     refine gn ?_
     exact at_nil k
    ·intro Lx g88 s K hl hh k
     show At 149 ((111,_)::(116,_)::(3,_)::(5,_)::(6,_)::(7,_)::(8,_)::(10,_)::(12,_)::(13,_)::Lx) _ _
     obtain rfl:s=0:=by omega
     refine gn ?_
     exact at_nil k
    ·intro Lx g88 s K hl hh k
     show At 149 ((111,_)::(112,_)::(117,_)::(3,_)::(5,_)::(6,_)::(7,_)::(8,_)::(10,_)::(12,_)::(13,_)::Lx) _ _
     obtain rfl:s=0:=by omega
     refine gn ?_
     exact at_nil k
    ·intro Lx g88 s K hl hh k
     show At 149 ((111,_)::(118,_)::(3,_)::(5,_)::(6,_)::(7,_)::(8,_)::(10,_)::(12,_)::(13,_)::Lx) _ _
     refine gn ?_
     exact at_nil k
    ·intro Lx g88 s K hl hh k
     show At 149 ((97,_)::(111,_)::(119,_)::(3,_)::(5,_)::(6,_)::(7,_)::(8,_)::(10,_)::(12,_)::(13,_)::Lx) _ _
     refine gy ?_
     refine aw xp ?_
     exact at_nil k
    ·intro Lx g88 s K hl hh k
     show At 149 ((97,_)::(120,_)::(3,_)::(5,_)::(6,_)::(7,_)::(8,_)::(10,_)::(12,_)::(13,_)::Lx) _ _
     refine gy ?_
     refine am ?_
     exact at_nil k
    ·intro Lx g88 s K hl hh k
     show At 149 ((121,_)::(3,_)::(5,_)::(6,_)::(7,_)::(8,_)::(10,_)::(12,_)::(13,_)::Lx) _ _
     refine gn ?_
     exact at_nil k
    ·intro Lx g88 s K hl hh k
     show At 149 ((121,_)::(3,_)::(5,_)::(6,_)::(7,_)::(8,_)::(10,_)::(12,_)::(13,_)::Lx) _ _
     refine gn ?_
     exact at_nil k
    ·intro Lx g88 s K hl hh k
     show At 149 ((121,_)::(122,_)::(123,_)::(3,_)::(5,_)::(6,_)::(7,_)::(8,_)::(10,_)::(12,_)::(13,_)::Lx) _ _
     refine gn ?_
     exact at_nil k
    ·intro Lx g88 s K hl hh k
     show At 149 ((121,_)::(124,_)::(3,_)::(5,_)::(6,_)::(7,_)::(8,_)::(10,_)::(12,_)::(13,_)::Lx) _ _
     refine gn ?_
     exact at_nil k
    ·intro Lx g88 s K hl hh k
     show At 149 ((121,_)::(125,_)::(3,_)::(5,_)::(6,_)::(7,_)::(8,_)::(10,_)::(12,_)::(13,_)::Lx) _ _
     obtain rfl:s=0:=by omega
     refine gn ?_
     exact at_nil k
    ·intro Lx g88 s K hl hh k
     show At 149 ((121,_)::(3,_)::(5,_)::(6,_)::(7,_)::(8,_)::(10,_)::(12,_)::(13,_)::Lx) _ _
     obtain rfl:s=0:=by omega
     refine gn ?_
     exact at_nil k
    intro g88
    show At 149 [(96,_),(97,_),(98,_),(99,_),(100,_),(101,_),(102,_),(103,_),(104,_),(105,_),(106,_),(107,_),(108,_),(109,_),(110,_),(111,_),(112,_),(113,_),(114,_),(115,_),(116,_),(117,_),(118,_),(119,_),(120,_),(121,_),(122,_),(123,_),(124,_),(125,_),(126,_),(127,_),(3,_),(5,_),(6,_),(7,_),(8,_),(10,_),(12,_),(13,_)] _ _
    refine gn ?_
    refine gn ?_
    refine gy ?_
    refine aw xp (aw xp (aa (qn (wq [13,12,10,8,7,6,5,3] ?_))))
    refine bm ?_
    refine qr (am (aw xa (aa (nwq [13,12,10,8,7,6,5,3] ?_))))
    exact at_weak_k (ih _ _ _ hF K) ⟨rfl,rfl,rfl,rfl,rfl,rfl,rfl,rfl,trivial⟩
   refine cf h44 ?_
   refine at_exit ?_
   refine te (te ?_)
   refine dz (dz ?_)
   refine at_drop (H:=_) (.s .z) ?_
   obtain rfl:=os hF
   exact at_weak_k K ⟨rfl,rfl,rfl,rfl,trivial⟩
 cases q41 with
 | ret r'=>exact os hF
 | nx sq41 =>
  skip
  refine at_blk_same ?_
  refine tn (sr (am (am ?_)))
  refine aw (r_bool underlying4 rfl rfl (.inl rfl) rfl) ?_
  refine am ?_
  obtain ⟨h89,hF⟩|⟨h89,hF⟩:=oi hF
  ·refine fx 135 h89 ?_
   refine gy ?_
   refine am ?_
   refine gy ?_
   refine am ?_
   refine gy ?_
   refine aw (r_bool underlying4 rfl rfl (.inl rfl) rfl) ?_
   refine aw xp (am ?_)
   obtain ⟨h90,hF⟩|⟨h90,hF⟩:=oi hF
   ·refine fx 140 h90 ?_
    refine gy ?_
    refine am ?_
    refine gy ?_
    obtain ⟨t91,ht91,hF⟩:=bM hF
    refine at_callO (c:=c_api_Prefix) (e:=37) (ys:=t91) (V:=fun p cap=>.slice p t91.length cap) func18 rfl (by kernel_rfl) rfl rfl (fun w hw=>aggregate_Cover_ok _ _ _ _ ht91 w (hw.own .z).row) ?_
    intro p92 c93
    refine gy ?_
    refine am ?_
    refine gy ?_
    obtain ⟨t94,ht94,hF⟩:=bM hF
    refine cB func11 rfl (fun w hw=>crawlwayref11_Same_ok _ _ _ _ _ _ _ ht94 w (hw.own .z).row (hw.own (.s .z)).row) ?_
    refine aw xp (am ?_)
    obtain ⟨h95,hF⟩|⟨h95,hF⟩:=oi hF
    ·refine fx 146 h95 ?_
     refine gy ?_
     obtain ⟨t96,ht96,hF⟩:=bM hF
     refine cB func13 rfl (fun w hw=>crawlwaylaw53_alive_ok  _ ht96 w) ?_
     refine aw xp (aa (qn (dz (dz (wq [4] ?_)))))
     refine tn (qt ?_)
     have K:=os hF
     subst K
     exact r1 wb
    ·refine fx 146 h95 ?_
     refine gn ?_
     refine aw xp (aa (qn (dz (dz (wq [4] ?_)))))
     refine tn (qt ?_)
     have K:=os hF
     subst K
     exact r1 wb
   ·refine fx 140 h90 ?_
    refine gn ?_
    refine gn ?_
    refine gn ?_
    refine gn ?_
    refine aw xp (am ?_)
    refine gn ?_
    refine aw xp (aa (qn (dz (wq [4] ?_))))
    refine tn (qt ?_)
    have K:=os hF
    subst K
    exact r1 wb
  ·refine fx 135 h89 ?_
   refine gn ?_
   refine gn ?_
   refine gn ?_
   refine aw xp (am ?_)
   refine gn ?_
   refine gn ?_
   refine gn ?_
   refine gn ?_
   refine aw xp (am ?_)
   refine gn ?_
   refine aw xp (aa (qn (dz (wq [4] ?_))))
   refine tn (qt ?_)
   have K:=os hF
   subst K
   exact r1 wb
end Go.Proofs.Ytahlbjmafceoeaa
namespace Go.Proofs.Ytahlbjmafceoeaa.Agg
open E Go.RowKit Adr Cid
theorem had_loop(a:S_api_Addr)(p:S_api_Prefix→Bool):∀ (B A:List S_api_Prefix) (b:Bool),(∀ x∈B,crawlwayref11_Has x a=some (p x))→(A++B).length≤1000000 →
  crawlwaylaw53_AggregateCovers.l0 (A++B) a b (A.length:Int)=some (b||B.any p)∧crawlwaylaw53_AggregateCovers.l1 a (A++B) b (A.length:Int)=some (b||B.any p)
 | [],A,b,hp,hn=>by
  rw [crawlwaylaw53_AggregateCovers.l0.eq_def,crawlwaylaw53_AggregateCovers.l1.eq_def,not_lt_end,if_neg Bool.false_ne_true,if_neg Bool.false_ne_true,List.any_nil,Bool.or_false];exact ⟨rfl,rfl⟩
 | y::B,A,b,hp,hn=>by
  have e:A++y::B=(A++[y])++B:=by simp
  have hwi:wr .i64 ((A.length:Int)+1)=((A++[y]).length:Int):=wr_mid A y (by simp at hn;omega)
  have ih:=fun c=>had_loop a p B (A++[y]) c (fun x hx=>hp x (List.mem_cons_of_mem _ hx)) (by rw [←e];exact hn)
  rw [crawlwaylaw53_AggregateCovers.l0.eq_def,crawlwaylaw53_AggregateCovers.l1.eq_def,decide_eq_true (in_mid A y B).2,if_pos rfl,if_pos rfl,hwi,if_pos (in_mid A y B),if_pos (in_mid A y B),lget_mid,hp y (List.mem_cons_self ..),bindM_some,bindM_some,e]
  cases b with
  | true =>
   rw [if_pos rfl,if_pos rfl,(ih true).1,(ih true).2]
   exact ⟨rfl,rfl⟩
  | false =>
   rw [if_neg Bool.false_ne_true,if_neg Bool.false_ne_true,(ih (p y)).1,(ih (p y)).2,List.any_cons]
   exact ⟨rfl,rfl⟩
theorem in_loop(a:S_api_Addr)(q:Rg→Bool)(ra:Bool)(hra:crawlwayref10_Right a=some ra)(rs:List Rg)(hn:rs.length≤1000000)
  (hq:∀ r∈rs,(ra=false→q r=false)∧(ra=true→(a.f_V≠r.1→q r=false)∧(a.f_V=r.1→∃ l g,crawlwayref10_Less a (adr r.1 r.2.1)=some l∧crawlwayref10_Less (adr r.1 r.2.2) a=some g∧q r=(!l&&!g)))):∀ (B A:List Rg) (b:Bool),rs=A++B →
  crawlwaylaw53_AggregateCovers.l2 a (rs.map toR) (rs.map toV) b (A.length:Int)=some (.nx (b||B.any q))
 | [],A,b,hx=>by
  have hd:decide ((A.length:Int)<((rs.map toR).length:Int))=false:=decide_eq_false (by rw [hx];simp)
  rw [crawlwaylaw53_AggregateCovers.l2.eq_def,hd,if_neg Bool.false_ne_true,List.any_nil,Bool.or_false]
 | r::B,A,b,hx=>by
  have hr:r∈rs:=by rw [hx];simp
  obtain ⟨q1,q2⟩:=hq r hr
  have hSl:rs.length=A.length+(B.length+1):=by rw [hx];simp
  have hin:(0:Int)≤(A.length:Int)∧(A.length:Int)<((rs.map toR).length:Int):=by rw [List.length_map];omega
  have hin2:(0:Int)≤(A.length:Int)∧(A.length:Int)<((rs.map toV).length:Int):=by rw [List.length_map];omega
  have hg:lget (rs.map toR) (A.length:Int)=toR r:=by
   rw [hx,List.map_append,List.map_cons]
   have:=lget_mid (A.map toR) (toR r) (B.map toR)
   rwa [List.length_map] at this
  have hg2:lget (rs.map toV) (A.length:Int)=toV r:=by
   rw [hx,List.map_append,List.map_cons]
   have:=lget_mid (A.map toV) (toV r) (B.map toV)
   rwa [List.length_map] at this
  have hwi:wr .i64 ((A.length:Int)+1)=((A++[r]).length:Int):=wr_mid A r (by omega)
  have ih:=fun c=>in_loop a q ra hra rs hn hq B (A++[r]) c (by rw [hx];simp)
  rw [crawlwaylaw53_AggregateCovers.l2.eq_def,decide_eq_true hin.2,if_pos rfl]
  simp only [if_pos hin,if_pos hin2,hg,hg2,hwi]
  rw [toR_From,toV0,decide_eq_true rfl,if_neg (by decide),toR_To,toV1,decide_eq_true rfl,if_neg (by decide)]
  cases b with
  | true=>rw [if_pos rfl,ih];rfl
  | false =>
   rw [if_neg Bool.false_ne_true,hra,bindM_some,List.any_cons,Bool.false_or]
   cases ra with
   | false=>rw [if_neg Bool.false_ne_true,ih,q1 rfl]
   | true =>
    rw [if_pos rfl]
    obtain ⟨q3,q4⟩:=q2 rfl
    by_cases hV:a.f_V=r.1
    ·obtain ⟨l,g,h1,h2,h3⟩:=q4 hV
     have:(a.f_V==(adr r.1 r.2.1).f_V)=true:=by rw [beq_iff_eq];exact hV
     rw [this,if_pos rfl,h1,bindM_some,h3]
     cases l with
     | true=>rw [if_neg (by decide),ih];rfl
     | false=>rw [if_pos (by decide),h2,bindM_some,ih];rfl
    ·have:(a.f_V==(adr r.1 r.2.1).f_V)=false:=by rw [beq_eq_false_iff_ne];exact hV
     rw [this,if_neg Bool.false_ne_true,ih,q3 hV]
theorem any_eq{α:Type}{l:List α}{p:α→Bool}{P:Prop}[Decidable P](h:(∃ x∈l,p x=true)↔P):l.any p=decide P:=by
 rw [Bool.eq_iff_iff,List.any_eq_true,decide_eq_true_iff];exact h
theorem AggregateCovers_pure(xs0:List S_api_Prefix)(hw0:∀ x∈xs0,ok_api_Prefix x)(a1:S_api_Addr)(w1:ok_api_Addr a1):crawlwaylaw53_AggregateCovers xs0 a1=some true:=by
 unfold crawlwaylaw53_AggregateCovers
 by_cases h20:(xs0.length:Int)>20
 ·rw [decide_eq_true h20,if_pos rfl];exact alive_then53
 ·rw [decide_eq_false h20,if_neg Bool.false_ne_true]
  obtain ⟨S,h⟩:=res_of xs0 hw0 (by omega)
  obtain ⟨i1,i2,i3,i4⟩:=h.inv
  have hcs:=h.cs
  have hcr:=h.cr
  have hrs:=h.rs
  have hrr:=h.rr
  have eR:(S.foldl stepR []).reverse=rsOf S:=rfl
  rw [eR] at hcs hcr hrs hrr
  have hcl:(covR (rsOf S)).length≤10000:=by have:=covR_len i1;omega
  have hlen:(((rsOf S).map toR).length:Int)=(((rsOf S).map toV).length:Int):=by simp
  have hagain:=cover_again i1 i2 hcl
  have hne:((((rsOf S).map toR).length:Int) != (((rsOf S).map toV).length:Int))=false:=by rw [hlen];simp
  rw [hcs,bindM_some,hrs,bindM_some,hrr,bindM_some,hcr,bindM_some,same11 _ (by omega),bindM_some,if_neg (by decide),hne,if_neg Bool.false_ne_true]
  obtain ⟨W,k,rfl,hk,_⟩:=exists_mkA a1 w1
  have fin:∀ (p:S_api_Prefix→Bool) (q:Rg→Bool) (b:Bool),(∀ x∈xs0,crawlwayref11_Has x (mkA W k)=some (p x))→(∀ x∈covR (rsOf S),crawlwayref11_Has x (mkA W k)=some (p x))→xs0.any p=b→(covR (rsOf S)).any p=b→(rsOf S).any q=b →
    crawlwaylaw53_AggregateCovers.l2 (mkA W k) ((rsOf S).map toR) ((rsOf S).map toV) false 0=some (.nx ((rsOf S).any q)) →
    (crawlwaylaw53_AggregateCovers.l0 xs0 (mkA W k) false 0>>=fun q19=>crawlwaylaw53_AggregateCovers.l1 (mkA W k) (covR (rsOf S)) false 0>>=fun q29=>crawlwaylaw53_AggregateCovers.l2 (mkA W k) ((rsOf S).map toR) ((rsOf S).map toV) false 0>>=fun q41=>match q41 with | .ret r'=>some r' | .nx sq41=>(if (q19==q29)=true then (if (q19==sq41)=true then (aggregate_Cover (covR (rsOf S))>>=fun t91=>crawlwayref11_Same t91 (covR (rsOf S))>>=fun t94=>if t94=true then (crawlwaylaw53_alive>>=fun t96=>some t96) else (some false)) else (some false)) else (some false)))=some true:=by
   intro p q b h1 h2 h3 h4 h5 h6
   have a1:=(had_loop (mkA W k) p xs0 [] false h1 (by rw [List.nil_append];omega)).1
   have a2:=(had_loop (mkA W k) p (covR (rsOf S)) [] false h2 (by rw [List.nil_append];omega)).2
   rw [List.nil_append,Bool.false_or] at a1 a2
   have a1':crawlwaylaw53_AggregateCovers.l0 xs0 (mkA W k) false 0=some (xs0.any p):=a1
   have a2':crawlwaylaw53_AggregateCovers.l1 (mkA W k) (covR (rsOf S)) false 0=some ((covR (rsOf S)).any p):=a2
   rw [a1',bindM_some,a2',bindM_some,h6,bindM_some,h3,h4,h5]
   show (if (b==b)=true then _ else _)=_
   rw [if_pos (by simp)]
   show (if (b==b)=true then _ else _)=_
   rw [if_pos (by simp),hagain,bindM_some,same11 _ (by omega),bindM_some,if_pos rfl]
   exact alive_then53
  have hcok:∀ x∈covR (rsOf S),∃ t,t∈allT (rsOf S)∧Good t∧x=pf t:=fun x hx=>by
   rw [covR_allT] at hx
   obtain ⟨t,ht,rfl⟩:=List.mem_map.1 hx
   exact ⟨t,ht,allT_good i1 t ht,rfl⟩
  cases hra:rightL W k with
  | false =>
   refine fin (fun _=>false) (fun _=>false) false (fun x hx=>has_wrong2 (hw0 x hx) hk hra) (fun x hx=>?_) (by simp) (by simp) (by simp) ?_
   ·obtain ⟨t,_,ht,rfl⟩:=hcok x hx
    exact has_wrong2 (ok_pf ht) hk hra
   ·have:=in_loop (mkA W k) (fun _=>false) false (by rw [right_ref hk,hra]) (rsOf S) (by omega) (fun r hr=>⟨fun _=>rfl,fun e=>(by cases e)⟩) (rsOf S) [] false rfl
    exact this
  | true =>
   obtain ⟨hf,x,hx,rfl⟩:=right_is hk hra
   have hadr:mkA W (bt W x)=adr W x:=rfl
   have hP:∀ y,ok_api_Prefix y→∃ c,crawlwayref11_Has y (mkA W (bt W x))=some c∧(crawlwayref11_Right y=some false→c=false):=fun y hy=>by
    obtain ⟨V,l,b,rfl,hl,_⟩:=exists_mkP y hy
    refine ⟨_,has_ref hl (bt_len W x),fun e=>?_⟩
    rw [cright_ref hl] at e
    unfold hasP
    rw [Option.some.inj e];rfl
   have hb:∀ t,Good t→(crawlwayref11_Has (pf t) (mkA W (bt W x))).getD false=decide (W=t.1∧t.2.1≤x∧x≤endT t):=fun t ht=>by
    rw [hadr,has_pf ht hf x hx];rfl
   have hHas:∀ y,ok_api_Prefix y→crawlwayref11_Has y (mkA W (bt W x))=some ((crawlwayref11_Has y (mkA W (bt W x))).getD false):=fun y hy=>by
    obtain ⟨c,h1,_⟩:=hP y hy
    rw [h1];rfl
   haveI:Decidable (∃ t∈S,inT W x t):=Classical.propDecidable _
   refine fin (fun y=>(crawlwayref11_Has y (mkA W (bt W x))).getD false) (fun r=>decide (W=r.1∧r.2.1≤x∧x≤r.2.2)) (decide (∃ t∈S,inT W x t)) (fun y hy=>hHas y (hw0 y hy)) (fun y hy=>?_) (any_eq ?_) (any_eq ?_) (any_eq ?_) ?_
   ·obtain ⟨t,_,ht,rfl⟩:=hcok y hy
    exact hHas _ (ok_pf ht)
   ·constructor
    ·rintro ⟨y,hy,hyp⟩
     obtain ⟨c,h1,h2⟩:=hP y (hw0 y hy)
     have hright:crawlwayref11_Right y=some true:=by
      obtain ⟨V,l,b,rfl,hl,_⟩:=exists_mkP y (hw0 y hy)
      rw [cright_ref hl] at h2 ⊢
      cases hr:rightP V l b with
      | true=>rfl
      | false =>
       rw [hr] at h2
       rw [h1,h2 rfl] at hyp
       cases hyp
     obtain ⟨t,ht,rfl⟩:=List.mem_map.1 ((h.mem y).2 ⟨hy,hright⟩)
     rw [hb t (h.good t ht)] at hyp
     exact ⟨t,ht,of_decide_eq_true (p:=W=t.1∧t.2.1≤x∧x≤endT t) hyp⟩
    ·rintro ⟨t,ht,hin⟩
     refine ⟨pf t,((h.mem (pf t)).1 (List.mem_map.2 ⟨t,ht,rfl⟩)).1,?_⟩
     show (crawlwayref11_Has (pf t) (mkA W (bt W x))).getD false=true
     rw [hb t (h.good t ht)]
     exact decide_eq_true (p:=W=t.1∧t.2.1≤x∧x≤endT t) hin
   ·rw [←i4 W x]
    constructor
    ·rintro ⟨y,hy,hyp⟩
     obtain ⟨t,ht,hg,rfl⟩:=hcok y hy
     rw [hb t hg] at hyp
     have hyp:=of_decide_eq_true hyp
     obtain ⟨r,hr,htr⟩:=List.mem_flatMap.1 ht
     obtain ⟨p,hp,rfl⟩:=List.mem_map.1 htr
     have hpp:0<2 ^ p.2:=Nat.pow_pos (by omega)
     have h9:p.1≤x∧x≤p.1+2 ^ p.2-1:=hyp.2
     have:=((pcs_cov (i1 r hr)).1.has x).1 ⟨p,hp,h9.1,by omega⟩
     exact ⟨r,hr,hyp.1,this⟩
    ·rintro ⟨r,hr,hV,hin⟩
     obtain ⟨p,hp,h1,h2⟩:=((pcs_cov (i1 r hr)).1.has x).2 hin
     have hm:(r.1,p.1,p.2)∈allT (rsOf S):=List.mem_flatMap.2 ⟨r,hr,List.mem_map.2 ⟨p,hp,rfl⟩⟩
     refine ⟨pf (r.1,p.1,p.2),?_,?_⟩
     ·rw [covR_allT];exact List.mem_map.2 ⟨_,hm,rfl⟩
     ·show (crawlwayref11_Has (pf (r.1,p.1,p.2)) (mkA W (bt W x))).getD false=true
      rw [hb _ (allT_good i1 _ hm)]
      refine decide_eq_true ⟨hV,h1,?_⟩
      show x≤p.1+2 ^ p.2-1
      omega
   ·rw [←i4 W x]
    constructor
    ·rintro ⟨r,hr,hyp⟩;exact ⟨r,hr,of_decide_eq_true (p:=W=r.1∧r.2.1≤x∧x≤r.2.2) hyp⟩
    ·rintro ⟨r,hr,hyp⟩;exact ⟨r,hr,decide_eq_true (p:=W=r.1∧r.2.1≤x∧x≤r.2.2) hyp⟩
   ·refine in_loop (mkA W (bt W x)) _ true (by rw [right_ref hk,hra]) (rsOf S) (by omega) (fun r hr=>⟨fun e=>(by cases e),fun _=>⟨fun e=>?_,fun e=>?_⟩⟩) (rsOf S) [] false rfl
    ·exact decide_eq_false fun h=>e h.1
    ·have e:W=r.1:=e
     have hrg:=i1 r hr
     have hlt:=hrg.lt
     have hle:=hrg.le
     refine ⟨_,_,(adr_less hx (W:=r.1) (show r.2.1<2 ^ wd r.1 by omega)).2,(adr_less hlt hx).2,?_⟩
     unfold ltA
     rw [if_pos e,if_pos e.symm,Bool.eq_iff_iff]
     simp [e]
end Go.Proofs.Ytahlbjmafceoeaa.Agg
