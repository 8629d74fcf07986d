/- Texts of this claim, those in one that belong together; printed by a program of this project. -/
import Derived.Test.YtahlbjmafceoeaaProg
import Derived.Test.YtahlbjmafceoeaaKFlatSpans1
set_option linter.unusedVariables false
set_option linter.unusedSimpArgs false
set_option maxRecDepth 20000
namespace Go.Proofs.Ytahlbjmafceoeaa
open E Go.RowKit _root_.Go.Proofs.Try
theorem infoF224_is:(Try.prog.info? 24).isSome=true:=by kernel_rfl
noncomputable def infoF224_v:TypeInfo:=(Try.prog.info? 24).get infoF224_is
theorem infoF224:Try.prog.info? 24=some infoF224_v:=(Option.some_get _).symm
def crawlwayref59_Own.l0(x0:List S_api_Entry)(i4:List S_api_Entry)(i5:Int):Option (List S_api_Entry) :=
 if (decide (i5<(x0.length:Int)))=true then (if (0:Int)≤i5∧i5<(x0.length:Int) then crawlwayref11_Right ((lget x0 i5).f_P)>>=fun t15=>if t15=true then (if (0:Int)≤i5∧i5<(x0.length:Int) then crawlwayref25_Put i4 (lget x0 i5)>>=fun t21=>crawlwayref59_Own.l0 x0 t21 (wr .i64 (i5+1)) else none) else (crawlwayref59_Own.l0 x0 i4 (wr .i64 (i5+1))) else none) else (some i4)
 partial_fixpoint
def crawlwayref59_Own(x0:List S_api_Entry):Option (List S_api_Entry) :=
 crawlwayref59_Own.l0 x0 ([]:List S_api_Entry) 0>>=fun q3=>some q3
theorem crawlwayref59_Own_ok(x0:List S_api_Entry)(p0_:Option Addr)(c0_:Nat)(r:List S_api_Entry)(hF:crawlwayref59_Own x0=some r)(w:World)(hr0:Row c_api_Entry w p0_ c0_ x0) :
    Calls Try.prog 32 #[.slice p0_ x0.length c0_] w (fun e w'=>∃ p cap,e=.returned (.slice p r.length cap)∧Own c_api_Entry 66 w.heap.size w' p cap r∧Below w.heap.size w w'):=by
 unfold crawlwayref59_Own at hF
 refine ce (l:=[.slice p0_ x0.length c0_]) func32 rfl rfl ?_
 refine at_start ?_
 refine sr (aa (ns (aa (nt (qs (sr (aa (nwq [4,3,0] ?_))))))))
 refine qb ?_
 refine at_own_nil c_api_Entry 66 ?_
 obtain ⟨q3,hq3,hF⟩:=bM hF
 refine wq [4,3,0] ?_
 refine at_loop_n (B:=0) (A:=fun Y=>∀ (p8:Option Addr) (c9:Nat),At 24 [(3,.slice p8 q3.length c9)] (Wd w [rowE c_api_Entry 66 p8 c9 q3]) Y) ?_ ?_
 ·intro K
  refine crawlwayref59_Own.l0.partial_correctness x0 (motive:=fun i4 i5 x=>KN (fun Y=>∀ (p8:Option Addr) (c9:Nat),At 24 [(3,.slice p8 x.length c9)] (Wd w [rowE c_api_Entry 66 p8 c9 x]) Y) _ 0→Round (fun Y=>∀ (p6:Option Addr) (c7:Nat),At 24 [(0,.slice p0_ x0.length c0_),(3,.slice p6 i4.length c7),(4,.int .i64 i5)] (Wd w [rowE c_api_Entry 66 p6 c7 i4]) Y) _ _ _) ?_ _ _ _ hq3 K none 0
  ·clear K hF
   intro g ih i4 i5 x hF K p6 c7
   refine at_round ?_
   refine qs (sr (am (am ?_)))
   refine aw (r_len_sl underlying54 rfl) ?_
   refine aw xl (nwq [8,4,3,0] ?_)
   obtain ⟨h10,hF⟩|⟨h10,hF⟩:=oi hF
   ·refine ct h10 ?_
    refine sn (qs ?_)
    refine qb ?_
    refine sr (am (am ?_))
    obtain ⟨h11,hF⟩:=gd hF
    obtain ⟨b13,o14,hp12⟩:=row_ptr hr0 h11
    refine aw (r_idx underlying54 sizeOf66 rfl rfl h11 hp12) ?_
    refine fa 0 underlying66 rfl sizeOf37 ?_
    refine aw (r_load_aggc (c:=c_api_Prefix) (z:=(lget x0 i5).f_P) isAgg37 sizeOf37 rfl (row_lens (y:=(lget x0 i5).f_P) (fun _ h=>h.below) hr0 h11 hp12 (Lens.comp lw (fun z=>{ (lget x0 i5) with f_P:=z }) (c_api_Entry_f_P (lget x0 i5))))) ?_
    obtain ⟨t15,ht15,hF⟩:=bM hF
    refine cB func15 rfl (fun w hw=>crawlwayref11_Right_ok _ _ ht15 w) ?_
    refine nwq [16,4,3,0] ?_
    obtain ⟨h16,hF⟩|⟨h16,hF⟩:=oi hF
    ·refine ct h16 ?_
     refine qr (am (am (am ?_)))
     obtain ⟨h17,hF⟩:=gd hF
     obtain ⟨b19,o20,hp18⟩:=row_ptr hr0 h17
     refine aw (r_idx underlying54 sizeOf66 rfl rfl h17 hp18) ?_
     refine aw (r_load_aggc (c:=c_api_Entry) (z:=lget x0 i5) isAgg66 sizeOf66 rfl (row_cell (fun _ h=>h.below) hr0 h17 hp18)) ?_
     obtain ⟨t21,ht21,hF⟩:=bM hF
     refine at_callO (c:=c_api_Entry) (e:=66) (ys:=t21) (V:=fun p cap=>.slice p t21.length cap) func62 rfl (by kernel_rfl) rfl rfl (fun w hw=>crawlwayref25_Put_ok _ _ _ _ _ ht21 w (hw.own .z).row) ?_
     intro p22 c23
     refine aa (qn ?_)
     refine at_drop (H:=_) (.s .z) ?_
     refine wq [4,3,0] ?_
     refine bm ?_
     refine qr (am (aw xa (aa (nwq [4,3,0] ?_))))
     exact at_weak_k (ih _ _ _ hF K p22 c23) ⟨rfl,rfl,rfl,trivial⟩
    refine cf h16 ?_
    refine at_skip ?_
    refine bm ?_
    refine qr (am (aw xa (aa (nwq [4,3,0] ?_))))
    exact at_weak_k (ih _ _ _ hF K p6 c7) ⟨rfl,rfl,rfl,trivial⟩
   refine cf h10 ?_
   refine at_exit ?_
   refine te (te ?_)
   obtain rfl:=os hF
   exact at_weak_k (K p6 c7) ⟨rfl,trivial⟩
 skip
 intro p8 c9
 refine at_blk_same ?_
 refine tn (sr (am (aa (nwq [2] ?_))))
 refine qt ?_
 have K:=os hF
 subst K
 exact r1 (fun w1 hw=>⟨p8,c9,rfl,hw.own .z,hw.below⟩)
def crawlwayref59_put.l0(x0:List S_api_Addr)(x1:S_api_Addr)(i3:Int):Option (Int) :=
 if (decide (i3>0))=true then (if (0:Int)≤wr .i64 (i3-1)∧wr .i64 (i3-1)<(x0.length:Int) then crawlwayref10_Less x1 (lget x0 (wr .i64 (i3-1)))>>=fun t9=>if t9=true then (crawlwayref59_put.l0 x0 x1 (wr .i64 (i3-1))) else (some i3) else none) else (some i3)
 partial_fixpoint
def crawlwayref59_put(x0:List S_api_Addr)(x1:S_api_Addr):Option (List S_api_Addr) :=
 crawlwayref59_put.l0 x0 x1 (x0.length:Int)>>=fun q2=>if (decide (q2>0))=true then (if (0:Int)≤wr .i64 (q2-1)∧wr .i64 (q2-1)<(x0.length:Int) then if (decide (lget x0 (wr .i64 (q2-1))=x1))=true then (some x0) else (if (0:Int)≤0∧0≤q2∧q2≤(x0.length:Int) then if (([]:List S_api_Addr).length+(lsub x0 0 q2).length)*24≤140737488355328 then if ((([]:List S_api_Addr)++(lsub x0 0 q2)).length+1)*24≤140737488355328 then if (0:Int)≤q2∧q2≤(x0.length:Int)∧(x0.length:Int)≤(x0.length:Int) then if (((([]:List S_api_Addr)++(lsub x0 0 q2))++[x1]).length+(lsub x0 q2 (x0.length:Int)).length)*24≤140737488355328 then some (((([]:List S_api_Addr)++(lsub x0 0 q2))++[x1])++(lsub x0 q2 (x0.length:Int))) else none else none else none else none else none) else none) else (if (0:Int)≤0∧0≤q2∧q2≤(x0.length:Int) then if (([]:List S_api_Addr).length+(lsub x0 0 q2).length)*24≤140737488355328 then if ((([]:List S_api_Addr)++(lsub x0 0 q2)).length+1)*24≤140737488355328 then if (0:Int)≤q2∧q2≤(x0.length:Int)∧(x0.length:Int)≤(x0.length:Int) then if (((([]:List S_api_Addr)++(lsub x0 0 q2))++[x1]).length+(lsub x0 q2 (x0.length:Int)).length)*24≤140737488355328 then some (((([]:List S_api_Addr)++(lsub x0 0 q2))++[x1])++(lsub x0 q2 (x0.length:Int))) else none else none else none else none else none)
set_option maxHeartbeats 3200000 in
theorem crawlwayref59_put_ok{x0:List S_api_Addr}{x1:S_api_Addr}{r:List S_api_Addr}(hF:crawlwayref59_put x0 x1=some r):∀ {w0 w:World} {G_:List Ent} {p0_:Option Addr} {c0_:Nat} (hw_:Wd w0 (rowE c_api_Addr 24 p0_ c0_ x0::G_) w),
    Calls Try.prog 58 #[.slice p0_ x0.length c0_,.agg (Cd.cs c_api_Addr x1).toArray] w (fun e w'=>∃ (p:Option Addr) (cap:Nat),e=.returned (.slice p r.length cap)∧Wd w0 (rowE c_api_Addr 24 p cap r::G_) w'):=by
 intro w0 w G_ p0_ c0_ hw_
 unfold crawlwayref59_put at hF
 refine ce (l:=[.slice p0_ x0.length c0_,.agg (Cd.cs c_api_Addr x1).toArray]) func58 rfl rfl ?_
 refine at_enterF hw_ ?_
 refine sr ?_
 refine at_box (cs:=Cd.cs c_api_Addr x1) rfl rfl rfl ?_
 intro b1
 refine aa (ns (am ?_))
 refine aw (r_len_sl underlying88 rfl) ?_
 refine aa (nwq [5,3,0] ?_)
 refine qs ?_
 refine qb ?_
 obtain ⟨q2,hq2,hF⟩:=bM hF
 refine wq [5,3,0] ?_
 refine at_loop_n (B:=0) (A:=fun Y=>At 48 [(0,.slice p0_ x0.length c0_),(3,.pointer (some ⟨b1,0,none⟩)),(5,.int .i64 q2)] (Wd w0 (cellsE b1 (Cd.cs c_api_Addr x1) 24::rowE c_api_Addr 24 p0_ c0_ x0::G_)) Y) ?_ ?_
 ·intro K
  refine crawlwayref59_put.l0.partial_correctness x0 x1 (motive:=fun i3 x=>KN (fun Y=>At 48 [(0,.slice p0_ x0.length c0_),(3,.pointer (some ⟨b1,0,none⟩)),(5,.int .i64 x)] (Wd w0 (cellsE b1 (Cd.cs c_api_Addr x1) 24::rowE c_api_Addr 24 p0_ c0_ x0::G_)) Y) _ 0→Round (fun Y=>At 48 [(0,.slice p0_ x0.length c0_),(3,.pointer (some ⟨b1,0,none⟩)),(5,.int .i64 i3)] (Wd w0 (cellsE b1 (Cd.cs c_api_Addr x1) 24::rowE c_api_Addr 24 p0_ c0_ x0::G_)) Y) _ _ _) ?_ _ _ hq2 K
  ·clear K hF
   intro g ih i3 x hF K
   refine at_round ?_
   refine qs (qs (wq [5,3,0] ?_))
   obtain ⟨h4,hF⟩|⟨h4,hF⟩:=oi hF
   ·skip
    obtain ⟨h5,hF⟩:=gd hF
    refine at_pure (φ:=∃ b o,p0_=some ⟨b,o,none⟩) (fun _ hw=>row_ptr (hw.own (.s .z)).row h5) ?_
    rintro ⟨b7,o8,hp6⟩
    obtain ⟨t9,ht9,hF⟩:=bM hF
    refine at_inv [.q 9 (fun g10=>.int .i64 i3) [] 0 0,.q 10 (fun g10=>.bool (decide (i3>0))) [0] 0 0,.q 11 (fun g10=>.bool true) [1] 0 0,.q 12 (fun g10=>.agg (Cd.cs c_api_Addr x1).toArray) [2] 0 0,.q 13 (fun g10=>.slice p0_ x0.length c0_) [2] 0 0,.q 14 (fun g10=>.int .i64 i3) [2] 0 0,.q 15 (fun g10=>.int .i64 (wr .i64 (i3-1))) [2,5] 0 0,.q 16 (fun g10=>.pointer (some ⟨b7,o8+Int.toNat (wr .i64 (i3-1))*17,none⟩)) [2,4,6] 0 0,.q 17 (fun g10=>.agg (Cd.cs c_api_Addr (lget x0 (wr .i64 (i3-1)))).toArray) [2,7] 0 0,.q 18 (fun g10=>.bool t9) [2,3,8] 0 0,.q 19 (fun g10=>.bool t9) [2,9] 0 0] (fun g10 s=>match s with | _=>(Wd w0 (cellsE b1 (Cd.cs c_api_Addr x1) 24::rowE c_api_Addr 24 p0_ c0_ x0::G_))) 0 (by kernel_rfl) (by kernel_rfl) (by kernel_rfl) (by kernel_rfl) (by kernel_rfl) ⟨fun _ _ _=>rfl,fun _ _ _=>rfl,fun _ _ _=>rfl,fun _ _ _=>rfl,fun _ _ _=>rfl,fun _ _ _=>rfl,fun _ _ _=>rfl,fun _ _ _=>rfl,fun _ _ _=>rfl,fun _ _ _=>rfl,fun _ _ _=>rfl,trivial⟩ (by kernel_rfl) (fun w_ h=>⟨fun _=>g3 0 none 0 none w_,h.drew⟩) ⟨?_,?_,?_,?_,?_,?_,?_,?_,?_,?_,?_,trivial⟩ ?_
    ·intro Lx g10 s K hl hh k
     show At 48 ((0,_)::(3,_)::(5,_)::Lx) _ _
     refine am ?_
     exact at_nil k
    ·intro Lx g10 s K hl hh k
     show At 48 ((9,_)::(0,_)::(3,_)::(5,_)::Lx) _ _
     refine aw (r_igtr rfl rfl) ?_
     exact at_nil k
    ·intro Lx g10 s K hl hh k
     show At 48 ((10,_)::(0,_)::(3,_)::(5,_)::Lx) _ _
     refine am ?_
     exact at_nil (at_cast h4 k)
    ·intro Lx g10 s K hl hh k
     show At 48 ((11,_)::(0,_)::(3,_)::(5,_)::Lx) _ _
     refine gy ?_
     obtain rfl:s=0:=by omega
     refine aw (r_load_aggc (c:=c_api_Addr) (z:=x1) isAgg24 sizeOf24 rfl (lens_cell .z lw)) ?_
     exact at_nil k
    ·intro Lx g10 s K hl hh k
     show At 48 ((11,_)::(0,_)::(3,_)::(5,_)::Lx) _ _
     refine gy ?_
     refine am ?_
     exact at_nil k
    ·intro Lx g10 s K hl hh k
     show At 48 ((11,_)::(0,_)::(3,_)::(5,_)::Lx) _ _
     refine gy ?_
     refine am ?_
     exact at_nil k
    ·intro Lx g10 s K hl hh k
     show At 48 ((11,_)::(14,_)::(0,_)::(3,_)::(5,_)::Lx) _ _
     refine gy ?_
     refine aw (r_isub rfl rfl) ?_
     exact at_nil k
    ·intro Lx g10 s K hl hh k
     show At 48 ((11,_)::(13,_)::(15,_)::(0,_)::(3,_)::(5,_)::Lx) _ _
     refine gy ?_
     refine aw (r_idx underlying88 sizeOf24 rfl rfl h5 hp6) ?_
     exact at_nil k
    ·intro Lx g10 s K hl hh k
     show At 48 ((11,_)::(16,_)::(0,_)::(3,_)::(5,_)::Lx) _ _
     refine gy ?_
     obtain rfl:s=0:=by omega
     refine aw (r_load_aggc (c:=c_api_Addr) (z:=lget x0 (wr .i64 (i3-1))) isAgg24 sizeOf24 rfl (fun w1 hw=>row_cell (W:=fun w1=>w1=_) (fun w1 h=>by subst h;exact Below.refl _ _) (hw.own (.s .z)).row h5 hp6 _ rfl)) ?_
     exact at_nil k
    ·intro Lx g10 s K hl hh k
     show At 48 ((11,_)::(12,_)::(17,_)::(0,_)::(3,_)::(5,_)::Lx) _ _
     refine gy ?_
     obtain rfl:s=0:=by omega
     refine cB func24 rfl (fun w hw=>crawlwayref10_Less_ok _ _ _ ht9 w) ?_
     exact at_nil k
    ·intro Lx g10 s K hl hh k
     show At 48 ((11,_)::(18,_)::(0,_)::(3,_)::(5,_)::Lx) _ _
     refine aw xp ?_
     exact at_nil k
    intro g10
    show At 48 [(9,_),(10,_),(11,_),(12,_),(13,_),(14,_),(15,_),(16,_),(17,_),(18,_),(19,_),(0,_),(3,_),(5,_)] _ _
    refine wq [19,5,3,0] ?_
    refine tn ?_
    obtain ⟨h11,hF⟩|⟨h11,hF⟩:=oi hF
    ·refine ct h11 ?_
     refine sn ?_
     refine qb ?_
     refine qr (am ?_)
     refine aw (r_isub rfl rfl) ?_
     refine aa (qn (wq [5,3,0] ?_))
     refine bm ?_
     exact at_weak_k (ih _ _ hF K) ⟨rfl,rfl,rfl,trivial⟩
    refine cf h11 ?_
    refine at_exit ?_
    refine te (te ?_)
    obtain rfl:=os hF
    exact at_weak_k K ⟨rfl,rfl,rfl,trivial⟩
   skip
   refine at_inv [.q 9 (fun g12=>.int .i64 i3) [] 0 0,.q 10 (fun g12=>.bool (decide (i3>0))) [0] 0 0,.q 11 (fun g12=>.bool false) [1] 0 0,.q 12 (fun g12=>undef) [2] 0 0,.q 13 (fun g12=>undef) [2] 0 0,.q 14 (fun g12=>undef) [2] 0 0,.q 15 (fun g12=>undef) [2,5] 0 0,.q 16 (fun g12=>undef) [2,4,6] 0 0,.q 17 (fun g12=>undef) [2,7] 0 0,.q 18 (fun g12=>undef) [2,3,8] 0 0,.q 19 (fun g12=>.bool false) [2,9] 0 0] (fun g12 s=>match s with | _=>(Wd w0 (cellsE b1 (Cd.cs c_api_Addr x1) 24::rowE c_api_Addr 24 p0_ c0_ x0::G_))) 0 (by kernel_rfl) (by kernel_rfl) (by kernel_rfl) (by kernel_rfl) (by kernel_rfl) ⟨fun _ _ _=>rfl,fun _ _ _=>rfl,fun _ _ _=>rfl,fun _ _ _=>rfl,fun _ _ _=>rfl,fun _ _ _=>rfl,fun _ _ _=>rfl,fun _ _ _=>rfl,fun _ _ _=>rfl,fun _ _ _=>rfl,fun _ _ _=>rfl,trivial⟩ (by kernel_rfl) (fun w_ h=>⟨fun _=>g3 0 none 0 none w_,h.drew⟩) ⟨?_,?_,?_,?_,?_,?_,?_,?_,?_,?_,?_,trivial⟩ ?_
   ·intro Lx g12 s K hl hh k
    show At 48 ((0,_)::(3,_)::(5,_)::Lx) _ _
    refine am ?_
    exact at_nil k
   ·intro Lx g12 s K hl hh k
    show At 48 ((9,_)::(0,_)::(3,_)::(5,_)::Lx) _ _
    refine aw (r_igtr rfl rfl) ?_
    exact at_nil k
   ·intro Lx g12 s K hl hh k
    show At 48 ((10,_)::(0,_)::(3,_)::(5,_)::Lx) _ _
    refine am ?_
    exact at_nil (at_cast h4 k)
   ·intro Lx g12 s K hl hh k
    show At 48 ((11,_)::(0,_)::(3,_)::(5,_)::Lx) _ _
    obtain rfl:s=0:=by omega
    refine gn ?_
    exact at_nil k
   ·intro Lx g12 s K hl hh k
    show At 48 ((11,_)::(0,_)::(3,_)::(5,_)::Lx) _ _
    refine gn ?_
    exact at_nil k
   ·intro Lx g12 s K hl hh k
    show At 48 ((11,_)::(0,_)::(3,_)::(5,_)::Lx) _ _
    refine gn ?_
    exact at_nil k
   ·intro Lx g12 s K hl hh k
    show At 48 ((11,_)::(14,_)::(0,_)::(3,_)::(5,_)::Lx) _ _
    refine gn ?_
    exact at_nil k
   ·intro Lx g12 s K hl hh k
    show At 48 ((11,_)::(13,_)::(15,_)::(0,_)::(3,_)::(5,_)::Lx) _ _
    refine gn ?_
    exact at_nil k
   ·intro Lx g12 s K hl hh k
    show At 48 ((11,_)::(16,_)::(0,_)::(3,_)::(5,_)::Lx) _ _
    obtain rfl:s=0:=by omega
    refine gn ?_
    exact at_nil k
   ·intro Lx g12 s K hl hh k
    show At 48 ((11,_)::(12,_)::(17,_)::(0,_)::(3,_)::(5,_)::Lx) _ _
    obtain rfl:s=0:=by omega
    refine gn ?_
    exact at_nil k
   ·intro Lx g12 s K hl hh k
    show At 48 ((11,_)::(18,_)::(0,_)::(3,_)::(5,_)::Lx) _ _
    refine aw xp ?_
    exact at_nil k
   intro g12
   show At 48 [(9,_),(10,_),(11,_),(12,_),(13,_),(14,_),(15,_),(16,_),(17,_),(18,_),(19,_),(0,_),(3,_),(5,_)] _ _
   refine wq [19,5,3,0] ?_
   refine tn ?_
   refine cf rfl ?_
   refine at_exit ?_
   refine te (te ?_)
   obtain rfl:=os hF
   exact at_weak_k K ⟨rfl,rfl,rfl,trivial⟩
 skip
 skip
 refine at_blk_same ?_
 refine tn (qs (qs (wq [5,3,0] ?_)))
 obtain ⟨h13,hF⟩|⟨h13,hF⟩:=oi hF
 ·skip
  obtain ⟨h14,hF⟩:=gd hF
  refine at_pure (φ:=∃ b o,p0_=some ⟨b,o,none⟩) (fun _ hw=>row_ptr (hw.own (.s .z)).row h14) ?_
  rintro ⟨b16,o17,hp15⟩
  refine at_inv [.q 22 (fun g18=>.int .i64 q2) [] 0 0,.q 23 (fun g18=>.bool (decide (q2>0))) [0] 0 0,.q 24 (fun g18=>.bool true) [1] 0 0,.q 25 (fun g18=>.slice p0_ x0.length c0_) [2] 0 0,.q 26 (fun g18=>.int .i64 q2) [2] 0 0,.q 27 (fun g18=>.int .i64 (wr .i64 (q2-1))) [2,4] 0 0,.q 28 (fun g18=>.pointer (some ⟨b16,o17+Int.toNat (wr .i64 (q2-1))*17,none⟩)) [2,3,5] 0 0,.q 29 (fun g18=>.agg (Cd.cs c_api_Addr (lget x0 (wr .i64 (q2-1)))).toArray) [2,6] 0 0,.q 30 (fun g18=>.agg (Cd.cs c_api_Addr x1).toArray) [2] 0 0,.q 31 (fun g18=>.bool (decide (lget x0 (wr .i64 (q2-1))=x1))) [2,7,8] 0 0,.q 32 (fun g18=>.bool (decide (lget x0 (wr .i64 (q2-1))=x1))) [2,9] 0 0] (fun g18 s=>match s with | _=>(Wd w0 (cellsE b1 (Cd.cs c_api_Addr x1) 24::rowE c_api_Addr 24 p0_ c0_ x0::G_))) 0 (by kernel_rfl) (by kernel_rfl) (by kernel_rfl) (by kernel_rfl) (by kernel_rfl) ⟨fun _ _ _=>rfl,fun _ _ _=>rfl,fun _ _ _=>rfl,fun _ _ _=>rfl,fun _ _ _=>rfl,fun _ _ _=>rfl,fun _ _ _=>rfl,fun _ _ _=>rfl,fun _ _ _=>rfl,fun _ _ _=>rfl,fun _ _ _=>rfl,trivial⟩ (by kernel_rfl) (fun w_ h=>⟨fun _=>g3 0 none 0 none w_,h.drew⟩) ⟨?_,?_,?_,?_,?_,?_,?_,?_,?_,?_,?_,trivial⟩ ?_
  ·intro Lx g18 s K hl hh k
   show At 48 ((0,_)::(3,_)::(5,_)::Lx) _ _
   refine am ?_
   exact at_nil k
  ·intro Lx g18 s K hl hh k
   show At 48 ((22,_)::(0,_)::(3,_)::(5,_)::Lx) _ _
   refine aw (r_igtr rfl rfl) ?_
   exact at_nil k
  ·intro Lx g18 s K hl hh k
   show At 48 ((23,_)::(0,_)::(3,_)::(5,_)::Lx) _ _
   refine am ?_
   exact at_nil (at_cast h13 k)
  ·intro Lx g18 s K hl hh k
   show At 48 ((24,_)::(0,_)::(3,_)::(5,_)::Lx) _ _
   refine gy ?_
   refine am ?_
   exact at_nil k
  ·intro Lx g18 s K hl hh k
   show At 48 ((24,_)::(0,_)::(3,_)::(5,_)::Lx) _ _
   refine gy ?_
   refine am ?_
   exact at_nil k
  ·intro Lx g18 s K hl hh k
   show At 48 ((24,_)::(26,_)::(0,_)::(3,_)::(5,_)::Lx) _ _
   refine gy ?_
   refine aw (r_isub rfl rfl) ?_
   exact at_nil k
  ·intro Lx g18 s K hl hh k
   show At 48 ((24,_)::(25,_)::(27,_)::(0,_)::(3,_)::(5,_)::Lx) _ _
   refine gy ?_
   refine aw (r_idx underlying88 sizeOf24 rfl rfl h14 hp15) ?_
   exact at_nil k
  ·intro Lx g18 s K hl hh k
   show At 48 ((24,_)::(28,_)::(0,_)::(3,_)::(5,_)::Lx) _ _
   refine gy ?_
   obtain rfl:s=0:=by omega
   refine aw (r_load_aggc (c:=c_api_Addr) (z:=lget x0 (wr .i64 (q2-1))) isAgg24 sizeOf24 rfl (fun w1 hw=>row_cell (W:=fun w1=>w1=_) (fun w1 h=>by subst h;exact Below.refl _ _) (hw.own (.s .z)).row h14 hp15 _ rfl)) ?_
   exact at_nil k
  ·intro Lx g18 s K hl hh k
   show At 48 ((24,_)::(0,_)::(3,_)::(5,_)::Lx) _ _
   refine gy ?_
   obtain rfl:s=0:=by omega
   refine aw (r_load_aggc (c:=c_api_Addr) (z:=x1) isAgg24 sizeOf24 rfl (lens_cell .z lw)) ?_
   exact at_nil k
  ·intro Lx g18 s K hl hh k
   show At 48 ((24,_)::(29,_)::(30,_)::(0,_)::(3,_)::(5,_)::Lx) _ _
   refine gy ?_
   refine aw (r_eqagg (c:=c_api_Addr) (a:=lget x0 (wr .i64 (q2-1))) (b:=x1) (eq_api_Addr_24) rfl Try.eqGuardType24 rfl rfl (.inl rfl) rfl) ?_
   exact at_nil k
  ·intro Lx g18 s K hl hh k
   show At 48 ((24,_)::(31,_)::(0,_)::(3,_)::(5,_)::Lx) _ _
   refine aw xp ?_
   exact at_nil k
  intro g18
  show At 48 [(22,_),(23,_),(24,_),(25,_),(26,_),(27,_),(28,_),(29,_),(30,_),(31,_),(32,_),(0,_),(3,_),(5,_)] _ _
  refine wq [32,5,3,0] ?_
  refine tn ?_
  obtain ⟨h19,hF⟩|⟨h19,hF⟩:=oi hF
  ·refine ct h19 ?_
   refine sr (am (aa (qn (dz (wq [4] ?_)))))
   refine tn (rt ?_)
   have K:=os hF
   subst K
   exact r1 (fun w1 hw=>⟨p0_,c0_,rfl,hw⟩)
  refine cf h19 ?_
  refine sns ?_
  refine at_lit0 c_api_Addr underlying88 sizeOf24 rfl ?_
  intro b20
  refine am (am ?_)
  obtain ⟨h21,hF⟩:=gd hF
  refine at_pure (fun w1 hw=>(hw.own (.s (.s .z))).row.len) ?_
  intro hl22
  refine aw (r_reslice (c:=c_api_Addr) underlying88 sizeOf24 rfl hl22 rfl ⟨_,rfl⟩ h21) ?_
  obtain ⟨h23,hF⟩:=gd hF
  refine at_append_row (z:=.agg (Cd.cs c_api_Addr zv0).toArray) (c:=c_api_Addr) (ys:=(lsub x0 0 q2)) .z underlying88 infoF224 (by kernel_rfl) (by kernel_rfl) rfl rfl rfl (fun w1 hw=>(Row.sub (hw.own (.s (.s .z))).row h21)) (by kernel_rfl) h23 (app_small h23) rfl ?_
  intro p24 c25
  refine aa (ns (am ?_))
  refine aw (r_load_aggc (c:=c_api_Addr) (z:=x1) isAgg24 sizeOf24 rfl (lens_cell (.s .z) lw)) ?_
  refine at_litL (c:=c_api_Addr) ([zv0]:List S_api_Addr) ([x1]:List S_api_Addr) underlying88 sizeOf24 zeroValue24 rfl rfl rfl (by kernel_rfl) (fill_step (c:=c_api_Addr) (z:=x1) rfl (Lens.all c_api_Addr ([zv0]:List S_api_Addr) 0 (by first | decide | exact Nat.le_of_ble_eq_true rfl)) rfl rfl) rfl ?_
  intro b26
  obtain ⟨h27,hF⟩:=gd hF
  refine at_append (z:=.agg (Cd.cs c_api_Addr zv0).toArray) (c:=c_api_Addr) (ys:=([x1]:List S_api_Addr)) (.s .z) underlying88 infoF224 (by kernel_rfl) (by kernel_rfl) rfl rfl rfl rfl (fun _ hw=>cells_src (hw.ok (Upd.mem .z))) (by kernel_rfl) h27 (app_small h27) rfl ?_
  intro p28 c29
  refine aa (qn (dz ?_))
  refine at_drop (H:=_) (.s .z) ?_
  refine tn (sr (am (am (am ?_))))
  obtain ⟨h30,hF⟩:=gd hF
  refine at_pure (fun w1 hw=>(hw.own (.s .z)).row.len) ?_
  intro hl31
  refine aw (r_reslice (c:=c_api_Addr) underlying88 sizeOf24 rfl hl31 ⟨_,rfl⟩ rfl h30) ?_
  obtain ⟨h32,hF⟩:=gd hF
  refine at_append_row (z:=.agg (Cd.cs c_api_Addr zv0).toArray) (c:=c_api_Addr) (ys:=(lsub x0 q2 (x0.length:Int))) .z underlying88 infoF224 (by kernel_rfl) (by kernel_rfl) rfl rfl rfl (fun w1 hw=>(Row.sub (hw.own (.s .z)).row h30)) (by kernel_rfl) h32 (app_small h32) rfl ?_
  intro p33 c34
  refine aa (qn ?_)
  refine at_drop (H:=_) (.s .z) ?_
  refine wq [4] ?_
  refine tn (qt ?_)
  have K:=os hF
  subst K
  exact r1 (fun w1 hw=>⟨p33,c34,rfl,hw⟩)
 skip
 refine at_inv [.q 22 (fun g35=>.int .i64 q2) [] 0 0,.q 23 (fun g35=>.bool (decide (q2>0))) [0] 0 0,.q 24 (fun g35=>.bool false) [1] 0 0,.q 25 (fun g35=>undef) [2] 0 0,.q 26 (fun g35=>undef) [2] 0 0,.q 27 (fun g35=>undef) [2,4] 0 0,.q 28 (fun g35=>undef) [2,3,5] 0 0,.q 29 (fun g35=>undef) [2,6] 0 0,.q 30 (fun g35=>undef) [2] 0 0,.q 31 (fun g35=>undef) [2,7,8] 0 0,.q 32 (fun g35=>.bool false) [2,9] 0 0] (fun g35 s=>match s with | _=>(Wd w0 (cellsE b1 (Cd.cs c_api_Addr x1) 24::rowE c_api_Addr 24 p0_ c0_ x0::G_))) 0 (by kernel_rfl) (by kernel_rfl) (by kernel_rfl) (by kernel_rfl) (by kernel_rfl) ⟨fun _ _ _=>rfl,fun _ _ _=>rfl,fun _ _ _=>rfl,fun _ _ _=>rfl,fun _ _ _=>rfl,fun _ _ _=>rfl,fun _ _ _=>rfl,fun _ _ _=>rfl,fun _ _ _=>rfl,fun _ _ _=>rfl,fun _ _ _=>rfl,trivial⟩ (by kernel_rfl) (fun w_ h=>⟨fun _=>g3 0 none 0 none w_,h.drew⟩) ⟨?_,?_,?_,?_,?_,?_,?_,?_,?_,?_,?_,trivial⟩ ?_
 ·intro Lx g35 s K hl hh k
  show At 48 ((0,_)::(3,_)::(5,_)::Lx) _ _
  refine am ?_
  exact at_nil k
 ·intro Lx g35 s K hl hh k
  show At 48 ((22,_)::(0,_)::(3,_)::(5,_)::Lx) _ _
  refine aw (r_igtr rfl rfl) ?_
  exact at_nil k
 ·intro Lx g35 s K hl hh k
  show At 48 ((23,_)::(0,_)::(3,_)::(5,_)::Lx) _ _
  refine am ?_
  exact at_nil (at_cast h13 k)
 ·intro Lx g35 s K hl hh k
  show At 48 ((24,_)::(0,_)::(3,_)::(5,_)::Lx) _ _
  refine gn ?_
  exact at_nil k
 ·intro Lx g35 s K hl hh k
  show At 48 ((24,_)::(0,_)::(3,_)::(5,_)::Lx) _ _
  refine gn ?_
  exact at_nil k
 ·intro Lx g35 s K hl hh k
  show At 48 ((24,_)::(26,_)::(0,_)::(3,_)::(5,_)::Lx) _ _
  refine gn ?_
  exact at_nil k
 ·intro Lx g35 s K hl hh k
  show At 48 ((24,_)::(25,_)::(27,_)::(0,_)::(3,_)::(5,_)::Lx) _ _
  refine gn ?_
  exact at_nil k
 ·intro Lx g35 s K hl hh k
  show At 48 ((24,_)::(28,_)::(0,_)::(3,_)::(5,_)::Lx) _ _
  obtain rfl:s=0:=by omega
  refine gn ?_
  exact at_nil k
 ·intro Lx g35 s K hl hh k
  show At 48 ((24,_)::(0,_)::(3,_)::(5,_)::Lx) _ _
  obtain rfl:s=0:=by omega
  refine gn ?_
  exact at_nil k
 ·intro Lx g35 s K hl hh k
  show At 48 ((24,_)::(29,_)::(30,_)::(0,_)::(3,_)::(5,_)::Lx) _ _
  refine gn ?_
  exact at_nil k
 ·intro Lx g35 s K hl hh k
  show At 48 ((24,_)::(31,_)::(0,_)::(3,_)::(5,_)::Lx) _ _
  refine aw xp ?_
  exact at_nil k
 intro g35
 show At 48 [(22,_),(23,_),(24,_),(25,_),(26,_),(27,_),(28,_),(29,_),(30,_),(31,_),(32,_),(0,_),(3,_),(5,_)] _ _
 refine wq [32,5,3,0] ?_
 refine tn ?_
 refine cf rfl ?_
 refine sns ?_
 refine at_lit0 c_api_Addr underlying88 sizeOf24 rfl ?_
 intro b36
 refine am (am ?_)
 obtain ⟨h37,hF⟩:=gd hF
 refine at_pure (fun w1 hw=>(hw.own (.s (.s .z))).row.len) ?_
 intro hl38
 refine aw (r_reslice (c:=c_api_Addr) underlying88 sizeOf24 rfl hl38 rfl ⟨_,rfl⟩ h37) ?_
 obtain ⟨h39,hF⟩:=gd hF
 refine at_append_row (z:=.agg (Cd.cs c_api_Addr zv0).toArray) (c:=c_api_Addr) (ys:=(lsub x0 0 q2)) .z underlying88 infoF224 (by kernel_rfl) (by kernel_rfl) rfl rfl rfl (fun w1 hw=>(Row.sub (hw.own (.s (.s .z))).row h37)) (by kernel_rfl) h39 (app_small h39) rfl ?_
 intro p40 c41
 refine aa (ns (am ?_))
 refine aw (r_load_aggc (c:=c_api_Addr) (z:=x1) isAgg24 sizeOf24 rfl (lens_cell (.s .z) lw)) ?_
 refine at_litL (c:=c_api_Addr) ([zv0]:List S_api_Addr) ([x1]:List S_api_Addr) underlying88 sizeOf24 zeroValue24 rfl rfl rfl (by kernel_rfl) (fill_step (c:=c_api_Addr) (z:=x1) rfl (Lens.all c_api_Addr ([zv0]:List S_api_Addr) 0 (by first | decide | exact Nat.le_of_ble_eq_true rfl)) rfl rfl) rfl ?_
 intro b42
 obtain ⟨h43,hF⟩:=gd hF
 refine at_append (z:=.agg (Cd.cs c_api_Addr zv0).toArray) (c:=c_api_Addr) (ys:=([x1]:List S_api_Addr)) (.s .z) underlying88 infoF224 (by kernel_rfl) (by kernel_rfl) rfl rfl rfl rfl (fun _ hw=>cells_src (hw.ok (Upd.mem .z))) (by kernel_rfl) h43 (app_small h43) rfl ?_
 intro p44 c45
 refine aa (qn (dz ?_))
 refine at_drop (H:=_) (.s .z) ?_
 refine tn (sr (am (am (am ?_))))
 obtain ⟨h46,hF⟩:=gd hF
 refine at_pure (fun w1 hw=>(hw.own (.s .z)).row.len) ?_
 intro hl47
 refine aw (r_reslice (c:=c_api_Addr) underlying88 sizeOf24 rfl hl47 ⟨_,rfl⟩ rfl h46) ?_
 obtain ⟨h48,hF⟩:=gd hF
 refine at_append_row (z:=.agg (Cd.cs c_api_Addr zv0).toArray) (c:=c_api_Addr) (ys:=(lsub x0 q2 (x0.length:Int))) .z underlying88 infoF224 (by kernel_rfl) (by kernel_rfl) rfl rfl rfl (fun w1 hw=>(Row.sub (hw.own (.s .z)).row h46)) (by kernel_rfl) h48 (app_small h48) rfl ?_
 intro p49 c50
 refine aa (qn ?_)
 refine at_drop (H:=_) (.s .z) ?_
 refine wq [4] ?_
 refine tn (qt ?_)
 have K:=os hF
 subst K
 exact r1 (fun w1 hw=>⟨p49,c50,rfl,hw⟩)
def crawlwayref59_lasts.l0(x0:List S_api_Entry)(i4:List S_api_Addr)(i5:Int):Option (List S_api_Addr) :=
 if (decide (i5<(x0.length:Int)))=true then (if (0:Int)≤i5∧i5<(x0.length:Int) then crawlwayref53_Of ((lget x0 i5).f_P)>>=fun t15=>crawlwayref59_put i4 t15.2>>=fun t18=>crawlwayref59_lasts.l0 x0 t18 (wr .i64 (i5+1)) else none) else (some i4)
 partial_fixpoint
def crawlwayref59_lasts(x0:List S_api_Entry):Option (List S_api_Addr) :=
 crawlwayref59_lasts.l0 x0 ([]:List S_api_Addr) 0>>=fun q3=>some q3
theorem crawlwayref59_lasts_ok(x0:List S_api_Entry)(p0_:Option Addr)(c0_:Nat)(r:List S_api_Addr)(hF:crawlwayref59_lasts x0=some r)(w:World)(hr0:Row c_api_Entry w p0_ c0_ x0) :
    Calls Try.prog 57 #[.slice p0_ x0.length c0_] w (fun e w'=>∃ p cap,e=.returned (.slice p r.length cap)∧Own c_api_Addr 24 w.heap.size w' p cap r∧Below w.heap.size w w'):=by
 unfold crawlwayref59_lasts at hF
 refine ce (l:=[.slice p0_ x0.length c0_]) func57 rfl rfl ?_
 refine at_start ?_
 refine sr (aa (ns (aa (nt (qs (sr (aa (nwq [4,3,0] ?_))))))))
 refine qb ?_
 refine at_own_nil c_api_Addr 24 ?_
 obtain ⟨q3,hq3,hF⟩:=bM hF
 refine wq [4,3,0] ?_
 refine at_loop_n (B:=0) (A:=fun Y=>∀ (p8:Option Addr) (c9:Nat),At 26 [(3,.slice p8 q3.length c9)] (Wd w [rowE c_api_Addr 24 p8 c9 q3]) Y) ?_ ?_
 ·intro K
  refine crawlwayref59_lasts.l0.partial_correctness x0 (motive:=fun i4 i5 x=>KN (fun Y=>∀ (p8:Option Addr) (c9:Nat),At 26 [(3,.slice p8 x.length c9)] (Wd w [rowE c_api_Addr 24 p8 c9 x]) Y) _ 0→Round (fun Y=>∀ (p6:Option Addr) (c7:Nat),At 26 [(0,.slice p0_ x0.length c0_),(3,.slice p6 i4.length c7),(4,.int .i64 i5)] (Wd w [rowE c_api_Addr 24 p6 c7 i4]) Y) _ _ _) ?_ _ _ _ hq3 K none 0
  ·clear K hF
   intro g ih i4 i5 x hF K p6 c7
   refine at_round ?_
   refine qs (sr (am (am ?_)))
   refine aw (r_len_sl underlying54 rfl) ?_
   refine aw xl (nwq [10,4,3,0] ?_)
   obtain ⟨h10,hF⟩|⟨h10,hF⟩:=oi hF
   ·refine ct h10 ?_
    refine sn (qs ?_)
    refine qb ?_
    refine sr (am (am ?_))
    obtain ⟨h11,hF⟩:=gd hF
    obtain ⟨b13,o14,hp12⟩:=row_ptr hr0 h11
    refine aw (r_idx underlying54 sizeOf66 rfl rfl h11 hp12) ?_
    refine fa 0 underlying66 rfl sizeOf37 ?_
    refine aw (r_load_aggc (c:=c_api_Prefix) (z:=(lget x0 i5).f_P) isAgg37 sizeOf37 rfl (row_lens (y:=(lget x0 i5).f_P) (fun _ h=>h.below) hr0 h11 hp12 (Lens.comp lw (fun z=>{ (lget x0 i5) with f_P:=z }) (c_api_Entry_f_P (lget x0 i5))))) ?_
    obtain ⟨t15,ht15,hF⟩:=bM hF
    refine cB func14 rfl (fun w hw=>crawlwayref53_Of_ok _ _ ht15 w) ?_
    refine am ?_
    refine aw xe (aw xe ?_)
    refine al (cs:=Cd.cs c_api_Addr zv0) zeroValue24 ?_
    intro b16
    refine al (cs:=Cd.cs c_api_Addr zv0) zeroValue24 ?_
    intro b17
    refine at_store (c:=c_api_Addr) (z:=t15.1) (.s .z) lw sizeOf24 rfl rfl rfl ?_
    refine at_store (c:=c_api_Addr) (z:=t15.2) .z lw sizeOf24 rfl rfl rfl ?_
    refine qn ?_
    refine at_drop (H:=_) (.s .z) ?_
    refine wq [6,4,3,0] ?_
    refine tn (qr (am ?_))
    refine aw (r_load_aggc (c:=c_api_Addr) (z:=t15.2) isAgg24 sizeOf24 rfl (lens_cell .z lw)) ?_
    obtain ⟨t18,ht18,hF⟩:=bM hF
    refine at_front (.s .z) ?_
    refine at_callG (V:=fun p cap=>.slice p t18.length cap) (T:=fun p cap=>[rowE c_api_Addr 24 p cap t18,cellsE b17 (Cd.cs c_api_Addr t15.2) 24]) func58 rfl (by kernel_rfl) rfl rfl (fun w hw=>crawlwayref59_put_ok ht18 hw) ?_
    intro p19 c20
    refine aa (qn ?_)
    refine at_drop (H:=_) (.s .z) ?_
    refine wq [4,3,0] ?_
    refine bm ?_
    refine qr (am (aw xa (aa (nwq [4,3,0] ?_))))
    exact at_weak_k (ih _ _ _ hF K p19 c20) ⟨rfl,rfl,rfl,trivial⟩
   refine cf h10 ?_
   refine at_exit ?_
   refine te (te ?_)
   obtain rfl:=os hF
   exact at_weak_k (K p6 c7) ⟨rfl,trivial⟩
 skip
 intro p8 c9
 refine at_blk_same ?_
 refine tn (sr (am (aa (nwq [2] ?_))))
 refine qt ?_
 have K:=os hF
 subst K
 exact r1 (fun w1 hw=>⟨p8,c9,rfl,hw.own .z,hw.below⟩)
end Go.Proofs.Ytahlbjmafceoeaa
namespace Go.Proofs.Ytahlbjmafceoeaa
open E Go.RowKit _root_.Go.Proofs.Try
def flat_Own_2(x0:S_api_Entry)(x1:S_api_Entry):Option (Int) :=
 cidr_Less x0.f_P x1.f_P>>=fun t3=>if t3=true then (some (-1)) else (cidr_Less x1.f_P x0.f_P>>=fun t5=>if t5=true then (some 1) else (some 0))
theorem flat_Own_2_ok(x0:S_api_Entry)(x1:S_api_Entry)(r:Int)(hF:flat_Own_2 x0 x1=some r)(w:World) :
    Calls Try.prog 66 #[.agg (Cd.cs c_api_Entry x0).toArray,.agg (Cd.cs c_api_Entry x1).toArray] w (fun e w'=>e=.returned (.int .i64 r)∧Below w.heap.size w w'):=by
 unfold flat_Own_2 at hF
 refine ce (l:=[.agg (Cd.cs c_api_Entry x0).toArray,.agg (Cd.cs c_api_Entry x1).toArray]) func66 rfl rfl ?_
 refine at_start ?_
 refine sr ?_
 refine at_box (cs:=Cd.cs c_api_Entry x0) rfl rfl rfl ?_
 intro b1
 refine at_box (cs:=Cd.cs c_api_Entry x1) rfl rfl rfl ?_
 intro b2
 refine aa (nwq [3,2] ?_)
 refine qs ?_
 refine qb ?_
 refine sr (fa 0 underlying66 rfl sizeOf37 ?_)
 refine aw (r_load_aggc (c:=c_api_Prefix) (z:=x0.f_P) isAgg37 sizeOf37 rfl (lens_cell (.s .z) (Lens.comp lw (fun z=>{ x0 with f_P:=z }) (c_api_Entry_f_P x0)))) ?_
 refine fa 0 underlying66 rfl sizeOf37 ?_
 refine aw (r_load_aggc (c:=c_api_Prefix) (z:=x1.f_P) isAgg37 sizeOf37 rfl (lens_cell .z (Lens.comp lw (fun z=>{ x1 with f_P:=z }) (c_api_Entry_f_P x1)))) ?_
 obtain ⟨t3,ht3,hF⟩:=bM hF
 refine cB func67 rfl (fun w hw=>cidr_Less_ok _ _ _ ht3 w) ?_
 refine aa (nwq [5,3,2] ?_)
 obtain ⟨h4,hF⟩|⟨h4,hF⟩:=oi hF
 ·refine ct h4 ?_
  refine sr (aa (qn (dz (dz (wq [4] ?_)))))
  refine tn (qt ?_)
  refine br (tr ?_)
  have K:=os hF
  subst K
  exact r1 wb
 refine cf h4 ?_
 refine sr (fa 0 underlying66 rfl sizeOf37 ?_)
 refine aw (r_load_aggc (c:=c_api_Prefix) (z:=x1.f_P) isAgg37 sizeOf37 rfl (lens_cell .z (Lens.comp lw (fun z=>{ x1 with f_P:=z }) (c_api_Entry_f_P x1)))) ?_
 refine fa 0 underlying66 rfl sizeOf37 ?_
 refine aw (r_load_aggc (c:=c_api_Prefix) (z:=x0.f_P) isAgg37 sizeOf37 rfl (lens_cell (.s .z) (Lens.comp lw (fun z=>{ x0 with f_P:=z }) (c_api_Entry_f_P x0)))) ?_
 obtain ⟨t5,ht5,hF⟩:=bM hF
 refine cB func67 rfl (fun w hw=>cidr_Less_ok _ _ _ ht5 w) ?_
 refine aa (qn (dz (dz (wq [11] ?_))))
 refine tn ?_
 obtain ⟨h6,hF⟩|⟨h6,hF⟩:=oi hF
 ·refine ct h6 ?_
  refine sr (aa (nwq [4] ?_))
  refine qt ?_
  refine br (tr ?_)
  have K:=os hF
  subst K
  exact r1 wb
 refine cf h6 ?_
 refine at_skip ?_
 refine bm ?_
 refine sr (aa (nwq [4] ?_))
 refine qt ?_
 have K:=os hF
 subst K
 exact r1 wb
def flat_end(x0:S_api_Entry):Option (S_api_Addr) :=
 aggregate_Of x0.f_P>>=fun t3=>some t3.1.f_To
theorem flat_end_ok(x0:S_api_Entry)(r:S_api_Addr)(hF:flat_end x0=some r)(w:World) :
    Calls Try.prog 79 #[.agg (Cd.cs c_api_Entry x0).toArray] w (fun e w'=>e=.returned (.agg (Cd.cs c_api_Addr r).toArray)∧Below w.heap.size w w'):=by
 unfold flat_end at hF
 refine ce (l:=[.agg (Cd.cs c_api_Entry x0).toArray]) func79 rfl rfl ?_
 refine at_start ?_
 refine sr ?_
 refine at_box (cs:=Cd.cs c_api_Entry x0) rfl rfl rfl ?_
 intro b1
 refine al (cs:=Cd.cs c_api_Addr zv0) zeroValue24 ?_
 intro b2
 refine ns (fa 0 underlying66 rfl sizeOf37 ?_)
 refine aw (r_load_aggc (c:=c_api_Prefix) (z:=x0.f_P) isAgg37 sizeOf37 rfl (lens_cell (.s .z) (Lens.comp lw (fun z=>{ x0 with f_P:=z }) (c_api_Entry_f_P x0)))) ?_
 obtain ⟨t3,ht3,hF⟩:=bM hF
 refine cB func26 rfl (fun w hw=>aggregate_Of_ok _ _ ht3 w) ?_
 refine am ?_
 refine aw xe (aw xe ?_)
 refine al (cs:=Cd.cs c_aggregate_Range zv6) zeroValue26 ?_
 intro b4
 refine at_store (c:=c_aggregate_Range) (z:=t3.1) .z lw sizeOf26 rfl rfl rfl ?_
 refine aa (qn ?_)
 refine at_drop (H:=_) (.s (.s .z)) ?_
 refine tn (sr (fa 17 underlying26 rfl sizeOf24 ?_))
 refine aw (r_load_aggc (c:=c_api_Addr) (z:=t3.1.f_To) isAgg24 sizeOf24 rfl (lens_cell .z (Lens.comp lw (fun z=>{ t3.1 with f_To:=z }) (c_aggregate_Range_f_To t3.1)))) ?_
 refine at_store (c:=c_api_Addr) (z:=t3.1.f_To) (.s .z) lw sizeOf24 rfl rfl rfl ?_
 refine qn (dz (wq [2] ?_))
 refine tn (qt ?_)
 have K:=os hF
 subst K
 exact at_res1 rfl (res_cell (c:=c_api_Addr) (y:=t3.1.f_To) rfl .z lw isAgg24 sizeOf24 (.inl rfl)) wb
def flat_Own_1(x0:S_api_Entry)(x1:S_api_Entry):Option (Bool) :=
 some (decide (x0.f_P=x1.f_P))
theorem flat_Own_1_ok(x0:S_api_Entry)(b1_:Nat)(x1:S_api_Entry)(r:Bool)(hF:flat_Own_1 x0 x1=some r)(w:World)(hc1:Row c_api_Entry w (some ⟨b1_,0,none⟩) 1 [x1]) :
    Calls Try.prog 64 #[.agg (Cd.cs c_api_Entry x0).toArray,.pointer (some ⟨b1_,0,none⟩)] w (fun e w'=>e=.returned (.bool r)∧Below w.heap.size w w'):=by
 unfold flat_Own_1 at hF
 refine ce (l:=[.agg (Cd.cs c_api_Entry x0).toArray,.pointer (some ⟨b1_,0,none⟩)]) func64 rfl rfl ?_
 refine at_start ?_
 refine sr ?_
 refine at_box (cs:=Cd.cs c_api_Entry x0) rfl rfl rfl ?_
 intro b1
 refine aa (ns (fa 0 underlying66 rfl sizeOf37 ?_))
 refine aw (r_load_aggc (c:=c_api_Prefix) (z:=x0.f_P) isAgg37 sizeOf37 rfl (lens_cell .z (Lens.comp lw (fun z=>{ x0 with f_P:=z }) (c_api_Entry_f_P x0)))) ?_
 refine fa 0 underlying66 rfl sizeOf37 ?_
 refine aw (r_load_aggc (c:=c_api_Prefix) (z:=x1.f_P) isAgg37 sizeOf37 rfl (row_lens (y:=x1.f_P) (fun _ h=>h.below) hc1 one_in rfl (Lens.comp lw (fun z=>{ x1 with f_P:=z }) (c_api_Entry_f_P x1)))) ?_
 refine aw (r_eqagg (c:=c_api_Prefix) (a:=x0.f_P) (b:=x1.f_P) (eq_api_Prefix_37) rfl Try.eqGuardType37 rfl rfl (.inl rfl) rfl) ?_
 refine aa (qn (dz (wq [3] ?_)))
 refine tn (qt ?_)
 have K:=os hF
 subst K
 exact r1 wb
def slices_IndexFunc_api_Entry__flat_Own_1.l0(x0:List S_api_Entry)(x1_0:S_api_Entry)(i2:Int):Option (Ctl (Int) (Unit)) :=
 if (decide (i2<(x0.length:Int)))=true then (if (0:Int)≤i2∧i2<(x0.length:Int) then flat_Own_1 (lget x0 i2) x1_0>>=fun t8=>if t8=true then (some (.ret i2)) else (slices_IndexFunc_api_Entry__flat_Own_1.l0 x0 x1_0 (wr .i64 (i2+1))) else none) else (some (.nx ()))
 partial_fixpoint
def slices_IndexFunc_api_Entry__flat_Own_1(x0:List S_api_Entry)(x1_0:S_api_Entry):Option (Int) :=
 slices_IndexFunc_api_Entry__flat_Own_1.l0 x0 x1_0 0>>=fun q1=>match q1 with | .ret r'=>some r' | .nx sq1=>(some (-1))
theorem slices_IndexFunc_api_Entry__flat_Own_1_ok(x0:List S_api_Entry)(p0_:Option Addr)(c0_:Nat)(b1_0:Nat)(x1_0:S_api_Entry)(r:Int)(hF:slices_IndexFunc_api_Entry__flat_Own_1 x0 x1_0=some r)(w:World)(hr0:Row c_api_Entry w p0_ c0_ x0)(hc1_0:Row c_api_Entry w (some ⟨b1_0,0,none⟩) 1 [x1_0]) :
    Calls Try.prog 81 #[.slice p0_ x0.length c0_,.func (.func 64) #[] #[.pointer (some ⟨b1_0,0,none⟩)]] w (fun e w'=>e=.returned (.int .i64 r)∧Below w.heap.size w w'):=by
 unfold slices_IndexFunc_api_Entry__flat_Own_1 at hF
 refine ce (l:=[.slice p0_ x0.length c0_,.func (.func 64) #[] #[.pointer (some ⟨b1_0,0,none⟩)]]) func81 rfl rfl ?_
 refine at_start ?_
 refine sr (aa (nt (qs (sr (am ?_)))))
 refine aw (r_len_sl underlying54 rfl) ?_
 refine am (nwq [8,7,1,0] ?_)
 refine qb ?_
 obtain ⟨q1,hq1,hF⟩:=bM hF
 refine wq [8,7,1,0] ?_
 refine at_loop_r (B:=0) (r:=r) (q:=q1) (A:=fun (_:Unit) Y=>At 19 [] (Wd w []) Y) ?_ ?_
 ·intro K
  refine slices_IndexFunc_api_Entry__flat_Own_1.l0.partial_correctness x0 x1_0 (motive:=fun i2 x=>KR (fun (_:Unit) Y=>At 19 [] (Wd w []) Y) _ 0 r x→Round (fun Y=>At 19 [(0,.slice p0_ x0.length c0_),(1,.func (.func 64) #[] #[.pointer (some ⟨b1_0,0,none⟩)]),(7,.int .i64 (x0.length:Int)),(8,.int .i64 i2)] (Wd w []) Y) _ _ _) ?_ _ _ hq1 K
  ·clear K hF
   intro g ih i2 x hF K
   refine at_round ?_
   refine sr (aw xl (nwq [9,8,7,1,0] ?_))
   refine qs ?_
   obtain ⟨h3,hF⟩|⟨h3,hF⟩:=oi hF
   ·refine ct h3 ?_
    refine sn (qs ?_)
    refine qb ?_
    refine sr (am (aa (nwx [8,7,5,1,0] ?_)))
    refine am (am (am ?_))
    obtain ⟨h4,hF⟩:=gd hF
    obtain ⟨b6,o7,hp5⟩:=row_ptr hr0 h4
    refine aw (r_idx underlying54 sizeOf66 rfl rfl h4 hp5) ?_
    refine aw (r_load_aggc (c:=c_api_Entry) (z:=lget x0 i2) isAgg66 sizeOf66 rfl (row_cell (fun _ h=>h.below) hr0 h4 hp5)) ?_
    refine at_calleeC (caps:=[.pointer (some ⟨b1_0,0,none⟩)]) rfl ?_
    obtain ⟨t8,ht8,hF⟩:=bM hF
    refine cB func64 rfl (fun w hw=>flat_Own_1_ok _ _ _ _ ht8 w (hc1_0.below hw.below)) ?_
    refine nwq [16,8,7,5,1,0] ?_
    obtain ⟨h9,hF⟩|⟨h9,hF⟩:=oi hF
    ·refine ct h9 ?_
     refine sr (am (aa (nwq [4] ?_)))
     refine qt ?_
     refine br (tr (tr (br (tr ?_))))
     obtain rfl:=os hF
     subst K
     exact r1 wb
    refine cf h9 ?_
    refine at_skip ?_
    refine bm ?_
    refine qr (aw xa (am (nwq [8,7,1,0] ?_)))
    exact at_weak_k (ih _ _ hF K) ⟨rfl,rfl,rfl,rfl,trivial⟩
   refine cf h3 ?_
   refine at_exit ?_
   refine te (te ?_)
   obtain rfl:=os hF
   exact at_weak_k K trivial
 cases q1 with
 | ret r'=>exact os hF
 | nx sq1 =>
  skip
  refine at_blk_same ?_
  refine tn (sr (aa (nwq [4] ?_)))
  refine qt ?_
  have K:=os hF
  subst K
  exact r1 wb
def slices_ContainsFunc_api_Entry__flat_Own_1(x0:List S_api_Entry)(x1_0:S_api_Entry):Option (Bool) :=
 slices_IndexFunc_api_Entry__flat_Own_1 x0 x1_0>>=fun t1=>some (decide (t1≥0))
theorem slices_ContainsFunc_api_Entry__flat_Own_1_ok(x0:List S_api_Entry)(p0_:Option Addr)(c0_:Nat)(b1_0:Nat)(x1_0:S_api_Entry)(r:Bool)(hF:slices_ContainsFunc_api_Entry__flat_Own_1 x0 x1_0=some r)(w:World)(hr0:Row c_api_Entry w p0_ c0_ x0)(hc1_0:Row c_api_Entry w (some ⟨b1_0,0,none⟩) 1 [x1_0]) :
    Calls Try.prog 63 #[.slice p0_ x0.length c0_,.func (.func 64) #[] #[.pointer (some ⟨b1_0,0,none⟩)]] w (fun e w'=>e=.returned (.bool r)∧Below w.heap.size w w'):=by
 unfold slices_ContainsFunc_api_Entry__flat_Own_1 at hF
 refine ce (l:=[.slice p0_ x0.length c0_,.func (.func 64) #[] #[.pointer (some ⟨b1_0,0,none⟩)]]) func63 rfl rfl ?_
 refine at_start ?_
 refine sr (aa (ns (am (am ?_))))
 obtain ⟨t1,ht1,hF⟩:=bM hF
 refine cB func81 rfl (fun w hw=>slices_IndexFunc_api_Entry__flat_Own_1_ok _ _ _ _ _ _ ht1 w (hr0.below hw.below) (hc1_0.below hw.below)) ?_
 refine aw (r_igeq rfl rfl) ?_
 refine aa (nwq [4] ?_)
 refine qt ?_
 have K:=os hF
 subst K
 exact r1 wb
end Go.Proofs.Ytahlbjmafceoeaa
namespace Go.Proofs.Ytahlbjmafceoeaa
open E Go.RowKit
def ordE(x y:S_api_Entry):Int:=(flat_Own_2 x y).getD 0
def lessE(x y:S_api_Entry):Bool:=lessP x.f_P y.f_P
theorem ordE_key(x y:S_api_Entry):flat_Own_2 x y=some (if lessE x y=true then -1 else if lessE y x=true then 1 else 0):=by
 unfold flat_Own_2 lessE
 rw [cless_key,cless_key]
 show (if lessP x.f_P y.f_P=true then some (-1) else (if lessP y.f_P x.f_P=true then some 1 else some 0))=_
 split
 ·rfl
 ·split<;>rfl
theorem ltOf_ordE:ltOf ordE=lessE:=by
 funext x y
 unfold ltOf ordE
 rw [ordE_key]
 show decide ((if lessE x y=true then (-1:Int) else if lessE y x=true then 1 else 0)<0)=_
 cases h:lessE x y
 ·rw [if_neg Bool.false_ne_true];split<;>rfl
 ·rfl
def okE(x:S_api_Entry):Prop:=okP x.f_P
theorem lessE_swo:SWOn okE lessE where
 irrefl x hx:=lessP_swo.irrefl _ hx
 trans x y z hx hy hz h1 h2:=lessP_swo.trans _ _ _ hx hy hz h1 h2
 ntrans x y z hx hy hz h1 h2:=lessP_swo.ntrans _ _ _ hx hy hz h1 h2
theorem nodup_on{α β:Type}{f:α→β}:∀ {l:List α},(l.map f).Nodup→∀ x∈l,∀ y∈l,f x=f y→x=y
 | [],_,x,hx,_,_,_=>by cases hx
 | a::l,h,x,hx,y,hy,e=>by
  rw [List.map_cons] at h
  obtain ⟨h1,h2⟩:=List.nodup_cons.1 h
  rcases List.mem_cons.1 hx with ex | hx
  ·rcases List.mem_cons.1 hy with ey | hy
   ·rw [ex,ey]
   ·rw [ex] at e
    exact absurd (List.mem_map.2 ⟨y,hy,e.symm⟩) h1
  ·rcases List.mem_cons.1 hy with ey | hy
   ·rw [ey] at e
    exact absurd (List.mem_map.2 ⟨x,hx,e⟩) h1
   ·exact nodup_on h2 x hx y hy e
def sort_Entry(xs:List S_api_Entry):Option (List S_api_Entry):=if (xs.all fun x=>okb x.f_P.f_A.f_B)=true∧(xs.map S_api_Entry.f_P).Nodup∧xs.length≤1000000 then some (isort lessE xs) else none
theorem sort_Entry_len{xs r:List S_api_Entry}(h:sort_Entry xs=some r):r.length=xs.length:=by
 unfold sort_Entry at h
 split at h
 ·cases h;exact isort_length _ _
 ·cases h
theorem sort_Entry_ok{xs r:List S_api_Entry}(h:sort_Entry xs=some r){w0 w:World}{H G:List Ent}{f:Ent→List Ent}{p:Option Addr}{cap:Nat}(hu:Upd H (rowE c_api_Entry 66 p cap xs) f G)(hw:Wd w0 H w) :
  Calls Try.prog 65 #[.slice p xs.length cap,.func (.func 66) #[] #[]] w fun en w'=>en=.returned (.tuple #[])∧Wd w0 (f (rowE c_api_Entry 66 p cap r)) w':=by
 unfold sort_Entry at h
 split at h
 ·next hh =>
  cases h
  have hK:∀ x∈xs,okE x:=fun x hx=>List.all_eq_true.1 hh.1 x hx
  have:=sort_calls Try.sortE c_api_Entry okE Try.isAgg66 Try.sizeOf66 ordE (by rw [ltOf_ordE];exact lessE_swo) 66 (enters_of Try.func66 (by kernel_rfl) rfl)
   (fun x y _ _ w=>flat_Own_2_ok _ _ _ (by unfold ordE;rw [ordE_key];rfl) w) hK (by rw [ltOf_ordE];exact fun x hx y hy h1 h2=>nodup_on hh.2.1 x hx y hy (lessP_anti (hK x hx) (hK y hy) h1 h2)) (by omega) hu hw
  rw [ltOf_ordE] at this
  exact this
 ·cases h
end Go.Proofs.Ytahlbjmafceoeaa
namespace Go.Proofs.Ytahlbjmafceoeaa
open E Go.RowKit _root_.Go.Proofs.Try
theorem infoF566_is:(Try.prog.info? 66).isSome=true:=by kernel_rfl
noncomputable def infoF566_v:TypeInfo:=(Try.prog.info? 66).get infoF566_is
theorem infoF566:Try.prog.info? 66=some infoF566_v:=(Option.some_get _).symm
def flat_Own.l0(x0:List S_api_Entry)(i4:List S_api_Entry)(i5:Int):Option (List S_api_Entry) :=
 if (decide (i5<(x0.length:Int)))=true then (if (0:Int)≤i5∧i5<(x0.length:Int) then if (0:Int)≤wr .i64 (i5+1)∧wr .i64 (i5+1)≤(x0.length:Int)∧(x0.length:Int)≤(x0.length:Int) then slices_ContainsFunc_api_Entry__flat_Own_1 (lsub x0 (wr .i64 (i5+1)) (x0.length:Int)) (lget x0 i5)>>=fun t17=>cidr_Right ((lget x0 i5).f_P)>>=fun t18=>if t18=true then (if (!t17)=true then (if (i4.length+1)*40≤140737488355328 then flat_Own.l0 x0 (i4++[lget x0 i5]) (wr .i64 (i5+1)) else none) else (flat_Own.l0 x0 i4 (wr .i64 (i5+1)))) else (flat_Own.l0 x0 i4 (wr .i64 (i5+1))) else none else none) else (some i4)
 partial_fixpoint
def flat_Own(x0:List S_api_Entry):Option (List S_api_Entry) :=
 flat_Own.l0 x0 ([]:List S_api_Entry) 0>>=fun q3=>sort_Entry q3>>=fun t25=>some t25
theorem flat_Own_ok(x0:List S_api_Entry)(p0_:Option Addr)(c0_:Nat)(r:List S_api_Entry)(hF:flat_Own x0=some r)(w:World)(hr0:Row c_api_Entry w p0_ c0_ x0) :
    Calls Try.prog 33 #[.slice p0_ x0.length c0_] w (fun e w'=>∃ p cap,e=.returned (.slice p r.length cap)∧Own c_api_Entry 66 w.heap.size w' p cap r∧Below w.heap.size w w'):=by
 unfold flat_Own at hF
 refine ce (l:=[.slice p0_ x0.length c0_]) func33 rfl rfl ?_
 refine at_start ?_
 refine sr (aa (ns (aa (nt (qs (sr (am ?_)))))))
 refine aw (r_len_sl underlying54 rfl) ?_
 refine am (nwq [9,8,7,3,0] ?_)
 refine qb ?_
 refine at_own_nil c_api_Entry 66 ?_
 obtain ⟨q3,hq3,hF⟩:=bM hF
 refine wq [9,8,7,3,0] ?_
 refine at_loop_n (B:=0) (A:=fun Y=>∀ (p8:Option Addr) (c9:Nat),At 35 [(3,.slice p8 q3.length c9)] (Wd w [rowE c_api_Entry 66 p8 c9 q3]) Y) ?_ ?_
 ·intro K
  refine flat_Own.l0.partial_correctness x0 (motive:=fun i4 i5 x=>KN (fun Y=>∀ (p8:Option Addr) (c9:Nat),At 35 [(3,.slice p8 x.length c9)] (Wd w [rowE c_api_Entry 66 p8 c9 x]) Y) _ 0→Round (fun Y=>∀ (p6:Option Addr) (c7:Nat),At 35 [(0,.slice p0_ x0.length c0_),(3,.slice p6 i4.length c7),(7,.slice p0_ x0.length c0_),(8,.int .i64 (x0.length:Int)),(9,.int .i64 i5)] (Wd w [rowE c_api_Entry 66 p6 c7 i4]) Y) _ _ _) ?_ _ _ _ hq3 K none 0
  ·clear K hF
   intro g ih i4 i5 x hF K p6 c7
   refine at_round ?_
   refine sr (aw xl (nwq [10,9,8,7,3,0] ?_))
   refine qs ?_
   obtain ⟨h10,hF⟩|⟨h10,hF⟩:=oi hF
   ·refine ct h10 ?_
    refine sn (qs ?_)
    refine qb ?_
    refine sr (am ?_)
    obtain ⟨h11,hF⟩:=gd hF
    obtain ⟨b13,o14,hp12⟩:=row_ptr hr0 h11
    refine aw (r_idx underlying54 sizeOf66 rfl rfl h11 hp12) ?_
    refine aw (r_load_aggc (c:=c_api_Entry) (z:=lget x0 i5) isAgg66 sizeOf66 rfl (row_cell (fun _ h=>h.below) hr0 h11 hp12)) ?_
    refine al (cs:=Cd.cs c_api_Entry zv8) zeroValue66 ?_
    intro b15
    refine aa ?_
    refine at_store (c:=c_api_Entry) (z:=lget x0 i5) .z lw sizeOf66 rfl rfl rfl ?_
    refine ns (am (am (aw xa ?_)))
    obtain ⟨h16,hF⟩:=gd hF
    refine aw (r_reslice (c:=c_api_Entry) underlying54 sizeOf66 rfl (Row.len hr0) ⟨_,rfl⟩ rfl h16) ?_
    refine aw (r_makeFunc rfl) ?_
    obtain ⟨t17,ht17,hF⟩:=bM hF
    refine cB func63 rfl (fun w hw=>slices_ContainsFunc_api_Entry__flat_Own_1_ok _ _ _ _ _ _ ht17 w ((Row.sub hr0 h16).below hw.below) (cells_row1 (hw.ok (Upd.mem .z)))) ?_
    refine aa (nwx [9,8,7,6,5,3,0] ?_)
    refine fa 0 underlying66 rfl sizeOf37 ?_
    refine aw (r_load_aggc (c:=c_api_Prefix) (z:=(lget x0 i5).f_P) isAgg37 sizeOf37 rfl (lens_cell .z (Lens.comp lw (fun z=>{ lget x0 i5 with f_P:=z }) (c_api_Entry_f_P (lget x0 i5))))) ?_
    obtain ⟨t18,ht18,hF⟩:=bM hF
    refine cB func47 rfl (fun w hw=>cidr_Right_ok _ _ ht18 w) ?_
    refine am ?_
    obtain ⟨h19,hF⟩|⟨h19,hF⟩:=oi hF
    ·refine fx 23 h19 ?_
     refine gy ?_
     refine am ?_
     refine gy ?_
     refine aw (r_not rfl) ?_
     refine aw xp (nwq [26,9,8,7,5,3,0] ?_)
     obtain ⟨h20,hF⟩|⟨h20,hF⟩:=oi hF
     ·refine ct h20 ?_
      refine qr (am ?_)
      refine aw (r_load_aggc (c:=c_api_Entry) (z:=lget x0 i5) isAgg66 sizeOf66 rfl (lens_cell .z lw)) ?_
      refine at_litL (c:=c_api_Entry) ([zv8]:List S_api_Entry) ([lget x0 i5]:List S_api_Entry) underlying54 sizeOf66 zeroValue66 rfl rfl rfl (by kernel_rfl) (fill_step (c:=c_api_Entry) (z:=lget x0 i5) rfl (Lens.all c_api_Entry ([zv8]:List S_api_Entry) 0 (by first | decide | exact Nat.le_of_ble_eq_true rfl)) rfl rfl) rfl ?_
      intro b21
      obtain ⟨h22,hF⟩:=gd hF
      refine at_append (z:=.agg (Cd.cs c_api_Entry zv8).toArray) (c:=c_api_Entry) (ys:=([lget x0 i5]:List S_api_Entry)) (.s (.s .z)) underlying54 infoF566 (by kernel_rfl) (by kernel_rfl) rfl rfl rfl rfl (fun _ hw=>cells_src (hw.ok (Upd.mem .z))) (by kernel_rfl) h22 (app_small h22) rfl ?_
      intro p23 c24
      refine aa (qn (dz (dz (wq [9,8,7,3,0] ?_))))
      refine bm ?_
      refine qr (aw xa (am (nwq [9,8,7,3,0] ?_)))
      exact at_weak_k (ih _ _ _ hF K p23 c24) ⟨rfl,rfl,rfl,rfl,rfl,trivial⟩
     refine cf h20 ?_
     refine at_skip ?_
     refine bm ?_
     refine qr (aw xa (am (qn (dz (wq [9,8,7,3,0] ?_)))))
     refine tn ?_
     exact at_weak_k (ih _ _ _ hF K p6 c7) ⟨rfl,rfl,rfl,rfl,rfl,trivial⟩
    refine fx 23 h19 ?_
    refine gn ?_
    refine gn ?_
    refine aw xp (nwq [26,9,8,7,5,3,0] ?_)
    refine cf rfl ?_
    refine at_skip ?_
    refine bm ?_
    refine qr (aw xa (am (qn (dz (wq [9,8,7,3,0] ?_)))))
    refine tn ?_
    exact at_weak_k (ih _ _ _ hF K p6 c7) ⟨rfl,rfl,rfl,rfl,rfl,trivial⟩
   refine cf h10 ?_
   refine at_exit ?_
   refine te (te ?_)
   obtain rfl:=os hF
   exact at_weak_k (K p6 c7) ⟨rfl,trivial⟩
 skip
 intro p8 c9
 refine at_blk_same ?_
 refine tn (sr (am ?_))
 obtain ⟨t25,ht25,hF⟩:=bM hF
 refine at_callN (v:=.tuple #[]) (T:=[rowE c_api_Entry 66 p8 c9 t25]) func65 rfl (by kernel_rfl) rfl rfl (fun w hw=>sort_Entry_ok ht25 .z hw) ?_
 refine at_ov (t:=3) rfl (show Value.slice p8 (List.length q3) c9=.slice p8 (List.length t25) c9 from congrArg (fun n_=>Value.slice p8 n_ c9) ((sort_Entry_len ht25).symm)) ?_
 refine at_ov (t:=32) rfl (show Value.slice p8 (List.length q3) c9=.slice p8 (List.length t25) c9 from congrArg (fun n_=>Value.slice p8 n_ c9) ((sort_Entry_len ht25).symm)) ?_
 refine ns (am (aa (nwq [2] ?_)))
 refine qt ?_
 have K:=os hF
 subst K
 exact r1 (fun w1 hw=>⟨p8,c9,rfl,hw.own .z,hw.below⟩)
end Go.Proofs.Ytahlbjmafceoeaa
namespace Go.Proofs.Ytahlbjmafceoeaa.Agg
open E Go.RowKit Adr Cid
theorem has_code{V b W:Int}{l k:List UInt8}(hl:l.length=16)(hk:k.length=16):cidr_Has (mkP (mkA V l) b) (mkA W k)=some (hasP V l b W k):=by
 unfold cidr_Has hasP
 rw [cright_code hl,bindM_some]
 cases hp:rightP V l b with
 | false=>rfl
 | true =>
  obtain ⟨⟨hrl,h0,h1⟩,hm⟩:=rightP_iff.1 hp
  have hw:=width_le (V:=V) (l:=l)
  rw [if_pos rfl,right_code hk,bindM_some,Bool.true_and]
  cases hr:rightL W k with
  | false=>rfl
  | true =>
   rw [if_pos rfl,Bool.true_and]
   show (if (W==V)=true then (addr_Mask (mkA W k) b>>=fun t8=>some (decide (t8=mkA V l))) else some false)=_
   by_cases hV:W=V
   ·subst hV
    rw [if_pos (beq_self_eq_true _),mask_code hk (by omega),bindM_some,decide_eq_true rfl,Bool.true_and]
    unfold maskA
    rw [if_pos hr]
    refine congrArg some ?_
    rw [decide_eq_decide,mkA_inj (mlen hk b) hl]
    exact ⟨fun h=>h.2,fun h=>⟨rfl,h⟩⟩
   ·rw [if_neg (by rw [beq_iff_eq];exact hV),decide_eq_false hV];rfl
abbrev Tr:=Int×Nat×Nat
def cont(t u:Tr):Prop:=u.1=t.1∧u.2.2≤t.2.2∧t.2.1≤u.2.1∧u.2.1≤endT t
instance contDec (t u:Tr):Decidable (cont t u):=inferInstanceAs (Decidable (_∧_))
theorem has_pf2{t:Tr}(h:Good t){W:Int}(hW:fam W)(x:Nat)(hx:x<2 ^ wd W):cidr_Has (pf t) (adr W x)=some (decide (W=t.1∧t.2.1≤x∧x≤endT t)):=by
 have e:=has_pf h hW x hx
 unfold pf prf adr at e ⊢
 rw [has_ref (bt_len _ _) (bt_len _ _)] at e
 rw [has_code (bt_len _ _) (bt_len _ _)]
 exact e
theorem bits_le{t u:Tr}(ht:Good t)(hu:Good u)(h:u.1=t.1):(pf t).f_Bits≤(pf u).f_Bits↔u.2.2≤t.2.2:=by
 obtain ⟨V,N,k⟩:=t
 obtain ⟨W,M,j⟩:=u
 simp only at h
 subst h
 have h1:k≤wd W:=ht.le
 have h2:j≤wd W:=hu.le
 show ((wd W-k:Nat):Int)≤((wd W-j:Nat):Int)↔j≤k
 omega
theorem cov_pf{t u:Tr}(ht:Good t)(hu:Good u):cidr_Covers (pf t) (pf u)=some (decide (cont t u))∧crawlwayref11_Covers (pf t) (pf u)=some (decide (cont t u)):=by
 have r1:=(prf_right hu.fam hu.le hu.dvd)
 have h1:=has_pf2 ht hu.fam u.2.1 hu.lt
 have h2:=has_pf ht hu.fam u.2.1 hu.lt
 have hb:=bits_le ht hu
 unfold cidr_Covers crawlwayref11_Covers
 have hA:(pf u).f_A=adr u.1 u.2.1:=rfl
 have hr1:cidr_Right (pf u)=some true:=r1.1
 have hr2:crawlwayref11_Right (pf u)=some true:=r1.2
 rw [hr1,hr2,bindM_some,bindM_some,if_pos rfl,if_pos rfl,hA,h1,h2,bindM_some,bindM_some]
 by_cases hV:u.1=t.1
 ·by_cases hk:u.2.2≤t.2.2
  ·rw [decide_eq_true ((hb hV).2 hk),if_pos rfl]
   have e:(u.1=t.1∧t.2.1≤u.2.1∧u.2.1≤endT t)↔cont t u:=by unfold cont;constructor<;>intro h<;>simp_all
   rw [decide_eq_decide.2 e]
   cases hc:decide (cont t u)
   ·exact ⟨rfl,rfl⟩
   ·exact ⟨rfl,rfl⟩
  ·rw [decide_eq_false (mt (hb hV).1 hk),if_neg Bool.false_ne_true,decide_eq_false (show ¬ cont t u from fun h=>hk h.2.1)]
   refine ⟨rfl,?_⟩
   split<;>rfl
 ·rw [decide_eq_false (show ¬ (u.1=t.1∧t.2.1≤u.2.1∧u.2.1≤endT t) from fun h=>hV h.1),decide_eq_false (show ¬ cont t u from fun h=>hV h.1),if_neg Bool.false_ne_true]
  refine ⟨?_,rfl⟩
  split<;>rfl
def others(e:S_api_Entry)(B:List S_api_Entry):List S_api_Entry:=B.filter fun x=>!decide (x.f_P=e.f_P)
theorem others_pos{e x:S_api_Entry}{B:List S_api_Entry}(h:x.f_P≠e.f_P):others e (x::B)=x::others e B:=List.filter_cons_of_pos (by simpa using h)
theorem others_neg{e x:S_api_Entry}{B:List S_api_Entry}(h:x.f_P=e.f_P):others e (x::B)=others e B:=List.filter_cons_of_neg (by simpa using h)
theorem put_loop(xs:List S_api_Entry)(e:S_api_Entry)(hn:xs.length≤100000)(hl:∀ x∈xs,crawlwayref11_Less e.f_P x.f_P=some (lessE e x)):∀ (B A out:List S_api_Entry) (b:Bool),xs=A++B→out.length≤A.length+(if b=true then 1 else 0) →
  ∃ (o:List S_api_Entry) (c:Bool),crawlwayref25_Put.l0 xs e out b (A.length:Int)=some (o,c)∧o.length≤xs.length+(if c=true then 1 else 0) ∧
   (if c=true then o else o++[e])=out++(if b=true then others e B else ins lessE e (others e B))
 | [],A,out,b,hx,ho=>by
  have hd:decide ((A.length:Int)<(xs.length:Int))=false:=decide_eq_false (by rw [hx];simp)
  refine ⟨out,b,?_,?_,?_⟩
  ·rw [crawlwayref25_Put.l0.eq_def,hd,if_neg Bool.false_ne_true]
  ·rw [hx,List.append_nil];exact ho
  ·cases b
   ·rfl
   ·show out=out++[];rw [List.append_nil]
 | x::B,A,out,b,hx,ho=>by
  have hin:(0:Int)≤(A.length:Int)∧(A.length:Int)<(xs.length:Int):=by rw [hx];exact in_mid A x B
  have hg:lget xs (A.length:Int)=x:=by rw [hx];exact lget_mid A x B
  have hAl:A.length+1≤xs.length:=by rw [hx];simp
  have hwi:wr .i64 ((A.length:Int)+1)=((A++[x]).length:Int):=wr_mid A x (by omega)
  have hx2:xs=(A++[x])++B:=by rw [hx];simp
  have hA2:(A++[x]).length=A.length+1:=by simp
  have hlx:=hl x (by rw [hx];simp)
  have ho1:out.length≤A.length+1:=by split at ho<;>omega
  rw [crawlwayref25_Put.l0.eq_def,decide_eq_true hin.2,if_pos rfl,if_pos hin,hg,hwi]
  by_cases hp:x.f_P=e.f_P
  ·rw [decide_eq_true hp,if_pos rfl,others_neg hp]
   exact put_loop xs e hn hl B (A++[x]) out b hx2 (by omega)
  ·rw [decide_eq_false hp,if_neg Bool.false_ne_true,others_pos hp,if_pos hin,if_pos hin,hlx,bindM_some,if_pos hin]
   cases b with
   | true =>
    rw [if_neg (by decide),if_pos (by omega)]
    obtain ⟨o,c,h1,h2,h3⟩:=put_loop xs e hn hl B (A++[x]) (out++[x]) true hx2 (by rw [if_pos rfl] at ho ⊢;simp;omega)
    refine ⟨o,c,h1,h2,?_⟩
    rw [h3,if_pos rfl,if_pos rfl,List.append_assoc];rfl
   | false =>
    rw [if_pos (show (!false)=true from rfl)]
    have ho:out.length≤A.length:=ho
    show ∃ (o:List S_api_Entry) (c:Bool),_∧_∧(if c=true then o else o++[e])=out++ins lessE e (x::others e B)
    have hins:ins lessE e (x::others e B)=if lessE e x=true then e::x::others e B else x::ins lessE e (others e B):=rfl
    rw [hins]
    cases hlt:lessE e x with
    | true =>
     rw [if_pos rfl,if_pos rfl,if_pos (by omega),if_pos (by simp;omega)]
     obtain ⟨o,c,h1,h2,h3⟩:=put_loop xs e hn hl B (A++[x]) ((out++[e])++[x]) true hx2 (by rw [if_pos rfl];simp;omega)
     refine ⟨o,c,h1,h2,?_⟩
     rw [h3,if_pos rfl];simp
    | false =>
     rw [if_neg Bool.false_ne_true,if_neg Bool.false_ne_true,if_pos (by omega)]
     obtain ⟨o,c,h1,h2,h3⟩:=put_loop xs e hn hl B (A++[x]) (out++[x]) false hx2 (by rw [if_neg (by decide)];simp;omega)
     refine ⟨o,c,h1,h2,?_⟩
     rw [h3,if_neg (by decide),List.append_assoc];rfl
def putE(O:List S_api_Entry)(e:S_api_Entry):List S_api_Entry:=ins lessE e (others e O)
theorem others_len(e:S_api_Entry)(O:List S_api_Entry):(others e O).length≤O.length:=List.length_filter_le ..
theorem putE_len(O:List S_api_Entry)(e:S_api_Entry):(putE O e).length≤O.length+1:=by
 have h1:=(ins_perm lessE e (others e O)).length_eq
 have h2:=others_len e O
 unfold putE
 rw [h1,List.length_cons];omega
theorem put_code(xs:List S_api_Entry)(e:S_api_Entry)(hn:xs.length≤100000)(hl:∀ x∈xs,crawlwayref11_Less e.f_P x.f_P=some (lessE e x)):crawlwayref25_Put xs e=some (putE xs e):=by
 obtain ⟨o,c,h1,h2,h3⟩:=put_loop xs e hn hl xs [] [] false rfl (by simp)
 unfold crawlwayref25_Put
 show (crawlwayref25_Put.l0 xs e [] false (([]:List S_api_Entry).length:Int)>>=_)=_
 rw [h1,bindM_some]
 have h3:(if c=true then o else o++[e])=ins lessE e (others e xs):=h3
 unfold putE
 rw [←h3]
 cases c with
 | true=>rfl
 | false =>
  have h2:o.length≤xs.length:=h2
  show (if (!false)=true then (if (o.length+1)*40≤140737488355328 then some (o++[e]) else none) else some o)=_
  rw [if_pos (by decide),if_pos (by omega)];rfl
def LastIn:List S_api_Entry→S_api_Entry→Prop
 | [],_=>False
 | e::r,x=>(x=e∧∀ y∈r,y.f_P≠e.f_P)∨LastIn r x
theorem mem_others{e x:S_api_Entry}{O:List S_api_Entry}:x∈others e O↔x∈O∧x.f_P≠e.f_P:=by
 unfold others;rw [List.mem_filter];simp
theorem mem_putE{e x:S_api_Entry}{O:List S_api_Entry}:x∈putE O e↔x=e∨(x∈O∧x.f_P≠e.f_P):=by
 unfold putE
 rw [(ins_perm lessE e (others e O)).mem_iff,List.mem_cons,mem_others]
theorem mem_fold:∀ (r O:List S_api_Entry) (x:S_api_Entry),x∈r.foldl putE O↔LastIn r x∨(x∈O∧∀ y∈r,y.f_P≠x.f_P)
 | [],O,x=>by simp [LastIn]
 | e::r,O,x=>by
  rw [List.foldl_cons,mem_fold r,mem_putE]
  show _↔((x=e∧∀ y∈r,y.f_P≠e.f_P)∨LastIn r x)∨_
  constructor
  ·rintro (h | ⟨rfl | ⟨h1,h2⟩,h3⟩)
   ·exact .inl (.inr h)
   ·exact .inl (.inl ⟨rfl,h3⟩)
   ·refine .inr ⟨h1,fun y hy=>?_⟩
    rcases List.mem_cons.1 hy with rfl | hy
    ·exact fun e=>h2 e.symm
    ·exact h3 y hy
  ·rintro ((⟨rfl,h⟩ | h) | ⟨h1,h2⟩)
   ·exact .inr ⟨.inl rfl,h⟩
   ·exact .inl h
   ·exact .inr ⟨.inr ⟨h1,fun e'=>h2 e (List.mem_cons_self ..) e'.symm⟩,fun y hy=>h2 y (List.mem_cons_of_mem _ hy)⟩
def IsE(x:S_api_Entry):Prop:=IsPf x.f_P
theorem IsE.ok{x:S_api_Entry}(h:IsE x):okE x:=IsPf.ok h
structure Sorted (O:List S_api_Entry):Prop where
 is:∀ x∈O,IsE x
 up:Up lessE O
 nd:(O.map S_api_Entry.f_P).Nodup
theorem nodup_perm{A B:List S_api_Prefix}(h:A.Perm B):A.Nodup↔B.Nodup:=h.nodup_iff
theorem Sorted.put{O:List S_api_Entry}(h:Sorted O){e:S_api_Entry}(he:IsE e):Sorted (putE O e):=by
 have hsub:(others e O).Sublist O:=List.filter_sublist
 have his:∀ x∈others e O,IsE x:=fun x hx=>h.is x (mem_others.1 hx).1
 refine ⟨fun x hx=>?_,?_,?_⟩
 ·rcases mem_putE.1 hx with rfl | hx
  ·exact he
  ·exact h.is x hx.1
 ·exact ins_up lessE_swo he.ok (fun x hx=>(his x hx).ok) (h.up.sublist hsub)
 ·unfold putE
  rw [nodup_perm ((ins_perm lessE e (others e O)).map S_api_Entry.f_P),List.map_cons]
  refine List.nodup_cons.2 ⟨fun hm=>?_,h.nd.sublist (hsub.map _)⟩
  obtain ⟨x,hx,ex⟩:=List.mem_map.1 hm
  exact (mem_others.1 hx).2 ex
theorem Sorted.fold:∀ (r:List S_api_Entry) {O:List S_api_Entry},Sorted O→(∀ x∈r,IsE x)→Sorted (r.foldl putE O)∧(r.foldl putE O).length≤O.length+r.length
 | [],O,h,_=>⟨h,by simp⟩
 | e::r,O,h,hr=>by
  obtain ⟨h1,h2⟩:=Sorted.fold r (h.put (hr e (List.mem_cons_self ..))) fun x hx=>hr x (List.mem_cons_of_mem _ hx)
  have:=putE_len O e
  rw [List.foldl_cons]
  exact ⟨h1,by simp;omega⟩
theorem map_nodup{O:List S_api_Entry}(h:(O.map S_api_Entry.f_P).Nodup):O.Nodup:=by
 induction O with
 | nil=>exact List.nodup_nil
 | cons x O ih =>
  rw [List.map_cons] at h
  obtain ⟨h1,h2⟩:=List.nodup_cons.1 h
  exact List.nodup_cons.2 ⟨fun hx=>h1 (List.mem_map.2 ⟨x,hx,rfl⟩),ih h2⟩
theorem Sorted.ext{A B:List S_api_Entry}(hA:Sorted A)(hB:Sorted B)(h:∀ x,x∈A↔x∈B):A=B :=
 up_unique ((List.perm_ext_iff_of_nodup (map_nodup hA.nd) (map_nodup hB.nd)).2 h) hA.up hB.up fun x hx y hy h1 h2 =>
  nodup_on hA.nd x hx y hy (Go.Proofs.Ytahlbjmafceoeaa.lessP_anti (hA.is x hx).ok (hA.is y hy).ok h1 h2)
end Go.Proofs.Ytahlbjmafceoeaa.Agg
namespace Go.Proofs.Ytahlbjmafceoeaa.Agg
open E Go.RowKit Adr Cid
theorem right_at(x:S_api_Prefix)(h:ok_api_Prefix x):cidr_Right x=some (rgt x)∧crawlwayref11_Right x=some (rgt x)∧(rgt x=true→IsPf x):=by
 obtain ⟨V,l,b,rfl,hl,_⟩:=exists_mkP x h
 unfold rgt
 rw [cright_code hl,cright_ref hl]
 refine ⟨rfl,rfl,fun h2=>?_⟩
 obtain ⟨hf,N,k,a1,a2,a3,a4⟩:=right_prf hl h2
 exact ⟨(V,N,k),⟨hf,a1,a2,a3⟩,a4⟩
def pE(x:S_api_Entry):Bool:=rgt x.f_P
def okL(l:List S_api_Entry):Prop:=∀ x∈l,ok_api_Prefix x.f_P
theorem refOwn_loop(xs:List S_api_Entry)(hok:okL xs)(hn:xs.length≤10000):∀ (B A out:List S_api_Entry),xs=A++B→Sorted out→out.length≤A.length →
  crawlwayref59_Own.l0 xs out (A.length:Int)=some ((B.filter pE).foldl putE out)
 | [],A,out,hx,ho,hl=>by
  have hd:decide ((A.length:Int)<(xs.length:Int))=false:=decide_eq_false (by rw [hx];simp)
  rw [crawlwayref59_Own.l0.eq_def,hd,if_neg Bool.false_ne_true];rfl
 | x::B,A,out,hx,ho,hl=>by
  have hin:(0:Int)≤(A.length:Int)∧(A.length:Int)<(xs.length:Int):=by rw [hx];exact in_mid A x B
  have hg:lget xs (A.length:Int)=x:=by rw [hx];exact lget_mid A x B
  have hAl:A.length+1≤xs.length:=by rw [hx];simp
  have hwi:wr .i64 ((A.length:Int)+1)=((A++[x]).length:Int):=wr_mid A x (by omega)
  have hx2:xs=(A++[x])++B:=by rw [hx];simp
  obtain ⟨_,r2,r3⟩:=right_at x.f_P (hok x (by rw [hx];simp))
  rw [crawlwayref59_Own.l0.eq_def,decide_eq_true hin.2,if_pos rfl,if_pos hin,hg,hwi,r2,bindM_some]
  cases hp:rgt x.f_P with
  | false =>
   rw [if_neg Bool.false_ne_true,List.filter_cons_of_neg (by unfold pE;rw [hp];decide)]
   exact refOwn_loop xs hok hn B (A++[x]) out hx2 ho (by simp;omega)
  | true =>
   have he:IsE x:=r3 hp
   rw [if_pos rfl,if_pos hin,put_code out x (by omega) (fun y hy=>IsPf.less he (ho.is y hy)),bindM_some,List.filter_cons_of_pos (by unfold pE;exact hp),List.foldl_cons]
   have:=putE_len out x
   exact refOwn_loop xs hok hn B (A++[x]) (putE out x) hx2 (ho.put he) (by simp;omega)
theorem Sorted.nil:Sorted []:=⟨fun x h=>(by cases h),List.Pairwise.nil,List.nodup_nil⟩
theorem refOwn_code(xs:List S_api_Entry)(hok:okL xs)(hn:xs.length≤10000):crawlwayref59_Own xs=some ((xs.filter pE).foldl putE []):=by
 unfold crawlwayref59_Own
 have:=refOwn_loop xs hok hn xs [] [] rfl .nil (Nat.le_refl _)
 show (crawlwayref59_Own.l0 xs [] (([]:List S_api_Entry).length:Int)>>=_)=_
 rw [this];rfl
theorem idxE_loop(e:S_api_Entry)(xs:List S_api_Entry)(hn:xs.length≤100000):∀ (B A:List S_api_Entry),xs=A++B→(∀ y∈A,y.f_P≠e.f_P) →
  ∃ i:Int,(slices_IndexFunc_api_Entry__flat_Own_1.l0 xs e (A.length:Int)>>=fun q1=>match q1 with | .ret r'=>some r' | .nx sq1=>(some (-1)))=some i∧(decide (i≥0)=B.any fun y=>decide (y.f_P=e.f_P))
 | [],A,hx,hA=>by
  have hd:decide ((A.length:Int)<(xs.length:Int))=false:=decide_eq_false (by rw [hx];simp)
  refine ⟨-1,?_,rfl⟩
  rw [slices_IndexFunc_api_Entry__flat_Own_1.l0.eq_def,hd,if_neg Bool.false_ne_true];rfl
 | x::B,A,hx,hA=>by
  have hin:(0:Int)≤(A.length:Int)∧(A.length:Int)<(xs.length:Int):=by rw [hx];exact in_mid A x B
  have hg:lget xs (A.length:Int)=x:=by rw [hx];exact lget_mid A x B
  have hAl:A.length+1≤xs.length:=by rw [hx];simp
  have hwi:wr .i64 ((A.length:Int)+1)=((A++[x]).length:Int):=wr_mid A x (by omega)
  rw [slices_IndexFunc_api_Entry__flat_Own_1.l0.eq_def,decide_eq_true hin.2,if_pos rfl,if_pos hin,hg,hwi]
  unfold flat_Own_1
  rw [bindM_some]
  by_cases hp:x.f_P=e.f_P
  ·refine ⟨(A.length:Int),?_,?_⟩
   ·rw [decide_eq_true hp,if_pos rfl];rfl
   ·rw [List.any_cons,decide_eq_true hp,decide_eq_true (by omega)];rfl
  ·rw [decide_eq_false hp,if_neg Bool.false_ne_true]
   obtain ⟨i,h1,h2⟩:=idxE_loop e xs hn B (A++[x]) (by rw [hx];simp) (fun y hy=>by
    rcases List.mem_append.1 hy with hy | hy
    ·exact hA y hy
    ·rw [List.mem_singleton.1 hy];exact hp)
   refine ⟨i,h1,?_⟩
   rw [List.any_cons,decide_eq_false hp,Bool.false_or];exact h2
theorem contains_code(xs:List S_api_Entry)(e:S_api_Entry)(hn:xs.length≤100000):slices_ContainsFunc_api_Entry__flat_Own_1 xs e=some (xs.any fun y=>decide (y.f_P=e.f_P)):=by
 obtain ⟨i,h1,h2⟩:=idxE_loop e xs hn xs [] rfl (fun y hy=>by cases hy)
 have h3:slices_IndexFunc_api_Entry__flat_Own_1 xs e=some i:=by
  unfold slices_IndexFunc_api_Entry__flat_Own_1
  exact h1
 unfold slices_ContainsFunc_api_Entry__flat_Own_1
 rw [h3,bindM_some,h2]
def keepL:List S_api_Entry→List S_api_Entry
 | []=>[]
 | e::r=>if (pE e&&!(r.any fun y=>decide (y.f_P=e.f_P)))=true then e::keepL r else keepL r
theorem lsub_tail{α:Type}(A:List α)(x:α)(B:List α):lsub (A++x::B) ((A++[x]).length:Int) ((A++x::B).length:Int)=B:=by
 unfold lsub
 rw [Int.toNat_natCast,Int.toNat_natCast,List.take_length]
 have:A++x::B=(A++[x])++B:=by simp
 rw [this,List.drop_left]
theorem flatOwn_loop(xs:List S_api_Entry)(hok:okL xs)(hn:xs.length≤10000):∀ (B A out:List S_api_Entry),xs=A++B→out.length≤A.length →
  flat_Own.l0 xs out (A.length:Int)=some (out++keepL B)
 | [],A,out,hx,hl=>by
  have hd:decide ((A.length:Int)<(xs.length:Int))=false:=decide_eq_false (by rw [hx];simp)
  rw [flat_Own.l0.eq_def,hd,if_neg Bool.false_ne_true]
  show some out=some (out++[])
  rw [List.append_nil]
 | x::B,A,out,hx,hl=>by
  have hin:(0:Int)≤(A.length:Int)∧(A.length:Int)<(xs.length:Int):=by rw [hx];exact in_mid A x B
  have hg:lget xs (A.length:Int)=x:=by rw [hx];exact lget_mid A x B
  have hAl:A.length+1≤xs.length:=by rw [hx];simp
  have hBl:B.length≤xs.length:=by rw [hx];simp;omega
  have hA1:(A++[x]).length=A.length+1:=by simp
  have hwi:wr .i64 ((A.length:Int)+1)=((A++[x]).length:Int):=wr_mid A x (by omega)
  have hx2:xs=(A++[x])++B:=by rw [hx];simp
  have hb:(0:Int)≤((A++[x]).length:Int)∧((A++[x]).length:Int)≤(xs.length:Int)∧(xs.length:Int)≤(xs.length:Int):=by omega
  have hsub:lsub xs ((A++[x]).length:Int) (xs.length:Int)=B:=by rw [hx];exact lsub_tail A x B
  obtain ⟨r1,_,r3⟩:=right_at x.f_P (hok x (by rw [hx];simp))
  have ih:=fun o (h:o.length≤A.length+1)=>flatOwn_loop xs hok hn B (A++[x]) o hx2 (by omega)
  rw [flat_Own.l0.eq_def,decide_eq_true hin.2,if_pos rfl,if_pos hin,hg,hwi,if_pos hb,hsub,contains_code B x (by omega),bindM_some,r1,bindM_some]
  show _=some (out++(if (pE x&&!(B.any fun y=>decide (y.f_P=x.f_P)))=true then x::keepL B else keepL B))
  unfold pE
  cases rgt x.f_P with
  | false=>rw [if_neg Bool.false_ne_true,ih out (by omega)];rfl
  | true =>
   rw [if_pos rfl]
   cases B.any fun y=>decide (y.f_P=x.f_P) with
   | true=>rw [if_neg (by decide),ih out (by omega)];rfl
   | false =>
    rw [if_pos (by decide),if_pos (by omega),ih (out++[x]) (by simp;omega),List.append_assoc];rfl
theorem mem_keep:∀ (r:List S_api_Entry) (x:S_api_Entry),x∈keepL r↔LastIn (r.filter pE) x
 | [],x=>by simp [keepL,LastIn]
 | e::r,x=>by
  have hany:pE e=true→((r.any fun y=>decide (y.f_P=e.f_P))=false↔∀ y∈r.filter pE,y.f_P≠e.f_P):=fun he=>by
   rw [List.any_eq_false]
   constructor
   ·intro h y hy ey
    exact h y (List.mem_filter.1 hy).1 (decide_eq_true ey)
   ·intro h y hy ey
    have ey:=of_decide_eq_true ey
    refine h y (List.mem_filter.2 ⟨hy,?_⟩) ey
    unfold pE at he ⊢
    rw [ey];exact he
  show x∈(if (pE e&&!(r.any fun y=>decide (y.f_P=e.f_P)))=true then e::keepL r else keepL r)↔_
  cases he:pE e with
  | false =>
   rw [List.filter_cons_of_neg (by rw [he];decide),Bool.false_and,if_neg Bool.false_ne_true]
   exact mem_keep r x
  | true =>
   rw [List.filter_cons_of_pos he,Bool.true_and]
   show _↔(x=e∧∀ y∈r.filter pE,y.f_P≠e.f_P)∨LastIn (r.filter pE) x
   rw [←hany he]
   cases hb:r.any fun y=>decide (y.f_P=e.f_P) with
   | true =>
    rw [if_neg (by decide),mem_keep r x]
    exact ⟨.inr,fun h=>h.elim (fun h=>(by cases h.2)) id⟩
   | false =>
    rw [if_pos (by decide),List.mem_cons,mem_keep r x]
    exact ⟨fun h=>h.elim (fun h=>.inl ⟨h,rfl⟩) .inr,fun h=>h.elim (fun h=>.inl h.1) .inr⟩
theorem keep_sub:∀ (r:List S_api_Entry),(keepL r).Sublist (r.filter pE)
 | []=>List.Sublist.refl _
 | e::r=>by
  show (if (pE e&&!(r.any fun y=>decide (y.f_P=e.f_P)))=true then e::keepL r else keepL r).Sublist _
  cases he:pE e with
  | false=>rw [List.filter_cons_of_neg (by rw [he];decide)];exact keep_sub r
  | true =>
   rw [List.filter_cons_of_pos he]
   split
   ·exact (keep_sub r).cons_cons e
   ·exact (keep_sub r).cons e
theorem keep_nd:∀ (r:List S_api_Entry),((keepL r).map S_api_Entry.f_P).Nodup
 | []=>List.nodup_nil
 | e::r=>by
  show ((if (pE e&&!(r.any fun y=>decide (y.f_P=e.f_P)))=true then e::keepL r else keepL r).map S_api_Entry.f_P).Nodup
  split
  ·next h =>
   rw [List.map_cons]
   refine List.nodup_cons.2 ⟨fun hm=>?_,keep_nd r⟩
   obtain ⟨y,hy,ey⟩:=List.mem_map.1 hm
   rw [Bool.and_eq_true,Bool.not_eq_true'] at h
   have h2:=List.any_eq_false.1 h.2 y (List.mem_filter.1 ((keep_sub r).subset hy)).1
   exact h2 (decide_eq_true ey)
  ·exact keep_nd r
theorem isE_of{x:S_api_Entry}{l:List S_api_Entry}(hok:okL l)(h:x∈l.filter pE):IsE x:=by
 obtain ⟨h1,h2⟩:=List.mem_filter.1 h
 exact (right_at x.f_P (hok x h1)).2.2 h2
theorem last_nd:∀ {l:List S_api_Entry} {x:S_api_Entry},(l.map S_api_Entry.f_P).Nodup→(LastIn l x↔x∈l)
 | [],x,_=>by simp [LastIn]
 | e::r,x,h=>by
  rw [List.map_cons] at h
  obtain ⟨h1,h2⟩:=List.nodup_cons.1 h
  show (x=e∧∀ y∈r,y.f_P≠e.f_P)∨LastIn r x↔_
  rw [last_nd h2,List.mem_cons]
  exact ⟨fun h=>h.elim (fun h=>.inl h.1) .inr,fun h=>h.elim (fun h=>.inl ⟨h,fun y hy ey=>h1 (List.mem_map.2 ⟨y,hy,ey⟩)⟩) .inr⟩
structure Counts (l O:List S_api_Entry):Prop where
 sorted:Sorted O
 len:O.length≤l.length
 mem:∀ x,x∈O↔LastIn (l.filter pE) x
 code:flat_Own l=some O
 doc:crawlwayref59_Own l=some O
theorem counts(l:List S_api_Entry)(hok:okL l)(hn:l.length≤10000):∃ O,Counts l O:=by
 have hK:∀ x∈keepL l,IsE x:=fun x hx=>isE_of hok ((keep_sub l).subset hx)
 have hs:Sorted (isort lessE (keepL l)):=by
  refine ⟨fun x hx=>hK x ((isort_perm lessE _).mem_iff.1 hx),isort_up lessE_swo _ fun x hx=>(hK x hx).ok,?_⟩
  rw [nodup_perm ((isort_perm lessE (keepL l)).map S_api_Entry.f_P)]
  exact keep_nd l
 have hr:=(Sorted.fold (l.filter pE) .nil fun x hx=>isE_of hok hx).1
 have hmem:∀ x,x∈isort lessE (keepL l)↔LastIn (l.filter pE) x:=fun x=>by rw [(isort_perm lessE _).mem_iff,mem_keep]
 have heq:isort lessE (keepL l)=(l.filter pE).foldl putE []:=hs.ext hr fun x=>by
  rw [hmem,mem_fold]
  simp
 have hlen:(keepL l).length≤l.length:=Nat.le_trans (keep_sub l).length_le (List.length_filter_le ..)
 refine ⟨_,hs,by rw [isort_length];exact hlen,hmem,?_,by rw [heq];exact refOwn_code l hok hn⟩
 unfold flat_Own
 have:=flatOwn_loop l hok hn l [] [] rfl (Nat.le_refl _)
 show (flat_Own.l0 l [] (([]:List S_api_Entry).length:Int)>>=_)=_
 rw [this,bindM_some,List.nil_append]
 unfold sort_Entry
 rw [if_pos ⟨List.all_eq_true.2 fun x hx=>(hK x hx).ok,keep_nd l,by omega⟩];rfl
theorem counts_self{O:List S_api_Entry}(h:Sorted O)(hn:O.length≤10000)(hok:okL O):Counts O O:=by
 obtain ⟨O',h'⟩:=counts O hok hn
 have hf:O.filter pE=O:=List.filter_eq_self.2 fun x hx=>by
  obtain ⟨t,ht,e⟩:=h.is x hx
  have:=(prf_right ht.fam ht.le ht.dvd).1
  unfold pE rgt
  rw [e]
  show (cidr_Right (prf t.1 t.2.1 t.2.2)).getD false=true
  rw [this];rfl
 have:O'=O:=h'.sorted.ext h fun x=>by rw [h'.mem,hf,last_nd h.nd]
 rw [this] at h'
 exact h'
theorem Sorted.okL{O:List S_api_Entry}(h:Sorted O):okL O:=fun x hx=>by
 obtain ⟨t,ht,e⟩:=h.is x hx
 rw [e];exact ok_pf ht
end Go.Proofs.Ytahlbjmafceoeaa.Agg
namespace Go.Proofs.Ytahlbjmafceoeaa
open E Go.RowKit _root_.Go.Proofs.Try
theorem infoF760_is:(Try.prog.info? 60).isSome=true:=by kernel_rfl
noncomputable def infoF760_v:TypeInfo:=(Try.prog.info? 60).get infoF760_is
theorem infoF760:Try.prog.info? 60=some infoF760_v:=(Option.some_get _).symm
def flat_row_move(x0:S_flat_row)(x1:S_api_Addr):Option (S_flat_row) :=
 aggregate_Next x1>>=fun t2=>some ({ { x0 with f_at:=t2.1 } with f_done:=!t2.2 })
theorem flat_row_move_ok{x0:S_flat_row}{x1:S_api_Addr}{r:S_flat_row}(hF:flat_row_move x0 x1=some r):∀ {w0 w:World} {G_:List Ent} {b0_:Nat} {p0f_l_:Option Addr} {c0f_l_:Nat} {p0f_stack_:Option Addr} {c0f_stack_:Nat} (hw_:Wd w0 (cellsE b0_ (Cd.cs c_flat_row (((p0f_l_,c0f_l_),(p0f_stack_,c0f_stack_)),x0)) 84::rowE c_flat_Span 60 p0f_l_ c0f_l_ x0.f_l::rowE c_api_Entry 66 p0f_stack_ c0f_stack_ x0.f_stack::G_) w),
    Calls Try.prog 80 #[.pointer (some ⟨b0_,0,none⟩),.agg (Cd.cs c_api_Addr x1).toArray] w (fun e w'=>∃ (z0:G_flat_row),e=.returned (.tuple #[])∧Wd w0 (cellsE b0_ (Cd.cs c_flat_row (z0,r)) 84::rowE c_flat_Span 60 z0.1.1 z0.1.2 r.f_l::rowE c_api_Entry 66 z0.2.1 z0.2.2 r.f_stack::G_) w'):=by
 intro w0 w G_ b0_ p0f_l_ c0f_l_ p0f_stack_ c0f_stack_ hw_
 unfold flat_row_move at hF
 refine ce (l:=[.pointer (some ⟨b0_,0,none⟩),.agg (Cd.cs c_api_Addr x1).toArray]) func80 rfl rfl ?_
 refine at_enterF hw_ ?_
 refine sr ?_
 refine at_box (cs:=Cd.cs c_api_Addr x1) rfl rfl rfl ?_
 intro b1
 refine ns ?_
 refine aw (r_load_aggc (c:=c_api_Addr) (z:=x1) isAgg24 sizeOf24 rfl (lens_cell .z lw)) ?_
 obtain ⟨t2,ht2,hF⟩:=bM hF
 refine cB func25 rfl (fun w hw=>aggregate_Next_ok _ _ ht2 w) ?_
 refine am ?_
 refine aw xe (aw xe ?_)
 refine al (cs:=Cd.cs c_api_Addr zv0) zeroValue24 ?_
 intro b3
 refine at_store (c:=c_api_Addr) (z:=t2.1) .z lw sizeOf24 rfl rfl rfl ?_
 refine aa (qn ?_)
 refine at_drop (H:=_) (.s .z) ?_
 refine tn (qr (am (am ?_)))
 refine aw (r_load_aggc (c:=c_api_Addr) (z:=t2.1) isAgg24 sizeOf24 rfl (lens_cell .z lw)) ?_
 refine am ?_
 refine aw (r_not rfl) ?_
 refine aw (r_nilCheck rfl) ?_
 refine fa 2 underlying84 rfl sizeOf24 ?_
 refine at_store (c:=c_api_Addr) (z:=t2.1) (.s .z) (c_flat_row_f_at ((p0f_l_,c0f_l_),(p0f_stack_,c0f_stack_)) x0) sizeOf24 rfl rfl rfl ?_
 refine aw (r_nilCheck rfl) ?_
 refine fa 19 underlying84 rfl sizeOf4 ?_
 refine at_store (c:=cBool) (z:=!t2.2) (.s .z) (c_flat_row_f_done ((p0f_l_,c0f_l_),(p0f_stack_,c0f_stack_)) ({ x0 with f_at:=t2.1 })) sizeOf4 rfl rfl rfl ?_
 refine qn (dz ?_)
 refine at_weak [] trivial ?_
 have K:=os hF
 subst K
 exact at_return0 rfl (fun w1 hw=>⟨((p0f_l_,c0f_l_),(p0f_stack_,c0f_stack_)),rfl,hw⟩)
def flat_row_put(x0:S_flat_row)(x1:S_api_Addr):Option (S_flat_row) :=
 if x0.f_done=true then (some x0) else (addr_Less x1 x0.f_at>>=fun t3=>if t3=true then (some x0) else (if (0:Int)≤wr .i64 ((x0.f_stack.length:Int)-1)∧wr .i64 ((x0.f_stack.length:Int)-1)<(x0.f_stack.length:Int) then if (decide ((x0.f_l.length:Int)>0))=true then (if (0:Int)≤wr .i64 ((x0.f_l.length:Int)-1)∧wr .i64 ((x0.f_l.length:Int)-1)<(x0.f_l.length:Int) then if ((lget x0.f_l (wr .i64 ((x0.f_l.length:Int)-1))).f_Owner==(lget x0.f_stack (wr .i64 ((x0.f_stack.length:Int)-1))).f_Owner)=true then (if (0:Int)≤wr .i64 ((x0.f_l.length:Int)-1)∧wr .i64 ((x0.f_l.length:Int)-1)<(x0.f_l.length:Int) then aggregate_Next (((lget x0.f_l (wr .i64 ((x0.f_l.length:Int)-1))).f_Range).f_To)>>=fun t20=>if t20.2=true then (if (decide (t20.1=x0.f_at))=true then (if (0:Int)≤wr .i64 ((x0.f_l.length:Int)-1)∧wr .i64 ((x0.f_l.length:Int)-1)<(x0.f_l.length:Int) then flat_row_move ({ x0 with f_l:=lset x0.f_l (wr .i64 ((x0.f_l.length:Int)-1)) ({ (lget x0.f_l (wr .i64 ((x0.f_l.length:Int)-1))) with f_Range:={ (lget x0.f_l (wr .i64 ((x0.f_l.length:Int)-1))).f_Range with f_To:=x1 } }) }) x1>>=fun t30=>some t30 else none) else (if (x0.f_l.length+1)*56≤140737488355328 then flat_row_move ({ x0 with f_l:=x0.f_l++[{ { ({ f_Range:=({ f_From:=({ f_V:=(0:Int),f_B:=(Vector.replicate 16 (0:Int):(Vector Int 16)) }:S_api_Addr),f_To:=({ f_V:=(0:Int),f_B:=(Vector.replicate 16 (0:Int):(Vector Int 16)) }:S_api_Addr) }:S_aggregate_Range),f_Owner:=(0:Int) }:S_flat_Span) with f_Range:={ { ({ f_From:=({ f_V:=(0:Int),f_B:=(Vector.replicate 16 (0:Int):(Vector Int 16)) }:S_api_Addr),f_To:=({ f_V:=(0:Int),f_B:=(Vector.replicate 16 (0:Int):(Vector Int 16)) }:S_api_Addr) }:S_aggregate_Range) with f_From:=x0.f_at } with f_To:=x1 } } with f_Owner:=(lget x0.f_stack (wr .i64 ((x0.f_stack.length:Int)-1))).f_Owner }] }) x1>>=fun t40=>some t40 else none)) else (if (x0.f_l.length+1)*56≤140737488355328 then flat_row_move ({ x0 with f_l:=x0.f_l++[{ { ({ f_Range:=({ f_From:=({ f_V:=(0:Int),f_B:=(Vector.replicate 16 (0:Int):(Vector Int 16)) }:S_api_Addr),f_To:=({ f_V:=(0:Int),f_B:=(Vector.replicate 16 (0:Int):(Vector Int 16)) }:S_api_Addr) }:S_aggregate_Range),f_Owner:=(0:Int) }:S_flat_Span) with f_Range:={ { ({ f_From:=({ f_V:=(0:Int),f_B:=(Vector.replicate 16 (0:Int):(Vector Int 16)) }:S_api_Addr),f_To:=({ f_V:=(0:Int),f_B:=(Vector.replicate 16 (0:Int):(Vector Int 16)) }:S_api_Addr) }:S_aggregate_Range) with f_From:=x0.f_at } with f_To:=x1 } } with f_Owner:=(lget x0.f_stack (wr .i64 ((x0.f_stack.length:Int)-1))).f_Owner }] }) x1>>=fun t50=>some t50 else none) else none) else (if (x0.f_l.length+1)*56≤140737488355328 then flat_row_move ({ x0 with f_l:=x0.f_l++[{ { ({ f_Range:=({ f_From:=({ f_V:=(0:Int),f_B:=(Vector.replicate 16 (0:Int):(Vector Int 16)) }:S_api_Addr),f_To:=({ f_V:=(0:Int),f_B:=(Vector.replicate 16 (0:Int):(Vector Int 16)) }:S_api_Addr) }:S_aggregate_Range),f_Owner:=(0:Int) }:S_flat_Span) with f_Range:={ { ({ f_From:=({ f_V:=(0:Int),f_B:=(Vector.replicate 16 (0:Int):(Vector Int 16)) }:S_api_Addr),f_To:=({ f_V:=(0:Int),f_B:=(Vector.replicate 16 (0:Int):(Vector Int 16)) }:S_api_Addr) }:S_aggregate_Range) with f_From:=x0.f_at } with f_To:=x1 } } with f_Owner:=(lget x0.f_stack (wr .i64 ((x0.f_stack.length:Int)-1))).f_Owner }] }) x1>>=fun t60=>some t60 else none) else none) else (if (x0.f_l.length+1)*56≤140737488355328 then flat_row_move ({ x0 with f_l:=x0.f_l++[{ { ({ f_Range:=({ f_From:=({ f_V:=(0:Int),f_B:=(Vector.replicate 16 (0:Int):(Vector Int 16)) }:S_api_Addr),f_To:=({ f_V:=(0:Int),f_B:=(Vector.replicate 16 (0:Int):(Vector Int 16)) }:S_api_Addr) }:S_aggregate_Range),f_Owner:=(0:Int) }:S_flat_Span) with f_Range:={ { ({ f_From:=({ f_V:=(0:Int),f_B:=(Vector.replicate 16 (0:Int):(Vector Int 16)) }:S_api_Addr),f_To:=({ f_V:=(0:Int),f_B:=(Vector.replicate 16 (0:Int):(Vector Int 16)) }:S_api_Addr) }:S_aggregate_Range) with f_From:=x0.f_at } with f_To:=x1 } } with f_Owner:=(lget x0.f_stack (wr .i64 ((x0.f_stack.length:Int)-1))).f_Owner }] }) x1>>=fun t70=>some t70 else none) else none))
set_option maxHeartbeats 3200000 in
theorem flat_row_put_ok{x0:S_flat_row}{x1:S_api_Addr}{r:S_flat_row}(hF:flat_row_put x0 x1=some r):∀ {w0 w:World} {G_:List Ent} {b0_:Nat} {p0f_l_:Option Addr} {c0f_l_:Nat} {p0f_stack_:Option Addr} {c0f_stack_:Nat} (hw_:Wd w0 (cellsE b0_ (Cd.cs c_flat_row (((p0f_l_,c0f_l_),(p0f_stack_,c0f_stack_)),x0)) 84::rowE c_flat_Span 60 p0f_l_ c0f_l_ x0.f_l::rowE c_api_Entry 66 p0f_stack_ c0f_stack_ x0.f_stack::G_) w),
    Calls Try.prog 56 #[.pointer (some ⟨b0_,0,none⟩),.agg (Cd.cs c_api_Addr x1).toArray] w (fun e w'=>∃ (z0:G_flat_row),e=.returned (.tuple #[])∧Wd w0 (cellsE b0_ (Cd.cs c_flat_row (z0,r)) 84::rowE c_flat_Span 60 z0.1.1 z0.1.2 r.f_l::rowE c_api_Entry 66 z0.2.1 z0.2.2 r.f_stack::G_) w'):=by
 intro w0 w G_ b0_ p0f_l_ c0f_l_ p0f_stack_ c0f_stack_ hw_
 unfold flat_row_put at hF
 refine ce (l:=[.pointer (some ⟨b0_,0,none⟩),.agg (Cd.cs c_api_Addr x1).toArray]) func56 rfl rfl ?_
 refine at_enterF hw_ ?_
 refine sr ?_
 refine at_box (cs:=Cd.cs c_api_Addr x1) rfl rfl rfl ?_
 intro b1
 refine nwq [3,0] ?_
 refine qs (qs ?_)
 refine at_draw (by kernel_rfl) (by kernel_rfl) (fun _ h=>h.drew) ?_
 refine atq_val rfl rfl rfl (r_move rfl) ?_
 refine atq_val rfl rfl rfl (r_nilCheck rfl) ?_
 refine atq_val rfl rfl rfl (r_fieldAddr (fo:=19) underlying84 rfl rfl (fun w=>⟨_,sizeOf4 w⟩) rfl) ?_
 refine atq_val rfl rfl rfl (r_load_cell isAgg4 rfl (lens_cell0 (c:=cBool) (y:=x0.f_done) (.s .z) (c_flat_row_f_done ((p0f_l_,c0f_l_),(p0f_stack_,c0f_stack_)) x0) rfl)) ?_
 refine atq_val rfl rfl rfl (r_move rfl) ?_
 obtain ⟨h2,hF⟩|⟨h2,hF⟩:=oi hF
 ·refine atq_fix (g:=12) rfl h2 ?_
  refine atq_guard_no rfl rfl rfl rfl rfl ?_
  refine atq_guard_no rfl rfl rfl rfl rfl ?_
  refine atq_guard_no rfl rfl rfl rfl rfl ?_
  refine atq_guard_no rfl rfl rfl rfl rfl ?_
  refine atq_guard_no rfl rfl rfl rfl rfl ?_
  refine atq_guard_no rfl rfl rfl rfl rfl ?_
  refine atq_val rfl rfl rfl (r_pick rfl rfl rfl) ?_
  refine atq_nil ?_
  refine wq [19,3,0] ?_
  refine tn ?_
  refine ct rfl ?_
  refine rt (dz ?_)
  have K:=os hF
  subst K
  exact at_return0' rfl (fun w1 hw=>⟨((p0f_l_,c0f_l_),(p0f_stack_,c0f_stack_)),rfl,hw⟩)
 refine atq_fix (g:=12) rfl h2 ?_
 refine atq_guard_yes rfl rfl rfl ?_
 refine atq_val rfl rfl rfl (r_load_aggc (c:=c_api_Addr) (z:=x1) isAgg24 sizeOf24 rfl (lens_cell .z lw)) ?_
 refine atq_guard_yes rfl rfl rfl ?_
 refine atq_val rfl rfl rfl (r_move rfl) ?_
 refine atq_guard_yes rfl rfl rfl ?_
 refine atq_val rfl rfl rfl (r_nilCheck rfl) ?_
 refine atq_guard_yes rfl rfl rfl ?_
 refine atq_val rfl rfl rfl (r_fieldAddr (fo:=2) underlying84 rfl rfl (fun w=>⟨_,sizeOf24 w⟩) rfl) ?_
 refine atq_guard_yes rfl rfl rfl ?_
 refine atq_val rfl rfl rfl (r_load_aggc (c:=c_api_Addr) (z:=x0.f_at) isAgg24 sizeOf24 rfl (lens_cell (.s .z) (c_flat_row_f_at ((p0f_l_,c0f_l_),(p0f_stack_,c0f_stack_)) x0))) ?_
 refine atq_guard_yes rfl rfl rfl ?_
 obtain ⟨t3,ht3,hF⟩:=bM hF
 refine atq_call func39 rfl (by kernel_rfl) rfl rfl (fun w hw=>(addr_Less_ok _ _ _ ht3 w).mono fun _ _ h=>⟨h.1,hw.call h.2⟩) ?_
 refine atq_val rfl rfl rfl (r_pick rfl rfl rfl) ?_
 refine atq_nil ?_
 refine wq [19,3,0] ?_
 refine tn ?_
 obtain ⟨h4,hF⟩|⟨h4,hF⟩:=oi hF
 ·refine ct h4 ?_
  refine rt (dz ?_)
  have K:=os hF
  subst K
  exact at_return0' rfl (fun w1 hw=>⟨((p0f_l_,c0f_l_),(p0f_stack_,c0f_stack_)),rfl,hw⟩)
 refine cf h4 ?_
 refine sn (qs (wq [3,0] ?_))
 obtain ⟨h5,hF⟩:=gd hF
 refine at_pure (φ:=∃ b o,p0f_stack_=some ⟨b,o,none⟩) (fun _ hw=>row_ptr (hw.own (.s (.s (.s .z)))).row h5) ?_
 rintro ⟨b7,o8,hp6⟩
 refine at_inv [.q 20 (fun g9=>.pointer (some ⟨b0_,0,none⟩)) [] 0 0,.q 21 (fun g9=>.pointer (some ⟨b0_,0,none⟩)) [0] 0 0,.q 22 (fun g9=>.pointer (some ⟨b0_,0+1,none⟩)) [1] 0 0,.q 23 (fun g9=>.slice p0f_stack_ x0.f_stack.length c0f_stack_) [2] 0 0,.q 24 (fun g9=>.pointer (some ⟨b0_,0,none⟩)) [] 0 0,.q 25 (fun g9=>.pointer (some ⟨b0_,0,none⟩)) [4] 0 0,.q 26 (fun g9=>.pointer (some ⟨b0_,0+1,none⟩)) [5] 0 0,.q 27 (fun g9=>.slice p0f_stack_ x0.f_stack.length c0f_stack_) [6] 0 0,.q 28 (fun g9=>.int .i64 (x0.f_stack.length:Int)) [7] 0 0,.q 29 (fun g9=>.int .i64 (wr .i64 ((x0.f_stack.length:Int)-1))) [8] 0 0,.q 30 (fun g9=>.pointer (some ⟨b7,o8+Int.toNat (wr .i64 ((x0.f_stack.length:Int)-1))*19,none⟩)) [3,9] 0 0,.q 31 (fun g9=>.pointer (some ⟨b7,o8+Int.toNat (wr .i64 ((x0.f_stack.length:Int)-1))*19+18,none⟩)) [10] 0 0,.q 32 (fun g9=>.int .i64 ((lget x0.f_stack (wr .i64 ((x0.f_stack.length:Int)-1))).f_Owner)) [11] 0 0,.q 4 (fun g9=>.int .i64 ((lget x0.f_stack (wr .i64 ((x0.f_stack.length:Int)-1))).f_Owner)) [12] 0 0] (fun g9 s=>match s with | _=>(Wd w0 (cellsE b1 (Cd.cs c_api_Addr x1) 24::cellsE b0_ (Cd.cs c_flat_row (((p0f_l_,c0f_l_),(p0f_stack_,c0f_stack_)),x0)) 84::rowE c_flat_Span 60 p0f_l_ c0f_l_ x0.f_l::rowE c_api_Entry 66 p0f_stack_ c0f_stack_ x0.f_stack::G_))) 0 (by kernel_rfl) (by kernel_rfl) (by kernel_rfl) (by kernel_rfl) (by kernel_rfl) ⟨fun _ _ _=>rfl,fun _ _ _=>rfl,fun _ _ _=>rfl,fun _ _ _=>rfl,fun _ _ _=>rfl,fun _ _ _=>rfl,fun _ _ _=>rfl,fun _ _ _=>rfl,fun _ _ _=>rfl,fun _ _ _=>rfl,fun _ _ _=>rfl,fun _ _ _=>rfl,fun _ _ _=>rfl,fun _ _ _=>rfl,trivial⟩ (by kernel_rfl) (fun w_ h=>⟨fun _=>g3 0 none 0 none w_,h.drew⟩) ⟨?_,?_,?_,?_,?_,?_,?_,?_,?_,?_,?_,?_,?_,?_,trivial⟩ ?_
 ·intro Lx g9 s K hl hh k
  show At 109 ((0,_)::(3,_)::Lx) _ _
  refine am ?_
  exact at_nil k
 ·intro Lx g9 s K hl hh k
  show At 109 ((20,_)::(0,_)::(3,_)::Lx) _ _
  refine aw (r_nilCheck rfl) ?_
  exact at_nil k
 ·intro Lx g9 s K hl hh k
  show At 109 ((21,_)::(0,_)::(3,_)::Lx) _ _
  refine fa 1 underlying84 rfl sizeOf54 ?_
  exact at_nil k
 ·intro Lx g9 s K hl hh k
  show At 109 ((22,_)::(0,_)::(3,_)::Lx) _ _
  obtain rfl:s=0:=by omega
  refine aw (r_load_cell isAgg54 rfl (lens_cell0 (c:=cHd) (y:=⟨(((p0f_l_,c0f_l_),(p0f_stack_,c0f_stack_)).2).1,List.length x0.f_stack,(((p0f_l_,c0f_l_),(p0f_stack_,c0f_stack_)).2).2⟩) (.s .z) (c_flat_row_f_stack ((p0f_l_,c0f_l_),(p0f_stack_,c0f_stack_)) x0) rfl)) ?_
  exact at_nil k
 ·intro Lx g9 s K hl hh k
  show At 109 ((0,_)::(3,_)::Lx) _ _
  refine am ?_
  exact at_nil k
 ·intro Lx g9 s K hl hh k
  show At 109 ((24,_)::(0,_)::(3,_)::Lx) _ _
  refine aw (r_nilCheck rfl) ?_
  exact at_nil k
 ·intro Lx g9 s K hl hh k
  show At 109 ((25,_)::(0,_)::(3,_)::Lx) _ _
  refine fa 1 underlying84 rfl sizeOf54 ?_
  exact at_nil k
 ·intro Lx g9 s K hl hh k
  show At 109 ((26,_)::(0,_)::(3,_)::Lx) _ _
  obtain rfl:s=0:=by omega
  refine aw (r_load_cell isAgg54 rfl (lens_cell0 (c:=cHd) (y:=⟨(((p0f_l_,c0f_l_),(p0f_stack_,c0f_stack_)).2).1,List.length x0.f_stack,(((p0f_l_,c0f_l_),(p0f_stack_,c0f_stack_)).2).2⟩) (.s .z) (c_flat_row_f_stack ((p0f_l_,c0f_l_),(p0f_stack_,c0f_stack_)) x0) rfl)) ?_
  exact at_nil k
 ·intro Lx g9 s K hl hh k
  show At 109 ((27,_)::(0,_)::(3,_)::Lx) _ _
  obtain rfl:s=0:=by omega
  refine aw (r_len_sl underlying54 rfl) ?_
  exact at_nil k
 ·intro Lx g9 s K hl hh k
  show At 109 ((28,_)::(0,_)::(3,_)::Lx) _ _
  refine aw (r_isub rfl rfl) ?_
  exact at_nil k
 ·intro Lx g9 s K hl hh k
  show At 109 ((23,_)::(29,_)::(0,_)::(3,_)::Lx) _ _
  refine aw (r_idx underlying54 sizeOf66 rfl rfl h5 hp6) ?_
  exact at_nil k
 ·intro Lx g9 s K hl hh k
  show At 109 ((30,_)::(0,_)::(3,_)::Lx) _ _
  refine fa 18 underlying66 rfl sizeOf3 ?_
  exact at_nil k
 ·intro Lx g9 s K hl hh k
  show At 109 ((31,_)::(0,_)::(3,_)::Lx) _ _
  obtain rfl:s=0:=by omega
  refine aw (r_load_cell isAgg3 rfl (fun w1 hw=>row_lens0 (y:=(lget x0.f_stack (wr .i64 ((x0.f_stack.length:Int)-1))).f_Owner) (W:=fun w1=>w1=_) (fun w1 h=>by subst h;exact Below.refl _ _) (hw.own (.s (.s (.s .z)))).row h5 hp6 (Lens.comp lw (fun z=>{ (lget x0.f_stack (wr .i64 ((x0.f_stack.length:Int)-1))) with f_Owner:=z }) (c_api_Entry_f_Owner (lget x0.f_stack (wr .i64 ((x0.f_stack.length:Int)-1))))) rfl _ rfl)) ?_
  exact at_nil k
 ·intro Lx g9 s K hl hh k
  show At 109 ((32,_)::(0,_)::(3,_)::Lx) _ _
  refine aa ?_
  exact at_nil k
 intro g9
 show At 109 [(20,_),(21,_),(22,_),(23,_),(24,_),(25,_),(26,_),(27,_),(28,_),(29,_),(30,_),(31,_),(32,_),(4,_),(0,_),(3,_)] _ _
 refine tn (sr (am ?_))
 refine aw (r_nilCheck rfl) ?_
 refine fa 0 underlying84 rfl sizeOf55 ?_
 refine aw (r_load_cell isAgg55 rfl (lens_cell0 (c:=cHd) (y:=⟨(((p0f_l_,c0f_l_),(p0f_stack_,c0f_stack_)).1).1,List.length x0.f_l,(((p0f_l_,c0f_l_),(p0f_stack_,c0f_stack_)).1).2⟩) (.s .z) (c_flat_row_f_l ((p0f_l_,c0f_l_),(p0f_stack_,c0f_stack_)) x0) rfl)) ?_
 refine aw (r_len_sl underlying55 rfl) ?_
 refine aa (nwq [5,4,3,0] ?_)
 refine qs (sr (am ?_))
 refine aw (r_igtr rfl rfl) ?_
 refine am ?_
 obtain ⟨h10,hF⟩|⟨h10,hF⟩:=oi hF
 ·refine fx 40 h10 ?_
  refine gy ?_
  refine am ?_
  refine gy ?_
  refine aw (r_nilCheck rfl) ?_
  refine gy ?_
  refine fa 0 underlying84 rfl sizeOf55 ?_
  refine gy ?_
  refine aw (r_load_cell isAgg55 rfl (lens_cell0 (c:=cHd) (y:=⟨(((p0f_l_,c0f_l_),(p0f_stack_,c0f_stack_)).1).1,List.length x0.f_l,(((p0f_l_,c0f_l_),(p0f_stack_,c0f_stack_)).1).2⟩) (.s .z) (c_flat_row_f_l ((p0f_l_,c0f_l_),(p0f_stack_,c0f_stack_)) x0) rfl)) ?_
  refine gy ?_
  refine am ?_
  refine gy ?_
  refine aw (r_isub rfl rfl) ?_
  refine gy ?_
  obtain ⟨h11,hF⟩:=gd hF
  refine at_pure (φ:=∃ b o,p0f_l_=some ⟨b,o,none⟩) (fun _ hw=>row_ptr (hw.own (.s (.s .z))).row h11) ?_
  rintro ⟨b13,o14,hp12⟩
  refine aw (r_idx underlying55 sizeOf60 rfl rfl h11 hp12) ?_
  refine gy ?_
  refine fa 34 underlying60 rfl sizeOf3 ?_
  refine gy ?_
  refine aw (r_load_cell isAgg3 rfl (fun w1 hw=>row_lens0 (y:=(lget x0.f_l (wr .i64 ((x0.f_l.length:Int)-1))).f_Owner) (W:=fun w1=>w1=_) (fun w1 h=>by subst h;exact Below.refl _ _) (hw.own (.s (.s .z))).row h11 hp12 (Lens.comp lw (fun z=>{ (lget x0.f_l (wr .i64 ((x0.f_l.length:Int)-1))) with f_Owner:=z }) (c_flat_Span_f_Owner (lget x0.f_l (wr .i64 ((x0.f_l.length:Int)-1))))) rfl _ rfl)) ?_
  refine gy ?_
  refine am ?_
  refine gy ?_
  refine aw xq (aw xp (nwq [52,5,4,3,0] ?_))
  obtain ⟨h15,hF⟩|⟨h15,hF⟩:=oi hF
  ·refine ct h15 ?_
   refine sr (am ?_)
   refine aw (r_nilCheck rfl) ?_
   refine fa 0 underlying84 rfl sizeOf55 ?_
   refine aw (r_load_cell isAgg55 rfl (lens_cell0 (c:=cHd) (y:=⟨(((p0f_l_,c0f_l_),(p0f_stack_,c0f_stack_)).1).1,List.length x0.f_l,(((p0f_l_,c0f_l_),(p0f_stack_,c0f_stack_)).1).2⟩) (.s .z) (c_flat_row_f_l ((p0f_l_,c0f_l_),(p0f_stack_,c0f_stack_)) x0) rfl)) ?_
   refine am ?_
   refine aw (r_isub rfl rfl) ?_
   obtain ⟨h16,hF⟩:=gd hF
   refine at_pure (φ:=∃ b o,p0f_l_=some ⟨b,o,none⟩) (fun _ hw=>row_ptr (hw.own (.s (.s .z))).row h16) ?_
   rintro ⟨b18,o19,hp17⟩
   refine aw (r_idx underlying55 sizeOf60 rfl rfl h16 hp17) ?_
   refine fa 0 underlying60 rfl sizeOf26 (fa 17 underlying26 rfl sizeOf24 ?_)
   refine aw (r_load_aggc (c:=c_api_Addr) (z:=((lget x0.f_l (wr .i64 ((x0.f_l.length:Int)-1))).f_Range).f_To) isAgg24 sizeOf24 rfl (fun w1 hw=>row_lens (y:=((lget x0.f_l (wr .i64 ((x0.f_l.length:Int)-1))).f_Range).f_To) (W:=fun w1=>w1=_) (fun w1 h=>by subst h;exact Below.refl _ _) (hw.own (.s (.s .z))).row h16 hp17 (Lens.comp (Lens.comp lw (fun z=>{ (lget x0.f_l (wr .i64 ((x0.f_l.length:Int)-1))) with f_Range:=z }) (c_flat_Span_f_Range (lget x0.f_l (wr .i64 ((x0.f_l.length:Int)-1))))) (fun z=>{ (lget x0.f_l (wr .i64 ((x0.f_l.length:Int)-1))).f_Range with f_To:=z }) (c_aggregate_Range_f_To ((lget x0.f_l (wr .i64 ((x0.f_l.length:Int)-1))).f_Range))) _ rfl)) ?_
   obtain ⟨t20,ht20,hF⟩:=bM hF
   refine cB func25 rfl (fun w hw=>aggregate_Next_ok _ _ ht20 w) ?_
   refine am ?_
   refine aw xe (aw xe ?_)
   refine al (cs:=Cd.cs c_api_Addr zv0) zeroValue24 ?_
   intro b21
   refine at_store (c:=c_api_Addr) (z:=t20.1) .z lw sizeOf24 rfl rfl rfl ?_
   refine aa (nwq [7,6,5,4,3,0] ?_)
   refine qs ?_
   refine at_draw (by kernel_rfl) (by kernel_rfl) (fun _ h=>h.drew) ?_
   refine atq_val rfl rfl rfl (r_move rfl) ?_
   refine atq_val rfl rfl rfl (r_move rfl) ?_
   obtain ⟨h22,hF⟩|⟨h22,hF⟩:=oi hF
   ·refine atq_fix (g:=68) rfl h22 ?_
    refine atq_guard_yes rfl rfl rfl ?_
    refine atq_val rfl rfl rfl (r_load_aggc (c:=c_api_Addr) (z:=t20.1) isAgg24 sizeOf24 rfl (lens_cell .z lw)) ?_
    refine atq_guard_yes rfl rfl rfl ?_
    refine atq_val rfl rfl rfl (r_move rfl) ?_
    refine atq_guard_yes rfl rfl rfl ?_
    refine atq_val rfl rfl rfl (r_nilCheck rfl) ?_
    refine atq_guard_yes rfl rfl rfl ?_
    refine atq_val rfl rfl rfl (r_fieldAddr (fo:=2) underlying84 rfl rfl (fun w=>⟨_,sizeOf24 w⟩) rfl) ?_
    refine atq_guard_yes rfl rfl rfl ?_
    refine atq_val rfl rfl rfl (r_load_aggc (c:=c_api_Addr) (z:=x0.f_at) isAgg24 sizeOf24 rfl (lens_cell (.s (.s .z)) (c_flat_row_f_at ((p0f_l_,c0f_l_),(p0f_stack_,c0f_stack_)) x0))) ?_
    refine atq_guard_yes rfl rfl rfl ?_
    refine atq_val rfl rfl rfl (r_eqagg (c:=c_api_Addr) (a:=t20.1) (b:=x0.f_at) (eq_api_Addr_24) rfl Try.eqGuardType24 rfl rfl (.inl rfl) rfl) ?_
    refine atq_val rfl rfl rfl (r_pick rfl rfl rfl) ?_
    refine atq_nil ?_
    refine dz (wq [75,5,4,3,0] ?_)
    refine tn ?_
    obtain ⟨h23,hF⟩|⟨h23,hF⟩:=oi hF
    ·refine ct h23 ?_
     refine qs (wq [5,3,0] ?_)
     obtain ⟨h24,hF⟩:=gd hF
     refine at_pure (φ:=∃ b o,p0f_l_=some ⟨b,o,none⟩) (fun _ hw=>row_ptr (hw.own (.s (.s .z))).row h24) ?_
     rintro ⟨b26,o27,hp25⟩
     refine at_inv [.q 76 (fun g29=>.pointer (some ⟨b0_,0,none⟩)) [] 0 0,.q 77 (fun g29=>.pointer (some ⟨b0_,0,none⟩)) [0] 0 0,.q 78 (fun g29=>.pointer (some ⟨b0_,0+0,none⟩)) [1] 0 0,.q 79 (fun g29=>.slice p0f_l_ x0.f_l.length c0f_l_) [2] 0 0,.q 80 (fun g29=>.int .i64 (x0.f_l.length:Int)) [] 0 0,.q 81 (fun g29=>.int .i64 (wr .i64 ((x0.f_l.length:Int)-1))) [4] 0 0,.q 82 (fun g29=>.agg (Cd.cs c_api_Addr x1).toArray) [] 0 0,.q 83 (fun g29=>.pointer (some ⟨b26,o27+Int.toNat (wr .i64 ((x0.f_l.length:Int)-1))*35,none⟩)) [3,5] 0 0,.q 84 (fun g29=>.pointer (some ⟨b26,o27+Int.toNat (wr .i64 ((x0.f_l.length:Int)-1))*35+0,none⟩)) [7] 0 0,.q 85 (fun g29=>.pointer (some ⟨b26,o27+Int.toNat (wr .i64 ((x0.f_l.length:Int)-1))*35+0+17,none⟩)) [8] 0 0,.st 0 none [6,9]] (fun g29 s=>match s with | 0=>(Wd w0 (cellsE b1 (Cd.cs c_api_Addr x1) 24::cellsE b0_ (Cd.cs c_flat_row (((p0f_l_,c0f_l_),(p0f_stack_,c0f_stack_)),x0)) 84::rowE c_flat_Span 60 p0f_l_ c0f_l_ x0.f_l::rowE c_api_Entry 66 p0f_stack_ c0f_stack_ x0.f_stack::G_)) | _=>(Wd w0 (cellsE b1 (Cd.cs c_api_Addr x1) 24::cellsE b0_ (Cd.cs c_flat_row ((/-28-/((p0f_l_,c0f_l_),(p0f_stack_,c0f_stack_))),{ x0 with f_l:=lset x0.f_l (wr .i64 ((x0.f_l.length:Int)-1)) ({ (lget x0.f_l (wr .i64 ((x0.f_l.length:Int)-1))) with f_Range:={ (lget x0.f_l (wr .i64 ((x0.f_l.length:Int)-1))).f_Range with f_To:=x1 } }) })) 84::rowE c_flat_Span 60 p0f_l_ c0f_l_ (lset x0.f_l (wr .i64 ((x0.f_l.length:Int)-1)) ({ (lget x0.f_l (wr .i64 ((x0.f_l.length:Int)-1))) with f_Range:={ (lget x0.f_l (wr .i64 ((x0.f_l.length:Int)-1))).f_Range with f_To:=x1 } }))::rowE c_api_Entry 66 p0f_stack_ c0f_stack_ x0.f_stack::G_))) 1 (by kernel_rfl) (by kernel_rfl) (by kernel_rfl) (by kernel_rfl) (by kernel_rfl) ⟨fun _ _ _=>rfl,fun _ _ _=>rfl,fun _ _ _=>rfl,fun _ _ _=>rfl,fun _ _ _=>rfl,fun _ _ _=>rfl,fun _ _ _=>rfl,fun _ _ _=>rfl,fun _ _ _=>rfl,fun _ _ _=>rfl,fun _ _ _=>rfl,trivial⟩ (by kernel_rfl) (fun w_ h=>⟨fun _=>g3 0 none 0 none w_,h.drew⟩) ⟨?_,?_,?_,?_,?_,?_,?_,?_,?_,?_,?_,trivial⟩ ?_
     ·intro Lx g29 s K hl hh k
      show At 109 ((0,_)::(3,_)::(5,_)::Lx) _ _
      refine am ?_
      exact at_nil k
     ·intro Lx g29 s K hl hh k
      show At 109 ((76,_)::(0,_)::(3,_)::(5,_)::Lx) _ _
      refine aw (r_nilCheck rfl) ?_
      exact at_nil k
     ·intro Lx g29 s K hl hh k
      show At 109 ((77,_)::(0,_)::(3,_)::(5,_)::Lx) _ _
      refine fa 0 underlying84 rfl sizeOf55 ?_
      exact at_nil k
     ·intro Lx g29 s K hl hh k
      show At 109 ((78,_)::(0,_)::(3,_)::(5,_)::Lx) _ _
      obtain rfl:s=0:=by omega
      refine aw (r_load_cell isAgg55 rfl (lens_cell0 (c:=cHd) (y:=⟨(((p0f_l_,c0f_l_),(p0f_stack_,c0f_stack_)).1).1,List.length x0.f_l,(((p0f_l_,c0f_l_),(p0f_stack_,c0f_stack_)).1).2⟩) (.s .z) (c_flat_row_f_l ((p0f_l_,c0f_l_),(p0f_stack_,c0f_stack_)) x0) rfl)) ?_
      exact at_nil k
     ·intro Lx g29 s K hl hh k
      show At 109 ((0,_)::(3,_)::(5,_)::Lx) _ _
      refine am ?_
      exact at_nil k
     ·intro Lx g29 s K hl hh k
      show At 109 ((80,_)::(0,_)::(3,_)::(5,_)::Lx) _ _
      refine aw (r_isub rfl rfl) ?_
      exact at_nil k
     ·intro Lx g29 s K hl hh k
      show At 109 ((0,_)::(3,_)::(5,_)::Lx) _ _
      obtain rfl:s=0:=by omega
      refine aw (r_load_aggc (c:=c_api_Addr) (z:=x1) isAgg24 sizeOf24 rfl (lens_cell .z lw)) ?_
      exact at_nil k
     ·intro Lx g29 s K hl hh k
      show At 109 ((79,_)::(81,_)::(0,_)::(3,_)::(5,_)::Lx) _ _
      refine aw (r_idx underlying55 sizeOf60 rfl rfl h24 hp25) ?_
      exact at_nil k
     ·intro Lx g29 s K hl hh k
      show At 109 ((83,_)::(0,_)::(3,_)::(5,_)::Lx) _ _
      refine fa 0 underlying60 rfl sizeOf26 ?_
      exact at_nil k
     ·intro Lx g29 s K hl hh k
      show At 109 ((84,_)::(0,_)::(3,_)::(5,_)::Lx) _ _
      refine fa 17 underlying26 rfl sizeOf24 ?_
      exact at_nil k
     ·intro Lx g29 K k
      show At 109 ((82,_)::(85,_)::(0,_)::(3,_)::(5,_)::Lx) _ _
      refine at_storeRow (c:=c_flat_Span) (c':=c_api_Addr) (i:=wr .i64 ((x0.f_l.length:Int)-1)) (z:=x1) (y:={ (lget x0.f_l (wr .i64 ((x0.f_l.length:Int)-1))) with f_Range:={ (lget x0.f_l (wr .i64 ((x0.f_l.length:Int)-1))).f_Range with f_To:=x1 } }) (.s (.s .z)) h24 hp25 (Lens.comp (Lens.comp lw (fun z=>{ (lget x0.f_l (wr .i64 ((x0.f_l.length:Int)-1))) with f_Range:=z }) (c_flat_Span_f_Range (lget x0.f_l (wr .i64 ((x0.f_l.length:Int)-1))))) (fun z=>{ (lget x0.f_l (wr .i64 ((x0.f_l.length:Int)-1))).f_Range with f_To:=z }) (c_aggregate_Range_f_To ((lget x0.f_l (wr .i64 ((x0.f_l.length:Int)-1))).f_Range))) (by rfl) sizeOf24 rfl rfl rfl ?_
      refine at_cellsEq (cells':=Cd.cs c_flat_row (((p0f_l_,c0f_l_),(p0f_stack_,c0f_stack_)),{ x0 with f_l:=lset x0.f_l (wr .i64 ((x0.f_l.length:Int)-1)) ({ (lget x0.f_l (wr .i64 ((x0.f_l.length:Int)-1))) with f_Range:={ (lget x0.f_l (wr .i64 ((x0.f_l.length:Int)-1))).f_Range with f_To:=x1 } }) })) (.s .z) (by simp [c_flat_row,lset_length]) ?_
      exact at_nil k
     intro g29
     show At 109 [(76,_),(77,_),(78,_),(79,_),(80,_),(81,_),(82,_),(83,_),(84,_),(85,_),(0,_),(3,_),(5,_)] _ _
     refine at_ov (t:=79) rfl (show Value.slice p0f_l_ (List.length x0.f_l) c0f_l_=.slice p0f_l_ (List.length (lset x0.f_l (wr .i64 ((x0.f_l.length:Int)-1)) ({ (lget x0.f_l (wr .i64 ((x0.f_l.length:Int)-1))) with f_Range:={ (lget x0.f_l (wr .i64 ((x0.f_l.length:Int)-1))).f_Range with f_To:=x1 } }))) c0f_l_ from congrArg (fun n_=>Value.slice p0f_l_ n_ c0f_l_) ((lset_length _ _ _).symm)) ?_
     refine wq [3,0] ?_
     refine tn (sr (am ?_))
     refine aw (r_load_aggc (c:=c_api_Addr) (z:=x1) isAgg24 sizeOf24 rfl (lens_cell .z lw)) ?_
     obtain ⟨t30,ht30,hF⟩:=bM hF
     refine at_front (.s (.s (.s .z))) ?_
     refine at_front (.s (.s (.s .z))) ?_
     refine at_front (.s (.s (.s .z))) ?_
     refine at_callX (γ:=G_flat_row) (V:=fun z=>.tuple #[]) (T:=fun z=>(cellsE b0_ (Cd.cs c_flat_row (z,t30)) 84::rowE c_flat_Span 60 z.1.1 z.1.2 t30.f_l::rowE c_api_Entry 66 z.2.1 z.2.2 t30.f_stack::cellsE b1 (Cd.cs c_api_Addr x1) 24::G_)) func80 rfl (by kernel_rfl) rfl rfl (fun w hw=>flat_row_move_ok ht30 hw) ?_
     rintro ⟨⟨p31,c32⟩,⟨p33,c34⟩⟩
     refine qn ?_
     refine at_drop (H:=_) (.s (.s (.s .z))) ?_
     refine at_weak [] trivial ?_
     refine tn (rt ?_)
     have K:=os hF
     subst K
     exact at_return0' rfl (fun w1 hw=>⟨((p31,c32),(p33,c34)),rfl,hw⟩)
    refine cf h23 ?_
    refine sn (qs (wq [4,3,0] ?_))
    obtain ⟨h36,hF⟩:=gd hF
    refine at_inv [.q 89 (fun g39=>.pointer (some ⟨b0_,0,none⟩)) [] 0 2,.q 90 (fun g39=>.pointer (some ⟨b0_,0,none⟩)) [] 0 1,.q 91 (fun g39=>.pointer (some ⟨b0_,0,none⟩)) [1] 0 1,.q 92 (fun g39=>.pointer (some ⟨b0_,0+0,none⟩)) [2] 0 1,.q 93 (fun g39=>.slice p0f_l_ x0.f_l.length c0f_l_) [3] 0 1,.q 94 (fun g39=>.pointer (some ⟨b0_,0,none⟩)) [] 0 2,.q 95 (fun g39=>.pointer (some ⟨b0_,0,none⟩)) [5] 0 0,.q 96 (fun g39=>.pointer (some ⟨b0_,0+2,none⟩)) [6] 0 0,.q 97 (fun g39=>.agg (Cd.cs c_api_Addr x0.f_at).toArray) [7] 0 0,.q 98 (fun g39=>.agg (Cd.cs c_api_Addr x1).toArray) [] 0 0,.q 99 (fun g39=>.agg (Cd.cs c_aggregate_Range ({ { zv6 with f_From:=x0.f_at } with f_To:=x1 })).toArray) [8,9] 0 0,.q 100 (fun g39=>.int .i64 ((lget x0.f_stack (wr .i64 ((x0.f_stack.length:Int)-1))).f_Owner)) [] 0 0,.q 101 (fun g39=>.agg (Cd.cs c_flat_Span ({ { zv7 with f_Range:={ { zv6 with f_From:=x0.f_at } with f_To:=x1 } } with f_Owner:=(lget x0.f_stack (wr .i64 ((x0.f_stack.length:Int)-1))).f_Owner })).toArray) [10,11] 0 0,.al 0 102 (fun g39=>.slice (some ⟨((g39 0).1),0,none⟩) ([{ { zv7 with f_Range:={ { zv6 with f_From:=x0.f_at } with f_To:=x1 } } with f_Owner:=(lget x0.f_stack (wr .i64 ((x0.f_stack.length:Int)-1))).f_Owner }]:List S_flat_Span).length 1) [12],.al 1 103 (fun g39=>.slice ((g39 1).2.1) (x0.f_l++[{ { zv7 with f_Range:={ { zv6 with f_From:=x0.f_at } with f_To:=x1 } } with f_Owner:=(lget x0.f_stack (wr .i64 ((x0.f_stack.length:Int)-1))).f_Owner }]).length ((g39 1).2.2.1)) [4,13],.q 104 (fun g39=>.pointer (some ⟨b0_,0,none⟩)) [0] 2 2,.q 105 (fun g39=>.pointer (some ⟨b0_,0+0,none⟩)) [15] 2 2,.st 2 none [14,16]] (fun g39 s=>match s with | 0=>(Wd w0 (cellsE b1 (Cd.cs c_api_Addr x1) 24::cellsE b0_ (Cd.cs c_flat_row (((p0f_l_,c0f_l_),(p0f_stack_,c0f_stack_)),x0)) 84::rowE c_flat_Span 60 p0f_l_ c0f_l_ x0.f_l::rowE c_api_Entry 66 p0f_stack_ c0f_stack_ x0.f_stack::G_)) | 1=>(Wd w0 (cellsE ((g39 0).1) (c_flat_Span.all ([{ { zv7 with f_Range:={ { zv6 with f_From:=x0.f_at } with f_To:=x1 } } with f_Owner:=(lget x0.f_stack (wr .i64 ((x0.f_stack.length:Int)-1))).f_Owner }]:List S_flat_Span)) 60::cellsE b1 (Cd.cs c_api_Addr x1) 24::cellsE b0_ (Cd.cs c_flat_row (((p0f_l_,c0f_l_),(p0f_stack_,c0f_stack_)),x0)) 84::rowE c_flat_Span 60 p0f_l_ c0f_l_ x0.f_l::rowE c_api_Entry 66 p0f_stack_ c0f_stack_ x0.f_stack::G_)) | 2=>(Wd w0 (cellsE ((g39 0).1) (c_flat_Span.all ([{ { zv7 with f_Range:={ { zv6 with f_From:=x0.f_at } with f_To:=x1 } } with f_Owner:=(lget x0.f_stack (wr .i64 ((x0.f_stack.length:Int)-1))).f_Owner }]:List S_flat_Span)) 60::cellsE b1 (Cd.cs c_api_Addr x1) 24::cellsE b0_ (Cd.cs c_flat_row (((p0f_l_,c0f_l_),(p0f_stack_,c0f_stack_)),x0)) 84::rowE c_flat_Span 60 ((g39 1).2.1) ((g39 1).2.2.1) (x0.f_l++[{ { zv7 with f_Range:={ { zv6 with f_From:=x0.f_at } with f_To:=x1 } } with f_Owner:=(lget x0.f_stack (wr .i64 ((x0.f_stack.length:Int)-1))).f_Owner }])::rowE c_api_Entry 66 p0f_stack_ c0f_stack_ x0.f_stack::G_)) | _=>(Wd w0 (cellsE ((g39 0).1) (c_flat_Span.all ([{ { zv7 with f_Range:={ { zv6 with f_From:=x0.f_at } with f_To:=x1 } } with f_Owner:=(lget x0.f_stack (wr .i64 ((x0.f_stack.length:Int)-1))).f_Owner }]:List S_flat_Span)) 60::cellsE b1 (Cd.cs c_api_Addr x1) 24::cellsE b0_ (Cd.cs c_flat_row (((((g39 1).2.1),((g39 1).2.2.1)),(p0f_stack_,c0f_stack_)),{ x0 with f_l:=x0.f_l++[{ { zv7 with f_Range:={ { zv6 with f_From:=x0.f_at } with f_To:=x1 } } with f_Owner:=(lget x0.f_stack (wr .i64 ((x0.f_stack.length:Int)-1))).f_Owner }] })) 84::rowE c_flat_Span 60 ((g39 1).2.1) ((g39 1).2.2.1) (x0.f_l++[{ { zv7 with f_Range:={ { zv6 with f_From:=x0.f_at } with f_To:=x1 } } with f_Owner:=(lget x0.f_stack (wr .i64 ((x0.f_stack.length:Int)-1))).f_Owner }])::rowE c_api_Entry 66 p0f_stack_ c0f_stack_ x0.f_stack::G_))) 3 (by kernel_rfl) (by kernel_rfl) (by kernel_rfl) (by kernel_rfl) (by kernel_rfl) ⟨fun _ _ _=>rfl,fun _ _ _=>rfl,fun _ _ _=>rfl,fun _ _ _=>rfl,fun _ _ _=>rfl,fun _ _ _=>rfl,fun _ _ _=>rfl,fun _ _ _=>rfl,fun _ _ _=>rfl,fun _ _ _=>rfl,fun _ _ _=>rfl,fun _ _ _=>rfl,fun _ _ _=>rfl,fun g39 g2 h=>by show (.slice (some ⟨((g39 0).1),0,none⟩) ([{ { zv7 with f_Range:={ { zv6 with f_From:=x0.f_at } with f_To:=x1 } } with f_Owner:=(lget x0.f_stack (wr .i64 ((x0.f_stack.length:Int)-1))).f_Owner }]:List S_flat_Span).length 1:Value)=.slice (some ⟨((g2 0).1),0,none⟩) ([{ { zv7 with f_Range:={ { zv6 with f_From:=x0.f_at } with f_To:=x1 } } with f_Owner:=(lget x0.f_stack (wr .i64 ((x0.f_stack.length:Int)-1))).f_Owner }]:List S_flat_Span).length 1;rw [h 0 (show 0<1 by decide)],fun g39 g2 h=>by show (.slice ((g39 1).2.1) (x0.f_l++[{ { zv7 with f_Range:={ { zv6 with f_From:=x0.f_at } with f_To:=x1 } } with f_Owner:=(lget x0.f_stack (wr .i64 ((x0.f_stack.length:Int)-1))).f_Owner }]).length ((g39 1).2.2.1):Value)=.slice ((g2 1).2.1) (x0.f_l++[{ { zv7 with f_Range:={ { zv6 with f_From:=x0.f_at } with f_To:=x1 } } with f_Owner:=(lget x0.f_stack (wr .i64 ((x0.f_stack.length:Int)-1))).f_Owner }]).length ((g2 1).2.2.1);rw [h 1 (show 1<2 by decide)],fun _ _ _=>rfl,fun _ _ _=>rfl,fun _ _ _=>rfl,trivial⟩ (by kernel_rfl) (fun w_ h=>⟨fun _=>g3 0 none 0 none w_,h.drew⟩) ⟨?_,?_,?_,?_,?_,?_,?_,?_,?_,?_,?_,?_,?_,?_,?_,?_,?_,?_,trivial⟩ ?_
    ·intro Lx g39 s K hl hh k
     show At 109 ((0,_)::(3,_)::(4,_)::Lx) _ _
     refine am ?_
     exact at_nil k
    ·intro Lx g39 s K hl hh k
     show At 109 ((0,_)::(3,_)::(4,_)::Lx) _ _
     refine am ?_
     exact at_nil k
    ·intro Lx g39 s K hl hh k
     show At 109 ((90,_)::(0,_)::(3,_)::(4,_)::Lx) _ _
     refine aw (r_nilCheck rfl) ?_
     exact at_nil k
    ·intro Lx g39 s K hl hh k
     show At 109 ((91,_)::(0,_)::(3,_)::(4,_)::Lx) _ _
     refine fa 0 underlying84 rfl sizeOf55 ?_
     exact at_nil k
    ·intro Lx g39 s K hl hh k
     show At 109 ((92,_)::(0,_)::(3,_)::(4,_)::Lx) _ _
     rcases (by omega:s=0∨s=1) with rfl | rfl
     ·skip
      refine aw (r_load_cell isAgg55 rfl (lens_cell0 (c:=cHd) (y:=⟨(((p0f_l_,c0f_l_),(p0f_stack_,c0f_stack_)).1).1,List.length x0.f_l,(((p0f_l_,c0f_l_),(p0f_stack_,c0f_stack_)).1).2⟩) (.s .z) (c_flat_row_f_l ((p0f_l_,c0f_l_),(p0f_stack_,c0f_stack_)) x0) rfl)) ?_
      exact at_nil k
     skip
     refine aw (r_load_cell isAgg55 rfl (lens_cell0 (c:=cHd) (y:=⟨(((p0f_l_,c0f_l_),(p0f_stack_,c0f_stack_)).1).1,List.length x0.f_l,(((p0f_l_,c0f_l_),(p0f_stack_,c0f_stack_)).1).2⟩) (.s (.s .z)) (c_flat_row_f_l ((p0f_l_,c0f_l_),(p0f_stack_,c0f_stack_)) x0) rfl)) ?_
     exact at_nil k
    ·intro Lx g39 s K hl hh k
     show At 109 ((0,_)::(3,_)::(4,_)::Lx) _ _
     refine am ?_
     exact at_nil k
    ·intro Lx g39 s K hl hh k
     show At 109 ((94,_)::(0,_)::(3,_)::(4,_)::Lx) _ _
     refine aw (r_nilCheck rfl) ?_
     exact at_nil k
    ·intro Lx g39 s K hl hh k
     show At 109 ((95,_)::(0,_)::(3,_)::(4,_)::Lx) _ _
     refine fa 2 underlying84 rfl sizeOf24 ?_
     exact at_nil k
    ·intro Lx g39 s K hl hh k
     show At 109 ((96,_)::(0,_)::(3,_)::(4,_)::Lx) _ _
     obtain rfl:s=0:=by omega
     refine aw (r_load_aggc (c:=c_api_Addr) (z:=x0.f_at) isAgg24 sizeOf24 rfl (lens_cell (.s .z) (c_flat_row_f_at ((p0f_l_,c0f_l_),(p0f_stack_,c0f_stack_)) x0))) ?_
     exact at_nil k
    ·intro Lx g39 s K hl hh k
     show At 109 ((0,_)::(3,_)::(4,_)::Lx) _ _
     obtain rfl:s=0:=by omega
     refine aw (r_load_aggc (c:=c_api_Addr) (z:=x1) isAgg24 sizeOf24 rfl (lens_cell .z lw)) ?_
     exact at_nil k
    ·intro Lx g39 s K hl hh k
     show At 109 ((97,_)::(98,_)::(0,_)::(3,_)::(4,_)::Lx) _ _
     obtain rfl:s=0:=by omega
     refine aw (r_build_struct (zs:=Cd.cs c_aggregate_Range zv6) (cs:=Cd.cs c_aggregate_Range ({ { zv6 with f_From:=x0.f_at } with f_To:=x1 })) underlying26 zeroValue26 rfl (places_aggregate_Range_26) rfl (fill_step (c:=c_api_Addr) (z:=x0.f_at) rfl (c_aggregate_Range_f_From zv6) rfl (fill_step (c:=c_api_Addr) (z:=x1) rfl (c_aggregate_Range_f_To ({ zv6 with f_From:=x0.f_at })) rfl rfl))) ?_
     exact at_nil k
    ·intro Lx g39 s K hl hh k
     show At 109 ((0,_)::(3,_)::(4,_)::Lx) _ _
     refine am ?_
     exact at_nil k
    ·intro Lx g39 s K hl hh k
     show At 109 ((99,_)::(100,_)::(0,_)::(3,_)::(4,_)::Lx) _ _
     obtain rfl:s=0:=by omega
     refine aw (r_build_struct (zs:=Cd.cs c_flat_Span zv7) (cs:=Cd.cs c_flat_Span ({ { zv7 with f_Range:={ { zv6 with f_From:=x0.f_at } with f_To:=x1 } } with f_Owner:=(lget x0.f_stack (wr .i64 ((x0.f_stack.length:Int)-1))).f_Owner })) underlying60 zeroValue60 rfl (places_flat_Span_60) rfl (fill_step (c:=c_aggregate_Range) (z:={ { zv6 with f_From:=x0.f_at } with f_To:=x1 }) rfl (c_flat_Span_f_Range zv7) rfl (fill_step (c:=(cInt .i64)) (z:=(lget x0.f_stack (wr .i64 ((x0.f_stack.length:Int)-1))).f_Owner) rfl (c_flat_Span_f_Owner ({ zv7 with f_Range:={ { zv6 with f_From:=x0.f_at } with f_To:=x1 } })) rfl rfl))) ?_
     exact at_nil k
    ·intro Lx g39 K k
     show At 109 ((101,_)::(0,_)::(3,_)::(4,_)::Lx) _ _
     refine at_litL (c:=c_flat_Span) ([zv7]:List S_flat_Span) ([{ { zv7 with f_Range:={ { zv6 with f_From:=x0.f_at } with f_To:=x1 } } with f_Owner:=(lget x0.f_stack (wr .i64 ((x0.f_stack.length:Int)-1))).f_Owner }]:List S_flat_Span) underlying55 sizeOf60 zeroValue60 rfl rfl rfl (by kernel_rfl) (fill_step (c:=c_flat_Span) (z:={ { zv7 with f_Range:={ { zv6 with f_From:=x0.f_at } with f_To:=x1 } } with f_Owner:=(lget x0.f_stack (wr .i64 ((x0.f_stack.length:Int)-1))).f_Owner }) rfl (Lens.all c_flat_Span ([zv7]:List S_flat_Span) 0 (by first | decide | exact Nat.le_of_ble_eq_true rfl)) rfl rfl) rfl ?_
     intro b35
     exact at_nil (k (g3 b35 none 0 none w0))
    ·intro Lx g39 K k
     show At 109 ((93,_)::(102,_)::(0,_)::(3,_)::(4,_)::Lx) _ _
     refine at_append (z:=.agg (Cd.cs c_flat_Span zv7).toArray) (c:=c_flat_Span) (ys:=([{ { zv7 with f_Range:={ { zv6 with f_From:=x0.f_at } with f_To:=x1 } } with f_Owner:=(lget x0.f_stack (wr .i64 ((x0.f_stack.length:Int)-1))).f_Owner }]:List S_flat_Span)) (.s (.s (.s .z))) underlying55 infoF760 (by kernel_rfl) (by kernel_rfl) rfl rfl rfl rfl (fun _ hw=>cells_src (hw.ok (Upd.mem .z))) (by kernel_rfl) h36 (app_small h36) rfl ?_
     intro p37 c38
     exact at_nil (k (g3 0 p37 c38 none w0))
    ·intro Lx g39 s K hl hh k
     show At 109 ((89,_)::(0,_)::(3,_)::(4,_)::Lx) _ _
     refine aw (r_nilCheck rfl) ?_
     exact at_nil k
    ·intro Lx g39 s K hl hh k
     show At 109 ((104,_)::(0,_)::(3,_)::(4,_)::Lx) _ _
     refine fa 0 underlying84 rfl sizeOf55 ?_
     exact at_nil k
    ·intro Lx g39 K k
     show At 109 ((103,_)::(105,_)::(0,_)::(3,_)::(4,_)::Lx) _ _
     refine at_store (c:=cSv S_flat_Span) (z:=((((g39 1).2.1),((g39 1).2.2.1)),x0.f_l++[{ { zv7 with f_Range:={ { zv6 with f_From:=x0.f_at } with f_To:=x1 } } with f_Owner:=(lget x0.f_stack (wr .i64 ((x0.f_stack.length:Int)-1))).f_Owner }])) (.s (.s .z)) (c_flat_row_f_l_sv ((p0f_l_,c0f_l_),(p0f_stack_,c0f_stack_)) x0) sizeOf55 rfl rfl rfl ?_
     exact at_nil k
    intro g39
    show At 109 [(89,_),(90,_),(91,_),(92,_),(93,_),(94,_),(95,_),(96,_),(97,_),(98,_),(99,_),(100,_),(101,_),(102,_),(103,_),(104,_),(105,_),(0,_),(3,_),(4,_)] _ _
    refine dz (wq [3,0] ?_)
    refine tn (qr (am ?_))
    refine aw (r_load_aggc (c:=c_api_Addr) (z:=x1) isAgg24 sizeOf24 rfl (lens_cell .z lw)) ?_
    obtain ⟨t40,ht40,hF⟩:=bM hF
    refine at_front (.s (.s (.s .z))) ?_
    refine at_front (.s (.s (.s .z))) ?_
    refine at_front (.s (.s (.s .z))) ?_
    refine at_callX (γ:=G_flat_row) (V:=fun z=>.tuple #[]) (T:=fun z=>(cellsE b0_ (Cd.cs c_flat_row (z,t40)) 84::rowE c_flat_Span 60 z.1.1 z.1.2 t40.f_l::rowE c_api_Entry 66 z.2.1 z.2.2 t40.f_stack::cellsE b1 (Cd.cs c_api_Addr x1) 24::G_)) func80 rfl (by kernel_rfl) rfl rfl (fun w hw=>flat_row_move_ok ht40 hw) ?_
    rintro ⟨⟨p41,c42⟩,⟨p43,c44⟩⟩
    refine qn ?_
    refine at_drop (H:=_) (.s (.s (.s .z))) ?_
    refine at_weak [] trivial ?_
    have K:=os hF
    subst K
    exact at_return0 rfl (fun w1 hw=>⟨((p41,c42),(p43,c44)),rfl,hw⟩)
   refine atq_fix (g:=68) rfl h22 ?_
   refine atq_guard_no rfl rfl rfl rfl rfl ?_
   refine atq_guard_no rfl rfl rfl rfl rfl ?_
   refine atq_guard_no rfl rfl rfl rfl rfl ?_
   refine atq_guard_no rfl rfl rfl rfl rfl ?_
   refine atq_guard_no rfl rfl rfl rfl rfl ?_
   refine atq_guard_no rfl rfl rfl rfl rfl ?_
   refine atq_val rfl rfl rfl (r_pick rfl rfl rfl) ?_
   refine atq_nil ?_
   refine dz (wq [75,5,4,3,0] ?_)
   refine tn ?_
   refine cf rfl ?_
   refine sn (qs (wq [4,3,0] ?_))
   obtain ⟨h46,hF⟩:=gd hF
   refine at_inv [.q 89 (fun g49=>.pointer (some ⟨b0_,0,none⟩)) [] 0 2,.q 90 (fun g49=>.pointer (some ⟨b0_,0,none⟩)) [] 0 1,.q 91 (fun g49=>.pointer (some ⟨b0_,0,none⟩)) [1] 0 1,.q 92 (fun g49=>.pointer (some ⟨b0_,0+0,none⟩)) [2] 0 1,.q 93 (fun g49=>.slice p0f_l_ x0.f_l.length c0f_l_) [3] 0 1,.q 94 (fun g49=>.pointer (some ⟨b0_,0,none⟩)) [] 0 2,.q 95 (fun g49=>.pointer (some ⟨b0_,0,none⟩)) [5] 0 0,.q 96 (fun g49=>.pointer (some ⟨b0_,0+2,none⟩)) [6] 0 0,.q 97 (fun g49=>.agg (Cd.cs c_api_Addr x0.f_at).toArray) [7] 0 0,.q 98 (fun g49=>.agg (Cd.cs c_api_Addr x1).toArray) [] 0 0,.q 99 (fun g49=>.agg (Cd.cs c_aggregate_Range ({ { zv6 with f_From:=x0.f_at } with f_To:=x1 })).toArray) [8,9] 0 0,.q 100 (fun g49=>.int .i64 ((lget x0.f_stack (wr .i64 ((x0.f_stack.length:Int)-1))).f_Owner)) [] 0 0,.q 101 (fun g49=>.agg (Cd.cs c_flat_Span ({ { zv7 with f_Range:={ { zv6 with f_From:=x0.f_at } with f_To:=x1 } } with f_Owner:=(lget x0.f_stack (wr .i64 ((x0.f_stack.length:Int)-1))).f_Owner })).toArray) [10,11] 0 0,.al 0 102 (fun g49=>.slice (some ⟨((g49 0).1),0,none⟩) ([{ { zv7 with f_Range:={ { zv6 with f_From:=x0.f_at } with f_To:=x1 } } with f_Owner:=(lget x0.f_stack (wr .i64 ((x0.f_stack.length:Int)-1))).f_Owner }]:List S_flat_Span).length 1) [12],.al 1 103 (fun g49=>.slice ((g49 1).2.1) (x0.f_l++[{ { zv7 with f_Range:={ { zv6 with f_From:=x0.f_at } with f_To:=x1 } } with f_Owner:=(lget x0.f_stack (wr .i64 ((x0.f_stack.length:Int)-1))).f_Owner }]).length ((g49 1).2.2.1)) [4,13],.q 104 (fun g49=>.pointer (some ⟨b0_,0,none⟩)) [0] 2 2,.q 105 (fun g49=>.pointer (some ⟨b0_,0+0,none⟩)) [15] 2 2,.st 2 none [14,16]] (fun g49 s=>match s with | 0=>(Wd w0 (cellsE b1 (Cd.cs c_api_Addr x1) 24::cellsE b0_ (Cd.cs c_flat_row (((p0f_l_,c0f_l_),(p0f_stack_,c0f_stack_)),x0)) 84::rowE c_flat_Span 60 p0f_l_ c0f_l_ x0.f_l::rowE c_api_Entry 66 p0f_stack_ c0f_stack_ x0.f_stack::G_)) | 1=>(Wd w0 (cellsE ((g49 0).1) (c_flat_Span.all ([{ { zv7 with f_Range:={ { zv6 with f_From:=x0.f_at } with f_To:=x1 } } with f_Owner:=(lget x0.f_stack (wr .i64 ((x0.f_stack.length:Int)-1))).f_Owner }]:List S_flat_Span)) 60::cellsE b1 (Cd.cs c_api_Addr x1) 24::cellsE b0_ (Cd.cs c_flat_row (((p0f_l_,c0f_l_),(p0f_stack_,c0f_stack_)),x0)) 84::rowE c_flat_Span 60 p0f_l_ c0f_l_ x0.f_l::rowE c_api_Entry 66 p0f_stack_ c0f_stack_ x0.f_stack::G_)) | 2=>(Wd w0 (cellsE ((g49 0).1) (c_flat_Span.all ([{ { zv7 with f_Range:={ { zv6 with f_From:=x0.f_at } with f_To:=x1 } } with f_Owner:=(lget x0.f_stack (wr .i64 ((x0.f_stack.length:Int)-1))).f_Owner }]:List S_flat_Span)) 60::cellsE b1 (Cd.cs c_api_Addr x1) 24::cellsE b0_ (Cd.cs c_flat_row (((p0f_l_,c0f_l_),(p0f_stack_,c0f_stack_)),x0)) 84::rowE c_flat_Span 60 ((g49 1).2.1) ((g49 1).2.2.1) (x0.f_l++[{ { zv7 with f_Range:={ { zv6 with f_From:=x0.f_at } with f_To:=x1 } } with f_Owner:=(lget x0.f_stack (wr .i64 ((x0.f_stack.length:Int)-1))).f_Owner }])::rowE c_api_Entry 66 p0f_stack_ c0f_stack_ x0.f_stack::G_)) | _=>(Wd w0 (cellsE ((g49 0).1) (c_flat_Span.all ([{ { zv7 with f_Range:={ { zv6 with f_From:=x0.f_at } with f_To:=x1 } } with f_Owner:=(lget x0.f_stack (wr .i64 ((x0.f_stack.length:Int)-1))).f_Owner }]:List S_flat_Span)) 60::cellsE b1 (Cd.cs c_api_Addr x1) 24::cellsE b0_ (Cd.cs c_flat_row (((((g49 1).2.1),((g49 1).2.2.1)),(p0f_stack_,c0f_stack_)),{ x0 with f_l:=x0.f_l++[{ { zv7 with f_Range:={ { zv6 with f_From:=x0.f_at } with f_To:=x1 } } with f_Owner:=(lget x0.f_stack (wr .i64 ((x0.f_stack.length:Int)-1))).f_Owner }] })) 84::rowE c_flat_Span 60 ((g49 1).2.1) ((g49 1).2.2.1) (x0.f_l++[{ { zv7 with f_Range:={ { zv6 with f_From:=x0.f_at } with f_To:=x1 } } with f_Owner:=(lget x0.f_stack (wr .i64 ((x0.f_stack.length:Int)-1))).f_Owner }])::rowE c_api_Entry 66 p0f_stack_ c0f_stack_ x0.f_stack::G_))) 3 (by kernel_rfl) (by kernel_rfl) (by kernel_rfl) (by kernel_rfl) (by kernel_rfl) ⟨fun _ _ _=>rfl,fun _ _ _=>rfl,fun _ _ _=>rfl,fun _ _ _=>rfl,fun _ _ _=>rfl,fun _ _ _=>rfl,fun _ _ _=>rfl,fun _ _ _=>rfl,fun _ _ _=>rfl,fun _ _ _=>rfl,fun _ _ _=>rfl,fun _ _ _=>rfl,fun _ _ _=>rfl,fun g49 g2 h=>by show (.slice (some ⟨((g49 0).1),0,none⟩) ([{ { zv7 with f_Range:={ { zv6 with f_From:=x0.f_at } with f_To:=x1 } } with f_Owner:=(lget x0.f_stack (wr .i64 ((x0.f_stack.length:Int)-1))).f_Owner }]:List S_flat_Span).length 1:Value)=.slice (some ⟨((g2 0).1),0,none⟩) ([{ { zv7 with f_Range:={ { zv6 with f_From:=x0.f_at } with f_To:=x1 } } with f_Owner:=(lget x0.f_stack (wr .i64 ((x0.f_stack.length:Int)-1))).f_Owner }]:List S_flat_Span).length 1;rw [h 0 (show 0<1 by decide)],fun g49 g2 h=>by show (.slice ((g49 1).2.1) (x0.f_l++[{ { zv7 with f_Range:={ { zv6 with f_From:=x0.f_at } with f_To:=x1 } } with f_Owner:=(lget x0.f_stack (wr .i64 ((x0.f_stack.length:Int)-1))).f_Owner }]).length ((g49 1).2.2.1):Value)=.slice ((g2 1).2.1) (x0.f_l++[{ { zv7 with f_Range:={ { zv6 with f_From:=x0.f_at } with f_To:=x1 } } with f_Owner:=(lget x0.f_stack (wr .i64 ((x0.f_stack.length:Int)-1))).f_Owner }]).length ((g2 1).2.2.1);rw [h 1 (show 1<2 by decide)],fun _ _ _=>rfl,fun _ _ _=>rfl,fun _ _ _=>rfl,trivial⟩ (by kernel_rfl) (fun w_ h=>⟨fun _=>g3 0 none 0 none w_,h.drew⟩) ⟨?_,?_,?_,?_,?_,?_,?_,?_,?_,?_,?_,?_,?_,?_,?_,?_,?_,?_,trivial⟩ ?_
   ·intro Lx g49 s K hl hh k
    show At 109 ((0,_)::(3,_)::(4,_)::Lx) _ _
    refine am ?_
    exact at_nil k
   ·intro Lx g49 s K hl hh k
    show At 109 ((0,_)::(3,_)::(4,_)::Lx) _ _
    refine am ?_
    exact at_nil k
   ·intro Lx g49 s K hl hh k
    show At 109 ((90,_)::(0,_)::(3,_)::(4,_)::Lx) _ _
    refine aw (r_nilCheck rfl) ?_
    exact at_nil k
   ·intro Lx g49 s K hl hh k
    show At 109 ((91,_)::(0,_)::(3,_)::(4,_)::Lx) _ _
    refine fa 0 underlying84 rfl sizeOf55 ?_
    exact at_nil k
   ·intro Lx g49 s K hl hh k
    show At 109 ((92,_)::(0,_)::(3,_)::(4,_)::Lx) _ _
    rcases (by omega:s=0∨s=1) with rfl | rfl
    ·skip
     refine aw (r_load_cell isAgg55 rfl (lens_cell0 (c:=cHd) (y:=⟨(((p0f_l_,c0f_l_),(p0f_stack_,c0f_stack_)).1).1,List.length x0.f_l,(((p0f_l_,c0f_l_),(p0f_stack_,c0f_stack_)).1).2⟩) (.s .z) (c_flat_row_f_l ((p0f_l_,c0f_l_),(p0f_stack_,c0f_stack_)) x0) rfl)) ?_
     exact at_nil k
    skip
    refine aw (r_load_cell isAgg55 rfl (lens_cell0 (c:=cHd) (y:=⟨(((p0f_l_,c0f_l_),(p0f_stack_,c0f_stack_)).1).1,List.length x0.f_l,(((p0f_l_,c0f_l_),(p0f_stack_,c0f_stack_)).1).2⟩) (.s (.s .z)) (c_flat_row_f_l ((p0f_l_,c0f_l_),(p0f_stack_,c0f_stack_)) x0) rfl)) ?_
    exact at_nil k
   ·intro Lx g49 s K hl hh k
    show At 109 ((0,_)::(3,_)::(4,_)::Lx) _ _
    refine am ?_
    exact at_nil k
   ·intro Lx g49 s K hl hh k
    show At 109 ((94,_)::(0,_)::(3,_)::(4,_)::Lx) _ _
    refine aw (r_nilCheck rfl) ?_
    exact at_nil k
   ·intro Lx g49 s K hl hh k
    show At 109 ((95,_)::(0,_)::(3,_)::(4,_)::Lx) _ _
    refine fa 2 underlying84 rfl sizeOf24 ?_
    exact at_nil k
   ·intro Lx g49 s K hl hh k
    show At 109 ((96,_)::(0,_)::(3,_)::(4,_)::Lx) _ _
    obtain rfl:s=0:=by omega
    refine aw (r_load_aggc (c:=c_api_Addr) (z:=x0.f_at) isAgg24 sizeOf24 rfl (lens_cell (.s .z) (c_flat_row_f_at ((p0f_l_,c0f_l_),(p0f_stack_,c0f_stack_)) x0))) ?_
    exact at_nil k
   ·intro Lx g49 s K hl hh k
    show At 109 ((0,_)::(3,_)::(4,_)::Lx) _ _
    obtain rfl:s=0:=by omega
    refine aw (r_load_aggc (c:=c_api_Addr) (z:=x1) isAgg24 sizeOf24 rfl (lens_cell .z lw)) ?_
    exact at_nil k
   ·intro Lx g49 s K hl hh k
    show At 109 ((97,_)::(98,_)::(0,_)::(3,_)::(4,_)::Lx) _ _
    obtain rfl:s=0:=by omega
    refine aw (r_build_struct (zs:=Cd.cs c_aggregate_Range zv6) (cs:=Cd.cs c_aggregate_Range ({ { zv6 with f_From:=x0.f_at } with f_To:=x1 })) underlying26 zeroValue26 rfl (places_aggregate_Range_26) rfl (fill_step (c:=c_api_Addr) (z:=x0.f_at) rfl (c_aggregate_Range_f_From zv6) rfl (fill_step (c:=c_api_Addr) (z:=x1) rfl (c_aggregate_Range_f_To ({ zv6 with f_From:=x0.f_at })) rfl rfl))) ?_
    exact at_nil k
   ·intro Lx g49 s K hl hh k
    show At 109 ((0,_)::(3,_)::(4,_)::Lx) _ _
    refine am ?_
    exact at_nil k
   ·intro Lx g49 s K hl hh k
    show At 109 ((99,_)::(100,_)::(0,_)::(3,_)::(4,_)::Lx) _ _
    obtain rfl:s=0:=by omega
    refine aw (r_build_struct (zs:=Cd.cs c_flat_Span zv7) (cs:=Cd.cs c_flat_Span ({ { zv7 with f_Range:={ { zv6 with f_From:=x0.f_at } with f_To:=x1 } } with f_Owner:=(lget x0.f_stack (wr .i64 ((x0.f_stack.length:Int)-1))).f_Owner })) underlying60 zeroValue60 rfl (places_flat_Span_60) rfl (fill_step (c:=c_aggregate_Range) (z:={ { zv6 with f_From:=x0.f_at } with f_To:=x1 }) rfl (c_flat_Span_f_Range zv7) rfl (fill_step (c:=(cInt .i64)) (z:=(lget x0.f_stack (wr .i64 ((x0.f_stack.length:Int)-1))).f_Owner) rfl (c_flat_Span_f_Owner ({ zv7 with f_Range:={ { zv6 with f_From:=x0.f_at } with f_To:=x1 } })) rfl rfl))) ?_
    exact at_nil k
   ·intro Lx g49 K k
    show At 109 ((101,_)::(0,_)::(3,_)::(4,_)::Lx) _ _
    refine at_litL (c:=c_flat_Span) ([zv7]:List S_flat_Span) ([{ { zv7 with f_Range:={ { zv6 with f_From:=x0.f_at } with f_To:=x1 } } with f_Owner:=(lget x0.f_stack (wr .i64 ((x0.f_stack.length:Int)-1))).f_Owner }]:List S_flat_Span) underlying55 sizeOf60 zeroValue60 rfl rfl rfl (by kernel_rfl) (fill_step (c:=c_flat_Span) (z:={ { zv7 with f_Range:={ { zv6 with f_From:=x0.f_at } with f_To:=x1 } } with f_Owner:=(lget x0.f_stack (wr .i64 ((x0.f_stack.length:Int)-1))).f_Owner }) rfl (Lens.all c_flat_Span ([zv7]:List S_flat_Span) 0 (by first | decide | exact Nat.le_of_ble_eq_true rfl)) rfl rfl) rfl ?_
    intro b45
    exact at_nil (k (g3 b45 none 0 none w0))
   ·intro Lx g49 K k
    show At 109 ((93,_)::(102,_)::(0,_)::(3,_)::(4,_)::Lx) _ _
    refine at_append (z:=.agg (Cd.cs c_flat_Span zv7).toArray) (c:=c_flat_Span) (ys:=([{ { zv7 with f_Range:={ { zv6 with f_From:=x0.f_at } with f_To:=x1 } } with f_Owner:=(lget x0.f_stack (wr .i64 ((x0.f_stack.length:Int)-1))).f_Owner }]:List S_flat_Span)) (.s (.s (.s .z))) underlying55 infoF760 (by kernel_rfl) (by kernel_rfl) rfl rfl rfl rfl (fun _ hw=>cells_src (hw.ok (Upd.mem .z))) (by kernel_rfl) h46 (app_small h46) rfl ?_
    intro p47 c48
    exact at_nil (k (g3 0 p47 c48 none w0))
   ·intro Lx g49 s K hl hh k
    show At 109 ((89,_)::(0,_)::(3,_)::(4,_)::Lx) _ _
    refine aw (r_nilCheck rfl) ?_
    exact at_nil k
   ·intro Lx g49 s K hl hh k
    show At 109 ((104,_)::(0,_)::(3,_)::(4,_)::Lx) _ _
    refine fa 0 underlying84 rfl sizeOf55 ?_
    exact at_nil k
   ·intro Lx g49 K k
    show At 109 ((103,_)::(105,_)::(0,_)::(3,_)::(4,_)::Lx) _ _
    refine at_store (c:=cSv S_flat_Span) (z:=((((g49 1).2.1),((g49 1).2.2.1)),x0.f_l++[{ { zv7 with f_Range:={ { zv6 with f_From:=x0.f_at } with f_To:=x1 } } with f_Owner:=(lget x0.f_stack (wr .i64 ((x0.f_stack.length:Int)-1))).f_Owner }])) (.s (.s .z)) (c_flat_row_f_l_sv ((p0f_l_,c0f_l_),(p0f_stack_,c0f_stack_)) x0) sizeOf55 rfl rfl rfl ?_
    exact at_nil k
   intro g49
   show At 109 [(89,_),(90,_),(91,_),(92,_),(93,_),(94,_),(95,_),(96,_),(97,_),(98,_),(99,_),(100,_),(101,_),(102,_),(103,_),(104,_),(105,_),(0,_),(3,_),(4,_)] _ _
   refine dz (wq [3,0] ?_)
   refine tn (qr (am ?_))
   refine aw (r_load_aggc (c:=c_api_Addr) (z:=x1) isAgg24 sizeOf24 rfl (lens_cell .z lw)) ?_
   obtain ⟨t50,ht50,hF⟩:=bM hF
   refine at_front (.s (.s (.s .z))) ?_
   refine at_front (.s (.s (.s .z))) ?_
   refine at_front (.s (.s (.s .z))) ?_
   refine at_callX (γ:=G_flat_row) (V:=fun z=>.tuple #[]) (T:=fun z=>(cellsE b0_ (Cd.cs c_flat_row (z,t50)) 84::rowE c_flat_Span 60 z.1.1 z.1.2 t50.f_l::rowE c_api_Entry 66 z.2.1 z.2.2 t50.f_stack::cellsE b1 (Cd.cs c_api_Addr x1) 24::G_)) func80 rfl (by kernel_rfl) rfl rfl (fun w hw=>flat_row_move_ok ht50 hw) ?_
   rintro ⟨⟨p51,c52⟩,⟨p53,c54⟩⟩
   refine qn ?_
   refine at_drop (H:=_) (.s (.s (.s .z))) ?_
   refine at_weak [] trivial ?_
   have K:=os hF
   subst K
   exact at_return0 rfl (fun w1 hw=>⟨((p51,c52),(p53,c54)),rfl,hw⟩)
  refine cf h15 ?_
  refine sn (qs (wq [4,3,0] ?_))
  obtain ⟨h56,hF⟩:=gd hF
  refine at_inv [.q 89 (fun g59=>.pointer (some ⟨b0_,0,none⟩)) [] 0 2,.q 90 (fun g59=>.pointer (some ⟨b0_,0,none⟩)) [] 0 1,.q 91 (fun g59=>.pointer (some ⟨b0_,0,none⟩)) [1] 0 1,.q 92 (fun g59=>.pointer (some ⟨b0_,0+0,none⟩)) [2] 0 1,.q 93 (fun g59=>.slice p0f_l_ x0.f_l.length c0f_l_) [3] 0 1,.q 94 (fun g59=>.pointer (some ⟨b0_,0,none⟩)) [] 0 2,.q 95 (fun g59=>.pointer (some ⟨b0_,0,none⟩)) [5] 0 0,.q 96 (fun g59=>.pointer (some ⟨b0_,0+2,none⟩)) [6] 0 0,.q 97 (fun g59=>.agg (Cd.cs c_api_Addr x0.f_at).toArray) [7] 0 0,.q 98 (fun g59=>.agg (Cd.cs c_api_Addr x1).toArray) [] 0 0,.q 99 (fun g59=>.agg (Cd.cs c_aggregate_Range ({ { zv6 with f_From:=x0.f_at } with f_To:=x1 })).toArray) [8,9] 0 0,.q 100 (fun g59=>.int .i64 ((lget x0.f_stack (wr .i64 ((x0.f_stack.length:Int)-1))).f_Owner)) [] 0 0,.q 101 (fun g59=>.agg (Cd.cs c_flat_Span ({ { zv7 with f_Range:={ { zv6 with f_From:=x0.f_at } with f_To:=x1 } } with f_Owner:=(lget x0.f_stack (wr .i64 ((x0.f_stack.length:Int)-1))).f_Owner })).toArray) [10,11] 0 0,.al 0 102 (fun g59=>.slice (some ⟨((g59 0).1),0,none⟩) ([{ { zv7 with f_Range:={ { zv6 with f_From:=x0.f_at } with f_To:=x1 } } with f_Owner:=(lget x0.f_stack (wr .i64 ((x0.f_stack.length:Int)-1))).f_Owner }]:List S_flat_Span).length 1) [12],.al 1 103 (fun g59=>.slice ((g59 1).2.1) (x0.f_l++[{ { zv7 with f_Range:={ { zv6 with f_From:=x0.f_at } with f_To:=x1 } } with f_Owner:=(lget x0.f_stack (wr .i64 ((x0.f_stack.length:Int)-1))).f_Owner }]).length ((g59 1).2.2.1)) [4,13],.q 104 (fun g59=>.pointer (some ⟨b0_,0,none⟩)) [0] 2 2,.q 105 (fun g59=>.pointer (some ⟨b0_,0+0,none⟩)) [15] 2 2,.st 2 none [14,16]] (fun g59 s=>match s with | 0=>(Wd w0 (cellsE b1 (Cd.cs c_api_Addr x1) 24::cellsE b0_ (Cd.cs c_flat_row (((p0f_l_,c0f_l_),(p0f_stack_,c0f_stack_)),x0)) 84::rowE c_flat_Span 60 p0f_l_ c0f_l_ x0.f_l::rowE c_api_Entry 66 p0f_stack_ c0f_stack_ x0.f_stack::G_)) | 1=>(Wd w0 (cellsE ((g59 0).1) (c_flat_Span.all ([{ { zv7 with f_Range:={ { zv6 with f_From:=x0.f_at } with f_To:=x1 } } with f_Owner:=(lget x0.f_stack (wr .i64 ((x0.f_stack.length:Int)-1))).f_Owner }]:List S_flat_Span)) 60::cellsE b1 (Cd.cs c_api_Addr x1) 24::cellsE b0_ (Cd.cs c_flat_row (((p0f_l_,c0f_l_),(p0f_stack_,c0f_stack_)),x0)) 84::rowE c_flat_Span 60 p0f_l_ c0f_l_ x0.f_l::rowE c_api_Entry 66 p0f_stack_ c0f_stack_ x0.f_stack::G_)) | 2=>(Wd w0 (cellsE ((g59 0).1) (c_flat_Span.all ([{ { zv7 with f_Range:={ { zv6 with f_From:=x0.f_at } with f_To:=x1 } } with f_Owner:=(lget x0.f_stack (wr .i64 ((x0.f_stack.length:Int)-1))).f_Owner }]:List S_flat_Span)) 60::cellsE b1 (Cd.cs c_api_Addr x1) 24::cellsE b0_ (Cd.cs c_flat_row (((p0f_l_,c0f_l_),(p0f_stack_,c0f_stack_)),x0)) 84::rowE c_flat_Span 60 ((g59 1).2.1) ((g59 1).2.2.1) (x0.f_l++[{ { zv7 with f_Range:={ { zv6 with f_From:=x0.f_at } with f_To:=x1 } } with f_Owner:=(lget x0.f_stack (wr .i64 ((x0.f_stack.length:Int)-1))).f_Owner }])::rowE c_api_Entry 66 p0f_stack_ c0f_stack_ x0.f_stack::G_)) | _=>(Wd w0 (cellsE ((g59 0).1) (c_flat_Span.all ([{ { zv7 with f_Range:={ { zv6 with f_From:=x0.f_at } with f_To:=x1 } } with f_Owner:=(lget x0.f_stack (wr .i64 ((x0.f_stack.length:Int)-1))).f_Owner }]:List S_flat_Span)) 60::cellsE b1 (Cd.cs c_api_Addr x1) 24::cellsE b0_ (Cd.cs c_flat_row (((((g59 1).2.1),((g59 1).2.2.1)),(p0f_stack_,c0f_stack_)),{ x0 with f_l:=x0.f_l++[{ { zv7 with f_Range:={ { zv6 with f_From:=x0.f_at } with f_To:=x1 } } with f_Owner:=(lget x0.f_stack (wr .i64 ((x0.f_stack.length:Int)-1))).f_Owner }] })) 84::rowE c_flat_Span 60 ((g59 1).2.1) ((g59 1).2.2.1) (x0.f_l++[{ { zv7 with f_Range:={ { zv6 with f_From:=x0.f_at } with f_To:=x1 } } with f_Owner:=(lget x0.f_stack (wr .i64 ((x0.f_stack.length:Int)-1))).f_Owner }])::rowE c_api_Entry 66 p0f_stack_ c0f_stack_ x0.f_stack::G_))) 3 (by kernel_rfl) (by kernel_rfl) (by kernel_rfl) (by kernel_rfl) (by kernel_rfl) ⟨fun _ _ _=>rfl,fun _ _ _=>rfl,fun _ _ _=>rfl,fun _ _ _=>rfl,fun _ _ _=>rfl,fun _ _ _=>rfl,fun _ _ _=>rfl,fun _ _ _=>rfl,fun _ _ _=>rfl,fun _ _ _=>rfl,fun _ _ _=>rfl,fun _ _ _=>rfl,fun _ _ _=>rfl,fun g59 g2 h=>by show (.slice (some ⟨((g59 0).1),0,none⟩) ([{ { zv7 with f_Range:={ { zv6 with f_From:=x0.f_at } with f_To:=x1 } } with f_Owner:=(lget x0.f_stack (wr .i64 ((x0.f_stack.length:Int)-1))).f_Owner }]:List S_flat_Span).length 1:Value)=.slice (some ⟨((g2 0).1),0,none⟩) ([{ { zv7 with f_Range:={ { zv6 with f_From:=x0.f_at } with f_To:=x1 } } with f_Owner:=(lget x0.f_stack (wr .i64 ((x0.f_stack.length:Int)-1))).f_Owner }]:List S_flat_Span).length 1;rw [h 0 (show 0<1 by decide)],fun g59 g2 h=>by show (.slice ((g59 1).2.1) (x0.f_l++[{ { zv7 with f_Range:={ { zv6 with f_From:=x0.f_at } with f_To:=x1 } } with f_Owner:=(lget x0.f_stack (wr .i64 ((x0.f_stack.length:Int)-1))).f_Owner }]).length ((g59 1).2.2.1):Value)=.slice ((g2 1).2.1) (x0.f_l++[{ { zv7 with f_Range:={ { zv6 with f_From:=x0.f_at } with f_To:=x1 } } with f_Owner:=(lget x0.f_stack (wr .i64 ((x0.f_stack.length:Int)-1))).f_Owner }]).length ((g2 1).2.2.1);rw [h 1 (show 1<2 by decide)],fun _ _ _=>rfl,fun _ _ _=>rfl,fun _ _ _=>rfl,trivial⟩ (by kernel_rfl) (fun w_ h=>⟨fun _=>g3 0 none 0 none w_,h.drew⟩) ⟨?_,?_,?_,?_,?_,?_,?_,?_,?_,?_,?_,?_,?_,?_,?_,?_,?_,?_,trivial⟩ ?_
  ·intro Lx g59 s K hl hh k
   show At 109 ((0,_)::(3,_)::(4,_)::Lx) _ _
   refine am ?_
   exact at_nil k
  ·intro Lx g59 s K hl hh k
   show At 109 ((0,_)::(3,_)::(4,_)::Lx) _ _
   refine am ?_
   exact at_nil k
  ·intro Lx g59 s K hl hh k
   show At 109 ((90,_)::(0,_)::(3,_)::(4,_)::Lx) _ _
   refine aw (r_nilCheck rfl) ?_
   exact at_nil k
  ·intro Lx g59 s K hl hh k
   show At 109 ((91,_)::(0,_)::(3,_)::(4,_)::Lx) _ _
   refine fa 0 underlying84 rfl sizeOf55 ?_
   exact at_nil k
  ·intro Lx g59 s K hl hh k
   show At 109 ((92,_)::(0,_)::(3,_)::(4,_)::Lx) _ _
   rcases (by omega:s=0∨s=1) with rfl | rfl
   ·skip
    refine aw (r_load_cell isAgg55 rfl (lens_cell0 (c:=cHd) (y:=⟨(((p0f_l_,c0f_l_),(p0f_stack_,c0f_stack_)).1).1,List.length x0.f_l,(((p0f_l_,c0f_l_),(p0f_stack_,c0f_stack_)).1).2⟩) (.s .z) (c_flat_row_f_l ((p0f_l_,c0f_l_),(p0f_stack_,c0f_stack_)) x0) rfl)) ?_
    exact at_nil k
   skip
   refine aw (r_load_cell isAgg55 rfl (lens_cell0 (c:=cHd) (y:=⟨(((p0f_l_,c0f_l_),(p0f_stack_,c0f_stack_)).1).1,List.length x0.f_l,(((p0f_l_,c0f_l_),(p0f_stack_,c0f_stack_)).1).2⟩) (.s (.s .z)) (c_flat_row_f_l ((p0f_l_,c0f_l_),(p0f_stack_,c0f_stack_)) x0) rfl)) ?_
   exact at_nil k
  ·intro Lx g59 s K hl hh k
   show At 109 ((0,_)::(3,_)::(4,_)::Lx) _ _
   refine am ?_
   exact at_nil k
  ·intro Lx g59 s K hl hh k
   show At 109 ((94,_)::(0,_)::(3,_)::(4,_)::Lx) _ _
   refine aw (r_nilCheck rfl) ?_
   exact at_nil k
  ·intro Lx g59 s K hl hh k
   show At 109 ((95,_)::(0,_)::(3,_)::(4,_)::Lx) _ _
   refine fa 2 underlying84 rfl sizeOf24 ?_
   exact at_nil k
  ·intro Lx g59 s K hl hh k
   show At 109 ((96,_)::(0,_)::(3,_)::(4,_)::Lx) _ _
   obtain rfl:s=0:=by omega
   refine aw (r_load_aggc (c:=c_api_Addr) (z:=x0.f_at) isAgg24 sizeOf24 rfl (lens_cell (.s .z) (c_flat_row_f_at ((p0f_l_,c0f_l_),(p0f_stack_,c0f_stack_)) x0))) ?_
   exact at_nil k
  ·intro Lx g59 s K hl hh k
   show At 109 ((0,_)::(3,_)::(4,_)::Lx) _ _
   obtain rfl:s=0:=by omega
   refine aw (r_load_aggc (c:=c_api_Addr) (z:=x1) isAgg24 sizeOf24 rfl (lens_cell .z lw)) ?_
   exact at_nil k
  ·intro Lx g59 s K hl hh k
   show At 109 ((97,_)::(98,_)::(0,_)::(3,_)::(4,_)::Lx) _ _
   obtain rfl:s=0:=by omega
   refine aw (r_build_struct (zs:=Cd.cs c_aggregate_Range zv6) (cs:=Cd.cs c_aggregate_Range ({ { zv6 with f_From:=x0.f_at } with f_To:=x1 })) underlying26 zeroValue26 rfl (places_aggregate_Range_26) rfl (fill_step (c:=c_api_Addr) (z:=x0.f_at) rfl (c_aggregate_Range_f_From zv6) rfl (fill_step (c:=c_api_Addr) (z:=x1) rfl (c_aggregate_Range_f_To ({ zv6 with f_From:=x0.f_at })) rfl rfl))) ?_
   exact at_nil k
  ·intro Lx g59 s K hl hh k
   show At 109 ((0,_)::(3,_)::(4,_)::Lx) _ _
   refine am ?_
   exact at_nil k
  ·intro Lx g59 s K hl hh k
   show At 109 ((99,_)::(100,_)::(0,_)::(3,_)::(4,_)::Lx) _ _
   obtain rfl:s=0:=by omega
   refine aw (r_build_struct (zs:=Cd.cs c_flat_Span zv7) (cs:=Cd.cs c_flat_Span ({ { zv7 with f_Range:={ { zv6 with f_From:=x0.f_at } with f_To:=x1 } } with f_Owner:=(lget x0.f_stack (wr .i64 ((x0.f_stack.length:Int)-1))).f_Owner })) underlying60 zeroValue60 rfl (places_flat_Span_60) rfl (fill_step (c:=c_aggregate_Range) (z:={ { zv6 with f_From:=x0.f_at } with f_To:=x1 }) rfl (c_flat_Span_f_Range zv7) rfl (fill_step (c:=(cInt .i64)) (z:=(lget x0.f_stack (wr .i64 ((x0.f_stack.length:Int)-1))).f_Owner) rfl (c_flat_Span_f_Owner ({ zv7 with f_Range:={ { zv6 with f_From:=x0.f_at } with f_To:=x1 } })) rfl rfl))) ?_
   exact at_nil k
  ·intro Lx g59 K k
   show At 109 ((101,_)::(0,_)::(3,_)::(4,_)::Lx) _ _
   refine at_litL (c:=c_flat_Span) ([zv7]:List S_flat_Span) ([{ { zv7 with f_Range:={ { zv6 with f_From:=x0.f_at } with f_To:=x1 } } with f_Owner:=(lget x0.f_stack (wr .i64 ((x0.f_stack.length:Int)-1))).f_Owner }]:List S_flat_Span) underlying55 sizeOf60 zeroValue60 rfl rfl rfl (by kernel_rfl) (fill_step (c:=c_flat_Span) (z:={ { zv7 with f_Range:={ { zv6 with f_From:=x0.f_at } with f_To:=x1 } } with f_Owner:=(lget x0.f_stack (wr .i64 ((x0.f_stack.length:Int)-1))).f_Owner }) rfl (Lens.all c_flat_Span ([zv7]:List S_flat_Span) 0 (by first | decide | exact Nat.le_of_ble_eq_true rfl)) rfl rfl) rfl ?_
   intro b55
   exact at_nil (k (g3 b55 none 0 none w0))
  ·intro Lx g59 K k
   show At 109 ((93,_)::(102,_)::(0,_)::(3,_)::(4,_)::Lx) _ _
   refine at_append (z:=.agg (Cd.cs c_flat_Span zv7).toArray) (c:=c_flat_Span) (ys:=([{ { zv7 with f_Range:={ { zv6 with f_From:=x0.f_at } with f_To:=x1 } } with f_Owner:=(lget x0.f_stack (wr .i64 ((x0.f_stack.length:Int)-1))).f_Owner }]:List S_flat_Span)) (.s (.s (.s .z))) underlying55 infoF760 (by kernel_rfl) (by kernel_rfl) rfl rfl rfl rfl (fun _ hw=>cells_src (hw.ok (Upd.mem .z))) (by kernel_rfl) h56 (app_small h56) rfl ?_
   intro p57 c58
   exact at_nil (k (g3 0 p57 c58 none w0))
  ·intro Lx g59 s K hl hh k
   show At 109 ((89,_)::(0,_)::(3,_)::(4,_)::Lx) _ _
   refine aw (r_nilCheck rfl) ?_
   exact at_nil k
  ·intro Lx g59 s K hl hh k
   show At 109 ((104,_)::(0,_)::(3,_)::(4,_)::Lx) _ _
   refine fa 0 underlying84 rfl sizeOf55 ?_
   exact at_nil k
  ·intro Lx g59 K k
   show At 109 ((103,_)::(105,_)::(0,_)::(3,_)::(4,_)::Lx) _ _
   refine at_store (c:=cSv S_flat_Span) (z:=((((g59 1).2.1),((g59 1).2.2.1)),x0.f_l++[{ { zv7 with f_Range:={ { zv6 with f_From:=x0.f_at } with f_To:=x1 } } with f_Owner:=(lget x0.f_stack (wr .i64 ((x0.f_stack.length:Int)-1))).f_Owner }])) (.s (.s .z)) (c_flat_row_f_l_sv ((p0f_l_,c0f_l_),(p0f_stack_,c0f_stack_)) x0) sizeOf55 rfl rfl rfl ?_
   exact at_nil k
  intro g59
  show At 109 [(89,_),(90,_),(91,_),(92,_),(93,_),(94,_),(95,_),(96,_),(97,_),(98,_),(99,_),(100,_),(101,_),(102,_),(103,_),(104,_),(105,_),(0,_),(3,_),(4,_)] _ _
  refine dz (wq [3,0] ?_)
  refine tn (qr (am ?_))
  refine aw (r_load_aggc (c:=c_api_Addr) (z:=x1) isAgg24 sizeOf24 rfl (lens_cell .z lw)) ?_
  obtain ⟨t60,ht60,hF⟩:=bM hF
  refine at_front (.s (.s (.s .z))) ?_
  refine at_front (.s (.s (.s .z))) ?_
  refine at_front (.s (.s (.s .z))) ?_
  refine at_callX (γ:=G_flat_row) (V:=fun z=>.tuple #[]) (T:=fun z=>(cellsE b0_ (Cd.cs c_flat_row (z,t60)) 84::rowE c_flat_Span 60 z.1.1 z.1.2 t60.f_l::rowE c_api_Entry 66 z.2.1 z.2.2 t60.f_stack::cellsE b1 (Cd.cs c_api_Addr x1) 24::G_)) func80 rfl (by kernel_rfl) rfl rfl (fun w hw=>flat_row_move_ok ht60 hw) ?_
  rintro ⟨⟨p61,c62⟩,⟨p63,c64⟩⟩
  refine qn ?_
  refine at_drop (H:=_) (.s (.s (.s .z))) ?_
  refine at_weak [] trivial ?_
  have K:=os hF
  subst K
  exact at_return0 rfl (fun w1 hw=>⟨((p61,c62),(p63,c64)),rfl,hw⟩)
 refine fx 40 h10 ?_
 refine gn ?_
 refine gn ?_
 refine gn ?_
 refine gn ?_
 refine gn ?_
 refine gn ?_
 refine gn ?_
 refine gn ?_
 refine gn ?_
 refine gn ?_
 refine gn ?_
 refine aw xp (nwq [52,5,4,3,0] ?_)
 refine cf rfl ?_
 refine sn (qs (wq [4,3,0] ?_))
 obtain ⟨h66,hF⟩:=gd hF
 refine at_inv [.q 89 (fun g69=>.pointer (some ⟨b0_,0,none⟩)) [] 0 2,.q 90 (fun g69=>.pointer (some ⟨b0_,0,none⟩)) [] 0 1,.q 91 (fun g69=>.pointer (some ⟨b0_,0,none⟩)) [1] 0 1,.q 92 (fun g69=>.pointer (some ⟨b0_,0+0,none⟩)) [2] 0 1,.q 93 (fun g69=>.slice p0f_l_ x0.f_l.length c0f_l_) [3] 0 1,.q 94 (fun g69=>.pointer (some ⟨b0_,0,none⟩)) [] 0 2,.q 95 (fun g69=>.pointer (some ⟨b0_,0,none⟩)) [5] 0 0,.q 96 (fun g69=>.pointer (some ⟨b0_,0+2,none⟩)) [6] 0 0,.q 97 (fun g69=>.agg (Cd.cs c_api_Addr x0.f_at).toArray) [7] 0 0,.q 98 (fun g69=>.agg (Cd.cs c_api_Addr x1).toArray) [] 0 0,.q 99 (fun g69=>.agg (Cd.cs c_aggregate_Range ({ { zv6 with f_From:=x0.f_at } with f_To:=x1 })).toArray) [8,9] 0 0,.q 100 (fun g69=>.int .i64 ((lget x0.f_stack (wr .i64 ((x0.f_stack.length:Int)-1))).f_Owner)) [] 0 0,.q 101 (fun g69=>.agg (Cd.cs c_flat_Span ({ { zv7 with f_Range:={ { zv6 with f_From:=x0.f_at } with f_To:=x1 } } with f_Owner:=(lget x0.f_stack (wr .i64 ((x0.f_stack.length:Int)-1))).f_Owner })).toArray) [10,11] 0 0,.al 0 102 (fun g69=>.slice (some ⟨((g69 0).1),0,none⟩) ([{ { zv7 with f_Range:={ { zv6 with f_From:=x0.f_at } with f_To:=x1 } } with f_Owner:=(lget x0.f_stack (wr .i64 ((x0.f_stack.length:Int)-1))).f_Owner }]:List S_flat_Span).length 1) [12],.al 1 103 (fun g69=>.slice ((g69 1).2.1) (x0.f_l++[{ { zv7 with f_Range:={ { zv6 with f_From:=x0.f_at } with f_To:=x1 } } with f_Owner:=(lget x0.f_stack (wr .i64 ((x0.f_stack.length:Int)-1))).f_Owner }]).length ((g69 1).2.2.1)) [4,13],.q 104 (fun g69=>.pointer (some ⟨b0_,0,none⟩)) [0] 2 2,.q 105 (fun g69=>.pointer (some ⟨b0_,0+0,none⟩)) [15] 2 2,.st 2 none [14,16]] (fun g69 s=>match s with | 0=>(Wd w0 (cellsE b1 (Cd.cs c_api_Addr x1) 24::cellsE b0_ (Cd.cs c_flat_row (((p0f_l_,c0f_l_),(p0f_stack_,c0f_stack_)),x0)) 84::rowE c_flat_Span 60 p0f_l_ c0f_l_ x0.f_l::rowE c_api_Entry 66 p0f_stack_ c0f_stack_ x0.f_stack::G_)) | 1=>(Wd w0 (cellsE ((g69 0).1) (c_flat_Span.all ([{ { zv7 with f_Range:={ { zv6 with f_From:=x0.f_at } with f_To:=x1 } } with f_Owner:=(lget x0.f_stack (wr .i64 ((x0.f_stack.length:Int)-1))).f_Owner }]:List S_flat_Span)) 60::cellsE b1 (Cd.cs c_api_Addr x1) 24::cellsE b0_ (Cd.cs c_flat_row (((p0f_l_,c0f_l_),(p0f_stack_,c0f_stack_)),x0)) 84::rowE c_flat_Span 60 p0f_l_ c0f_l_ x0.f_l::rowE c_api_Entry 66 p0f_stack_ c0f_stack_ x0.f_stack::G_)) | 2=>(Wd w0 (cellsE ((g69 0).1) (c_flat_Span.all ([{ { zv7 with f_Range:={ { zv6 with f_From:=x0.f_at } with f_To:=x1 } } with f_Owner:=(lget x0.f_stack (wr .i64 ((x0.f_stack.length:Int)-1))).f_Owner }]:List S_flat_Span)) 60::cellsE b1 (Cd.cs c_api_Addr x1) 24::cellsE b0_ (Cd.cs c_flat_row (((p0f_l_,c0f_l_),(p0f_stack_,c0f_stack_)),x0)) 84::rowE c_flat_Span 60 ((g69 1).2.1) ((g69 1).2.2.1) (x0.f_l++[{ { zv7 with f_Range:={ { zv6 with f_From:=x0.f_at } with f_To:=x1 } } with f_Owner:=(lget x0.f_stack (wr .i64 ((x0.f_stack.length:Int)-1))).f_Owner }])::rowE c_api_Entry 66 p0f_stack_ c0f_stack_ x0.f_stack::G_)) | _=>(Wd w0 (cellsE ((g69 0).1) (c_flat_Span.all ([{ { zv7 with f_Range:={ { zv6 with f_From:=x0.f_at } with f_To:=x1 } } with f_Owner:=(lget x0.f_stack (wr .i64 ((x0.f_stack.length:Int)-1))).f_Owner }]:List S_flat_Span)) 60::cellsE b1 (Cd.cs c_api_Addr x1) 24::cellsE b0_ (Cd.cs c_flat_row (((((g69 1).2.1),((g69 1).2.2.1)),(p0f_stack_,c0f_stack_)),{ x0 with f_l:=x0.f_l++[{ { zv7 with f_Range:={ { zv6 with f_From:=x0.f_at } with f_To:=x1 } } with f_Owner:=(lget x0.f_stack (wr .i64 ((x0.f_stack.length:Int)-1))).f_Owner }] })) 84::rowE c_flat_Span 60 ((g69 1).2.1) ((g69 1).2.2.1) (x0.f_l++[{ { zv7 with f_Range:={ { zv6 with f_From:=x0.f_at } with f_To:=x1 } } with f_Owner:=(lget x0.f_stack (wr .i64 ((x0.f_stack.length:Int)-1))).f_Owner }])::rowE c_api_Entry 66 p0f_stack_ c0f_stack_ x0.f_stack::G_))) 3 (by kernel_rfl) (by kernel_rfl) (by kernel_rfl) (by kernel_rfl) (by kernel_rfl) ⟨fun _ _ _=>rfl,fun _ _ _=>rfl,fun _ _ _=>rfl,fun _ _ _=>rfl,fun _ _ _=>rfl,fun _ _ _=>rfl,fun _ _ _=>rfl,fun _ _ _=>rfl,fun _ _ _=>rfl,fun _ _ _=>rfl,fun _ _ _=>rfl,fun _ _ _=>rfl,fun _ _ _=>rfl,fun g69 g2 h=>by show (.slice (some ⟨((g69 0).1),0,none⟩) ([{ { zv7 with f_Range:={ { zv6 with f_From:=x0.f_at } with f_To:=x1 } } with f_Owner:=(lget x0.f_stack (wr .i64 ((x0.f_stack.length:Int)-1))).f_Owner }]:List S_flat_Span).length 1:Value)=.slice (some ⟨((g2 0).1),0,none⟩) ([{ { zv7 with f_Range:={ { zv6 with f_From:=x0.f_at } with f_To:=x1 } } with f_Owner:=(lget x0.f_stack (wr .i64 ((x0.f_stack.length:Int)-1))).f_Owner }]:List S_flat_Span).length 1;rw [h 0 (show 0<1 by decide)],fun g69 g2 h=>by show (.slice ((g69 1).2.1) (x0.f_l++[{ { zv7 with f_Range:={ { zv6 with f_From:=x0.f_at } with f_To:=x1 } } with f_Owner:=(lget x0.f_stack (wr .i64 ((x0.f_stack.length:Int)-1))).f_Owner }]).length ((g69 1).2.2.1):Value)=.slice ((g2 1).2.1) (x0.f_l++[{ { zv7 with f_Range:={ { zv6 with f_From:=x0.f_at } with f_To:=x1 } } with f_Owner:=(lget x0.f_stack (wr .i64 ((x0.f_stack.length:Int)-1))).f_Owner }]).length ((g2 1).2.2.1);rw [h 1 (show 1<2 by decide)],fun _ _ _=>rfl,fun _ _ _=>rfl,fun _ _ _=>rfl,trivial⟩ (by kernel_rfl) (fun w_ h=>⟨fun _=>g3 0 none 0 none w_,h.drew⟩) ⟨?_,?_,?_,?_,?_,?_,?_,?_,?_,?_,?_,?_,?_,?_,?_,?_,?_,?_,trivial⟩ ?_
 ·intro Lx g69 s K hl hh k
  show At 109 ((0,_)::(3,_)::(4,_)::Lx) _ _
  refine am ?_
  exact at_nil k
 ·intro Lx g69 s K hl hh k
  show At 109 ((0,_)::(3,_)::(4,_)::Lx) _ _
  refine am ?_
  exact at_nil k
 ·intro Lx g69 s K hl hh k
  show At 109 ((90,_)::(0,_)::(3,_)::(4,_)::Lx) _ _
  refine aw (r_nilCheck rfl) ?_
  exact at_nil k
 ·intro Lx g69 s K hl hh k
  show At 109 ((91,_)::(0,_)::(3,_)::(4,_)::Lx) _ _
  refine fa 0 underlying84 rfl sizeOf55 ?_
  exact at_nil k
 ·intro Lx g69 s K hl hh k
  show At 109 ((92,_)::(0,_)::(3,_)::(4,_)::Lx) _ _
  rcases (by omega:s=0∨s=1) with rfl | rfl
  ·skip
   refine aw (r_load_cell isAgg55 rfl (lens_cell0 (c:=cHd) (y:=⟨(((p0f_l_,c0f_l_),(p0f_stack_,c0f_stack_)).1).1,List.length x0.f_l,(((p0f_l_,c0f_l_),(p0f_stack_,c0f_stack_)).1).2⟩) (.s .z) (c_flat_row_f_l ((p0f_l_,c0f_l_),(p0f_stack_,c0f_stack_)) x0) rfl)) ?_
   exact at_nil k
  skip
  refine aw (r_load_cell isAgg55 rfl (lens_cell0 (c:=cHd) (y:=⟨(((p0f_l_,c0f_l_),(p0f_stack_,c0f_stack_)).1).1,List.length x0.f_l,(((p0f_l_,c0f_l_),(p0f_stack_,c0f_stack_)).1).2⟩) (.s (.s .z)) (c_flat_row_f_l ((p0f_l_,c0f_l_),(p0f_stack_,c0f_stack_)) x0) rfl)) ?_
  exact at_nil k
 ·intro Lx g69 s K hl hh k
  show At 109 ((0,_)::(3,_)::(4,_)::Lx) _ _
  refine am ?_
  exact at_nil k
 ·intro Lx g69 s K hl hh k
  show At 109 ((94,_)::(0,_)::(3,_)::(4,_)::Lx) _ _
  refine aw (r_nilCheck rfl) ?_
  exact at_nil k
 ·intro Lx g69 s K hl hh k
  show At 109 ((95,_)::(0,_)::(3,_)::(4,_)::Lx) _ _
  refine fa 2 underlying84 rfl sizeOf24 ?_
  exact at_nil k
 ·intro Lx g69 s K hl hh k
  show At 109 ((96,_)::(0,_)::(3,_)::(4,_)::Lx) _ _
  obtain rfl:s=0:=by omega
  refine aw (r_load_aggc (c:=c_api_Addr) (z:=x0.f_at) isAgg24 sizeOf24 rfl (lens_cell (.s .z) (c_flat_row_f_at ((p0f_l_,c0f_l_),(p0f_stack_,c0f_stack_)) x0))) ?_
  exact at_nil k
 ·intro Lx g69 s K hl hh k
  show At 109 ((0,_)::(3,_)::(4,_)::Lx) _ _
  obtain rfl:s=0:=by omega
  refine aw (r_load_aggc (c:=c_api_Addr) (z:=x1) isAgg24 sizeOf24 rfl (lens_cell .z lw)) ?_
  exact at_nil k
 ·intro Lx g69 s K hl hh k
  show At 109 ((97,_)::(98,_)::(0,_)::(3,_)::(4,_)::Lx) _ _
  obtain rfl:s=0:=by omega
  refine aw (r_build_struct (zs:=Cd.cs c_aggregate_Range zv6) (cs:=Cd.cs c_aggregate_Range ({ { zv6 with f_From:=x0.f_at } with f_To:=x1 })) underlying26 zeroValue26 rfl (places_aggregate_Range_26) rfl (fill_step (c:=c_api_Addr) (z:=x0.f_at) rfl (c_aggregate_Range_f_From zv6) rfl (fill_step (c:=c_api_Addr) (z:=x1) rfl (c_aggregate_Range_f_To ({ zv6 with f_From:=x0.f_at })) rfl rfl))) ?_
  exact at_nil k
 ·intro Lx g69 s K hl hh k
  show At 109 ((0,_)::(3,_)::(4,_)::Lx) _ _
  refine am ?_
  exact at_nil k
 ·intro Lx g69 s K hl hh k
  show At 109 ((99,_)::(100,_)::(0,_)::(3,_)::(4,_)::Lx) _ _
  obtain rfl:s=0:=by omega
  refine aw (r_build_struct (zs:=Cd.cs c_flat_Span zv7) (cs:=Cd.cs c_flat_Span ({ { zv7 with f_Range:={ { zv6 with f_From:=x0.f_at } with f_To:=x1 } } with f_Owner:=(lget x0.f_stack (wr .i64 ((x0.f_stack.length:Int)-1))).f_Owner })) underlying60 zeroValue60 rfl (places_flat_Span_60) rfl (fill_step (c:=c_aggregate_Range) (z:={ { zv6 with f_From:=x0.f_at } with f_To:=x1 }) rfl (c_flat_Span_f_Range zv7) rfl (fill_step (c:=(cInt .i64)) (z:=(lget x0.f_stack (wr .i64 ((x0.f_stack.length:Int)-1))).f_Owner) rfl (c_flat_Span_f_Owner ({ zv7 with f_Range:={ { zv6 with f_From:=x0.f_at } with f_To:=x1 } })) rfl rfl))) ?_
  exact at_nil k
 ·intro Lx g69 K k
  show At 109 ((101,_)::(0,_)::(3,_)::(4,_)::Lx) _ _
  refine at_litL (c:=c_flat_Span) ([zv7]:List S_flat_Span) ([{ { zv7 with f_Range:={ { zv6 with f_From:=x0.f_at } with f_To:=x1 } } with f_Owner:=(lget x0.f_stack (wr .i64 ((x0.f_stack.length:Int)-1))).f_Owner }]:List S_flat_Span) underlying55 sizeOf60 zeroValue60 rfl rfl rfl (by kernel_rfl) (fill_step (c:=c_flat_Span) (z:={ { zv7 with f_Range:={ { zv6 with f_From:=x0.f_at } with f_To:=x1 } } with f_Owner:=(lget x0.f_stack (wr .i64 ((x0.f_stack.length:Int)-1))).f_Owner }) rfl (Lens.all c_flat_Span ([zv7]:List S_flat_Span) 0 (by first | decide | exact Nat.le_of_ble_eq_true rfl)) rfl rfl) rfl ?_
  intro b65
  exact at_nil (k (g3 b65 none 0 none w0))
 ·intro Lx g69 K k
  show At 109 ((93,_)::(102,_)::(0,_)::(3,_)::(4,_)::Lx) _ _
  refine at_append (z:=.agg (Cd.cs c_flat_Span zv7).toArray) (c:=c_flat_Span) (ys:=([{ { zv7 with f_Range:={ { zv6 with f_From:=x0.f_at } with f_To:=x1 } } with f_Owner:=(lget x0.f_stack (wr .i64 ((x0.f_stack.length:Int)-1))).f_Owner }]:List S_flat_Span)) (.s (.s (.s .z))) underlying55 infoF760 (by kernel_rfl) (by kernel_rfl) rfl rfl rfl rfl (fun _ hw=>cells_src (hw.ok (Upd.mem .z))) (by kernel_rfl) h66 (app_small h66) rfl ?_
  intro p67 c68
  exact at_nil (k (g3 0 p67 c68 none w0))
 ·intro Lx g69 s K hl hh k
  show At 109 ((89,_)::(0,_)::(3,_)::(4,_)::Lx) _ _
  refine aw (r_nilCheck rfl) ?_
  exact at_nil k
 ·intro Lx g69 s K hl hh k
  show At 109 ((104,_)::(0,_)::(3,_)::(4,_)::Lx) _ _
  refine fa 0 underlying84 rfl sizeOf55 ?_
  exact at_nil k
 ·intro Lx g69 K k
  show At 109 ((103,_)::(105,_)::(0,_)::(3,_)::(4,_)::Lx) _ _
  refine at_store (c:=cSv S_flat_Span) (z:=((((g69 1).2.1),((g69 1).2.2.1)),x0.f_l++[{ { zv7 with f_Range:={ { zv6 with f_From:=x0.f_at } with f_To:=x1 } } with f_Owner:=(lget x0.f_stack (wr .i64 ((x0.f_stack.length:Int)-1))).f_Owner }])) (.s (.s .z)) (c_flat_row_f_l_sv ((p0f_l_,c0f_l_),(p0f_stack_,c0f_stack_)) x0) sizeOf55 rfl rfl rfl ?_
  exact at_nil k
 intro g69
 show At 109 [(89,_),(90,_),(91,_),(92,_),(93,_),(94,_),(95,_),(96,_),(97,_),(98,_),(99,_),(100,_),(101,_),(102,_),(103,_),(104,_),(105,_),(0,_),(3,_),(4,_)] _ _
 refine dz (wq [3,0] ?_)
 refine tn (qr (am ?_))
 refine aw (r_load_aggc (c:=c_api_Addr) (z:=x1) isAgg24 sizeOf24 rfl (lens_cell .z lw)) ?_
 obtain ⟨t70,ht70,hF⟩:=bM hF
 refine at_front (.s (.s (.s .z))) ?_
 refine at_front (.s (.s (.s .z))) ?_
 refine at_front (.s (.s (.s .z))) ?_
 refine at_callX (γ:=G_flat_row) (V:=fun z=>.tuple #[]) (T:=fun z=>(cellsE b0_ (Cd.cs c_flat_row (z,t70)) 84::rowE c_flat_Span 60 z.1.1 z.1.2 t70.f_l::rowE c_api_Entry 66 z.2.1 z.2.2 t70.f_stack::cellsE b1 (Cd.cs c_api_Addr x1) 24::G_)) func80 rfl (by kernel_rfl) rfl rfl (fun w hw=>flat_row_move_ok ht70 hw) ?_
 rintro ⟨⟨p71,c72⟩,⟨p73,c74⟩⟩
 refine qn ?_
 refine at_drop (H:=_) (.s (.s (.s .z))) ?_
 refine at_weak [] trivial ?_
 have K:=os hF
 subst K
 exact at_return0 rfl (fun w1 hw=>⟨((p71,c72),(p73,c74)),rfl,hw⟩)
def flat_row_close.l0(x1:S_api_Entry)(i6:S_flat_row):Option (Ctl (S_flat_row) (S_flat_row)) :=
 if (decide ((i6.f_stack.length:Int)>0))=true then (if (0:Int)≤wr .i64 ((i6.f_stack.length:Int)-1)∧wr .i64 ((i6.f_stack.length:Int)-1)<(i6.f_stack.length:Int) then cidr_Covers ((lget i6.f_stack (wr .i64 ((i6.f_stack.length:Int)-1))).f_P) x1.f_P>>=fun t22=>if t22=true then (some (.ret i6)) else (flat_end (lget i6.f_stack (wr .i64 ((i6.f_stack.length:Int)-1)))>>=fun t24=>flat_row_put i6 t24>>=fun t25=>if (0:Int)≤0∧0≤wr .i64 ((t25.f_stack.length:Int)-1)∧wr .i64 ((t25.f_stack.length:Int)-1)≤(t25.f_stack.length:Int) then flat_row_close.l0 x1 ({ { t25 with f_stack:=lsub t25.f_stack 0 (wr .i64 ((t25.f_stack.length:Int)-1)) } with f_stack:=List.take (Int.toNat (wr .i64 ((t25.f_stack.length:Int)-1))) t25.f_stack }) else none) else none) else (some (.nx i6))
 partial_fixpoint
def flat_row_close(x0:S_flat_row)(x1:S_api_Entry):Option (S_flat_row) :=
 flat_row_close.l0 x1 x0>>=fun q5=>match q5 with | .ret r'=>some r' | .nx sq5=>(some sq5)
set_option maxHeartbeats 3200000 in
theorem flat_row_close_ok{x0:S_flat_row}{x1:S_api_Entry}{r:S_flat_row}(hF:flat_row_close x0 x1=some r):∀ {w0 w:World} {G_:List Ent} {b0_:Nat} {p0f_l_:Option Addr} {c0f_l_:Nat} {p0f_stack_:Option Addr} {c0f_stack_:Nat} {b1_:Nat} (hw_:Wd w0 (cellsE b0_ (Cd.cs c_flat_row (((p0f_l_,c0f_l_),(p0f_stack_,c0f_stack_)),x0)) 84::rowE c_flat_Span 60 p0f_l_ c0f_l_ x0.f_l::rowE c_api_Entry 66 p0f_stack_ c0f_stack_ x0.f_stack::cellsE b1_ (Cd.cs c_api_Entry x1) 66::G_) w),
    Calls Try.prog 54 #[.pointer (some ⟨b0_,0,none⟩),.pointer (some ⟨b1_,0,none⟩)] w (fun e w'=>∃ (z0:G_flat_row),e=.returned (.tuple #[])∧Wd w0 (cellsE b0_ (Cd.cs c_flat_row (z0,r)) 84::rowE c_flat_Span 60 z0.1.1 z0.1.2 r.f_l::rowE c_api_Entry 66 z0.2.1 z0.2.2 r.f_stack::cellsE b1_ (Cd.cs c_api_Entry x1) 66::G_) w'):=by
 intro w0 w G_ b0_ p0f_l_ c0f_l_ p0f_stack_ c0f_stack_ b1_ hw_
 unfold flat_row_close at hF
 refine ce (l:=[.pointer (some ⟨b0_,0,none⟩),.pointer (some ⟨b1_,0,none⟩)]) func54 rfl rfl ?_
 refine at_enterF hw_ ?_
 refine wq [1,0] ?_
 refine qb ?_
 obtain ⟨q5,hq5,hF⟩:=bM hF
 refine wq [1,0] ?_
 refine at_loop_r (B:=0) (r:=r) (q:=q5) (A:=fun sq5 Y=>∀ (p11:Option Addr) (c12:Nat) (p13:Option Addr) (c14:Nat),At 52 [] (Wd w0 (cellsE b0_ (Cd.cs c_flat_row (((p11,c12),(p13,c14)),sq5)) 84::rowE c_flat_Span 60 p11 c12 sq5.f_l::rowE c_api_Entry 66 p13 c14 sq5.f_stack::cellsE b1_ (Cd.cs c_api_Entry x1) 66::G_)) Y) ?_ ?_
 ·intro K
  refine flat_row_close.l0.partial_correctness x1 (motive:=fun i6 x=>KR (fun sq5 Y=>∀ (p11:Option Addr) (c12:Nat) (p13:Option Addr) (c14:Nat),At 52 [] (Wd w0 (cellsE b0_ (Cd.cs c_flat_row (((p11,c12),(p13,c14)),sq5)) 84::rowE c_flat_Span 60 p11 c12 sq5.f_l::rowE c_api_Entry 66 p13 c14 sq5.f_stack::cellsE b1_ (Cd.cs c_api_Entry x1) 66::G_)) Y) _ 0 r x→Round (fun Y=>∀ (p7:Option Addr) (c8:Nat) (p9:Option Addr) (c10:Nat),At 52 [(0,.pointer (some ⟨b0_,0,none⟩)),(1,.pointer (some ⟨b1_,0,none⟩))] (Wd w0 (cellsE b0_ (Cd.cs c_flat_row (((p7,c8),(p9,c10)),i6)) 84::rowE c_flat_Span 60 p7 c8 i6.f_l::rowE c_api_Entry 66 p9 c10 i6.f_stack::cellsE b1_ (Cd.cs c_api_Entry x1) 66::G_)) Y) _ _ _) ?_ _ _ hq5 K p0f_l_ c0f_l_ p0f_stack_ c0f_stack_
  ·clear K hF
   intro g ih i6 x hF K p7 c8 p9 c10
   refine at_round ?_
   refine qs (sr (am ?_))
   refine aw (r_nilCheck rfl) ?_
   refine fa 1 underlying84 rfl sizeOf54 ?_
   refine aw (r_load_cell isAgg54 rfl (lens_cell0 (c:=cHd) (y:=⟨(((p7,c8),(p9,c10)).2).1,List.length i6.f_stack,(((p7,c8),(p9,c10)).2).2⟩) .z (c_flat_row_f_stack ((p7,c8),(p9,c10)) i6) rfl)) ?_
   refine aw (r_len_sl underlying54 rfl) ?_
   refine aw (r_igtr rfl rfl) ?_
   refine nwq [10,1,0] ?_
   obtain ⟨h15,hF⟩|⟨h15,hF⟩:=oi hF
   ·refine ct h15 ?_
    refine sn ?_
    refine qb ?_
    refine qs (wq [1,0] ?_)
    obtain ⟨h16,hF⟩:=gd hF
    refine at_pure (φ:=∃ b o,p9=some ⟨b,o,none⟩) (fun _ hw=>row_ptr (hw.own (.s (.s .z))).row h16) ?_
    rintro ⟨b18,o19,hp17⟩
    refine at_inv [.q 11 (fun g21=>.pointer (some ⟨b0_,0,none⟩)) [] 0 1,.q 12 (fun g21=>.pointer (some ⟨b0_,0,none⟩)) [0] 0 1,.q 13 (fun g21=>.pointer (some ⟨b0_,0+1,none⟩)) [1] 0 1,.q 14 (fun g21=>.slice p9 i6.f_stack.length c10) [2] 0 1,.q 15 (fun g21=>.pointer (some ⟨b0_,0,none⟩)) [] 0 1,.q 16 (fun g21=>.pointer (some ⟨b0_,0,none⟩)) [4] 0 1,.q 17 (fun g21=>.pointer (some ⟨b0_,0+1,none⟩)) [5] 0 1,.q 18 (fun g21=>.slice p9 i6.f_stack.length c10) [6] 0 1,.q 19 (fun g21=>.int .i64 (i6.f_stack.length:Int)) [7] 0 1,.q 20 (fun g21=>.int .i64 (wr .i64 ((i6.f_stack.length:Int)-1))) [8] 0 1,.q 21 (fun g21=>.pointer (some ⟨b18,o19+Int.toNat (wr .i64 ((i6.f_stack.length:Int)-1))*19,none⟩)) [3,9] 0 1,.q 22 (fun g21=>.agg (Cd.cs c_api_Entry (lget i6.f_stack (wr .i64 ((i6.f_stack.length:Int)-1)))).toArray) [10] 0 1,.al 0 4 (fun g21=>.pointer (some ⟨((g21 0).1),0,none⟩)) [],.st 1 none [12,11]] (fun g21 s=>match s with | 0=>(Wd w0 (cellsE b0_ (Cd.cs c_flat_row (((p7,c8),(p9,c10)),i6)) 84::rowE c_flat_Span 60 p7 c8 i6.f_l::rowE c_api_Entry 66 p9 c10 i6.f_stack::cellsE b1_ (Cd.cs c_api_Entry x1) 66::G_)) | 1=>(Wd w0 (cellsE ((g21 0).1) (Cd.cs c_api_Entry zv8) 66::cellsE b0_ (Cd.cs c_flat_row (((p7,c8),(p9,c10)),i6)) 84::rowE c_flat_Span 60 p7 c8 i6.f_l::rowE c_api_Entry 66 p9 c10 i6.f_stack::cellsE b1_ (Cd.cs c_api_Entry x1) 66::G_)) | _=>(Wd w0 (cellsE ((g21 0).1) (Cd.cs c_api_Entry (lget i6.f_stack (wr .i64 ((i6.f_stack.length:Int)-1)))) 66::cellsE b0_ (Cd.cs c_flat_row (((p7,c8),(p9,c10)),i6)) 84::rowE c_flat_Span 60 p7 c8 i6.f_l::rowE c_api_Entry 66 p9 c10 i6.f_stack::cellsE b1_ (Cd.cs c_api_Entry x1) 66::G_))) 2 (by kernel_rfl) (by kernel_rfl) (by kernel_rfl) (by kernel_rfl) (by kernel_rfl) ⟨fun _ _ _=>rfl,fun _ _ _=>rfl,fun _ _ _=>rfl,fun _ _ _=>rfl,fun _ _ _=>rfl,fun _ _ _=>rfl,fun _ _ _=>rfl,fun _ _ _=>rfl,fun _ _ _=>rfl,fun _ _ _=>rfl,fun _ _ _=>rfl,fun _ _ _=>rfl,fun g21 g2 h=>by show (.pointer (some ⟨((g21 0).1),0,none⟩):Value)=.pointer (some ⟨((g2 0).1),0,none⟩);rw [h 0 (show 0<1 by decide)],fun _ _ _=>rfl,trivial⟩ (by kernel_rfl) (fun w_ h=>⟨fun _=>g3 0 none 0 none w_,h.drew⟩) ⟨?_,?_,?_,?_,?_,?_,?_,?_,?_,?_,?_,?_,?_,?_,trivial⟩ ?_
    ·intro Lx g21 s K hl hh k
     show At 52 ((0,_)::(1,_)::Lx) _ _
     refine am ?_
     exact at_nil k
    ·intro Lx g21 s K hl hh k
     show At 52 ((11,_)::(0,_)::(1,_)::Lx) _ _
     refine aw (r_nilCheck rfl) ?_
     exact at_nil k
    ·intro Lx g21 s K hl hh k
     show At 52 ((12,_)::(0,_)::(1,_)::Lx) _ _
     refine fa 1 underlying84 rfl sizeOf54 ?_
     exact at_nil k
    ·intro Lx g21 s K hl hh k
     show At 52 ((13,_)::(0,_)::(1,_)::Lx) _ _
     rcases (by omega:s=0∨s=1) with rfl | rfl
     ·skip
      refine aw (r_load_cell isAgg54 rfl (lens_cell0 (c:=cHd) (y:=⟨(((p7,c8),(p9,c10)).2).1,List.length i6.f_stack,(((p7,c8),(p9,c10)).2).2⟩) .z (c_flat_row_f_stack ((p7,c8),(p9,c10)) i6) rfl)) ?_
      exact at_nil k
     skip
     refine aw (r_load_cell isAgg54 rfl (lens_cell0 (c:=cHd) (y:=⟨(((p7,c8),(p9,c10)).2).1,List.length i6.f_stack,(((p7,c8),(p9,c10)).2).2⟩) (.s .z) (c_flat_row_f_stack ((p7,c8),(p9,c10)) i6) rfl)) ?_
     exact at_nil k
    ·intro Lx g21 s K hl hh k
     show At 52 ((0,_)::(1,_)::Lx) _ _
     refine am ?_
     exact at_nil k
    ·intro Lx g21 s K hl hh k
     show At 52 ((15,_)::(0,_)::(1,_)::Lx) _ _
     refine aw (r_nilCheck rfl) ?_
     exact at_nil k
    ·intro Lx g21 s K hl hh k
     show At 52 ((16,_)::(0,_)::(1,_)::Lx) _ _
     refine fa 1 underlying84 rfl sizeOf54 ?_
     exact at_nil k
    ·intro Lx g21 s K hl hh k
     show At 52 ((17,_)::(0,_)::(1,_)::Lx) _ _
     rcases (by omega:s=0∨s=1) with rfl | rfl
     ·skip
      refine aw (r_load_cell isAgg54 rfl (lens_cell0 (c:=cHd) (y:=⟨(((p7,c8),(p9,c10)).2).1,List.length i6.f_stack,(((p7,c8),(p9,c10)).2).2⟩) .z (c_flat_row_f_stack ((p7,c8),(p9,c10)) i6) rfl)) ?_
      exact at_nil k
     skip
     refine aw (r_load_cell isAgg54 rfl (lens_cell0 (c:=cHd) (y:=⟨(((p7,c8),(p9,c10)).2).1,List.length i6.f_stack,(((p7,c8),(p9,c10)).2).2⟩) (.s .z) (c_flat_row_f_stack ((p7,c8),(p9,c10)) i6) rfl)) ?_
     exact at_nil k
    ·intro Lx g21 s K hl hh k
     show At 52 ((18,_)::(0,_)::(1,_)::Lx) _ _
     rcases (by omega:s=0∨s=1) with rfl | rfl
     ·skip
      refine aw (r_len_sl underlying54 rfl) ?_
      exact at_nil k
     skip
     refine aw (r_len_sl underlying54 rfl) ?_
     exact at_nil k
    ·intro Lx g21 s K hl hh k
     show At 52 ((19,_)::(0,_)::(1,_)::Lx) _ _
     refine aw (r_isub rfl rfl) ?_
     exact at_nil k
    ·intro Lx g21 s K hl hh k
     show At 52 ((14,_)::(20,_)::(0,_)::(1,_)::Lx) _ _
     refine aw (r_idx underlying54 sizeOf66 rfl rfl h16 hp17) ?_
     exact at_nil k
    ·intro Lx g21 s K hl hh k
     show At 52 ((21,_)::(0,_)::(1,_)::Lx) _ _
     rcases (by omega:s=0∨s=1) with rfl | rfl
     ·skip
      refine aw (r_load_aggc (c:=c_api_Entry) (z:=lget i6.f_stack (wr .i64 ((i6.f_stack.length:Int)-1))) isAgg66 sizeOf66 rfl (fun w1 hw=>row_cell (W:=fun w1=>w1=_) (fun w1 h=>by subst h;exact Below.refl _ _) (hw.own (.s (.s .z))).row h16 hp17 _ rfl)) ?_
      exact at_nil k
     skip
     refine aw (r_load_aggc (c:=c_api_Entry) (z:=lget i6.f_stack (wr .i64 ((i6.f_stack.length:Int)-1))) isAgg66 sizeOf66 rfl (fun w1 hw=>row_cell (W:=fun w1=>w1=_) (fun w1 h=>by subst h;exact Below.refl _ _) (hw.own (.s (.s (.s .z)))).row h16 hp17 _ rfl)) ?_
     exact at_nil k
    ·intro Lx g21 K k
     show At 52 ((0,_)::(1,_)::Lx) _ _
     refine al (cs:=Cd.cs c_api_Entry zv8) zeroValue66 ?_
     intro b20
     exact at_nil (k (g3 b20 none 0 none w0))
    ·intro Lx g21 K k
     show At 52 ((4,_)::(22,_)::(0,_)::(1,_)::Lx) _ _
     refine at_store (c:=c_api_Entry) (z:=lget i6.f_stack (wr .i64 ((i6.f_stack.length:Int)-1))) .z lw sizeOf66 rfl rfl rfl ?_
     exact at_nil k
    intro g21
    show At 52 [(11,_),(12,_),(13,_),(14,_),(15,_),(16,_),(17,_),(18,_),(19,_),(20,_),(21,_),(22,_),(4,_),(0,_),(1,_)] _ _
    refine wq [4,1,0] ?_
    refine tn (qs (qs ?_))
    refine at_draw (by kernel_rfl) (by kernel_rfl) (fun _ h=>h.drew) ?_
    refine atq_val rfl rfl rfl (r_move rfl) ?_
    refine atq_val rfl rfl rfl (r_pnil (g:=id) (p:=some b1_) underlying86 rfl rfl (.inr rfl) rfl) ?_
    refine atq_val rfl rfl rfl (r_move rfl) ?_
    refine atq_guard_yes rfl rfl rfl ?_
    refine atq_val rfl rfl rfl (r_fieldAddr (fo:=0) underlying66 rfl rfl (fun w=>⟨_,sizeOf37 w⟩) rfl) ?_
    refine atq_guard_yes rfl rfl rfl ?_
    refine atq_val rfl rfl rfl (r_load_aggc (c:=c_api_Prefix) (z:=(lget i6.f_stack (wr .i64 ((i6.f_stack.length:Int)-1))).f_P) isAgg37 sizeOf37 rfl (lens_cell .z (Lens.comp lw (fun z=>{ lget i6.f_stack (wr .i64 ((i6.f_stack.length:Int)-1)) with f_P:=z }) (c_api_Entry_f_P (lget i6.f_stack (wr .i64 ((i6.f_stack.length:Int)-1))))))) ?_
    refine atq_guard_yes rfl rfl rfl ?_
    refine atq_val rfl rfl rfl (r_move rfl) ?_
    refine atq_guard_yes rfl rfl rfl ?_
    refine atq_val rfl rfl rfl (r_nilCheck rfl) ?_
    refine atq_guard_yes rfl rfl rfl ?_
    refine atq_val rfl rfl rfl (r_fieldAddr (fo:=0) underlying66 rfl rfl (fun w=>⟨_,sizeOf37 w⟩) rfl) ?_
    refine atq_guard_yes rfl rfl rfl ?_
    refine atq_val rfl rfl rfl (r_load_aggc (c:=c_api_Prefix) (z:=x1.f_P) isAgg37 sizeOf37 rfl (lens_cell (.s (.s (.s (.s .z)))) (Lens.comp lw (fun z=>{ x1 with f_P:=z }) (c_api_Entry_f_P x1)))) ?_
    refine atq_guard_yes rfl rfl rfl ?_
    obtain ⟨t22,ht22,hF⟩:=bM hF
    refine atq_call func78 rfl (by kernel_rfl) rfl rfl (fun w hw=>(cidr_Covers_ok _ _ _ ht22 w).mono fun _ _ h=>⟨h.1,hw.call h.2⟩) ?_
    refine atq_val rfl rfl rfl (r_pick rfl rfl rfl) ?_
    refine atq_nil ?_
    refine wq [33,4,1,0] ?_
    refine tn ?_
    obtain ⟨h23,hF⟩|⟨h23,hF⟩:=oi hF
    ·refine ct h23 ?_
     refine qt ?_
     refine tr (br (tr (br ?_)))
     refine dz ?_
     obtain rfl:=os hF
     subst K
     exact at_return0' rfl (fun w1 hw=>⟨((p7,c8),(p9,c10)),rfl,hw⟩)
    refine cf h23 ?_
    refine sns (am ?_)
    refine aw (r_load_aggc (c:=c_api_Entry) (z:=lget i6.f_stack (wr .i64 ((i6.f_stack.length:Int)-1))) isAgg66 sizeOf66 rfl (lens_cell .z lw)) ?_
    obtain ⟨t24,ht24,hF⟩:=bM hF
    refine cB func79 rfl (fun w hw=>flat_end_ok _ _ ht24 w) ?_
    obtain ⟨t25,ht25,hF⟩:=bM hF
    refine at_front (.s (.s (.s .z))) ?_
    refine at_front (.s (.s (.s .z))) ?_
    refine at_front (.s (.s (.s .z))) ?_
    refine at_callX (γ:=G_flat_row) (V:=fun z=>.tuple #[]) (T:=fun z=>(cellsE b0_ (Cd.cs c_flat_row (z,t25)) 84::rowE c_flat_Span 60 z.1.1 z.1.2 t25.f_l::rowE c_api_Entry 66 z.2.1 z.2.2 t25.f_stack::cellsE (g21 0).1 (Cd.cs c_api_Entry (lget i6.f_stack (wr .i64 ((i6.f_stack.length:Int)-1)))) 66::cellsE b1_ (Cd.cs c_api_Entry x1) 66::G_)) func56 rfl (by kernel_rfl) rfl rfl (fun w hw=>flat_row_put_ok ht25 hw) ?_
    rintro ⟨⟨p26,c27⟩,⟨p28,c29⟩⟩
    refine qn ?_
    refine at_drop (H:=_) (.s (.s (.s .z))) ?_
    refine tn (wq [1,0] ?_)
    obtain ⟨h30,hF⟩:=gd hF
    refine at_inv [.q 38 (fun g32=>.pointer (some ⟨b0_,0,none⟩)) [] 0 0,.q 39 (fun g32=>.pointer (some ⟨b0_,0,none⟩)) [] 0 0,.q 40 (fun g32=>.pointer (some ⟨b0_,0,none⟩)) [1] 0 0,.q 41 (fun g32=>.pointer (some ⟨b0_,0+1,none⟩)) [2] 0 0,.q 42 (fun g32=>.slice p28 t25.f_stack.length c29) [3] 0 0,.q 43 (fun g32=>.pointer (some ⟨b0_,0,none⟩)) [] 0 0,.q 44 (fun g32=>.pointer (some ⟨b0_,0,none⟩)) [5] 0 0,.q 45 (fun g32=>.pointer (some ⟨b0_,0+1,none⟩)) [6] 0 0,.q 46 (fun g32=>.slice p28 t25.f_stack.length c29) [7] 0 0,.q 47 (fun g32=>.int .i64 (t25.f_stack.length:Int)) [8] 0 0,.q 48 (fun g32=>.int .i64 (wr .i64 ((t25.f_stack.length:Int)-1))) [9] 0 0,.q 49 (fun g32=>.slice (rsp p28 c29 0 (Cd.sz c_api_Entry)) (lsub t25.f_stack 0 (wr .i64 ((t25.f_stack.length:Int)-1))).length (c29-Int.toNat 0)) [4,10] 0 0,.q 50 (fun g32=>.pointer (some ⟨b0_,0,none⟩)) [0] 0 0,.q 51 (fun g32=>.pointer (some ⟨b0_,0+1,none⟩)) [12] 0 0,.st 0 none [11,13]] (fun g32 s=>match s with | 0=>(Wd w0 (cellsE b0_ (Cd.cs c_flat_row (((p26,c27),(p28,c29)),t25)) 84::rowE c_flat_Span 60 p26 c27 t25.f_l::rowE c_api_Entry 66 p28 c29 t25.f_stack::cellsE b1_ (Cd.cs c_api_Entry x1) 66::G_)) | _=>(Wd w0 (cellsE b0_ (Cd.cs c_flat_row (((p26,c27),(rsp p28 c29 0 (Cd.sz c_api_Entry),c29-Int.toNat 0)),{ t25 with f_stack:=lsub t25.f_stack 0 (wr .i64 ((t25.f_stack.length:Int)-1)) })) 84::rowE c_flat_Span 60 p26 c27 t25.f_l::rowE c_api_Entry 66 p28 c29 t25.f_stack::cellsE b1_ (Cd.cs c_api_Entry x1) 66::G_))) 1 (by kernel_rfl) (by kernel_rfl) (by kernel_rfl) (by kernel_rfl) (by kernel_rfl) ⟨fun _ _ _=>rfl,fun _ _ _=>rfl,fun _ _ _=>rfl,fun _ _ _=>rfl,fun _ _ _=>rfl,fun _ _ _=>rfl,fun _ _ _=>rfl,fun _ _ _=>rfl,fun _ _ _=>rfl,fun _ _ _=>rfl,fun _ _ _=>rfl,fun _ _ _=>rfl,fun _ _ _=>rfl,fun _ _ _=>rfl,fun _ _ _=>rfl,trivial⟩ (by kernel_rfl) (fun w_ h=>⟨fun _=>g3 0 none 0 none w_,h.drew⟩) ⟨?_,?_,?_,?_,?_,?_,?_,?_,?_,?_,?_,?_,?_,?_,?_,trivial⟩ ?_
    ·intro Lx g32 s K hl hh k
     show At 52 ((0,_)::(1,_)::Lx) _ _
     refine am ?_
     exact at_nil k
    ·intro Lx g32 s K hl hh k
     show At 52 ((0,_)::(1,_)::Lx) _ _
     refine am ?_
     exact at_nil k
    ·intro Lx g32 s K hl hh k
     show At 52 ((39,_)::(0,_)::(1,_)::Lx) _ _
     refine aw (r_nilCheck rfl) ?_
     exact at_nil k
    ·intro Lx g32 s K hl hh k
     show At 52 ((40,_)::(0,_)::(1,_)::Lx) _ _
     refine fa 1 underlying84 rfl sizeOf54 ?_
     exact at_nil k
    ·intro Lx g32 s K hl hh k
     show At 52 ((41,_)::(0,_)::(1,_)::Lx) _ _
     obtain rfl:s=0:=by omega
     refine aw (r_load_cell isAgg54 rfl (lens_cell0 (c:=cHd) (y:=⟨(((p26,c27),(p28,c29)).2).1,List.length t25.f_stack,(((p26,c27),(p28,c29)).2).2⟩) .z (c_flat_row_f_stack ((p26,c27),(p28,c29)) t25) rfl)) ?_
     exact at_nil k
    ·intro Lx g32 s K hl hh k
     show At 52 ((0,_)::(1,_)::Lx) _ _
     refine am ?_
     exact at_nil k
    ·intro Lx g32 s K hl hh k
     show At 52 ((43,_)::(0,_)::(1,_)::Lx) _ _
     refine aw (r_nilCheck rfl) ?_
     exact at_nil k
    ·intro Lx g32 s K hl hh k
     show At 52 ((44,_)::(0,_)::(1,_)::Lx) _ _
     refine fa 1 underlying84 rfl sizeOf54 ?_
     exact at_nil k
    ·intro Lx g32 s K hl hh k
     show At 52 ((45,_)::(0,_)::(1,_)::Lx) _ _
     obtain rfl:s=0:=by omega
     refine aw (r_load_cell isAgg54 rfl (lens_cell0 (c:=cHd) (y:=⟨(((p26,c27),(p28,c29)).2).1,List.length t25.f_stack,(((p26,c27),(p28,c29)).2).2⟩) .z (c_flat_row_f_stack ((p26,c27),(p28,c29)) t25) rfl)) ?_
     exact at_nil k
    ·intro Lx g32 s K hl hh k
     show At 52 ((46,_)::(0,_)::(1,_)::Lx) _ _
     obtain rfl:s=0:=by omega
     refine aw (r_len_sl underlying54 rfl) ?_
     exact at_nil k
    ·intro Lx g32 s K hl hh k
     show At 52 ((47,_)::(0,_)::(1,_)::Lx) _ _
     refine aw (r_isub rfl rfl) ?_
     exact at_nil k
    ·intro Lx g32 s K hl hh k
     show At 52 ((42,_)::(48,_)::(0,_)::(1,_)::Lx) _ _
     obtain rfl:s=0:=by omega
     refine at_pure (fun w1 hw=>(hw.own (.s (.s .z))).row.len) ?_
     intro hl31
     refine aw (r_reslice (c:=c_api_Entry) underlying54 sizeOf66 rfl hl31 rfl ⟨_,rfl⟩ h30) ?_
     exact at_nil k
    ·intro Lx g32 s K hl hh k
     show At 52 ((38,_)::(0,_)::(1,_)::Lx) _ _
     refine aw (r_nilCheck rfl) ?_
     exact at_nil k
    ·intro Lx g32 s K hl hh k
     show At 52 ((50,_)::(0,_)::(1,_)::Lx) _ _
     refine fa 1 underlying84 rfl sizeOf54 ?_
     exact at_nil k
    ·intro Lx g32 K k
     show At 52 ((49,_)::(51,_)::(0,_)::(1,_)::Lx) _ _
     refine at_store (c:=cSv S_api_Entry) (z:=((rsp p28 c29 0 (Cd.sz c_api_Entry),c29-Int.toNat 0),lsub t25.f_stack 0 (wr .i64 ((t25.f_stack.length:Int)-1)))) .z (c_flat_row_f_stack_sv ((p26,c27),(p28,c29)) t25) sizeOf54 rfl rfl rfl ?_
     exact at_nil k
    intro g32
    show At 52 [(38,_),(39,_),(40,_),(41,_),(42,_),(43,_),(44,_),(45,_),(46,_),(47,_),(48,_),(49,_),(50,_),(51,_),(0,_),(1,_)] _ _
    refine at_cutW (c:=c_api_Entry) (h:=wr .i64 ((t25.f_stack.length:Int)-1)) (.s (.s .z)) ⟨h30.2.1,h30.2.2⟩ ?_
    intro hr33
    refine at_cellsEq (cells':=Cd.cs c_flat_row ((/-34-/((p26,c27),(p28,c29))),{ { t25 with f_stack:=lsub t25.f_stack 0 (wr .i64 ((t25.f_stack.length:Int)-1)) } with f_stack:=List.take (Int.toNat (wr .i64 ((t25.f_stack.length:Int)-1))) t25.f_stack })) .z (by simp [c_flat_row,lsub,hr33]) ?_
    refine wq [1,0] ?_
    refine bm ?_
    exact at_weak_k (ih _ _ hF K p26 c27 p28 c29) ⟨rfl,rfl,trivial⟩
   refine cf h15 ?_
   refine at_exit ?_
   refine te (te ?_)
   obtain rfl:=os hF
   exact at_weak_k (K p7 c8 p9 c10) trivial
 cases q5 with
 | ret r'=>exact os hF
 | nx sq5 =>
  intro p11 c12 p13 c14
  refine at_blk_same ?_
  have K:=os hF
  subst K
  exact at_return0 rfl (fun w1 hw=>⟨((p11,c12),(p13,c14)),rfl,hw⟩)
def flat_row_close__nil1.l0(i6:S_flat_row):Option (Ctl (S_flat_row) (S_flat_row)) :=
 if (decide ((i6.f_stack.length:Int)>0))=true then (if (0:Int)≤wr .i64 ((i6.f_stack.length:Int)-1)∧wr .i64 ((i6.f_stack.length:Int)-1)<(i6.f_stack.length:Int) then flat_end (lget i6.f_stack (wr .i64 ((i6.f_stack.length:Int)-1)))>>=fun t22=>flat_row_put i6 t22>>=fun t23=>if (0:Int)≤0∧0≤wr .i64 ((t23.f_stack.length:Int)-1)∧wr .i64 ((t23.f_stack.length:Int)-1)≤(t23.f_stack.length:Int) then flat_row_close__nil1.l0 ({ { t23 with f_stack:=lsub t23.f_stack 0 (wr .i64 ((t23.f_stack.length:Int)-1)) } with f_stack:=List.take (Int.toNat (wr .i64 ((t23.f_stack.length:Int)-1))) t23.f_stack }) else none else none) else (some (.nx i6))
 partial_fixpoint
def flat_row_close__nil1(x0:S_flat_row):Option (S_flat_row) :=
 flat_row_close__nil1.l0 x0>>=fun q5=>match q5 with | .ret r'=>some r' | .nx sq5=>(some sq5)
set_option maxHeartbeats 3200000 in
theorem flat_row_close__nil1_ok{x0:S_flat_row}{r:S_flat_row}(hF:flat_row_close__nil1 x0=some r):∀ {w0 w:World} {G_:List Ent} {b0_:Nat} {p0f_l_:Option Addr} {c0f_l_:Nat} {p0f_stack_:Option Addr} {c0f_stack_:Nat} (hw_:Wd w0 (cellsE b0_ (Cd.cs c_flat_row (((p0f_l_,c0f_l_),(p0f_stack_,c0f_stack_)),x0)) 84::rowE c_flat_Span 60 p0f_l_ c0f_l_ x0.f_l::rowE c_api_Entry 66 p0f_stack_ c0f_stack_ x0.f_stack::G_) w),
    Calls Try.prog 54 #[.pointer (some ⟨b0_,0,none⟩),.pointer none] w (fun e w'=>∃ (z0:G_flat_row),e=.returned (.tuple #[])∧Wd w0 (cellsE b0_ (Cd.cs c_flat_row (z0,r)) 84::rowE c_flat_Span 60 z0.1.1 z0.1.2 r.f_l::rowE c_api_Entry 66 z0.2.1 z0.2.2 r.f_stack::G_) w'):=by
 intro w0 w G_ b0_ p0f_l_ c0f_l_ p0f_stack_ c0f_stack_ hw_
 unfold flat_row_close__nil1 at hF
 refine ce (l:=[.pointer (some ⟨b0_,0,none⟩),.pointer none]) func54 rfl rfl ?_
 refine at_enterF hw_ ?_
 refine wq [1,0] ?_
 refine qb ?_
 obtain ⟨q5,hq5,hF⟩:=bM hF
 refine wq [1,0] ?_
 refine at_loop_r (B:=0) (r:=r) (q:=q5) (A:=fun sq5 Y=>∀ (p11:Option Addr) (c12:Nat) (p13:Option Addr) (c14:Nat),At 52 [] (Wd w0 (cellsE b0_ (Cd.cs c_flat_row (((p11,c12),(p13,c14)),sq5)) 84::rowE c_flat_Span 60 p11 c12 sq5.f_l::rowE c_api_Entry 66 p13 c14 sq5.f_stack::G_)) Y) ?_ ?_
 ·intro K
  refine flat_row_close__nil1.l0.partial_correctness  (motive:=fun i6 x=>KR (fun sq5 Y=>∀ (p11:Option Addr) (c12:Nat) (p13:Option Addr) (c14:Nat),At 52 [] (Wd w0 (cellsE b0_ (Cd.cs c_flat_row (((p11,c12),(p13,c14)),sq5)) 84::rowE c_flat_Span 60 p11 c12 sq5.f_l::rowE c_api_Entry 66 p13 c14 sq5.f_stack::G_)) Y) _ 0 r x→Round (fun Y=>∀ (p7:Option Addr) (c8:Nat) (p9:Option Addr) (c10:Nat),At 52 [(0,.pointer (some ⟨b0_,0,none⟩)),(1,.pointer none)] (Wd w0 (cellsE b0_ (Cd.cs c_flat_row (((p7,c8),(p9,c10)),i6)) 84::rowE c_flat_Span 60 p7 c8 i6.f_l::rowE c_api_Entry 66 p9 c10 i6.f_stack::G_)) Y) _ _ _) ?_ _ _ hq5 K p0f_l_ c0f_l_ p0f_stack_ c0f_stack_
  ·clear K hF
   intro g ih i6 x hF K p7 c8 p9 c10
   refine at_round ?_
   refine qs (sr (am ?_))
   refine aw (r_nilCheck rfl) ?_
   refine fa 1 underlying84 rfl sizeOf54 ?_
   refine aw (r_load_cell isAgg54 rfl (lens_cell0 (c:=cHd) (y:=⟨(((p7,c8),(p9,c10)).2).1,List.length i6.f_stack,(((p7,c8),(p9,c10)).2).2⟩) .z (c_flat_row_f_stack ((p7,c8),(p9,c10)) i6) rfl)) ?_
   refine aw (r_len_sl underlying54 rfl) ?_
   refine aw (r_igtr rfl rfl) ?_
   refine nwq [10,1,0] ?_
   obtain ⟨h15,hF⟩|⟨h15,hF⟩:=oi hF
   ·refine ct h15 ?_
    refine sn ?_
    refine qb ?_
    refine qs (wq [1,0] ?_)
    obtain ⟨h16,hF⟩:=gd hF
    refine at_pure (φ:=∃ b o,p9=some ⟨b,o,none⟩) (fun _ hw=>row_ptr (hw.own (.s (.s .z))).row h16) ?_
    rintro ⟨b18,o19,hp17⟩
    refine at_inv [.q 11 (fun g21=>.pointer (some ⟨b0_,0,none⟩)) [] 0 1,.q 12 (fun g21=>.pointer (some ⟨b0_,0,none⟩)) [0] 0 1,.q 13 (fun g21=>.pointer (some ⟨b0_,0+1,none⟩)) [1] 0 1,.q 14 (fun g21=>.slice p9 i6.f_stack.length c10) [2] 0 1,.q 15 (fun g21=>.pointer (some ⟨b0_,0,none⟩)) [] 0 1,.q 16 (fun g21=>.pointer (some ⟨b0_,0,none⟩)) [4] 0 1,.q 17 (fun g21=>.pointer (some ⟨b0_,0+1,none⟩)) [5] 0 1,.q 18 (fun g21=>.slice p9 i6.f_stack.length c10) [6] 0 1,.q 19 (fun g21=>.int .i64 (i6.f_stack.length:Int)) [7] 0 1,.q 20 (fun g21=>.int .i64 (wr .i64 ((i6.f_stack.length:Int)-1))) [8] 0 1,.q 21 (fun g21=>.pointer (some ⟨b18,o19+Int.toNat (wr .i64 ((i6.f_stack.length:Int)-1))*19,none⟩)) [3,9] 0 1,.q 22 (fun g21=>.agg (Cd.cs c_api_Entry (lget i6.f_stack (wr .i64 ((i6.f_stack.length:Int)-1)))).toArray) [10] 0 1,.al 0 4 (fun g21=>.pointer (some ⟨((g21 0).1),0,none⟩)) [],.st 1 none [12,11]] (fun g21 s=>match s with | 0=>(Wd w0 (cellsE b0_ (Cd.cs c_flat_row (((p7,c8),(p9,c10)),i6)) 84::rowE c_flat_Span 60 p7 c8 i6.f_l::rowE c_api_Entry 66 p9 c10 i6.f_stack::G_)) | 1=>(Wd w0 (cellsE ((g21 0).1) (Cd.cs c_api_Entry zv8) 66::cellsE b0_ (Cd.cs c_flat_row (((p7,c8),(p9,c10)),i6)) 84::rowE c_flat_Span 60 p7 c8 i6.f_l::rowE c_api_Entry 66 p9 c10 i6.f_stack::G_)) | _=>(Wd w0 (cellsE ((g21 0).1) (Cd.cs c_api_Entry (lget i6.f_stack (wr .i64 ((i6.f_stack.length:Int)-1)))) 66::cellsE b0_ (Cd.cs c_flat_row (((p7,c8),(p9,c10)),i6)) 84::rowE c_flat_Span 60 p7 c8 i6.f_l::rowE c_api_Entry 66 p9 c10 i6.f_stack::G_))) 2 (by kernel_rfl) (by kernel_rfl) (by kernel_rfl) (by kernel_rfl) (by kernel_rfl) ⟨fun _ _ _=>rfl,fun _ _ _=>rfl,fun _ _ _=>rfl,fun _ _ _=>rfl,fun _ _ _=>rfl,fun _ _ _=>rfl,fun _ _ _=>rfl,fun _ _ _=>rfl,fun _ _ _=>rfl,fun _ _ _=>rfl,fun _ _ _=>rfl,fun _ _ _=>rfl,fun g21 g2 h=>by show (.pointer (some ⟨((g21 0).1),0,none⟩):Value)=.pointer (some ⟨((g2 0).1),0,none⟩);rw [h 0 (show 0<1 by decide)],fun _ _ _=>rfl,trivial⟩ (by kernel_rfl) (fun w_ h=>⟨fun _=>g3 0 none 0 none w_,h.drew⟩) ⟨?_,?_,?_,?_,?_,?_,?_,?_,?_,?_,?_,?_,?_,?_,trivial⟩ ?_
    ·intro Lx g21 s K hl hh k
     show At 52 ((0,_)::(1,_)::Lx) _ _
     refine am ?_
     exact at_nil k
    ·intro Lx g21 s K hl hh k
     show At 52 ((11,_)::(0,_)::(1,_)::Lx) _ _
     refine aw (r_nilCheck rfl) ?_
     exact at_nil k
    ·intro Lx g21 s K hl hh k
     show At 52 ((12,_)::(0,_)::(1,_)::Lx) _ _
     refine fa 1 underlying84 rfl sizeOf54 ?_
     exact at_nil k
    ·intro Lx g21 s K hl hh k
     show At 52 ((13,_)::(0,_)::(1,_)::Lx) _ _
     rcases (by omega:s=0∨s=1) with rfl | rfl
     ·skip
      refine aw (r_load_cell isAgg54 rfl (lens_cell0 (c:=cHd) (y:=⟨(((p7,c8),(p9,c10)).2).1,List.length i6.f_stack,(((p7,c8),(p9,c10)).2).2⟩) .z (c_flat_row_f_stack ((p7,c8),(p9,c10)) i6) rfl)) ?_
      exact at_nil k
     skip
     refine aw (r_load_cell isAgg54 rfl (lens_cell0 (c:=cHd) (y:=⟨(((p7,c8),(p9,c10)).2).1,List.length i6.f_stack,(((p7,c8),(p9,c10)).2).2⟩) (.s .z) (c_flat_row_f_stack ((p7,c8),(p9,c10)) i6) rfl)) ?_
     exact at_nil k
    ·intro Lx g21 s K hl hh k
     show At 52 ((0,_)::(1,_)::Lx) _ _
     refine am ?_
     exact at_nil k
    ·intro Lx g21 s K hl hh k
     show At 52 ((15,_)::(0,_)::(1,_)::Lx) _ _
     refine aw (r_nilCheck rfl) ?_
     exact at_nil k
    ·intro Lx g21 s K hl hh k
     show At 52 ((16,_)::(0,_)::(1,_)::Lx) _ _
     refine fa 1 underlying84 rfl sizeOf54 ?_
     exact at_nil k
    ·intro Lx g21 s K hl hh k
     show At 52 ((17,_)::(0,_)::(1,_)::Lx) _ _
     rcases (by omega:s=0∨s=1) with rfl | rfl
     ·skip
      refine aw (r_load_cell isAgg54 rfl (lens_cell0 (c:=cHd) (y:=⟨(((p7,c8),(p9,c10)).2).1,List.length i6.f_stack,(((p7,c8),(p9,c10)).2).2⟩) .z (c_flat_row_f_stack ((p7,c8),(p9,c10)) i6) rfl)) ?_
      exact at_nil k
     skip
     refine aw (r_load_cell isAgg54 rfl (lens_cell0 (c:=cHd) (y:=⟨(((p7,c8),(p9,c10)).2).1,List.length i6.f_stack,(((p7,c8),(p9,c10)).2).2⟩) (.s .z) (c_flat_row_f_stack ((p7,c8),(p9,c10)) i6) rfl)) ?_
     exact at_nil k
    ·intro Lx g21 s K hl hh k
     show At 52 ((18,_)::(0,_)::(1,_)::Lx) _ _
     rcases (by omega:s=0∨s=1) with rfl | rfl
     ·skip
      refine aw (r_len_sl underlying54 rfl) ?_
      exact at_nil k
     skip
     refine aw (r_len_sl underlying54 rfl) ?_
     exact at_nil k
    ·intro Lx g21 s K hl hh k
     show At 52 ((19,_)::(0,_)::(1,_)::Lx) _ _
     refine aw (r_isub rfl rfl) ?_
     exact at_nil k
    ·intro Lx g21 s K hl hh k
     show At 52 ((14,_)::(20,_)::(0,_)::(1,_)::Lx) _ _
     refine aw (r_idx underlying54 sizeOf66 rfl rfl h16 hp17) ?_
     exact at_nil k
    ·intro Lx g21 s K hl hh k
     show At 52 ((21,_)::(0,_)::(1,_)::Lx) _ _
     rcases (by omega:s=0∨s=1) with rfl | rfl
     ·skip
      refine aw (r_load_aggc (c:=c_api_Entry) (z:=lget i6.f_stack (wr .i64 ((i6.f_stack.length:Int)-1))) isAgg66 sizeOf66 rfl (fun w1 hw=>row_cell (W:=fun w1=>w1=_) (fun w1 h=>by subst h;exact Below.refl _ _) (hw.own (.s (.s .z))).row h16 hp17 _ rfl)) ?_
      exact at_nil k
     skip
     refine aw (r_load_aggc (c:=c_api_Entry) (z:=lget i6.f_stack (wr .i64 ((i6.f_stack.length:Int)-1))) isAgg66 sizeOf66 rfl (fun w1 hw=>row_cell (W:=fun w1=>w1=_) (fun w1 h=>by subst h;exact Below.refl _ _) (hw.own (.s (.s (.s .z)))).row h16 hp17 _ rfl)) ?_
     exact at_nil k
    ·intro Lx g21 K k
     show At 52 ((0,_)::(1,_)::Lx) _ _
     refine al (cs:=Cd.cs c_api_Entry zv8) zeroValue66 ?_
     intro b20
     exact at_nil (k (g3 b20 none 0 none w0))
    ·intro Lx g21 K k
     show At 52 ((4,_)::(22,_)::(0,_)::(1,_)::Lx) _ _
     refine at_store (c:=c_api_Entry) (z:=lget i6.f_stack (wr .i64 ((i6.f_stack.length:Int)-1))) .z lw sizeOf66 rfl rfl rfl ?_
     exact at_nil k
    intro g21
    show At 52 [(11,_),(12,_),(13,_),(14,_),(15,_),(16,_),(17,_),(18,_),(19,_),(20,_),(21,_),(22,_),(4,_),(0,_),(1,_)] _ _
    refine wq [4,1,0] ?_
    refine tn (qs (qs ?_))
    refine at_draw (by kernel_rfl) (by kernel_rfl) (fun _ h=>h.drew) ?_
    refine atq_val rfl rfl rfl (r_move rfl) ?_
    refine atq_val rfl rfl rfl (r_pnil (g:=id) (p:=none) underlying86 rfl rfl (.inr rfl) rfl) ?_
    refine atq_val rfl rfl rfl (r_move rfl) ?_
    refine atq_guard_no rfl rfl rfl rfl rfl ?_
    refine atq_guard_no rfl rfl rfl rfl rfl ?_
    refine atq_guard_no rfl rfl rfl rfl rfl ?_
    refine atq_guard_no rfl rfl rfl rfl rfl ?_
    refine atq_guard_no rfl rfl rfl rfl rfl ?_
    refine atq_guard_no rfl rfl rfl rfl rfl ?_
    refine atq_guard_no rfl rfl rfl rfl rfl ?_
    refine atq_val rfl rfl rfl (r_pick rfl rfl rfl) ?_
    refine atq_nil ?_
    refine wq [33,4,1,0] ?_
    refine tn ?_
    refine cf rfl ?_
    refine sns (am ?_)
    refine aw (r_load_aggc (c:=c_api_Entry) (z:=lget i6.f_stack (wr .i64 ((i6.f_stack.length:Int)-1))) isAgg66 sizeOf66 rfl (lens_cell .z lw)) ?_
    obtain ⟨t22,ht22,hF⟩:=bM hF
    refine cB func79 rfl (fun w hw=>flat_end_ok _ _ ht22 w) ?_
    obtain ⟨t23,ht23,hF⟩:=bM hF
    refine at_front (.s (.s (.s .z))) ?_
    refine at_front (.s (.s (.s .z))) ?_
    refine at_front (.s (.s (.s .z))) ?_
    refine at_callX (γ:=G_flat_row) (V:=fun z=>.tuple #[]) (T:=fun z=>(cellsE b0_ (Cd.cs c_flat_row (z,t23)) 84::rowE c_flat_Span 60 z.1.1 z.1.2 t23.f_l::rowE c_api_Entry 66 z.2.1 z.2.2 t23.f_stack::cellsE (g21 0).1 (Cd.cs c_api_Entry (lget i6.f_stack (wr .i64 ((i6.f_stack.length:Int)-1)))) 66::G_)) func56 rfl (by kernel_rfl) rfl rfl (fun w hw=>flat_row_put_ok ht23 hw) ?_
    rintro ⟨⟨p24,c25⟩,⟨p26,c27⟩⟩
    refine qn ?_
    refine at_drop (H:=_) (.s (.s (.s .z))) ?_
    refine tn (wq [1,0] ?_)
    obtain ⟨h28,hF⟩:=gd hF
    refine at_inv [.q 38 (fun g30=>.pointer (some ⟨b0_,0,none⟩)) [] 0 0,.q 39 (fun g30=>.pointer (some ⟨b0_,0,none⟩)) [] 0 0,.q 40 (fun g30=>.pointer (some ⟨b0_,0,none⟩)) [1] 0 0,.q 41 (fun g30=>.pointer (some ⟨b0_,0+1,none⟩)) [2] 0 0,.q 42 (fun g30=>.slice p26 t23.f_stack.length c27) [3] 0 0,.q 43 (fun g30=>.pointer (some ⟨b0_,0,none⟩)) [] 0 0,.q 44 (fun g30=>.pointer (some ⟨b0_,0,none⟩)) [5] 0 0,.q 45 (fun g30=>.pointer (some ⟨b0_,0+1,none⟩)) [6] 0 0,.q 46 (fun g30=>.slice p26 t23.f_stack.length c27) [7] 0 0,.q 47 (fun g30=>.int .i64 (t23.f_stack.length:Int)) [8] 0 0,.q 48 (fun g30=>.int .i64 (wr .i64 ((t23.f_stack.length:Int)-1))) [9] 0 0,.q 49 (fun g30=>.slice (rsp p26 c27 0 (Cd.sz c_api_Entry)) (lsub t23.f_stack 0 (wr .i64 ((t23.f_stack.length:Int)-1))).length (c27-Int.toNat 0)) [4,10] 0 0,.q 50 (fun g30=>.pointer (some ⟨b0_,0,none⟩)) [0] 0 0,.q 51 (fun g30=>.pointer (some ⟨b0_,0+1,none⟩)) [12] 0 0,.st 0 none [11,13]] (fun g30 s=>match s with | 0=>(Wd w0 (cellsE b0_ (Cd.cs c_flat_row (((p24,c25),(p26,c27)),t23)) 84::rowE c_flat_Span 60 p24 c25 t23.f_l::rowE c_api_Entry 66 p26 c27 t23.f_stack::G_)) | _=>(Wd w0 (cellsE b0_ (Cd.cs c_flat_row (((p24,c25),(rsp p26 c27 0 (Cd.sz c_api_Entry),c27-Int.toNat 0)),{ t23 with f_stack:=lsub t23.f_stack 0 (wr .i64 ((t23.f_stack.length:Int)-1)) })) 84::rowE c_flat_Span 60 p24 c25 t23.f_l::rowE c_api_Entry 66 p26 c27 t23.f_stack::G_))) 1 (by kernel_rfl) (by kernel_rfl) (by kernel_rfl) (by kernel_rfl) (by kernel_rfl) ⟨fun _ _ _=>rfl,fun _ _ _=>rfl,fun _ _ _=>rfl,fun _ _ _=>rfl,fun _ _ _=>rfl,fun _ _ _=>rfl,fun _ _ _=>rfl,fun _ _ _=>rfl,fun _ _ _=>rfl,fun _ _ _=>rfl,fun _ _ _=>rfl,fun _ _ _=>rfl,fun _ _ _=>rfl,fun _ _ _=>rfl,fun _ _ _=>rfl,trivial⟩ (by kernel_rfl) (fun w_ h=>⟨fun _=>g3 0 none 0 none w_,h.drew⟩) ⟨?_,?_,?_,?_,?_,?_,?_,?_,?_,?_,?_,?_,?_,?_,?_,trivial⟩ ?_
    ·intro Lx g30 s K hl hh k
     show At 52 ((0,_)::(1,_)::Lx) _ _
     refine am ?_
     exact at_nil k
    ·intro Lx g30 s K hl hh k
     show At 52 ((0,_)::(1,_)::Lx) _ _
     refine am ?_
     exact at_nil k
    ·intro Lx g30 s K hl hh k
     show At 52 ((39,_)::(0,_)::(1,_)::Lx) _ _
     refine aw (r_nilCheck rfl) ?_
     exact at_nil k
    ·intro Lx g30 s K hl hh k
     show At 52 ((40,_)::(0,_)::(1,_)::Lx) _ _
     refine fa 1 underlying84 rfl sizeOf54 ?_
     exact at_nil k
    ·intro Lx g30 s K hl hh k
     show At 52 ((41,_)::(0,_)::(1,_)::Lx) _ _
     obtain rfl:s=0:=by omega
     refine aw (r_load_cell isAgg54 rfl (lens_cell0 (c:=cHd) (y:=⟨(((p24,c25),(p26,c27)).2).1,List.length t23.f_stack,(((p24,c25),(p26,c27)).2).2⟩) .z (c_flat_row_f_stack ((p24,c25),(p26,c27)) t23) rfl)) ?_
     exact at_nil k
    ·intro Lx g30 s K hl hh k
     show At 52 ((0,_)::(1,_)::Lx) _ _
     refine am ?_
     exact at_nil k
    ·intro Lx g30 s K hl hh k
     show At 52 ((43,_)::(0,_)::(1,_)::Lx) _ _
     refine aw (r_nilCheck rfl) ?_
     exact at_nil k
    ·intro Lx g30 s K hl hh k
     show At 52 ((44,_)::(0,_)::(1,_)::Lx) _ _
     refine fa 1 underlying84 rfl sizeOf54 ?_
     exact at_nil k
    ·intro Lx g30 s K hl hh k
     show At 52 ((45,_)::(0,_)::(1,_)::Lx) _ _
     obtain rfl:s=0:=by omega
     refine aw (r_load_cell isAgg54 rfl (lens_cell0 (c:=cHd) (y:=⟨(((p24,c25),(p26,c27)).2).1,List.length t23.f_stack,(((p24,c25),(p26,c27)).2).2⟩) .z (c_flat_row_f_stack ((p24,c25),(p26,c27)) t23) rfl)) ?_
     exact at_nil k
    ·intro Lx g30 s K hl hh k
     show At 52 ((46,_)::(0,_)::(1,_)::Lx) _ _
     obtain rfl:s=0:=by omega
     refine aw (r_len_sl underlying54 rfl) ?_
     exact at_nil k
    ·intro Lx g30 s K hl hh k
     show At 52 ((47,_)::(0,_)::(1,_)::Lx) _ _
     refine aw (r_isub rfl rfl) ?_
     exact at_nil k
    ·intro Lx g30 s K hl hh k
     show At 52 ((42,_)::(48,_)::(0,_)::(1,_)::Lx) _ _
     obtain rfl:s=0:=by omega
     refine at_pure (fun w1 hw=>(hw.own (.s (.s .z))).row.len) ?_
     intro hl29
     refine aw (r_reslice (c:=c_api_Entry) underlying54 sizeOf66 rfl hl29 rfl ⟨_,rfl⟩ h28) ?_
     exact at_nil k
    ·intro Lx g30 s K hl hh k
     show At 52 ((38,_)::(0,_)::(1,_)::Lx) _ _
     refine aw (r_nilCheck rfl) ?_
     exact at_nil k
    ·intro Lx g30 s K hl hh k
     show At 52 ((50,_)::(0,_)::(1,_)::Lx) _ _
     refine fa 1 underlying84 rfl sizeOf54 ?_
     exact at_nil k
    ·intro Lx g30 K k
     show At 52 ((49,_)::(51,_)::(0,_)::(1,_)::Lx) _ _
     refine at_store (c:=cSv S_api_Entry) (z:=((rsp p26 c27 0 (Cd.sz c_api_Entry),c27-Int.toNat 0),lsub t23.f_stack 0 (wr .i64 ((t23.f_stack.length:Int)-1)))) .z (c_flat_row_f_stack_sv ((p24,c25),(p26,c27)) t23) sizeOf54 rfl rfl rfl ?_
     exact at_nil k
    intro g30
    show At 52 [(38,_),(39,_),(40,_),(41,_),(42,_),(43,_),(44,_),(45,_),(46,_),(47,_),(48,_),(49,_),(50,_),(51,_),(0,_),(1,_)] _ _
    refine at_cutW (c:=c_api_Entry) (h:=wr .i64 ((t23.f_stack.length:Int)-1)) (.s (.s .z)) ⟨h28.2.1,h28.2.2⟩ ?_
    intro hr31
    refine at_cellsEq (cells':=Cd.cs c_flat_row ((/-32-/((p24,c25),(p26,c27))),{ { t23 with f_stack:=lsub t23.f_stack 0 (wr .i64 ((t23.f_stack.length:Int)-1)) } with f_stack:=List.take (Int.toNat (wr .i64 ((t23.f_stack.length:Int)-1))) t23.f_stack })) .z (by simp [c_flat_row,lsub,hr31]) ?_
    refine wq [1,0] ?_
    refine bm ?_
    exact at_weak_k (ih _ _ hF K p24 c25 p26 c27) ⟨rfl,rfl,trivial⟩
   refine cf h15 ?_
   refine at_exit ?_
   refine te (te ?_)
   obtain rfl:=os hF
   exact at_weak_k (K p7 c8 p9 c10) trivial
 cases q5 with
 | ret r'=>exact os hF
 | nx sq5 =>
  intro p11 c12 p13 c14
  refine at_blk_same ?_
  have K:=os hF
  subst K
  exact at_return0 rfl (fun w1 hw=>⟨((p11,c12),(p13,c14)),rfl,hw⟩)
end Go.Proofs.Ytahlbjmafceoeaa
namespace Go.Proofs.Ytahlbjmafceoeaa
open E Go.RowKit _root_.Go.Proofs.Try
theorem infoF866_is:(Try.prog.info? 66).isSome=true:=by kernel_rfl
noncomputable def infoF866_v:TypeInfo:=(Try.prog.info? 66).get infoF866_is
theorem infoF866:Try.prog.info? 66=some infoF866_v:=(Option.some_get _).symm
def flat_Of.l0(t2:List S_api_Entry)(i12:Int)(i13:S_flat_row):Option (S_flat_row) :=
 if (decide (i12<(t2.length:Int)))=true then (if (0:Int)≤i12∧i12<(t2.length:Int) then flat_row_close i13 (lget t2 i12)>>=fun t28=>if (decide ((t28.f_stack.length:Int)>0))=true then (flat_previous (((lget t2 i12).f_P).f_A)>>=fun t34=>if t34.2=true then (flat_row_put t28 t34.1>>=fun t37=>if (t37.f_stack.length+1)*40≤140737488355328 then flat_Of.l0 t2 (wr .i64 (i12+1)) ({ { { t37 with f_stack:=t37.f_stack++[lget t2 i12] } with f_at:=((lget t2 i12).f_P).f_A } with f_done:=false }) else none) else (if (t28.f_stack.length+1)*40≤140737488355328 then flat_Of.l0 t2 (wr .i64 (i12+1)) ({ { { t28 with f_stack:=t28.f_stack++[lget t2 i12] } with f_at:=((lget t2 i12).f_P).f_A } with f_done:=false }) else none)) else (if (t28.f_stack.length+1)*40≤140737488355328 then flat_Of.l0 t2 (wr .i64 (i12+1)) ({ { { t28 with f_stack:=t28.f_stack++[lget t2 i12] } with f_at:=((lget t2 i12).f_P).f_A } with f_done:=false }) else none) else none) else (some i13)
 partial_fixpoint
def flat_Of(x0:List S_api_Entry):Option (List S_flat_Span) :=
 flat_Own x0>>=fun t2=>flat_Of.l0 t2 0 ({ f_l:=([]:List S_flat_Span),f_stack:=([]:List S_api_Entry),f_at:=({ f_V:=(0:Int),f_B:=(Vector.replicate 16 (0:Int):(Vector Int 16)) }:S_api_Addr),f_done:=false }:S_flat_row)>>=fun q11=>flat_row_close__nil1 q11>>=fun t57=>some t57.f_l
set_option maxHeartbeats 3200000 in
theorem flat_Of_ok(x0:List S_api_Entry)(p0_:Option Addr)(c0_:Nat)(r:List S_flat_Span)(hF:flat_Of x0=some r)(w:World)(hr0:Row c_api_Entry w p0_ c0_ x0) :
    Calls Try.prog 28 #[.slice p0_ x0.length c0_] w (fun e w'=>∃ p cap,e=.returned (.slice p r.length cap)∧Own c_flat_Span 60 w.heap.size w' p cap r∧Below w.heap.size w w'):=by
 unfold flat_Of at hF
 refine ce (l:=[.slice p0_ x0.length c0_]) func28 rfl rfl ?_
 refine at_start ?_
 refine sr (aa (ns ?_))
 refine aw (r_build_struct (zs:=Cd.cs c_flat_row zv10) (cs:=Cd.cs c_flat_row zv10) underlying84 zeroValue84 rfl (places_flat_row_84) rfl rfl) ?_
 refine at_box (cs:=Cd.cs c_flat_row zv10) rfl rfl rfl ?_
 intro b1
 refine aa (nt (qs (sr (am ?_))))
 obtain ⟨t2,ht2,hF⟩:=bM hF
 refine at_callO (c:=c_api_Entry) (e:=66) (ys:=t2) (V:=fun p cap=>.slice p t2.length cap) func33 rfl (by kernel_rfl) rfl rfl (fun w hw=>flat_Own_ok _ _ _ _ ht2 w (hr0.below hw.below)) ?_
 intro p3 c4
 refine aw (r_len_sl underlying54 rfl) ?_
 refine am (nwq [13,12,11,3] ?_)
 refine qb ?_
 refine at_own_nil c_flat_Span 60 ?_
 refine at_own_nil c_api_Entry 66 ?_
 obtain ⟨q11,hq11,hF⟩:=bM hF
 refine at_front (.s .z) ?_
 refine at_front (.s (.s (.s .z))) ?_
 refine at_front (.s (.s (.s .z))) ?_
 refine wq [13,12,11,3] ?_
 refine at_loop_n (B:=0) (A:=fun Y=>∀ (p18:Option Addr) (c19:Nat) (p20:Option Addr) (c21:Nat),At 62 [(3,.pointer (some ⟨b1,0,none⟩))] (Wd w [cellsE b1 (Cd.cs c_flat_row (((p18,c19),(p20,c21)),q11)) 84,rowE c_flat_Span 60 p18 c19 q11.f_l,rowE c_api_Entry 66 p20 c21 q11.f_stack]) Y) ?_ ?_
 ·intro K
  refine flat_Of.l0.partial_correctness t2 (motive:=fun i12 i13 x=>KN (fun Y=>∀ (p18:Option Addr) (c19:Nat) (p20:Option Addr) (c21:Nat),At 62 [(3,.pointer (some ⟨b1,0,none⟩))] (Wd w [cellsE b1 (Cd.cs c_flat_row (((p18,c19),(p20,c21)),x)) 84,rowE c_flat_Span 60 p18 c19 x.f_l,rowE c_api_Entry 66 p20 c21 x.f_stack]) Y) _ 0→Round (fun Y=>∀ (p14:Option Addr) (c15:Nat) (p16:Option Addr) (c17:Nat),At 62 [(3,.pointer (some ⟨b1,0,none⟩)),(11,.slice p3 t2.length c4),(12,.int .i64 (t2.length:Int)),(13,.int .i64 i12)] (Wd w [rowE c_api_Entry 66 p3 c4 t2,cellsE b1 (Cd.cs c_flat_row (((p14,c15),(p16,c17)),i13)) 84,rowE c_flat_Span 60 p14 c15 i13.f_l,rowE c_api_Entry 66 p16 c17 i13.f_stack]) Y) _ _ _) ?_ _ _ _ hq11 K (nn 5) 0 (nn 6) 0
  ·clear K hF
   intro g ih i12 i13 x hF K p14 c15 p16 c17
   refine at_round ?_
   refine sr (aw xl (nwq [14,13,12,11,3] ?_))
   refine qs ?_
   obtain ⟨h22,hF⟩|⟨h22,hF⟩:=oi hF
   ·refine ct h22 ?_
    refine sn (qs ?_)
    refine qb ?_
    refine sr ?_
    obtain ⟨h23,hF⟩:=gd hF
    refine at_pure (φ:=∃ b o,p3=some ⟨b,o,none⟩) (fun _ hw=>row_ptr (hw.own .z).row h23) ?_
    rintro ⟨b25,o26,hp24⟩
    refine aw (r_idx underlying54 sizeOf66 rfl rfl h23 hp24) ?_
    refine aw (r_load_aggc (c:=c_api_Entry) (z:=lget t2 i12) isAgg66 sizeOf66 rfl (fun w1 hw=>row_cell (W:=fun w1=>w1=_) (fun w1 h=>by subst h;exact Below.refl _ _) (hw.own .z).row h23 hp24 _ rfl)) ?_
    refine al (cs:=Cd.cs c_api_Entry zv8) zeroValue66 ?_
    intro b27
    refine at_store (c:=c_api_Entry) (z:=lget t2 i12) .z lw sizeOf66 rfl rfl rfl ?_
    refine nwx [13,12,11,5,3] ?_
    refine am ?_
    obtain ⟨t28,ht28,hF⟩:=bM hF
    refine at_front (.s .z) ?_
    refine at_front (.s .z) ?_
    refine at_front (.s (.s (.s (.s .z)))) ?_
    refine at_front (.s (.s (.s (.s .z)))) ?_
    refine at_front (.s (.s (.s (.s .z)))) ?_
    refine at_callX (γ:=G_flat_row) (V:=fun z=>.tuple #[]) (T:=fun z=>[cellsE b1 (Cd.cs c_flat_row (z,t28)) 84,rowE c_flat_Span 60 z.1.1 z.1.2 t28.f_l,rowE c_api_Entry 66 z.2.1 z.2.2 t28.f_stack,cellsE b27 (Cd.cs c_api_Entry (lget t2 i12)) 66,rowE c_api_Entry 66 p3 c4 t2]) func54 rfl (by kernel_rfl) rfl rfl (fun w hw=>flat_row_close_ok ht28 hw) ?_
    rintro ⟨⟨p29,c30⟩,⟨p31,c32⟩⟩
    refine nt (qs (sr (am ?_)))
    refine aw (r_nilCheck rfl) ?_
    refine fa 1 underlying84 rfl sizeOf54 ?_
    refine aw (r_load_cell isAgg54 rfl (lens_cell0 (c:=cHd) (y:=⟨(((p29,c30),(p31,c32)).2).1,List.length t28.f_stack,(((p29,c30),(p31,c32)).2).2⟩) .z (c_flat_row_f_stack ((p29,c30),(p31,c32)) t28) rfl)) ?_
    refine aw (r_len_sl underlying54 rfl) ?_
    refine aw (r_igtr rfl rfl) ?_
    refine nwq [24,13,12,11,5,3] ?_
    obtain ⟨h33,hF⟩|⟨h33,hF⟩:=oi hF
    ·refine ct h33 ?_
     refine sr (fa 0 underlying66 rfl sizeOf37 (fa 0 underlying37 rfl sizeOf24 ?_))
     refine aw (r_load_aggc (c:=c_api_Addr) (z:=((lget t2 i12).f_P).f_A) isAgg24 sizeOf24 rfl (lens_cell (.s (.s (.s .z))) (Lens.comp (Lens.comp lw (fun z=>{ lget t2 i12 with f_P:=z }) (c_api_Entry_f_P (lget t2 i12))) (fun z=>{ (lget t2 i12).f_P with f_A:=z }) (c_api_Prefix_f_A ((lget t2 i12).f_P))))) ?_
     obtain ⟨t34,ht34,hF⟩:=bM hF
     refine cB func55 rfl (fun w hw=>flat_previous_ok _ _ ht34 w) ?_
     refine am ?_
     refine aw xe (aw xe ?_)
     refine al (cs:=Cd.cs c_api_Addr zv0) zeroValue24 ?_
     intro b35
     refine at_store (c:=c_api_Addr) (z:=t34.1) .z lw sizeOf24 rfl rfl rfl ?_
     refine aa (ns (am (nwq [32,13,12,11,6,5,3] ?_)))
     obtain ⟨h36,hF⟩|⟨h36,hF⟩:=oi hF
     ·refine ct h36 ?_
      refine qr (am ?_)
      refine aw (r_load_aggc (c:=c_api_Addr) (z:=t34.1) isAgg24 sizeOf24 rfl (lens_cell .z lw)) ?_
      obtain ⟨t37,ht37,hF⟩:=bM hF
      refine at_front (.s (.s (.s .z))) ?_
      refine at_front (.s (.s (.s .z))) ?_
      refine at_front (.s (.s (.s .z))) ?_
      refine at_callX (γ:=G_flat_row) (V:=fun z=>.tuple #[]) (T:=fun z=>[cellsE b1 (Cd.cs c_flat_row (z,t37)) 84,rowE c_flat_Span 60 z.1.1 z.1.2 t37.f_l,rowE c_api_Entry 66 z.2.1 z.2.2 t37.f_stack,cellsE b35 (Cd.cs c_api_Addr t34.1) 24,cellsE b27 (Cd.cs c_api_Entry (lget t2 i12)) 66,rowE c_api_Entry 66 p3 c4 t2]) func56 rfl (by kernel_rfl) rfl rfl (fun w hw=>flat_row_put_ok ht37 hw) ?_
      rintro ⟨⟨p38,c39⟩,⟨p40,c41⟩⟩
      refine qn ?_
      refine at_drop (H:=_) (.s (.s (.s .z))) ?_
      refine tn (wq [13,12,11,5,3] ?_)
      obtain ⟨h43,hF⟩:=gd hF
      refine at_inv [.q 36 (fun g46=>.pointer (some ⟨b1,0,none⟩)) [] 0 2,.q 37 (fun g46=>.pointer (some ⟨b1,0,none⟩)) [] 0 3,.q 38 (fun g46=>.pointer (some ⟨b1,0,none⟩)) [] 0 4,.q 39 (fun g46=>.pointer (some ⟨b1,0,none⟩)) [] 0 1,.q 40 (fun g46=>.pointer (some ⟨b1,0,none⟩)) [3] 0 1,.q 41 (fun g46=>.pointer (some ⟨b1,0+1,none⟩)) [4] 0 1,.q 42 (fun g46=>.slice p40 t37.f_stack.length c41) [5] 0 1,.q 43 (fun g46=>.agg (Cd.cs c_api_Entry (lget t2 i12)).toArray) [] 0 0,.al 0 44 (fun g46=>.slice (some ⟨((g46 0).1),0,none⟩) ([lget t2 i12]:List S_api_Entry).length 1) [7],.al 1 45 (fun g46=>.slice ((g46 1).2.1) (t37.f_stack++[lget t2 i12]).length ((g46 1).2.2.1)) [6,8],.q 46 (fun g46=>.pointer (some ⟨b27,0+0,none⟩)) [] 0 2,.q 47 (fun g46=>.pointer (some ⟨b27,0+0+0,none⟩)) [10] 0 2,.q 48 (fun g46=>.agg (Cd.cs c_api_Addr (((lget t2 i12).f_P).f_A)).toArray) [11] 0 2,.q 49 (fun g46=>.pointer (some ⟨b1,0,none⟩)) [0] 2 2,.q 50 (fun g46=>.pointer (some ⟨b1,0+1,none⟩)) [13] 2 2,.st 2 none [9,14],.q 51 (fun g46=>.pointer (some ⟨b1,0,none⟩)) [1] 3 3,.q 52 (fun g46=>.pointer (some ⟨b1,0+2,none⟩)) [16] 3 3,.st 3 none [12,17],.q 53 (fun g46=>.pointer (some ⟨b1,0,none⟩)) [2] 4 4,.q 54 (fun g46=>.pointer (some ⟨b1,0+19,none⟩)) [19] 4 4,.st 4 none [20]] (fun g46 s=>match s with | 0=>(Wd w [cellsE b1 (Cd.cs c_flat_row (((p38,c39),(p40,c41)),t37)) 84,rowE c_flat_Span 60 p38 c39 t37.f_l,rowE c_api_Entry 66 p40 c41 t37.f_stack,cellsE b27 (Cd.cs c_api_Entry (lget t2 i12)) 66,rowE c_api_Entry 66 p3 c4 t2]) | 1=>(Wd w [cellsE ((g46 0).1) (c_api_Entry.all ([lget t2 i12]:List S_api_Entry)) 66,cellsE b1 (Cd.cs c_flat_row (((p38,c39),(p40,c41)),t37)) 84,rowE c_flat_Span 60 p38 c39 t37.f_l,rowE c_api_Entry 66 p40 c41 t37.f_stack,cellsE b27 (Cd.cs c_api_Entry (lget t2 i12)) 66,rowE c_api_Entry 66 p3 c4 t2]) | 2=>(Wd w [cellsE ((g46 0).1) (c_api_Entry.all ([lget t2 i12]:List S_api_Entry)) 66,cellsE b1 (Cd.cs c_flat_row (((p38,c39),(p40,c41)),t37)) 84,rowE c_flat_Span 60 p38 c39 t37.f_l,rowE c_api_Entry 66 ((g46 1).2.1) ((g46 1).2.2.1) (t37.f_stack++[lget t2 i12]),cellsE b27 (Cd.cs c_api_Entry (lget t2 i12)) 66,rowE c_api_Entry 66 p3 c4 t2]) | 3=>(Wd w [cellsE ((g46 0).1) (c_api_Entry.all ([lget t2 i12]:List S_api_Entry)) 66,cellsE b1 (Cd.cs c_flat_row (((p38,c39),(((g46 1).2.1),((g46 1).2.2.1))),{ t37 with f_stack:=t37.f_stack++[lget t2 i12] })) 84,rowE c_flat_Span 60 p38 c39 t37.f_l,rowE c_api_Entry 66 ((g46 1).2.1) ((g46 1).2.2.1) (t37.f_stack++[lget t2 i12]),cellsE b27 (Cd.cs c_api_Entry (lget t2 i12)) 66,rowE c_api_Entry 66 p3 c4 t2]) | 4=>(Wd w [cellsE ((g46 0).1) (c_api_Entry.all ([lget t2 i12]:List S_api_Entry)) 66,cellsE b1 (Cd.cs c_flat_row (((p38,c39),(((g46 1).2.1),((g46 1).2.2.1))),{ { t37 with f_stack:=t37.f_stack++[lget t2 i12] } with f_at:=((lget t2 i12).f_P).f_A })) 84,rowE c_flat_Span 60 p38 c39 t37.f_l,rowE c_api_Entry 66 ((g46 1).2.1) ((g46 1).2.2.1) (t37.f_stack++[lget t2 i12]),cellsE b27 (Cd.cs c_api_Entry (lget t2 i12)) 66,rowE c_api_Entry 66 p3 c4 t2]) | _=>(Wd w [cellsE ((g46 0).1) (c_api_Entry.all ([lget t2 i12]:List S_api_Entry)) 66,cellsE b1 (Cd.cs c_flat_row (((p38,c39),(((g46 1).2.1),((g46 1).2.2.1))),{ { { t37 with f_stack:=t37.f_stack++[lget t2 i12] } with f_at:=((lget t2 i12).f_P).f_A } with f_done:=false })) 84,rowE c_flat_Span 60 p38 c39 t37.f_l,rowE c_api_Entry 66 ((g46 1).2.1) ((g46 1).2.2.1) (t37.f_stack++[lget t2 i12]),cellsE b27 (Cd.cs c_api_Entry (lget t2 i12)) 66,rowE c_api_Entry 66 p3 c4 t2])) 5 (by kernel_rfl) (by kernel_rfl) (by kernel_rfl) (by kernel_rfl) (by kernel_rfl) ⟨fun _ _ _=>rfl,fun _ _ _=>rfl,fun _ _ _=>rfl,fun _ _ _=>rfl,fun _ _ _=>rfl,fun _ _ _=>rfl,fun _ _ _=>rfl,fun _ _ _=>rfl,fun g46 g2 h=>by show (.slice (some ⟨((g46 0).1),0,none⟩) ([lget t2 i12]:List S_api_Entry).length 1:Value)=.slice (some ⟨((g2 0).1),0,none⟩) ([lget t2 i12]:List S_api_Entry).length 1;rw [h 0 (show 0<1 by decide)],fun g46 g2 h=>by show (.slice ((g46 1).2.1) (t37.f_stack++[lget t2 i12]).length ((g46 1).2.2.1):Value)=.slice ((g2 1).2.1) (t37.f_stack++[lget t2 i12]).length ((g2 1).2.2.1);rw [h 1 (show 1<2 by decide)],fun _ _ _=>rfl,fun _ _ _=>rfl,fun _ _ _=>rfl,fun _ _ _=>rfl,fun _ _ _=>rfl,fun _ _ _=>rfl,fun _ _ _=>rfl,fun _ _ _=>rfl,fun _ _ _=>rfl,fun _ _ _=>rfl,fun _ _ _=>rfl,fun _ _ _=>rfl,trivial⟩ (by kernel_rfl) (fun w_ h=>⟨fun _=>g3 0 none 0 none w_,h.drew⟩) ⟨?_,?_,?_,?_,?_,?_,?_,?_,?_,?_,?_,?_,?_,?_,?_,?_,?_,?_,?_,?_,?_,?_,trivial⟩ ?_
      ·intro Lx g46 s K hl hh k
       show At 62 ((3,_)::(5,_)::(11,_)::(12,_)::(13,_)::Lx) _ _
       refine am ?_
       exact at_nil k
      ·intro Lx g46 s K hl hh k
       show At 62 ((3,_)::(5,_)::(11,_)::(12,_)::(13,_)::Lx) _ _
       refine am ?_
       exact at_nil k
      ·intro Lx g46 s K hl hh k
       show At 62 ((3,_)::(5,_)::(11,_)::(12,_)::(13,_)::Lx) _ _
       refine am ?_
       exact at_nil k
      ·intro Lx g46 s K hl hh k
       show At 62 ((3,_)::(5,_)::(11,_)::(12,_)::(13,_)::Lx) _ _
       refine am ?_
       exact at_nil k
      ·intro Lx g46 s K hl hh k
       show At 62 ((39,_)::(3,_)::(5,_)::(11,_)::(12,_)::(13,_)::Lx) _ _
       refine aw (r_nilCheck rfl) ?_
       exact at_nil k
      ·intro Lx g46 s K hl hh k
       show At 62 ((40,_)::(3,_)::(5,_)::(11,_)::(12,_)::(13,_)::Lx) _ _
       refine fa 1 underlying84 rfl sizeOf54 ?_
       exact at_nil k
      ·intro Lx g46 s K hl hh k
       show At 62 ((41,_)::(3,_)::(5,_)::(11,_)::(12,_)::(13,_)::Lx) _ _
       rcases (by omega:s=0∨s=1) with rfl | rfl
       ·skip
        refine aw (r_load_cell isAgg54 rfl (lens_cell0 (c:=cHd) (y:=⟨(((p38,c39),(p40,c41)).2).1,List.length t37.f_stack,(((p38,c39),(p40,c41)).2).2⟩) .z (c_flat_row_f_stack ((p38,c39),(p40,c41)) t37) rfl)) ?_
        exact at_nil k
       skip
       refine aw (r_load_cell isAgg54 rfl (lens_cell0 (c:=cHd) (y:=⟨(((p38,c39),(p40,c41)).2).1,List.length t37.f_stack,(((p38,c39),(p40,c41)).2).2⟩) (.s .z) (c_flat_row_f_stack ((p38,c39),(p40,c41)) t37) rfl)) ?_
       exact at_nil k
      ·intro Lx g46 s K hl hh k
       show At 62 ((3,_)::(5,_)::(11,_)::(12,_)::(13,_)::Lx) _ _
       obtain rfl:s=0:=by omega
       refine aw (r_load_aggc (c:=c_api_Entry) (z:=lget t2 i12) isAgg66 sizeOf66 rfl (lens_cell (.s (.s (.s .z))) lw)) ?_
       exact at_nil k
      ·intro Lx g46 K k
       show At 62 ((43,_)::(3,_)::(5,_)::(11,_)::(12,_)::(13,_)::Lx) _ _
       refine at_litL (c:=c_api_Entry) ([zv8]:List S_api_Entry) ([lget t2 i12]:List S_api_Entry) underlying54 sizeOf66 zeroValue66 rfl rfl rfl (by kernel_rfl) (fill_step (c:=c_api_Entry) (z:=lget t2 i12) rfl (Lens.all c_api_Entry ([zv8]:List S_api_Entry) 0 (by first | decide | exact Nat.le_of_ble_eq_true rfl)) rfl rfl) rfl ?_
       intro b42
       exact at_nil (k (g3 b42 none 0 none w))
      ·intro Lx g46 K k
       show At 62 ((42,_)::(44,_)::(3,_)::(5,_)::(11,_)::(12,_)::(13,_)::Lx) _ _
       refine at_append (z:=.agg (Cd.cs c_api_Entry zv8).toArray) (c:=c_api_Entry) (ys:=([lget t2 i12]:List S_api_Entry)) (.s (.s (.s .z))) underlying54 infoF866 (by kernel_rfl) (by kernel_rfl) rfl rfl rfl rfl (fun _ hw=>cells_src (hw.ok (Upd.mem .z))) (by kernel_rfl) h43 (app_small h43) rfl ?_
       intro p44 c45
       exact at_nil (k (g3 0 p44 c45 none w))
      ·intro Lx g46 s K hl hh k
       show At 62 ((3,_)::(5,_)::(11,_)::(12,_)::(13,_)::Lx) _ _
       refine fa 0 underlying66 rfl sizeOf37 ?_
       exact at_nil k
      ·intro Lx g46 s K hl hh k
       show At 62 ((46,_)::(3,_)::(5,_)::(11,_)::(12,_)::(13,_)::Lx) _ _
       refine fa 0 underlying37 rfl sizeOf24 ?_
       exact at_nil k
      ·intro Lx g46 s K hl hh k
       show At 62 ((47,_)::(3,_)::(5,_)::(11,_)::(12,_)::(13,_)::Lx) _ _
       rcases (by omega:s=0∨s=1∨s=2) with rfl | rfl | rfl
       ·skip
        refine aw (r_load_aggc (c:=c_api_Addr) (z:=((lget t2 i12).f_P).f_A) isAgg24 sizeOf24 rfl (lens_cell (.s (.s (.s .z))) (Lens.comp (Lens.comp lw (fun z=>{ lget t2 i12 with f_P:=z }) (c_api_Entry_f_P (lget t2 i12))) (fun z=>{ (lget t2 i12).f_P with f_A:=z }) (c_api_Prefix_f_A ((lget t2 i12).f_P))))) ?_
        exact at_nil k
       ·skip
        refine aw (r_load_aggc (c:=c_api_Addr) (z:=((lget t2 i12).f_P).f_A) isAgg24 sizeOf24 rfl (lens_cell (.s (.s (.s (.s .z)))) (Lens.comp (Lens.comp lw (fun z=>{ lget t2 i12 with f_P:=z }) (c_api_Entry_f_P (lget t2 i12))) (fun z=>{ (lget t2 i12).f_P with f_A:=z }) (c_api_Prefix_f_A ((lget t2 i12).f_P))))) ?_
        exact at_nil k
       skip
       refine aw (r_load_aggc (c:=c_api_Addr) (z:=((lget t2 i12).f_P).f_A) isAgg24 sizeOf24 rfl (lens_cell (.s (.s (.s (.s .z)))) (Lens.comp (Lens.comp lw (fun z=>{ lget t2 i12 with f_P:=z }) (c_api_Entry_f_P (lget t2 i12))) (fun z=>{ (lget t2 i12).f_P with f_A:=z }) (c_api_Prefix_f_A ((lget t2 i12).f_P))))) ?_
       exact at_nil k
      ·intro Lx g46 s K hl hh k
       show At 62 ((36,_)::(3,_)::(5,_)::(11,_)::(12,_)::(13,_)::Lx) _ _
       refine aw (r_nilCheck rfl) ?_
       exact at_nil k
      ·intro Lx g46 s K hl hh k
       show At 62 ((49,_)::(3,_)::(5,_)::(11,_)::(12,_)::(13,_)::Lx) _ _
       refine fa 1 underlying84 rfl sizeOf54 ?_
       exact at_nil k
      ·intro Lx g46 K k
       show At 62 ((45,_)::(50,_)::(3,_)::(5,_)::(11,_)::(12,_)::(13,_)::Lx) _ _
       refine at_store (c:=cSv S_api_Entry) (z:=((((g46 1).2.1),((g46 1).2.2.1)),t37.f_stack++[lget t2 i12])) (.s .z) (c_flat_row_f_stack_sv ((p38,c39),(p40,c41)) t37) sizeOf54 rfl rfl rfl ?_
       exact at_nil k
      ·intro Lx g46 s K hl hh k
       show At 62 ((37,_)::(3,_)::(5,_)::(11,_)::(12,_)::(13,_)::Lx) _ _
       refine aw (r_nilCheck rfl) ?_
       exact at_nil k
      ·intro Lx g46 s K hl hh k
       show At 62 ((51,_)::(3,_)::(5,_)::(11,_)::(12,_)::(13,_)::Lx) _ _
       refine fa 2 underlying84 rfl sizeOf24 ?_
       exact at_nil k
      ·intro Lx g46 K k
       show At 62 ((48,_)::(52,_)::(3,_)::(5,_)::(11,_)::(12,_)::(13,_)::Lx) _ _
       refine at_store (c:=c_api_Addr) (z:=((lget t2 i12).f_P).f_A) (.s .z) (c_flat_row_f_at ((p38,c39),(((g46 1).2.1),((g46 1).2.2.1))) ({ t37 with f_stack:=t37.f_stack++[lget t2 i12] })) sizeOf24 rfl rfl rfl ?_
       exact at_nil k
      ·intro Lx g46 s K hl hh k
       show At 62 ((38,_)::(3,_)::(5,_)::(11,_)::(12,_)::(13,_)::Lx) _ _
       refine aw (r_nilCheck rfl) ?_
       exact at_nil k
      ·intro Lx g46 s K hl hh k
       show At 62 ((53,_)::(3,_)::(5,_)::(11,_)::(12,_)::(13,_)::Lx) _ _
       refine fa 19 underlying84 rfl sizeOf4 ?_
       exact at_nil k
      ·intro Lx g46 K k
       show At 62 ((54,_)::(3,_)::(5,_)::(11,_)::(12,_)::(13,_)::Lx) _ _
       refine at_store (c:=cBool) (z:=false) (.s .z) (c_flat_row_f_done ((p38,c39),(((g46 1).2.1),((g46 1).2.2.1))) ({ { t37 with f_stack:=t37.f_stack++[lget t2 i12] } with f_at:=((lget t2 i12).f_P).f_A })) sizeOf4 rfl rfl rfl ?_
       exact at_nil k
      intro g46
      show At 62 [(36,_),(37,_),(38,_),(39,_),(40,_),(41,_),(42,_),(43,_),(44,_),(45,_),(46,_),(47,_),(48,_),(49,_),(50,_),(51,_),(52,_),(53,_),(54,_),(3,_),(5,_),(11,_),(12,_),(13,_)] _ _
      refine dz ?_
      refine at_drop (H:=_) (.s (.s (.s .z))) ?_
      refine wq [13,12,11,3] ?_
      refine bm ?_
      refine qr (aw xa (am (nwq [13,12,11,3] ?_)))
      refine at_front (.s (.s .z)) ?_
      refine at_front (.s (.s .z)) ?_
      refine at_front (.s (.s .z)) ?_
      refine at_front (.s (.s (.s .z))) ?_
      exact at_weak_k (ih _ _ _ hF K p38 c39 (g46 1).2.1 (g46 1).2.2.1) ⟨rfl,rfl,rfl,rfl,trivial⟩
     refine cf h36 ?_
     refine sn (wq [13,12,11,5,3] ?_)
     obtain ⟨h48,hF⟩:=gd hF
     refine at_inv [.q 36 (fun g51=>.pointer (some ⟨b1,0,none⟩)) [] 0 2,.q 37 (fun g51=>.pointer (some ⟨b1,0,none⟩)) [] 0 3,.q 38 (fun g51=>.pointer (some ⟨b1,0,none⟩)) [] 0 4,.q 39 (fun g51=>.pointer (some ⟨b1,0,none⟩)) [] 0 1,.q 40 (fun g51=>.pointer (some ⟨b1,0,none⟩)) [3] 0 1,.q 41 (fun g51=>.pointer (some ⟨b1,0+1,none⟩)) [4] 0 1,.q 42 (fun g51=>.slice p31 t28.f_stack.length c32) [5] 0 1,.q 43 (fun g51=>.agg (Cd.cs c_api_Entry (lget t2 i12)).toArray) [] 0 0,.al 0 44 (fun g51=>.slice (some ⟨((g51 0).1),0,none⟩) ([lget t2 i12]:List S_api_Entry).length 1) [7],.al 1 45 (fun g51=>.slice ((g51 1).2.1) (t28.f_stack++[lget t2 i12]).length ((g51 1).2.2.1)) [6,8],.q 46 (fun g51=>.pointer (some ⟨b27,0+0,none⟩)) [] 0 2,.q 47 (fun g51=>.pointer (some ⟨b27,0+0+0,none⟩)) [10] 0 2,.q 48 (fun g51=>.agg (Cd.cs c_api_Addr (((lget t2 i12).f_P).f_A)).toArray) [11] 0 2,.q 49 (fun g51=>.pointer (some ⟨b1,0,none⟩)) [0] 2 2,.q 50 (fun g51=>.pointer (some ⟨b1,0+1,none⟩)) [13] 2 2,.st 2 none [9,14],.q 51 (fun g51=>.pointer (some ⟨b1,0,none⟩)) [1] 3 3,.q 52 (fun g51=>.pointer (some ⟨b1,0+2,none⟩)) [16] 3 3,.st 3 none [12,17],.q 53 (fun g51=>.pointer (some ⟨b1,0,none⟩)) [2] 4 4,.q 54 (fun g51=>.pointer (some ⟨b1,0+19,none⟩)) [19] 4 4,.st 4 none [20]] (fun g51 s=>match s with | 0=>(Wd w [cellsE b35 (Cd.cs c_api_Addr t34.1) 24,cellsE b1 (Cd.cs c_flat_row (((p29,c30),(p31,c32)),t28)) 84,rowE c_flat_Span 60 p29 c30 t28.f_l,rowE c_api_Entry 66 p31 c32 t28.f_stack,cellsE b27 (Cd.cs c_api_Entry (lget t2 i12)) 66,rowE c_api_Entry 66 p3 c4 t2]) | 1=>(Wd w [cellsE ((g51 0).1) (c_api_Entry.all ([lget t2 i12]:List S_api_Entry)) 66,cellsE b35 (Cd.cs c_api_Addr t34.1) 24,cellsE b1 (Cd.cs c_flat_row (((p29,c30),(p31,c32)),t28)) 84,rowE c_flat_Span 60 p29 c30 t28.f_l,rowE c_api_Entry 66 p31 c32 t28.f_stack,cellsE b27 (Cd.cs c_api_Entry (lget t2 i12)) 66,rowE c_api_Entry 66 p3 c4 t2]) | 2=>(Wd w [cellsE ((g51 0).1) (c_api_Entry.all ([lget t2 i12]:List S_api_Entry)) 66,cellsE b35 (Cd.cs c_api_Addr t34.1) 24,cellsE b1 (Cd.cs c_flat_row (((p29,c30),(p31,c32)),t28)) 84,rowE c_flat_Span 60 p29 c30 t28.f_l,rowE c_api_Entry 66 ((g51 1).2.1) ((g51 1).2.2.1) (t28.f_stack++[lget t2 i12]),cellsE b27 (Cd.cs c_api_Entry (lget t2 i12)) 66,rowE c_api_Entry 66 p3 c4 t2]) | 3=>(Wd w [cellsE ((g51 0).1) (c_api_Entry.all ([lget t2 i12]:List S_api_Entry)) 66,cellsE b35 (Cd.cs c_api_Addr t34.1) 24,cellsE b1 (Cd.cs c_flat_row (((p29,c30),(((g51 1).2.1),((g51 1).2.2.1))),{ t28 with f_stack:=t28.f_stack++[lget t2 i12] })) 84,rowE c_flat_Span 60 p29 c30 t28.f_l,rowE c_api_Entry 66 ((g51 1).2.1) ((g51 1).2.2.1) (t28.f_stack++[lget t2 i12]),cellsE b27 (Cd.cs c_api_Entry (lget t2 i12)) 66,rowE c_api_Entry 66 p3 c4 t2]) | 4=>(Wd w [cellsE ((g51 0).1) (c_api_Entry.all ([lget t2 i12]:List S_api_Entry)) 66,cellsE b35 (Cd.cs c_api_Addr t34.1) 24,cellsE b1 (Cd.cs c_flat_row (((p29,c30),(((g51 1).2.1),((g51 1).2.2.1))),{ { t28 with f_stack:=t28.f_stack++[lget t2 i12] } with f_at:=((lget t2 i12).f_P).f_A })) 84,rowE c_flat_Span 60 p29 c30 t28.f_l,rowE c_api_Entry 66 ((g51 1).2.1) ((g51 1).2.2.1) (t28.f_stack++[lget t2 i12]),cellsE b27 (Cd.cs c_api_Entry (lget t2 i12)) 66,rowE c_api_Entry 66 p3 c4 t2]) | _=>(Wd w [cellsE ((g51 0).1) (c_api_Entry.all ([lget t2 i12]:List S_api_Entry)) 66,cellsE b35 (Cd.cs c_api_Addr t34.1) 24,cellsE b1 (Cd.cs c_flat_row (((p29,c30),(((g51 1).2.1),((g51 1).2.2.1))),{ { { t28 with f_stack:=t28.f_stack++[lget t2 i12] } with f_at:=((lget t2 i12).f_P).f_A } with f_done:=false })) 84,rowE c_flat_Span 60 p29 c30 t28.f_l,rowE c_api_Entry 66 ((g51 1).2.1) ((g51 1).2.2.1) (t28.f_stack++[lget t2 i12]),cellsE b27 (Cd.cs c_api_Entry (lget t2 i12)) 66,rowE c_api_Entry 66 p3 c4 t2])) 5 (by kernel_rfl) (by kernel_rfl) (by kernel_rfl) (by kernel_rfl) (by kernel_rfl) ⟨fun _ _ _=>rfl,fun _ _ _=>rfl,fun _ _ _=>rfl,fun _ _ _=>rfl,fun _ _ _=>rfl,fun _ _ _=>rfl,fun _ _ _=>rfl,fun _ _ _=>rfl,fun g51 g2 h=>by show (.slice (some ⟨((g51 0).1),0,none⟩) ([lget t2 i12]:List S_api_Entry).length 1:Value)=.slice (some ⟨((g2 0).1),0,none⟩) ([lget t2 i12]:List S_api_Entry).length 1;rw [h 0 (show 0<1 by decide)],fun g51 g2 h=>by show (.slice ((g51 1).2.1) (t28.f_stack++[lget t2 i12]).length ((g51 1).2.2.1):Value)=.slice ((g2 1).2.1) (t28.f_stack++[lget t2 i12]).length ((g2 1).2.2.1);rw [h 1 (show 1<2 by decide)],fun _ _ _=>rfl,fun _ _ _=>rfl,fun _ _ _=>rfl,fun _ _ _=>rfl,fun _ _ _=>rfl,fun _ _ _=>rfl,fun _ _ _=>rfl,fun _ _ _=>rfl,fun _ _ _=>rfl,fun _ _ _=>rfl,fun _ _ _=>rfl,fun _ _ _=>rfl,trivial⟩ (by kernel_rfl) (fun w_ h=>⟨fun _=>g3 0 none 0 none w_,h.drew⟩) ⟨?_,?_,?_,?_,?_,?_,?_,?_,?_,?_,?_,?_,?_,?_,?_,?_,?_,?_,?_,?_,?_,?_,trivial⟩ ?_
     ·intro Lx g51 s K hl hh k
      show At 62 ((3,_)::(5,_)::(11,_)::(12,_)::(13,_)::Lx) _ _
      refine am ?_
      exact at_nil k
     ·intro Lx g51 s K hl hh k
      show At 62 ((3,_)::(5,_)::(11,_)::(12,_)::(13,_)::Lx) _ _
      refine am ?_
      exact at_nil k
     ·intro Lx g51 s K hl hh k
      show At 62 ((3,_)::(5,_)::(11,_)::(12,_)::(13,_)::Lx) _ _
      refine am ?_
      exact at_nil k
     ·intro Lx g51 s K hl hh k
      show At 62 ((3,_)::(5,_)::(11,_)::(12,_)::(13,_)::Lx) _ _
      refine am ?_
      exact at_nil k
     ·intro Lx g51 s K hl hh k
      show At 62 ((39,_)::(3,_)::(5,_)::(11,_)::(12,_)::(13,_)::Lx) _ _
      refine aw (r_nilCheck rfl) ?_
      exact at_nil k
     ·intro Lx g51 s K hl hh k
      show At 62 ((40,_)::(3,_)::(5,_)::(11,_)::(12,_)::(13,_)::Lx) _ _
      refine fa 1 underlying84 rfl sizeOf54 ?_
      exact at_nil k
     ·intro Lx g51 s K hl hh k
      show At 62 ((41,_)::(3,_)::(5,_)::(11,_)::(12,_)::(13,_)::Lx) _ _
      rcases (by omega:s=0∨s=1) with rfl | rfl
      ·skip
       refine aw (r_load_cell isAgg54 rfl (lens_cell0 (c:=cHd) (y:=⟨(((p29,c30),(p31,c32)).2).1,List.length t28.f_stack,(((p29,c30),(p31,c32)).2).2⟩) (.s .z) (c_flat_row_f_stack ((p29,c30),(p31,c32)) t28) rfl)) ?_
       exact at_nil k
      skip
      refine aw (r_load_cell isAgg54 rfl (lens_cell0 (c:=cHd) (y:=⟨(((p29,c30),(p31,c32)).2).1,List.length t28.f_stack,(((p29,c30),(p31,c32)).2).2⟩) (.s (.s .z)) (c_flat_row_f_stack ((p29,c30),(p31,c32)) t28) rfl)) ?_
      exact at_nil k
     ·intro Lx g51 s K hl hh k
      show At 62 ((3,_)::(5,_)::(11,_)::(12,_)::(13,_)::Lx) _ _
      obtain rfl:s=0:=by omega
      refine aw (r_load_aggc (c:=c_api_Entry) (z:=lget t2 i12) isAgg66 sizeOf66 rfl (lens_cell (.s (.s (.s (.s .z)))) lw)) ?_
      exact at_nil k
     ·intro Lx g51 K k
      show At 62 ((43,_)::(3,_)::(5,_)::(11,_)::(12,_)::(13,_)::Lx) _ _
      refine at_litL (c:=c_api_Entry) ([zv8]:List S_api_Entry) ([lget t2 i12]:List S_api_Entry) underlying54 sizeOf66 zeroValue66 rfl rfl rfl (by kernel_rfl) (fill_step (c:=c_api_Entry) (z:=lget t2 i12) rfl (Lens.all c_api_Entry ([zv8]:List S_api_Entry) 0 (by first | decide | exact Nat.le_of_ble_eq_true rfl)) rfl rfl) rfl ?_
      intro b47
      exact at_nil (k (g3 b47 none 0 none w))
     ·intro Lx g51 K k
      show At 62 ((42,_)::(44,_)::(3,_)::(5,_)::(11,_)::(12,_)::(13,_)::Lx) _ _
      refine at_append (z:=.agg (Cd.cs c_api_Entry zv8).toArray) (c:=c_api_Entry) (ys:=([lget t2 i12]:List S_api_Entry)) (.s (.s (.s (.s .z)))) underlying54 infoF866 (by kernel_rfl) (by kernel_rfl) rfl rfl rfl rfl (fun _ hw=>cells_src (hw.ok (Upd.mem .z))) (by kernel_rfl) h48 (app_small h48) rfl ?_
      intro p49 c50
      exact at_nil (k (g3 0 p49 c50 none w))
     ·intro Lx g51 s K hl hh k
      show At 62 ((3,_)::(5,_)::(11,_)::(12,_)::(13,_)::Lx) _ _
      refine fa 0 underlying66 rfl sizeOf37 ?_
      exact at_nil k
     ·intro Lx g51 s K hl hh k
      show At 62 ((46,_)::(3,_)::(5,_)::(11,_)::(12,_)::(13,_)::Lx) _ _
      refine fa 0 underlying37 rfl sizeOf24 ?_
      exact at_nil k
     ·intro Lx g51 s K hl hh k
      show At 62 ((47,_)::(3,_)::(5,_)::(11,_)::(12,_)::(13,_)::Lx) _ _
      rcases (by omega:s=0∨s=1∨s=2) with rfl | rfl | rfl
      ·skip
       refine aw (r_load_aggc (c:=c_api_Addr) (z:=((lget t2 i12).f_P).f_A) isAgg24 sizeOf24 rfl (lens_cell (.s (.s (.s (.s .z)))) (Lens.comp (Lens.comp lw (fun z=>{ lget t2 i12 with f_P:=z }) (c_api_Entry_f_P (lget t2 i12))) (fun z=>{ (lget t2 i12).f_P with f_A:=z }) (c_api_Prefix_f_A ((lget t2 i12).f_P))))) ?_
       exact at_nil k
      ·skip
       refine aw (r_load_aggc (c:=c_api_Addr) (z:=((lget t2 i12).f_P).f_A) isAgg24 sizeOf24 rfl (lens_cell (.s (.s (.s (.s (.s .z))))) (Lens.comp (Lens.comp lw (fun z=>{ lget t2 i12 with f_P:=z }) (c_api_Entry_f_P (lget t2 i12))) (fun z=>{ (lget t2 i12).f_P with f_A:=z }) (c_api_Prefix_f_A ((lget t2 i12).f_P))))) ?_
       exact at_nil k
      skip
      refine aw (r_load_aggc (c:=c_api_Addr) (z:=((lget t2 i12).f_P).f_A) isAgg24 sizeOf24 rfl (lens_cell (.s (.s (.s (.s (.s .z))))) (Lens.comp (Lens.comp lw (fun z=>{ lget t2 i12 with f_P:=z }) (c_api_Entry_f_P (lget t2 i12))) (fun z=>{ (lget t2 i12).f_P with f_A:=z }) (c_api_Prefix_f_A ((lget t2 i12).f_P))))) ?_
      exact at_nil k
     ·intro Lx g51 s K hl hh k
      show At 62 ((36,_)::(3,_)::(5,_)::(11,_)::(12,_)::(13,_)::Lx) _ _
      refine aw (r_nilCheck rfl) ?_
      exact at_nil k
     ·intro Lx g51 s K hl hh k
      show At 62 ((49,_)::(3,_)::(5,_)::(11,_)::(12,_)::(13,_)::Lx) _ _
      refine fa 1 underlying84 rfl sizeOf54 ?_
      exact at_nil k
     ·intro Lx g51 K k
      show At 62 ((45,_)::(50,_)::(3,_)::(5,_)::(11,_)::(12,_)::(13,_)::Lx) _ _
      refine at_store (c:=cSv S_api_Entry) (z:=((((g51 1).2.1),((g51 1).2.2.1)),t28.f_stack++[lget t2 i12])) (.s (.s .z)) (c_flat_row_f_stack_sv ((p29,c30),(p31,c32)) t28) sizeOf54 rfl rfl rfl ?_
      exact at_nil k
     ·intro Lx g51 s K hl hh k
      show At 62 ((37,_)::(3,_)::(5,_)::(11,_)::(12,_)::(13,_)::Lx) _ _
      refine aw (r_nilCheck rfl) ?_
      exact at_nil k
     ·intro Lx g51 s K hl hh k
      show At 62 ((51,_)::(3,_)::(5,_)::(11,_)::(12,_)::(13,_)::Lx) _ _
      refine fa 2 underlying84 rfl sizeOf24 ?_
      exact at_nil k
     ·intro Lx g51 K k
      show At 62 ((48,_)::(52,_)::(3,_)::(5,_)::(11,_)::(12,_)::(13,_)::Lx) _ _
      refine at_store (c:=c_api_Addr) (z:=((lget t2 i12).f_P).f_A) (.s (.s .z)) (c_flat_row_f_at ((p29,c30),(((g51 1).2.1),((g51 1).2.2.1))) ({ t28 with f_stack:=t28.f_stack++[lget t2 i12] })) sizeOf24 rfl rfl rfl ?_
      exact at_nil k
     ·intro Lx g51 s K hl hh k
      show At 62 ((38,_)::(3,_)::(5,_)::(11,_)::(12,_)::(13,_)::Lx) _ _
      refine aw (r_nilCheck rfl) ?_
      exact at_nil k
     ·intro Lx g51 s K hl hh k
      show At 62 ((53,_)::(3,_)::(5,_)::(11,_)::(12,_)::(13,_)::Lx) _ _
      refine fa 19 underlying84 rfl sizeOf4 ?_
      exact at_nil k
     ·intro Lx g51 K k
      show At 62 ((54,_)::(3,_)::(5,_)::(11,_)::(12,_)::(13,_)::Lx) _ _
      refine at_store (c:=cBool) (z:=false) (.s (.s .z)) (c_flat_row_f_done ((p29,c30),(((g51 1).2.1),((g51 1).2.2.1))) ({ { t28 with f_stack:=t28.f_stack++[lget t2 i12] } with f_at:=((lget t2 i12).f_P).f_A })) sizeOf4 rfl rfl rfl ?_
      exact at_nil k
     intro g51
     show At 62 [(36,_),(37,_),(38,_),(39,_),(40,_),(41,_),(42,_),(43,_),(44,_),(45,_),(46,_),(47,_),(48,_),(49,_),(50,_),(51,_),(52,_),(53,_),(54,_),(3,_),(5,_),(11,_),(12,_),(13,_)] _ _
     refine dz (dz ?_)
     refine at_drop (H:=_) (.s (.s (.s .z))) ?_
     refine wq [13,12,11,3] ?_
     refine bm ?_
     refine qr (aw xa (am (nwq [13,12,11,3] ?_)))
     refine at_front (.s (.s .z)) ?_
     refine at_front (.s (.s .z)) ?_
     refine at_front (.s (.s .z)) ?_
     refine at_front (.s (.s (.s .z))) ?_
     exact at_weak_k (ih _ _ _ hF K p29 c30 (g51 1).2.1 (g51 1).2.2.1) ⟨rfl,rfl,rfl,rfl,trivial⟩
    refine cf h33 ?_
    refine sn (wq [13,12,11,5,3] ?_)
    obtain ⟨h53,hF⟩:=gd hF
    refine at_inv [.q 36 (fun g56=>.pointer (some ⟨b1,0,none⟩)) [] 0 2,.q 37 (fun g56=>.pointer (some ⟨b1,0,none⟩)) [] 0 3,.q 38 (fun g56=>.pointer (some ⟨b1,0,none⟩)) [] 0 4,.q 39 (fun g56=>.pointer (some ⟨b1,0,none⟩)) [] 0 1,.q 40 (fun g56=>.pointer (some ⟨b1,0,none⟩)) [3] 0 1,.q 41 (fun g56=>.pointer (some ⟨b1,0+1,none⟩)) [4] 0 1,.q 42 (fun g56=>.slice p31 t28.f_stack.length c32) [5] 0 1,.q 43 (fun g56=>.agg (Cd.cs c_api_Entry (lget t2 i12)).toArray) [] 0 0,.al 0 44 (fun g56=>.slice (some ⟨((g56 0).1),0,none⟩) ([lget t2 i12]:List S_api_Entry).length 1) [7],.al 1 45 (fun g56=>.slice ((g56 1).2.1) (t28.f_stack++[lget t2 i12]).length ((g56 1).2.2.1)) [6,8],.q 46 (fun g56=>.pointer (some ⟨b27,0+0,none⟩)) [] 0 2,.q 47 (fun g56=>.pointer (some ⟨b27,0+0+0,none⟩)) [10] 0 2,.q 48 (fun g56=>.agg (Cd.cs c_api_Addr (((lget t2 i12).f_P).f_A)).toArray) [11] 0 2,.q 49 (fun g56=>.pointer (some ⟨b1,0,none⟩)) [0] 2 2,.q 50 (fun g56=>.pointer (some ⟨b1,0+1,none⟩)) [13] 2 2,.st 2 none [9,14],.q 51 (fun g56=>.pointer (some ⟨b1,0,none⟩)) [1] 3 3,.q 52 (fun g56=>.pointer (some ⟨b1,0+2,none⟩)) [16] 3 3,.st 3 none [12,17],.q 53 (fun g56=>.pointer (some ⟨b1,0,none⟩)) [2] 4 4,.q 54 (fun g56=>.pointer (some ⟨b1,0+19,none⟩)) [19] 4 4,.st 4 none [20]] (fun g56 s=>match s with | 0=>(Wd w [cellsE b1 (Cd.cs c_flat_row (((p29,c30),(p31,c32)),t28)) 84,rowE c_flat_Span 60 p29 c30 t28.f_l,rowE c_api_Entry 66 p31 c32 t28.f_stack,cellsE b27 (Cd.cs c_api_Entry (lget t2 i12)) 66,rowE c_api_Entry 66 p3 c4 t2]) | 1=>(Wd w [cellsE ((g56 0).1) (c_api_Entry.all ([lget t2 i12]:List S_api_Entry)) 66,cellsE b1 (Cd.cs c_flat_row (((p29,c30),(p31,c32)),t28)) 84,rowE c_flat_Span 60 p29 c30 t28.f_l,rowE c_api_Entry 66 p31 c32 t28.f_stack,cellsE b27 (Cd.cs c_api_Entry (lget t2 i12)) 66,rowE c_api_Entry 66 p3 c4 t2]) | 2=>(Wd w [cellsE ((g56 0).1) (c_api_Entry.all ([lget t2 i12]:List S_api_Entry)) 66,cellsE b1 (Cd.cs c_flat_row (((p29,c30),(p31,c32)),t28)) 84,rowE c_flat_Span 60 p29 c30 t28.f_l,rowE c_api_Entry 66 ((g56 1).2.1) ((g56 1).2.2.1) (t28.f_stack++[lget t2 i12]),cellsE b27 (Cd.cs c_api_Entry (lget t2 i12)) 66,rowE c_api_Entry 66 p3 c4 t2]) | 3=>(Wd w [cellsE ((g56 0).1) (c_api_Entry.all ([lget t2 i12]:List S_api_Entry)) 66,cellsE b1 (Cd.cs c_flat_row (((p29,c30),(((g56 1).2.1),((g56 1).2.2.1))),{ t28 with f_stack:=t28.f_stack++[lget t2 i12] })) 84,rowE c_flat_Span 60 p29 c30 t28.f_l,rowE c_api_Entry 66 ((g56 1).2.1) ((g56 1).2.2.1) (t28.f_stack++[lget t2 i12]),cellsE b27 (Cd.cs c_api_Entry (lget t2 i12)) 66,rowE c_api_Entry 66 p3 c4 t2]) | 4=>(Wd w [cellsE ((g56 0).1) (c_api_Entry.all ([lget t2 i12]:List S_api_Entry)) 66,cellsE b1 (Cd.cs c_flat_row (((p29,c30),(((g56 1).2.1),((g56 1).2.2.1))),{ { t28 with f_stack:=t28.f_stack++[lget t2 i12] } with f_at:=((lget t2 i12).f_P).f_A })) 84,rowE c_flat_Span 60 p29 c30 t28.f_l,rowE c_api_Entry 66 ((g56 1).2.1) ((g56 1).2.2.1) (t28.f_stack++[lget t2 i12]),cellsE b27 (Cd.cs c_api_Entry (lget t2 i12)) 66,rowE c_api_Entry 66 p3 c4 t2]) | _=>(Wd w [cellsE ((g56 0).1) (c_api_Entry.all ([lget t2 i12]:List S_api_Entry)) 66,cellsE b1 (Cd.cs c_flat_row (((p29,c30),(((g56 1).2.1),((g56 1).2.2.1))),{ { { t28 with f_stack:=t28.f_stack++[lget t2 i12] } with f_at:=((lget t2 i12).f_P).f_A } with f_done:=false })) 84,rowE c_flat_Span 60 p29 c30 t28.f_l,rowE c_api_Entry 66 ((g56 1).2.1) ((g56 1).2.2.1) (t28.f_stack++[lget t2 i12]),cellsE b27 (Cd.cs c_api_Entry (lget t2 i12)) 66,rowE c_api_Entry 66 p3 c4 t2])) 5 (by kernel_rfl) (by kernel_rfl) (by kernel_rfl) (by kernel_rfl) (by kernel_rfl) ⟨fun _ _ _=>rfl,fun _ _ _=>rfl,fun _ _ _=>rfl,fun _ _ _=>rfl,fun _ _ _=>rfl,fun _ _ _=>rfl,fun _ _ _=>rfl,fun _ _ _=>rfl,fun g56 g2 h=>by show (.slice (some ⟨((g56 0).1),0,none⟩) ([lget t2 i12]:List S_api_Entry).length 1:Value)=.slice (some ⟨((g2 0).1),0,none⟩) ([lget t2 i12]:List S_api_Entry).length 1;rw [h 0 (show 0<1 by decide)],fun g56 g2 h=>by show (.slice ((g56 1).2.1) (t28.f_stack++[lget t2 i12]).length ((g56 1).2.2.1):Value)=.slice ((g2 1).2.1) (t28.f_stack++[lget t2 i12]).length ((g2 1).2.2.1);rw [h 1 (show 1<2 by decide)],fun _ _ _=>rfl,fun _ _ _=>rfl,fun _ _ _=>rfl,fun _ _ _=>rfl,fun _ _ _=>rfl,fun _ _ _=>rfl,fun _ _ _=>rfl,fun _ _ _=>rfl,fun _ _ _=>rfl,fun _ _ _=>rfl,fun _ _ _=>rfl,fun _ _ _=>rfl,trivial⟩ (by kernel_rfl) (fun w_ h=>⟨fun _=>g3 0 none 0 none w_,h.drew⟩) ⟨?_,?_,?_,?_,?_,?_,?_,?_,?_,?_,?_,?_,?_,?_,?_,?_,?_,?_,?_,?_,?_,?_,trivial⟩ ?_
    ·intro Lx g56 s K hl hh k
     show At 62 ((3,_)::(5,_)::(11,_)::(12,_)::(13,_)::Lx) _ _
     refine am ?_
     exact at_nil k
    ·intro Lx g56 s K hl hh k
     show At 62 ((3,_)::(5,_)::(11,_)::(12,_)::(13,_)::Lx) _ _
     refine am ?_
     exact at_nil k
    ·intro Lx g56 s K hl hh k
     show At 62 ((3,_)::(5,_)::(11,_)::(12,_)::(13,_)::Lx) _ _
     refine am ?_
     exact at_nil k
    ·intro Lx g56 s K hl hh k
     show At 62 ((3,_)::(5,_)::(11,_)::(12,_)::(13,_)::Lx) _ _
     refine am ?_
     exact at_nil k
    ·intro Lx g56 s K hl hh k
     show At 62 ((39,_)::(3,_)::(5,_)::(11,_)::(12,_)::(13,_)::Lx) _ _
     refine aw (r_nilCheck rfl) ?_
     exact at_nil k
    ·intro Lx g56 s K hl hh k
     show At 62 ((40,_)::(3,_)::(5,_)::(11,_)::(12,_)::(13,_)::Lx) _ _
     refine fa 1 underlying84 rfl sizeOf54 ?_
     exact at_nil k
    ·intro Lx g56 s K hl hh k
     show At 62 ((41,_)::(3,_)::(5,_)::(11,_)::(12,_)::(13,_)::Lx) _ _
     rcases (by omega:s=0∨s=1) with rfl | rfl
     ·skip
      refine aw (r_load_cell isAgg54 rfl (lens_cell0 (c:=cHd) (y:=⟨(((p29,c30),(p31,c32)).2).1,List.length t28.f_stack,(((p29,c30),(p31,c32)).2).2⟩) .z (c_flat_row_f_stack ((p29,c30),(p31,c32)) t28) rfl)) ?_
      exact at_nil k
     skip
     refine aw (r_load_cell isAgg54 rfl (lens_cell0 (c:=cHd) (y:=⟨(((p29,c30),(p31,c32)).2).1,List.length t28.f_stack,(((p29,c30),(p31,c32)).2).2⟩) (.s .z) (c_flat_row_f_stack ((p29,c30),(p31,c32)) t28) rfl)) ?_
     exact at_nil k
    ·intro Lx g56 s K hl hh k
     show At 62 ((3,_)::(5,_)::(11,_)::(12,_)::(13,_)::Lx) _ _
     obtain rfl:s=0:=by omega
     refine aw (r_load_aggc (c:=c_api_Entry) (z:=lget t2 i12) isAgg66 sizeOf66 rfl (lens_cell (.s (.s (.s .z))) lw)) ?_
     exact at_nil k
    ·intro Lx g56 K k
     show At 62 ((43,_)::(3,_)::(5,_)::(11,_)::(12,_)::(13,_)::Lx) _ _
     refine at_litL (c:=c_api_Entry) ([zv8]:List S_api_Entry) ([lget t2 i12]:List S_api_Entry) underlying54 sizeOf66 zeroValue66 rfl rfl rfl (by kernel_rfl) (fill_step (c:=c_api_Entry) (z:=lget t2 i12) rfl (Lens.all c_api_Entry ([zv8]:List S_api_Entry) 0 (by first | decide | exact Nat.le_of_ble_eq_true rfl)) rfl rfl) rfl ?_
     intro b52
     exact at_nil (k (g3 b52 none 0 none w))
    ·intro Lx g56 K k
     show At 62 ((42,_)::(44,_)::(3,_)::(5,_)::(11,_)::(12,_)::(13,_)::Lx) _ _
     refine at_append (z:=.agg (Cd.cs c_api_Entry zv8).toArray) (c:=c_api_Entry) (ys:=([lget t2 i12]:List S_api_Entry)) (.s (.s (.s .z))) underlying54 infoF866 (by kernel_rfl) (by kernel_rfl) rfl rfl rfl rfl (fun _ hw=>cells_src (hw.ok (Upd.mem .z))) (by kernel_rfl) h53 (app_small h53) rfl ?_
     intro p54 c55
     exact at_nil (k (g3 0 p54 c55 none w))
    ·intro Lx g56 s K hl hh k
     show At 62 ((3,_)::(5,_)::(11,_)::(12,_)::(13,_)::Lx) _ _
     refine fa 0 underlying66 rfl sizeOf37 ?_
     exact at_nil k
    ·intro Lx g56 s K hl hh k
     show At 62 ((46,_)::(3,_)::(5,_)::(11,_)::(12,_)::(13,_)::Lx) _ _
     refine fa 0 underlying37 rfl sizeOf24 ?_
     exact at_nil k
    ·intro Lx g56 s K hl hh k
     show At 62 ((47,_)::(3,_)::(5,_)::(11,_)::(12,_)::(13,_)::Lx) _ _
     rcases (by omega:s=0∨s=1∨s=2) with rfl | rfl | rfl
     ·skip
      refine aw (r_load_aggc (c:=c_api_Addr) (z:=((lget t2 i12).f_P).f_A) isAgg24 sizeOf24 rfl (lens_cell (.s (.s (.s .z))) (Lens.comp (Lens.comp lw (fun z=>{ lget t2 i12 with f_P:=z }) (c_api_Entry_f_P (lget t2 i12))) (fun z=>{ (lget t2 i12).f_P with f_A:=z }) (c_api_Prefix_f_A ((lget t2 i12).f_P))))) ?_
      exact at_nil k
     ·skip
      refine aw (r_load_aggc (c:=c_api_Addr) (z:=((lget t2 i12).f_P).f_A) isAgg24 sizeOf24 rfl (lens_cell (.s (.s (.s (.s .z)))) (Lens.comp (Lens.comp lw (fun z=>{ lget t2 i12 with f_P:=z }) (c_api_Entry_f_P (lget t2 i12))) (fun z=>{ (lget t2 i12).f_P with f_A:=z }) (c_api_Prefix_f_A ((lget t2 i12).f_P))))) ?_
      exact at_nil k
     skip
     refine aw (r_load_aggc (c:=c_api_Addr) (z:=((lget t2 i12).f_P).f_A) isAgg24 sizeOf24 rfl (lens_cell (.s (.s (.s (.s .z)))) (Lens.comp (Lens.comp lw (fun z=>{ lget t2 i12 with f_P:=z }) (c_api_Entry_f_P (lget t2 i12))) (fun z=>{ (lget t2 i12).f_P with f_A:=z }) (c_api_Prefix_f_A ((lget t2 i12).f_P))))) ?_
     exact at_nil k
    ·intro Lx g56 s K hl hh k
     show At 62 ((36,_)::(3,_)::(5,_)::(11,_)::(12,_)::(13,_)::Lx) _ _
     refine aw (r_nilCheck rfl) ?_
     exact at_nil k
    ·intro Lx g56 s K hl hh k
     show At 62 ((49,_)::(3,_)::(5,_)::(11,_)::(12,_)::(13,_)::Lx) _ _
     refine fa 1 underlying84 rfl sizeOf54 ?_
     exact at_nil k
    ·intro Lx g56 K k
     show At 62 ((45,_)::(50,_)::(3,_)::(5,_)::(11,_)::(12,_)::(13,_)::Lx) _ _
     refine at_store (c:=cSv S_api_Entry) (z:=((((g56 1).2.1),((g56 1).2.2.1)),t28.f_stack++[lget t2 i12])) (.s .z) (c_flat_row_f_stack_sv ((p29,c30),(p31,c32)) t28) sizeOf54 rfl rfl rfl ?_
     exact at_nil k
    ·intro Lx g56 s K hl hh k
     show At 62 ((37,_)::(3,_)::(5,_)::(11,_)::(12,_)::(13,_)::Lx) _ _
     refine aw (r_nilCheck rfl) ?_
     exact at_nil k
    ·intro Lx g56 s K hl hh k
     show At 62 ((51,_)::(3,_)::(5,_)::(11,_)::(12,_)::(13,_)::Lx) _ _
     refine fa 2 underlying84 rfl sizeOf24 ?_
     exact at_nil k
    ·intro Lx g56 K k
     show At 62 ((48,_)::(52,_)::(3,_)::(5,_)::(11,_)::(12,_)::(13,_)::Lx) _ _
     refine at_store (c:=c_api_Addr) (z:=((lget t2 i12).f_P).f_A) (.s .z) (c_flat_row_f_at ((p29,c30),(((g56 1).2.1),((g56 1).2.2.1))) ({ t28 with f_stack:=t28.f_stack++[lget t2 i12] })) sizeOf24 rfl rfl rfl ?_
     exact at_nil k
    ·intro Lx g56 s K hl hh k
     show At 62 ((38,_)::(3,_)::(5,_)::(11,_)::(12,_)::(13,_)::Lx) _ _
     refine aw (r_nilCheck rfl) ?_
     exact at_nil k
    ·intro Lx g56 s K hl hh k
     show At 62 ((53,_)::(3,_)::(5,_)::(11,_)::(12,_)::(13,_)::Lx) _ _
     refine fa 19 underlying84 rfl sizeOf4 ?_
     exact at_nil k
    ·intro Lx g56 K k
     show At 62 ((54,_)::(3,_)::(5,_)::(11,_)::(12,_)::(13,_)::Lx) _ _
     refine at_store (c:=cBool) (z:=false) (.s .z) (c_flat_row_f_done ((p29,c30),(((g56 1).2.1),((g56 1).2.2.1))) ({ { t28 with f_stack:=t28.f_stack++[lget t2 i12] } with f_at:=((lget t2 i12).f_P).f_A })) sizeOf4 rfl rfl rfl ?_
     exact at_nil k
    intro g56
    show At 62 [(36,_),(37,_),(38,_),(39,_),(40,_),(41,_),(42,_),(43,_),(44,_),(45,_),(46,_),(47,_),(48,_),(49,_),(50,_),(51,_),(52,_),(53,_),(54,_),(3,_),(5,_),(11,_),(12,_),(13,_)] _ _
    refine dz ?_
    refine at_drop (H:=_) (.s (.s (.s .z))) ?_
    refine wq [13,12,11,3] ?_
    refine bm ?_
    refine qr (aw xa (am (nwq [13,12,11,3] ?_)))
    refine at_front (.s (.s .z)) ?_
    refine at_front (.s (.s .z)) ?_
    refine at_front (.s (.s .z)) ?_
    refine at_front (.s (.s (.s .z))) ?_
    exact at_weak_k (ih _ _ _ hF K p29 c30 (g56 1).2.1 (g56 1).2.2.1) ⟨rfl,rfl,rfl,rfl,trivial⟩
   refine cf h22 ?_
   refine at_exit ?_
   refine te (te ?_)
   refine dz ?_
   obtain rfl:=os hF
   exact at_weak_k (K p14 c15 p16 c17) ⟨rfl,trivial⟩
 skip
 intro p18 c19 p20 c21
 refine at_blk_same ?_
 refine tn (sr (am ?_))
 obtain ⟨t57,ht57,hF⟩:=bM hF
 refine at_callX (γ:=G_flat_row) (V:=fun z=>.tuple #[]) (T:=fun z=>[cellsE b1 (Cd.cs c_flat_row (z,t57)) 84,rowE c_flat_Span 60 z.1.1 z.1.2 t57.f_l,rowE c_api_Entry 66 z.2.1 z.2.2 t57.f_stack]) func54 rfl (by kernel_rfl) rfl rfl (fun w hw=>flat_row_close__nil1_ok ht57 hw) ?_
 rintro ⟨⟨p58,c59⟩,⟨p60,c61⟩⟩
 refine ns (am ?_)
 refine aw (r_nilCheck rfl) ?_
 refine fa 0 underlying84 rfl sizeOf55 ?_
 refine aw (r_load_cell isAgg55 rfl (lens_cell0 (c:=cHd) (y:=⟨(((p58,c59),(p60,c61)).1).1,List.length t57.f_l,(((p58,c59),(p60,c61)).1).2⟩) .z (c_flat_row_f_l ((p58,c59),(p60,c61)) t57) rfl)) ?_
 refine aa (qn (dz ?_))
 refine at_drop (H:=_) (.s .z) ?_
 refine wq [2] ?_
 refine tn (qt ?_)
 have K:=os hF
 subst K
 exact r1 (fun w1 hw=>⟨p58,c59,rfl,hw.own .z,hw.below⟩)
end Go.Proofs.Ytahlbjmafceoeaa
namespace Go.Proofs.Ytahlbjmafceoeaa.Agg
open E Go.RowKit Adr Cid
abbrev En:=Tr×Int
def en(e:En):S_api_Entry:={ f_P:=pf e.1,f_Owner:=e.2 }
theorem allE{O:List S_api_Entry}(h:Sorted O):∃ T:List En,(∀ e∈T,Good e.1)∧O=T.map en∧(T.map Prod.fst).Nodup:=by
 have key:∀ O:List S_api_Entry,(∀ x∈O,IsE x)→∃ T:List En,(∀ e∈T,Good e.1)∧O=T.map en:=by
  intro O h
  induction O with
  | nil=>exact ⟨[],fun e h=>(by cases h),rfl⟩
  | cons x O ih =>
   obtain ⟨t,ht,e⟩:=h x (List.mem_cons_self ..)
   obtain ⟨T,h1,h2⟩:=ih fun y hy=>h y (List.mem_cons_of_mem _ hy)
   refine ⟨(t,x.f_Owner)::T,fun u hu=>?_,?_⟩
   ·rcases List.mem_cons.1 hu with rfl | hu
    ·exact ht
    ·exact h1 u hu
   ·rw [List.map_cons,←h2]
    congr 1
    unfold en
    rw [←e]
 obtain ⟨T,h1,h2⟩:=key O h.is
 refine ⟨T,h1,h2,?_⟩
 have hn:=h.nd
 rw [h2,List.map_map] at hn
 have e:S_api_Entry.f_P∘en=pf∘Prod.fst:=rfl
 rw [e,←List.map_map] at hn
 have inj:∀ L:List Tr,(L.map pf).Nodup→L.Nodup:=by
  intro L hL
  induction L with
  | nil=>exact List.nodup_nil
  | cons t L ih =>
   rw [List.map_cons] at hL
   obtain ⟨a,b⟩:=List.nodup_cons.1 hL
   exact List.nodup_cons.2 ⟨fun ht=>a (List.mem_map.2 ⟨t,ht,rfl⟩),ih b⟩
 exact inj _ hn
theorem fst_on{T:List En}(h:(T.map Prod.fst).Nodup){x y:En}(hx:x∈T)(hy:y∈T)(e:x.1=y.1):x=y:=nodup_on h x hx y hy e
def bitsOf(e:En):Nat:=wd e.1.1-e.1.2.2
def better(x:En):Option En→Bool
 | none=>true
 | some y=>decide (bitsOf x>bitsOf y)
def stepB(p:En→Bool)(b:Option En)(x:En):Option En:=if p x=true then (if better x b=true then some x else b) else b
def best(p:En→Bool)(T:List En):Option En:=T.foldl (stepB p) none
theorem stepB_no{p:En→Bool}{b:Option En}{x:En}(h:p x=false):stepB p b x=b:=by unfold stepB;rw [h];rfl
theorem stepB_none{p:En→Bool}{x:En}(h:p x=true):stepB p none x=some x:=by unfold stepB;rw [h];rfl
theorem stepB_gt{p:En→Bool}{x y:En}(h:p x=true)(hb:bitsOf x>bitsOf y):stepB p (some y) x=some x:=by
 unfold stepB
 rw [h,if_pos rfl]
 show (if decide (bitsOf x>bitsOf y)=true then some x else some y)=_
 rw [decide_eq_true hb,if_pos rfl]
theorem stepB_le{p:En→Bool}{x y:En}(h:p x=true)(hb:¬ bitsOf x>bitsOf y):stepB p (some y) x=some y:=by
 unfold stepB
 rw [h,if_pos rfl]
 show (if decide (bitsOf x>bitsOf y)=true then some x else some y)=_
 rw [decide_eq_false hb,if_neg Bool.false_ne_true]
theorem fold_best(p:En→Bool):∀ (T:List En) (b:Option En),(T.foldl (stepB p) b=none↔b=none∧∀ x∈T,p x=false)∧∀ m,T.foldl (stepB p) b=some m→(b=some m∨(m∈T∧p m=true))∧(∀ y,b=some y→bitsOf y≤bitsOf m)∧∀ x∈T,p x=true→bitsOf x≤bitsOf m
 | [],b=>⟨by simp,fun m h=>⟨.inl h,fun y hy=>by rw [List.foldl_nil] at h;rw [h] at hy;cases hy;exact Nat.le_refl _,fun x hx=>by cases hx⟩⟩
 | x::T,b=>by
  obtain ⟨h1,h2⟩:=fold_best p T (stepB p b x)
  rw [List.foldl_cons]
  cases hp:p x with
  | false =>
   have e:stepB p b x=b:=by unfold stepB;rw [hp];rfl
   rw [e] at h1 h2 ⊢
   refine ⟨?_,fun m hm=>?_⟩
   ·rw [h1]
    constructor
    ·rintro ⟨a,c⟩
     refine ⟨a,fun y hy=>?_⟩
     rcases List.mem_cons.1 hy with rfl | hy
     ·exact hp
     ·exact c y hy
    ·rintro ⟨a,c⟩
     exact ⟨a,fun y hy=>c y (List.mem_cons_of_mem _ hy)⟩
   ·obtain ⟨a,c,d⟩:=h2 m hm
    refine ⟨a.elim .inl fun q=>.inr ⟨List.mem_cons_of_mem _ q.1,q.2⟩,c,fun y hy hpy=>?_⟩
    rcases List.mem_cons.1 hy with rfl | hy
    ·rw [hp] at hpy;cases hpy
    ·exact d y hy hpy
  | true =>
   have hs:∃ y,stepB p b x=some y∧(y=x∨b=some y)∧bitsOf x≤bitsOf y∧∀ z,b=some z→bitsOf z≤bitsOf y:=by
    unfold stepB
    rw [hp,if_pos rfl]
    cases b with
    | none=>exact ⟨x,rfl,.inl rfl,Nat.le_refl _,fun z hz=>by cases hz⟩
    | some z =>
     by_cases hb:bitsOf x>bitsOf z
     ·refine ⟨x,?_,.inl rfl,Nat.le_refl _,fun z' hz=>by cases hz;omega⟩
      show (if decide (bitsOf x>bitsOf z)=true then some x else some z)=_
      rw [decide_eq_true hb,if_pos rfl]
     ·refine ⟨z,?_,.inr rfl,by omega,fun z' hz=>by cases hz;exact Nat.le_refl _⟩
      show (if decide (bitsOf x>bitsOf z)=true then some x else some z)=_
      rw [decide_eq_false hb,if_neg Bool.false_ne_true]
   obtain ⟨y,e,hy,hb1,hb2⟩:=hs
   rw [e] at h1 h2 ⊢
   refine ⟨?_,fun m hm=>?_⟩
   ·rw [h1]
    constructor
    ·rintro ⟨a,_⟩;cases a
    ·rintro ⟨_,c⟩
     have:=c x (List.mem_cons_self ..)
     rw [hp] at this;cases this
   ·obtain ⟨a,c,d⟩:=h2 m hm
    have hym:=c y rfl
    refine ⟨?_,fun z hz=>Nat.le_trans (hb2 z hz) hym,fun z hz hpz=>?_⟩
    ·rcases a with a | a
     ·cases a
      rcases hy with rfl | hy
      ·exact .inr ⟨List.mem_cons_self ..,hp⟩
      ·exact .inl hy
     ·exact .inr ⟨List.mem_cons_of_mem _ a.1,a.2⟩
    ·rcases List.mem_cons.1 hz with rfl | hz
     ·exact Nat.le_trans hb1 hym
     ·exact d z hz hpz
theorem best_none{p:En→Bool}{T:List En}:best p T=none↔∀ x∈T,p x=false:=by
 unfold best;rw [(fold_best p T none).1];simp
theorem best_some{p:En→Bool}{T:List En}{m:En}(h:best p T=some m):m∈T∧p m=true∧∀ x∈T,p x=true→bitsOf x≤bitsOf m:=by
 obtain ⟨a,_,c⟩:=(fold_best p T none).2 m h
 rcases a with a | a
 ·cases a
 ·exact ⟨a.1,a.2,c⟩
def zE:S_api_Entry:={ f_P:={ f_A:={ f_V:=(0:Int),f_B:=(Vector.replicate 16 (0:Int):(Vector Int 16)) },f_Bits:=(0:Int) },f_Owner:=(0:Int) }
def outE(b:Option En):S_api_Entry:=match b with | none=>zE | some x=>en x
theorem bits_gt(x y:En):decide ((en x).f_P.f_Bits>(en y).f_P.f_Bits)=decide (bitsOf x>bitsOf y):=by
 rw [decide_eq_decide]
 show ((wd x.1.1-x.1.2.2:Nat):Int)>((wd y.1.1-y.1.2.2:Nat):Int)↔bitsOf x>bitsOf y
 unfold bitsOf;omega
theorem find_loop(a:S_api_Addr)(p:En→Bool)(T:List En)(hn:T.length≤100000)(hp:∀ e∈T,crawlwayref11_Has (pf e.1) a=some (p e)):∀ (B A:List En) (b:Option En),T=A++B →
  crawlwayref25_Find.l0 (T.map en) a b.isSome (A.length:Int) (outE b)=some ((B.foldl (stepB p) b).isSome,outE (B.foldl (stepB p) b))
 | [],A,b,hx=>by
  have hd:decide ((A.length:Int)<((T.map en).length:Int))=false:=decide_eq_false (by rw [hx];simp)
  rw [crawlwayref25_Find.l0.eq_def,hd,if_neg Bool.false_ne_true];rfl
 | x::B,A,b,hx=>by
  have hTl:T.length=A.length+(B.length+1):=by rw [hx];simp
  have hin:(0:Int)≤(A.length:Int)∧(A.length:Int)<((T.map en).length:Int):=by rw [List.length_map];omega
  have hg:lget (T.map en) (A.length:Int)=en x:=by
   rw [hx,List.map_append,List.map_cons]
   have:=lget_mid (A.map en) (en x) (B.map en)
   rwa [List.length_map] at this
  have hwi:wr .i64 ((A.length:Int)+1)=((A++[x]).length:Int):=wr_mid A x (by omega)
  have ih:=fun c=>find_loop a p T hn hp B (A++[x]) c (by rw [hx];simp)
  have hpx:crawlwayref11_Has (en x).f_P a=some (p x):=hp x (by rw [hx];simp)
  rw [crawlwayref25_Find.l0.eq_def,decide_eq_true hin.2,if_pos rfl]
  simp only [if_pos hin,hg,hwi,hpx,bindM_some]
  rw [List.foldl_cons]
  cases hpp:p x with
  | false=>rw [if_neg Bool.false_ne_true,stepB_no hpp];exact ih b
  | true =>
   rw [if_pos rfl]
   cases b with
   | none=>rw [stepB_none hpp];exact ih (some x)
   | some y =>
    show (if (!true)=true then _ else (if decide ((en x).f_P.f_Bits>(en y).f_P.f_Bits)=true then _ else _))=_
    rw [if_neg (by decide),bits_gt]
    by_cases hd:bitsOf x>bitsOf y
    ·rw [decide_eq_true hd,if_pos rfl,stepB_gt hpp hd];exact ih (some x)
    ·rw [decide_eq_false hd,if_neg Bool.false_ne_true,stepB_le hpp hd];exact ih (some y)
theorem find_code(a:S_api_Addr)(p:En→Bool)(T:List En)(hn:T.length≤100000)(hp:∀ e∈T,crawlwayref11_Has (pf e.1) a=some (p e)):crawlwayref25_Find (T.map en) a=some (outE (best p T),(best p T).isSome):=by
 have:=find_loop a p T hn hp T [] none rfl
 unfold crawlwayref25_Find
 show (crawlwayref25_Find.l0 (T.map en) a (none:Option En).isSome (([]:List En).length:Int) (outE none)>>=_)=_
 rw [this];rfl
def pa(x e:En):Bool:=!decide (e.1=x.1)&&decide (cont e.1 x.1)
def keepT(T:List En)(x:En):Bool:=match best (pa x) T with | none=>true | some y=>y.2 != x.2
def thinT(T:List En):List En:=T.filter (keepT T)
end Go.Proofs.Ytahlbjmafceoeaa.Agg
namespace Go.Proofs.Ytahlbjmafceoeaa.Agg
open E Go.RowKit Adr Cid
def inP(V:Int)(a:Nat)(t:Tr):Prop:=V=t.1∧t.2.1≤a∧a≤endT t
instance inPDec (V:Int) (a:Nat) (t:Tr):Decidable (inP V a t):=inferInstanceAs (Decidable (_∧_))
theorem nest{t u:Tr}(ht:Good t)(hu:Good u)(h1:u.1=t.1)(hk:u.2.2≤t.2.2){p:Nat}(ht1:t.2.1≤p)(ht2:p≤endT t)(hu1:u.2.1≤p)(hu2:p≤endT u):cont t u∧endT u≤endT t:=by
 obtain ⟨V,N,k⟩:=t
 obtain ⟨W,M,j⟩:=u
 unfold endT at *
 unfold cont endT
 simp only at *
 have hd1:2 ^ k ∣ N:=ht.dvd
 have hd2:2 ^ j ∣ M:=hu.dvd
 have hp1:0<2 ^ k:=Nat.pow_pos (by omega)
 have hp2:0<2 ^ j:=Nat.pow_pos (by omega)
 have hjk:2 ^ j ∣ 2 ^ k:=Nat.pow_dvd_pow 2 hk
 have hd3:2 ^ j ∣ N:=Nat.dvd_trans hjk hd1
 obtain ⟨a,rfl⟩:=hd2
 obtain ⟨b,rfl⟩:=hd3
 obtain ⟨c,hc⟩:=hjk
 generalize 2 ^ j=q at *
 have hab:b≤a:=by
  rcases Nat.lt_or_ge a b with h | h
  ·have:=Nat.mul_le_mul_left q (show a+1≤b from h)
   rw [Nat.mul_add,Nat.mul_one] at this
   omega
  ·exact h
 have hac:a<b+c:=by
  rcases Nat.lt_or_ge a (b+c) with h | h
  ·exact h
  ·have:=Nat.mul_le_mul_left q h
   rw [Nat.mul_add,←hc] at this
   omega
 have h3:=Nat.mul_le_mul_left q hab
 have h4:=Nat.mul_le_mul_left q (show a+1≤b+c from hac)
 rw [Nat.mul_add,Nat.mul_add,Nat.mul_one,←hc] at h4
 exact ⟨⟨h1,hk,h3,by omega⟩,by omega⟩
theorem cont_end{t u:Tr}(ht:Good t)(hu:Good u)(h:cont t u):endT u≤endT t:=(nest ht hu h.1 h.2.1 h.2.2.1 h.2.2.2 (Nat.le_refl _) (le_endT u)).2
theorem cont_refl(t:Tr):cont t t:=⟨rfl,Nat.le_refl _,Nat.le_refl _,le_endT t⟩
theorem cont_trans{t u v:Tr}(ht:Good t)(hu:Good u)(h1:cont t u)(h2:cont u v):cont t v :=
 ⟨h2.1.trans h1.1,Nat.le_trans h2.2.1 h1.2.1,Nat.le_trans h1.2.2.1 h2.2.2.1,Nat.le_trans h2.2.2.2 (cont_end ht hu h1)⟩
theorem cont_same{t u:Tr}(ht:Good t)(hu:Good u)(h:cont t u)(hk:t.2.2≤u.2.2):t=u:=by
 have h2:=(nest hu ht h.1.symm hk (Nat.le_refl _) (le_endT u) h.2.2.1 h.2.2.2).1
 obtain ⟨V,N,k⟩:=t
 obtain ⟨W,M,j⟩:=u
 obtain ⟨a1,a2,a3,a4⟩:=h
 obtain ⟨b1,b2,b3,b4⟩:=h2
 simp only at *
 have e1:V=W:=b1
 have e2:N=M:=Nat.le_antisymm a3 b3
 have e3:k=j:=Nat.le_antisymm hk a2
 rw [e1,e2,e3]
theorem bits_k{x y:En}(hx:Good x.1)(hy:Good y.1)(h:x.1.1=y.1.1):bitsOf x≤bitsOf y↔y.1.2.2≤x.1.2.2:=by
 have h1:=hx.le
 have h2:=hy.le
 unfold bitsOf
 rw [h] at h1 ⊢
 omega
theorem same_of{T:List En}(hT:∀ e∈T,Good e.1)(hnd:(T.map Prod.fst).Nodup){x y:En}(hx:x∈T)(hy:y∈T){V:Int}{a:Nat}(h1:inP V a x.1)(h2:inP V a y.1)(hb:bitsOf x=bitsOf y):x=y:=by
 have hV:x.1.1=y.1.1:=h1.1.symm.trans h2.1
 have k1:=(bits_k (hT x hx) (hT y hy) hV).1 (by omega)
 have k2:=(bits_k (hT y hy) (hT x hx) hV.symm).1 (by omega)
 have hc:=(nest (hT x hx) (hT y hy) hV.symm k1 h1.2.1 h1.2.2 h2.2.1 h2.2.2).1
 exact fst_on hnd hx hy (cont_same (hT x hx) (hT y hy) hc k2)
theorem cont_of{T:List En}(hT:∀ e∈T,Good e.1){x y:En}(hx:x∈T)(hy:y∈T){V:Int}{a:Nat}(h1:inP V a x.1)(h2:inP V a y.1)(hb:bitsOf x≤bitsOf y):cont x.1 y.1:=by
 have hV:x.1.1=y.1.1:=h1.1.symm.trans h2.1
 exact (nest (hT x hx) (hT y hy) hV.symm ((bits_k (hT x hx) (hT y hy) hV).1 hb) h1.2.1 h1.2.2 h2.2.1 h2.2.2).1
theorem inP_of{t u:Tr}(ht:Good t)(hu:Good u)(h:cont t u){V:Int}{a:Nat}(hu2:inP V a u):inP V a t :=
 ⟨hu2.1.trans h.1,Nat.le_trans h.2.2.1 hu2.2.1,Nat.le_trans hu2.2.2 (cont_end ht hu h)⟩
theorem inP_start(t:Tr):inP t.1 t.2.1 t:=⟨rfl,Nat.le_refl _,le_endT t⟩
theorem pa_iff{x e:En}:pa x e=true↔e.1≠x.1∧cont e.1 x.1:=by
 unfold pa
 rw [Bool.and_eq_true,Bool.not_eq_true',decide_eq_false_iff_not,decide_eq_true_iff]
theorem mem_thin{T:List En}{x:En}:x∈thinT T↔x∈T∧keepT T x=true:=by unfold thinT;rw [List.mem_filter]
theorem chain{T:List En}(hT:∀ e∈T,Good e.1)(hnd:(T.map Prod.fst).Nodup):∀ (n:Nat) (e:En),e∈T→bitsOf e=n→∃ z,z∈thinT T∧cont z.1 e.1∧z.2=e.2∧∀ w∈thinT T,cont w.1 e.1→bitsOf w≤bitsOf z:=by
 intro n
 induction n using Nat.strongRecOn with
 | ind n ih =>
  intro e he hn
  cases hk:keepT T e with
  | true =>
   refine ⟨e,mem_thin.2 ⟨he,hk⟩,cont_refl _,rfl,fun w hw hc=>?_⟩
   exact (bits_k (hT w (mem_thin.1 hw).1) (hT e he) hc.1.symm).2 hc.2.1
  | false =>
   have hk0:=hk
   unfold keepT at hk
   cases hb:best (pa e) T with
   | none=>rw [hb] at hk;cases hk
   | some x =>
    rw [hb] at hk
    have hown:x.2=e.2:=by
     have:(x.2 != e.2)=false:=hk
     simpa using this
    obtain ⟨hx,hpx,hmax⟩:=best_some hb
    obtain ⟨hne,hc⟩:=pa_iff.1 hpx
    have hlt:bitsOf x<bitsOf e:=by
     have h1:=(bits_k (hT x hx) (hT e he) hc.1.symm).2 hc.2.1
     rcases Nat.lt_or_ge (bitsOf x) (bitsOf e) with h | h
     ·exact h
     ·have:=(bits_k (hT e he) (hT x hx) hc.1).1 h
      exact absurd (cont_same (hT x hx) (hT e he) hc this) hne
    obtain ⟨z,z1,z2,z3,z4⟩:=ih (bitsOf x) (by omega) x hx rfl
    refine ⟨z,z1,cont_trans (hT z (mem_thin.1 z1).1) (hT x hx) z2 hc,z3.trans hown,fun w hw hwc=>?_⟩
    have hwT:=(mem_thin.1 hw).1
    have hwe:w.1≠e.1:=fun ee=>by
     have:=fst_on hnd hwT he ee
     rw [this] at hw
     rw [(mem_thin.1 hw).2] at hk0
     cases hk0
    have hwx:=hmax w hwT (pa_iff.2 ⟨hwe,hwc⟩)
    exact z4 w hw (cont_of hT hwT hx (inP_of (hT w hwT) (hT e he) hwc (inP_start _)) (inP_of (hT x hx) (hT e he) hc (inP_start _)) hwx)
end Go.Proofs.Ytahlbjmafceoeaa.Agg
namespace Go.Proofs.Ytahlbjmafceoeaa.Agg
open E Go.RowKit Adr Cid
theorem prev_loop(V:Int):∀ (i n:Nat) (tl:List UInt8),tl.length=16-i→i≤16→n<256 ^ i →
  ∃ z,flat_previous.l0 ((i:Int)-1) (mkA V (digs i n++tl))=some (if 0<n then .ret (mkA V (digs i (n-1)++tl),true) else .nx z)
 | 0,n,tl,ht,hi,hn=>by
  have hd:decide (((0:Nat):Int)-1≥0)=false:=by decide
  have:n=0:=by simpa using hn
  refine ⟨mkA V (digs 0 n++tl),?_⟩
  rw [flat_previous.l0.eq_def,hd,if_neg Bool.false_ne_true,if_neg (by omega)]
 | i+1,n,tl,ht,hi,hn=>by
  have e1:(((i+1:Nat):Int)-1)=(i:Int):=by omega
  have hd:decide ((i:Int)≥0)=true:=decide_eq_true (by omega)
  have hg:(0:Int)≤(i:Int)∧(i:Int)<16:=by omega
  have hp:digs (i+1) n++tl=digs i (n/256)++UInt8.ofNat (n%256)::tl:=by rw [digs,List.append_assoc];rfl
  have hpl:(digs i (n/256)).length=i:=digs_length _ _
  have hl:(digs i (n/256)++UInt8.ofNat (n%256)::tl).length=16:=by rw [List.length_append,List.length_cons,hpl,ht];omega
  have hx:(UInt8.ofNat (n%256)).toNat=n%256:=ofNat_toNat (Nat.mod_lt _ (by omega))
  have hbg:bg (digs i (n/256)++UInt8.ofNat (n%256)::tl) i=n%256:=by
   have:=bg_mid (digs i (n/256)) (UInt8.ofNat (n%256)) tl
   rw [hpl,hx] at this;exact this
  have hset:∀ y,(digs i (n/256)++UInt8.ofNat (n%256)::tl).set i y=digs i (n/256)++y::tl:=fun y=>by
   have:=set_mid (digs i (n/256)) (UInt8.ofNat (n%256)) y tl
   rw [hpl] at this;exact this
  have hwi:wr .i64 ((i:Int)-1)=(i:Int)-1:=wr_i64 (by omega) (by omega)
  rw [Nat.pow_succ] at hn
  rw [e1,hp,flat_previous.l0.eq_def,hd,if_pos rfl,if_pos hg,if_pos hg,if_pos hg,get_mkA hl i (by omega),hbg,hwi]
  by_cases h0:n%256=0
  ·have hw:wr .u8 (((n%256:Nat):Int)-1)=(((255:UInt8).toNat:Nat):Int):=by rw [h0];rfl
   have hl2:(digs i (n/256)++255::tl).length=16:=by rw [List.length_append,List.length_cons,hpl,ht];omega
   have hb0:bg (digs i (n/256)++255::tl) i=255:=by
    have:=bg_mid (digs i (n/256)) 255 tl
    rw [hpl] at this;exact this
   rw [hw,set_mkA hl,hset,get_mkA hl2 i (by omega),hb0,if_neg (by decide)]
   obtain ⟨z,h⟩:=prev_loop V i (n/256) (255::tl) (by rw [List.length_cons,ht];omega) (by omega) (by omega)
   refine ⟨z,?_⟩
   rw [h]
   by_cases h2:0<n/256
   ·rw [if_pos h2,if_pos (by omega)]
    have hd1:digs (i+1) (n-1)++tl=digs i (n/256-1)++255::tl:=by
     rw [digs,show (n-1)/256=n/256-1 by omega,show (n-1)%256=255 by omega,List.append_assoc];rfl
    rw [hd1]
   ·rw [if_neg h2,if_neg (by omega)]
  ·have hw:wr .u8 (((n%256:Nat):Int)-1)=(((UInt8.ofNat (n%256-1)).toNat:Nat):Int):=by
    rw [ofNat_toNat (by omega),wr_u8 (by omega) (by omega)];omega
   have hl2:(digs i (n/256)++UInt8.ofNat (n%256-1)::tl).length=16:=by rw [List.length_append,List.length_cons,hpl,ht];omega
   have hb0:bg (digs i (n/256)++UInt8.ofNat (n%256-1)::tl) i=n%256-1:=by
    have:=bg_mid (digs i (n/256)) (UInt8.ofNat (n%256-1)) tl
    rw [hpl,ofNat_toNat (by omega)] at this;exact this
   have hne:(((n%256-1:Nat):Int) != (255:Int))=true:=by rw [bne_iff_ne];omega
   refine ⟨mkA V [],?_⟩
   rw [hw,set_mkA hl,hset,get_mkA hl2 i (by omega),hb0,hne,if_pos rfl,if_pos (by omega)]
   have hd1:digs (i+1) (n-1)++tl=digs i (n/256)++UInt8.ofNat (n%256-1)::tl:=by
    rw [digs,show (n-1)/256=n/256 by omega,show (n-1)%256=n%256-1 by omega,List.append_assoc];rfl
   rw [hd1]
theorem prev_adr{V:Int}(hf:fam V){N:Nat}(hN:N<2 ^ wd V):∃ z,flat_previous (adr V N)=some (if 0<N then (adr V (N-1),true) else (z,false)):=by
 have w1:=(adr_width hf N).1
 have hi:wr .i64 ((ishr .i64 (wd V:Int) 3)-1)=(wb V:Int)-1:=by
  have e:=ishr_nat .i64 (wd V) 3 (by decide)
  rw [show ((3:Nat):Int)=3 from rfl] at e
  rw [e,wd_wb,show (8*wb V)/2 ^ 3=wb V by omega]
  exact wr_i64 (by have:=wb_le V;omega) (by have:=wb_le V;omega)
 obtain ⟨z,l1⟩:=prev_loop V (wb V) N (List.replicate (16-wb V) 0) (by rw [List.length_replicate]) (wb_le V) (by rw [pow_wb];exact hN)
 refine ⟨z,?_⟩
 unfold flat_previous
 rw [w1,bindM_some,hi]
 unfold adr bt
 rw [l1,bindM_some]
 by_cases h:0<N
 ·rw [if_pos h,if_pos h]
 ·rw [if_neg h,if_neg h]
abbrev Sn:=Rg×Int
def sN(s:Sn):S_flat_Span:={ f_Range:=toR s.1,f_Owner:=s.2 }
def addS:List Sn→Sn→List Sn
 | [],s=>[s]
 | q::rest,s=>if q.2=s.2∧q.1.1=s.1.1∧q.1.2.2+1=s.1.2.1 then ((q.1.1,q.1.2.1,s.1.2.2),q.2)::rest else s::q::rest
theorem addS_cons(q:Sn)(rest:List Sn)(s:Sn):addS (q::rest) s=if q.2=s.2∧q.1.1=s.1.1∧q.1.2.2+1=s.1.2.1 then ((q.1.1,q.1.2.1,s.1.2.2),q.2)::rest else s::q::rest:=rfl
theorem addS_len(rv:List Sn)(s:Sn):(addS rv s).length≤rv.length+1:=by
 cases rv with
 | nil=>simp [addS]
 | cons q rest=>rw [addS_cons];split<;>simp
def nxO(V:Int)(M:Nat):Option Nat:=if M+1<2 ^ wd V then some (M+1) else none
def putM(rv:List Sn)(e:En):Option Nat→Nat→List Sn×Option Nat
 | none,_=>(rv,none)
 | some N,M=>if M<N then (rv,some N) else (addS rv ((e.1.1,N,M),e.2),nxO e.1.1 M)
theorem putM_some(rv:List Sn)(e:En)(N M:Nat):putM rv e (some N) M=if M<N then (rv,some N) else (addS rv ((e.1.1,N,M),e.2),nxO e.1.1 M):=rfl
def atA(V:Int):Option Nat→S_api_Addr
 | none=>zA
 | some N=>adr V N
def rowM(rv:List Sn)(stk:List En)(V:Int)(at_:Option Nat):S_flat_row:={ f_l:=rv.reverse.map sN,f_stack:=stk.reverse.map en,f_at:=atA V at_,f_done:=at_.isNone }
def okAt(V:Int)(at_:Option Nat):Prop:=∀ N,at_=some N→N<2 ^ wd V
theorem nxO_ok(V:Int)(M:Nat):okAt V (nxO V M):=fun N h=>by
 unfold nxO at h
 split at h
 ·cases h;assumption
 ·cases h
def okS(rv:List Sn):Prop:=∀ s∈rv,GoodR s.1
theorem move_code{V:Int}(hf:fam V)(l:List S_flat_Span)(st:List S_api_Entry)(a:S_api_Addr)(d:Bool){M:Nat}(hM:M<2 ^ wd V):flat_row_move { f_l:=l,f_stack:=st,f_at:=a,f_done:=d } (adr V M)=some { f_l:=l,f_stack:=st,f_at:=atA V (nxO V M),f_done:=(nxO V M).isNone }:=by
 unfold flat_row_move
 rw [(next_adr hf hM).1,bindM_some]
 unfold nx nxO
 by_cases h:M+1<2 ^ wd V
 ·rw [if_pos h,if_pos h];rfl
 ·rw [if_neg h,if_neg h];rfl
theorem put_code2(rv:List Sn)(hrv:okS rv)(e:En)(he:Good e.1)(stk:List En)(at_:Option Nat)(ha:okAt e.1.1 at_)(M:Nat)(hM:M<2 ^ wd e.1.1)(hn:rv.length≤100000∧stk.length≤100000) :
  flat_row_put (rowM rv (e::stk) e.1.1 at_) (adr e.1.1 M)=some (rowM (putM rv e at_ M).1 (e::stk) e.1.1 (putM rv e at_ M).2):=by
 unfold flat_row_put
 cases at_ with
 | none=>rfl
 | some N =>
  have hN:=ha N rfl
  show (if false=true then _ else (addr_Less (adr e.1.1 M) (adr e.1.1 N)>>=fun t3=>_))=_
  rw [if_neg Bool.false_ne_true,(adr_less hM hN).1,bindM_some]
  unfold ltA
  rw [if_pos rfl]
  by_cases hlt:M<N
  ·rw [decide_eq_true hlt,if_pos rfl]
   rw [putM_some,if_pos hlt]
  ·rw [decide_eq_false hlt,if_neg Bool.false_ne_true]
   have hput:putM rv e (some N) M=(addS rv ((e.1.1,N,M),e.2),nxO e.1.1 M):=by rw [putM_some,if_neg hlt]
   rw [hput]
   have hst:(rowM rv (e::stk) e.1.1 (some N)).f_stack=stk.reverse.map en++[en e]:=by show ((e::stk).reverse.map en)=_;simp
   have hsl:(((rowM rv (e::stk) e.1.1 (some N)).f_stack).length:Int)=((stk.length+1:Nat):Int):=by rw [hst];simp
   have hw1:wr .i64 (((stk.length+1:Nat):Int)-1)=(stk.length:Int):=by rw [wr_i64 (by omega) (by omega)];omega
   have hi1:(0:Int)≤(stk.length:Int)∧(stk.length:Int)<((stk.length+1:Nat):Int):=by omega
   have hg1:lget ((rowM rv (e::stk) e.1.1 (some N)).f_stack) (stk.length:Int)=en e:=by
    rw [hst]
    have:=lget_mid (stk.reverse.map en) (en e) []
    rwa [List.length_map,List.length_reverse] at this
   have hnewv:∀ l st a d,flat_row_move { f_l:=l,f_stack:=st,f_at:=a,f_done:=d } (adr e.1.1 M)=some { f_l:=l,f_stack:=st,f_at:=atA e.1.1 (nxO e.1.1 M),f_done:=(nxO e.1.1 M).isNone }:=fun l st a d=>move_code he.fam l st a d hM
   have hown:(en e).f_Owner=e.2:=rfl
   have hrl:(rowM rv (e::stk) e.1.1 (some N)).f_l=rv.reverse.map sN:=rfl
   have hnew:(if ((rowM rv (e::stk) e.1.1 (some N)).f_l.length+1)*56≤140737488355328 then flat_row_move ({ (rowM rv (e::stk) e.1.1 (some N)) with f_l:=(rowM rv (e::stk) e.1.1 (some N)).f_l++[{ { ({ f_Range:=({ f_From:=({ f_V:=(0:Int),f_B:=(Vector.replicate 16 (0:Int):(Vector Int 16)) }:S_api_Addr),f_To:=({ f_V:=(0:Int),f_B:=(Vector.replicate 16 (0:Int):(Vector Int 16)) }:S_api_Addr) }:S_aggregate_Range),f_Owner:=(0:Int) }:S_flat_Span) with f_Range:={ { ({ f_From:=({ f_V:=(0:Int),f_B:=(Vector.replicate 16 (0:Int):(Vector Int 16)) }:S_api_Addr),f_To:=({ f_V:=(0:Int),f_B:=(Vector.replicate 16 (0:Int):(Vector Int 16)) }:S_api_Addr) }:S_aggregate_Range) with f_From:=(rowM rv (e::stk) e.1.1 (some N)).f_at } with f_To:=adr e.1.1 M } } with f_Owner:=(en e).f_Owner }] }) (adr e.1.1 M)>>=fun t60=>some t60 else none)=some (rowM (((e.1.1,N,M),e.2)::rv) (e::stk) e.1.1 (nxO e.1.1 M)):=by
    rw [if_pos (by rw [hrl,List.length_map,List.length_reverse];omega)]
    show (flat_row_move { f_l:=rv.reverse.map sN++[sN ((e.1.1,N,M),e.2)],f_stack:=(e::stk).reverse.map en,f_at:=adr e.1.1 N,f_done:=false } (adr e.1.1 M)>>=fun t=>some t)=_
    rw [hnewv]
    unfold rowM
    simp
   rw [hsl,hw1,if_pos hi1,hg1]
   cases rv with
   | nil =>
    have hl0:(((rowM [] (e::stk) e.1.1 (some N)).f_l).length:Int)=0:=rfl
    rw [hl0,if_neg (by decide)]
    exact hnew
   | cons q rest =>
    have hl:(rowM (q::rest) (e::stk) e.1.1 (some N)).f_l=rest.reverse.map sN++[sN q]:=by rw [hrl];simp
    have hll:(((rowM (q::rest) (e::stk) e.1.1 (some N)).f_l).length:Int)=((rest.length+1:Nat):Int):=by rw [hl];simp
    have hq:=hrv q (List.mem_cons_self ..)
    have hrn:rest.length+1≤100000:=by simpa using hn.1
    have hw2:wr .i64 (((rest.length+1:Nat):Int)-1)=(rest.length:Int):=by rw [wr_i64 (by omega) (by omega)];omega
    have hi2:(0:Int)≤(rest.length:Int)∧(rest.length:Int)<((rest.length+1:Nat):Int):=by omega
    have hg2:lget ((rowM (q::rest) (e::stk) e.1.1 (some N)).f_l) (rest.length:Int)=sN q:=by
     rw [hl]
     have:=lget_mid (rest.reverse.map sN) (sN q) []
     rwa [List.length_map,List.length_reverse] at this
    have hpos:decide (((rest.length+1:Nat):Int)>0)=true:=decide_eq_true (by omega)
    rw [hll,hpos,if_pos rfl,hw2,if_pos hi2,hg2]
    have ho1:(sN q).f_Owner=q.2:=rfl
    have ho2:(sN q).f_Range.f_To=adr q.1.1 q.1.2.2:=rfl
    rw [ho1,ho2,(next_adr hq.fam hq.lt).1]
    have hyes:(q.2=e.2∧q.1.1=e.1.1∧q.1.2.2+1=N)→addS (q::rest) ((e.1.1,N,M),e.2)=((q.1.1,q.1.2.1,M),q.2)::rest:=fun h=>by rw [addS_cons,if_pos h]
    have hno:¬ (q.2=e.2∧q.1.1=e.1.1∧q.1.2.2+1=N)→addS (q::rest) ((e.1.1,N,M),e.2)=((e.1.1,N,M),e.2)::q::rest:=fun h=>by rw [addS_cons,if_neg h]
    by_cases h1:q.2=e.2
    ·have:(q.2==(en e).f_Owner)=true:=by rw [beq_iff_eq];exact h1
     rw [this,if_pos rfl,if_pos hi2,bindM_some,nx_pair.1]
     by_cases h2:q.1.2.2+1<2 ^ wd q.1.1
     ·rw [decide_eq_true h2,if_pos rfl,nx_pair.2 h2]
      have hat:(rowM (q::rest) (e::stk) e.1.1 (some N)).f_at=adr e.1.1 N:=rfl
      rw [hat]
      by_cases h3:q.1.1=e.1.1∧q.1.2.2+1=N
      ·rw [decide_eq_true ((adr_inj h2 hN).2 h3),if_pos rfl,if_pos hi2,hyes ⟨h1,h3⟩]
       have hset:lset ((rowM (q::rest) (e::stk) e.1.1 (some N)).f_l) (rest.length:Int) ({ sN q with f_Range:={ (sN q).f_Range with f_To:=adr e.1.1 M } })=rest.reverse.map sN++[sN ((q.1.1,q.1.2.1,M),q.2)]:=by
        rw [hl]
        have:({ sN q with f_Range:={ (sN q).f_Range with f_To:=adr e.1.1 M } }:S_flat_Span)=sN ((q.1.1,q.1.2.1,M),q.2):=by rw [←h3.1];rfl
        rw [this]
        have e1:(rest.length:Int)=((rest.reverse.map sN).length:Int):=by simp
        rw [e1]
        simp [lset]
       rw [hset]
       show (flat_row_move { f_l:=rest.reverse.map sN++[sN ((q.1.1,q.1.2.1,M),q.2)],f_stack:=(e::stk).reverse.map en,f_at:=adr e.1.1 N,f_done:=false } (adr e.1.1 M)>>=fun t=>some t)=_
       rw [hnewv]
       unfold rowM
       simp
      ·rw [decide_eq_false (mt (adr_inj h2 hN).1 h3),if_neg Bool.false_ne_true,hno (fun h=>h3 h.2)]
       rw [hat] at hnew
       exact hnew
     ·rw [decide_eq_false h2,if_neg Bool.false_ne_true,hno (fun h=>by
       obtain ⟨_,h4,h5⟩:=h
       have h4:q.1.1=e.1.1:=h4
       have h5:q.1.2.2+1=N:=h5
       rw [h4] at h2
       omega)]
      exact hnew
    ·have:(q.2==(en e).f_Owner)=false:=by rw [beq_eq_false_iff_ne];exact h1
     rw [this,if_neg Bool.false_ne_true,hno (fun h=>h1 h.1)]
     exact hnew
end Go.Proofs.Ytahlbjmafceoeaa.Agg
namespace Go.Proofs.Ytahlbjmafceoeaa.Agg
open E Go.RowKit Adr Cid
def closeM(p:En→Bool):List Sn→List En→Option Nat→List Sn×List En×Option Nat
 | rv,[],a=>(rv,[],a)
 | rv,e::stk,a=>if p e=true then (rv,e::stk,a) else closeM p (putM rv e a (endT e.1)).1 stk (putM rv e a (endT e.1)).2
theorem closeM_cons(p:En→Bool)(rv:List Sn)(e:En)(stk:List En)(a:Option Nat):closeM p rv (e::stk) a=if p e=true then (rv,e::stk,a) else closeM p (putM rv e a (endT e.1)).1 stk (putM rv e a (endT e.1)).2:=rfl
structure Way (V:Int) (rv:List Sn) (stk:List En) (a:Option Nat):Prop where
 rv:okS rv
 st:∀ t∈stk,Good t.1∧t.1.1=V
 at_:okAt V a
theorem addS_ok{rv:List Sn}{s:Sn}(h:okS rv)(hs:GoodR s.1):okS (addS rv s):=by
 cases rv with
 | nil=>intro x hx;rw [List.mem_singleton.1 hx];exact hs
 | cons q rest =>
  have hq:=h q (List.mem_cons_self ..)
  rw [addS_cons]
  split
  ·next hc =>
   intro x hx
   rcases List.mem_cons.1 hx with rfl | hx
   ·refine ⟨hq.fam,?_,?_⟩
    ·have h1:=hq.le
     have h2:=hs.le
     show q.1.2.1≤s.1.2.2
     omega
    ·show s.1.2.2<2 ^ wd q.1.1
     rw [hc.2.1];exact hs.lt
   ·exact h x (List.mem_cons_of_mem _ hx)
  ·intro x hx
   rcases List.mem_cons.1 hx with rfl | hx
   ·exact hs
   ·exact h x hx
theorem putM_ok{V:Int}{rv:List Sn}{e:En}{a:Option Nat}{M:Nat}(h:okS rv)(he:Good e.1)(hV:e.1.1=V)(ha:okAt V a)(hM:M<2 ^ wd V):okS (putM rv e a M).1∧okAt V (putM rv e a M).2∧(putM rv e a M).1.length≤rv.length+1:=by
 subst hV
 cases a with
 | none=>exact ⟨h,fun N hN=>(by cases hN),Nat.le_succ _⟩
 | some N =>
  rw [putM_some]
  split
  ·exact ⟨h,ha,Nat.le_succ _⟩
  ·next hlt=>exact ⟨addS_ok h ⟨he.fam,by show N≤M;omega,hM⟩,nxO_ok _ _,addS_len _ _⟩
theorem end_code{e:En}(he:Good e.1):flat_end (en e)=some (adr e.1.1 (endT e.1)):=by
 unfold flat_end aggregate_Of
 have hr:cidr_Right (en e).f_P=some true:=(prf_right he.fam he.le he.dvd).1
 have hl:aggregate_last (en e).f_P=some (adr e.1.1 (endT e.1)):=(last_pf he).1
 rw [hr,bindM_some,if_neg (by decide),hl];rfl
theorem stack_top(rv:List Sn)(e:En)(stk:List En)(V:Int)(a:Option Nat)(hn:stk.length≤100000):(rowM rv (e::stk) V a).f_stack=stk.reverse.map en++[en e]∧(((rowM rv (e::stk) V a).f_stack).length:Int)=((stk.length+1:Nat):Int)∧wr .i64 (((stk.length+1:Nat):Int)-1)=(stk.length:Int)∧lget ((rowM rv (e::stk) V a).f_stack) (stk.length:Int)=en e:=by
 have hst:(rowM rv (e::stk) V a).f_stack=stk.reverse.map en++[en e]:=by show ((e::stk).reverse.map en)=_;simp
 refine ⟨hst,by rw [hst];simp,by rw [wr_i64 (by omega) (by omega)];omega,?_⟩
 rw [hst]
 have:=lget_mid (stk.reverse.map en) (en e) []
 rwa [List.length_map,List.length_reverse] at this
def ctlV{α:Type}:Ctl α α→α
 | .ret r=>r
 | .nx r=>r
theorem close_loop(x:En)(hx:Good x.1)(V:Int):∀ (stk:List En) (rv:List Sn) (a:Option Nat),Way V rv stk a→rv.length+stk.length≤50000 →
  ∃ c,flat_row_close.l0 (en x) (rowM rv stk V a)=some c∧ctlV c=rowM (closeM (fun e=>decide (cont e.1 x.1)) rv stk a).1 (closeM (fun e=>decide (cont e.1 x.1)) rv stk a).2.1 V (closeM (fun e=>decide (cont e.1 x.1)) rv stk a).2.2
 | [],rv,a,hw,hn=>by
  refine ⟨.nx (rowM rv [] V a),?_,rfl⟩
  rw [flat_row_close.l0.eq_def,if_neg (by show ¬ decide ((([]:List S_api_Entry).length:Int)>0)=true;decide)]
 | e::stk,rv,a,hw,hn=>by
  obtain ⟨he,hV⟩:=hw.st e (List.mem_cons_self ..)
  have hn':rv.length+(stk.length+1)≤50000:=hn
  obtain ⟨s1,s2,s3,s4⟩:=stack_top rv e stk V a (by omega)
  have hin:(0:Int)≤(stk.length:Int)∧(stk.length:Int)<((stk.length+1:Nat):Int):=by omega
  have hc:cidr_Covers (en e).f_P (en x).f_P=some (decide (cont e.1 x.1)):=(cov_pf he hx).1
  rw [flat_row_close.l0.eq_def,s2,decide_eq_true (by omega),if_pos rfl,s3,if_pos hin,s4,hc,bindM_some,closeM_cons]
  cases hd:decide (cont e.1 x.1) with
  | true=>exact ⟨_,rfl,rfl⟩
  | false =>
   rw [if_neg Bool.false_ne_true,end_code he,bindM_some]
   have hE:endT e.1<2 ^ wd e.1.1:=he.end_lt
   have hput:=put_code2 rv hw.rv e he stk a (by rw [hV];exact hw.at_) (endT e.1) hE (by omega)
   rw [hV] at hput
   obtain ⟨p1,p2,p3⟩:=putM_ok (M:=endT e.1) hw.rv he hV hw.at_ (by rw [←hV];exact hE)
   obtain ⟨t1,t2,t3,t4⟩:=stack_top (putM rv e a (endT e.1)).1 e stk V (putM rv e a (endT e.1)).2 (by omega)
   rw [hV,hput,bindM_some,t2,t3,if_pos ⟨Int.le_refl _,hin.1,by omega⟩,t1]
   have hcut:({ { rowM (putM rv e a (endT e.1)).1 (e::stk) V (putM rv e a (endT e.1)).2 with f_stack:=lsub (stk.reverse.map en++[en e]) 0 (stk.length:Int) } with f_stack:=List.take (Int.toNat (stk.length:Int)) (stk.reverse.map en++[en e]) }:S_flat_row)=rowM (putM rv e a (endT e.1)).1 stk V (putM rv e a (endT e.1)).2:=by
    have:List.take (Int.toNat (stk.length:Int)) (stk.reverse.map en++[en e])=stk.reverse.map en:=by
     rw [Int.toNat_natCast]
     have hl:stk.length=(stk.reverse.map en).length:=by simp
     conv=>lhs;lhs;rw [hl]
     rw [List.take_left]
    rw [this];rfl
   rw [hcut]
   exact close_loop x hx V stk _ _ ⟨p1,fun t ht=>hw.st t (List.mem_cons_of_mem _ ht),p2⟩ (by omega)
theorem close_code(x:En)(hx:Good x.1)(V:Int)(stk:List En)(rv:List Sn)(a:Option Nat)(hw:Way V rv stk a)(hn:rv.length+stk.length≤50000):flat_row_close (rowM rv stk V a) (en x)=some (rowM (closeM (fun e=>decide (cont e.1 x.1)) rv stk a).1 (closeM (fun e=>decide (cont e.1 x.1)) rv stk a).2.1 V (closeM (fun e=>decide (cont e.1 x.1)) rv stk a).2.2):=by
 obtain ⟨c,h1,h2⟩:=close_loop x hx V stk rv a hw hn
 unfold flat_row_close
 rw [h1,bindM_some,←h2]
 cases c<;>rfl
theorem closeN_loop(V:Int):∀ (stk:List En) (rv:List Sn) (a:Option Nat),Way V rv stk a→rv.length+stk.length≤50000 →
  ∃ c,flat_row_close__nil1.l0 (rowM rv stk V a)=some c∧ctlV c=rowM (closeM (fun _=>false) rv stk a).1 (closeM (fun _=>false) rv stk a).2.1 V (closeM (fun _=>false) rv stk a).2.2
 | [],rv,a,hw,hn=>by
  refine ⟨.nx (rowM rv [] V a),?_,rfl⟩
  rw [flat_row_close__nil1.l0.eq_def,if_neg (by show ¬ decide ((([]:List S_api_Entry).length:Int)>0)=true;decide)]
 | e::stk,rv,a,hw,hn=>by
  obtain ⟨he,hV⟩:=hw.st e (List.mem_cons_self ..)
  have hn':rv.length+(stk.length+1)≤50000:=hn
  obtain ⟨s1,s2,s3,s4⟩:=stack_top rv e stk V a (by omega)
  have hin:(0:Int)≤(stk.length:Int)∧(stk.length:Int)<((stk.length+1:Nat):Int):=by omega
  have hE:endT e.1<2 ^ wd e.1.1:=he.end_lt
  have hput:=put_code2 rv hw.rv e he stk a (by rw [hV];exact hw.at_) (endT e.1) hE (by omega)
  rw [hV] at hput
  obtain ⟨p1,p2,p3⟩:=putM_ok (M:=endT e.1) hw.rv he hV hw.at_ (by rw [←hV];exact hE)
  obtain ⟨t1,t2,t3,t4⟩:=stack_top (putM rv e a (endT e.1)).1 e stk V (putM rv e a (endT e.1)).2 (by omega)
  rw [flat_row_close__nil1.l0.eq_def,s2,decide_eq_true (by omega),if_pos rfl,s3,if_pos hin,s4,closeM_cons,if_neg Bool.false_ne_true,end_code he,bindM_some,hV,hput,bindM_some,t2,t3,if_pos ⟨Int.le_refl _,hin.1,by omega⟩,t1]
  have hcut:({ { rowM (putM rv e a (endT e.1)).1 (e::stk) V (putM rv e a (endT e.1)).2 with f_stack:=lsub (stk.reverse.map en++[en e]) 0 (stk.length:Int) } with f_stack:=List.take (Int.toNat (stk.length:Int)) (stk.reverse.map en++[en e]) }:S_flat_row)=rowM (putM rv e a (endT e.1)).1 stk V (putM rv e a (endT e.1)).2:=by
   have:List.take (Int.toNat (stk.length:Int)) (stk.reverse.map en++[en e])=stk.reverse.map en:=by
    rw [Int.toNat_natCast]
    have hl:stk.length=(stk.reverse.map en).length:=by simp
    conv=>lhs;lhs;rw [hl]
    rw [List.take_left]
   rw [this];rfl
  rw [hcut]
  exact closeN_loop V stk _ _ ⟨p1,fun t ht=>hw.st t (List.mem_cons_of_mem _ ht),p2⟩ (by omega)
theorem closeN_code(V:Int)(stk:List En)(rv:List Sn)(a:Option Nat)(hw:Way V rv stk a)(hn:rv.length+stk.length≤50000):flat_row_close__nil1 (rowM rv stk V a)=some (rowM (closeM (fun _=>false) rv stk a).1 (closeM (fun _=>false) rv stk a).2.1 V (closeM (fun _=>false) rv stk a).2.2):=by
 obtain ⟨c,h1,h2⟩:=closeN_loop V stk rv a hw hn
 unfold flat_row_close__nil1
 rw [h1,bindM_some,←h2]
 cases c<;>rfl
theorem closeM_way{V:Int}(p:En→Bool):∀ (stk:List En) (rv:List Sn) (a:Option Nat),Way V rv stk a→Way V (closeM p rv stk a).1 (closeM p rv stk a).2.1 (closeM p rv stk a).2.2∧(closeM p rv stk a).1.length+(closeM p rv stk a).2.1.length≤rv.length+stk.length∧∀ t,(closeM p rv stk a).2.1.head? = some t→p t=true
 | [],rv,a,hw=>⟨hw,Nat.le_refl _,fun t ht=>by cases ht⟩
 | e::stk,rv,a,hw=>by
  obtain ⟨he,hV⟩:=hw.st e (List.mem_cons_self ..)
  rw [closeM_cons]
  cases hp:p e with
  | true =>
   rw [if_pos rfl]
   exact ⟨hw,Nat.le_refl _,fun t ht=>by cases ht;exact hp⟩
  | false =>
   rw [if_neg Bool.false_ne_true]
   obtain ⟨p1,p2,p3⟩:=putM_ok (M:=endT e.1) hw.rv he hV hw.at_ (by rw [←hV];exact he.end_lt)
   obtain ⟨h1,h2,h3⟩:=closeM_way p stk _ _ ⟨p1,fun t ht=>hw.st t (List.mem_cons_of_mem _ ht),p2⟩
   exact ⟨h1,by simp;omega,h3⟩
def midO(rv:List Sn)(a:Option Nat)(N:Nat):List En→List Sn
 | []=>rv
 | t::_=>if 0<N then (putM rv t a (N-1)).1 else rv
theorem midO_cons(rv:List Sn)(a:Option Nat)(N:Nat)(t:En)(stk:List En):midO rv a N (t::stk)=if 0<N then (putM rv t a (N-1)).1 else rv:=rfl
def stepO(s:List Sn×List En×Option Nat)(e:En):List Sn×List En×Option Nat :=
 let c:=closeM (fun t=>decide (cont t.1 e.1)) s.1 s.2.1 s.2.2
 (midO c.1 c.2.2 e.1.2.1 c.2.1,e::c.2.1,some e.1.2.1)
theorem stepO_eq{rv:List Sn}{stk:List En}{a:Option Nat}{e:En}{rv1:List Sn}{stk1:List En}{a1:Option Nat}(h:closeM (fun t=>decide (cont t.1 e.1)) rv stk a=(rv1,stk1,a1)):stepO (rv,stk,a) e=(midO rv1 a1 e.1.2.1 stk1,e::stk1,some e.1.2.1):=by
 unfold stepO
 simp only [h]
def ofM(T:List En):List Sn :=
 let s:=T.foldl stepO ([],[],some 0)
 (closeM (fun _=>false) s.1 s.2.1 s.2.2).1
theorem of_loop(T:List En)(hT:∀ e∈T,Good e.1)(hn:T.length≤10000):∀ (B A:List En) (s:List Sn×List En×Option Nat) (V:Int),T=A++B→Way V s.1 s.2.1 s.2.2→s.1.length+s.2.1.length≤2*A.length →
  ∃ V',flat_Of.l0 (T.map en) (A.length:Int) (rowM s.1 s.2.1 V s.2.2)=some (rowM (B.foldl stepO s).1 (B.foldl stepO s).2.1 V' (B.foldl stepO s).2.2)∧Way V' (B.foldl stepO s).1 (B.foldl stepO s).2.1 (B.foldl stepO s).2.2∧(B.foldl stepO s).1.length+(B.foldl stepO s).2.1.length≤2*T.length
 | [],A,s,V,hx,hw,hl=>by
  have hd:decide ((A.length:Int)<((T.map en).length:Int))=false:=decide_eq_false (by rw [hx];simp)
  refine ⟨V,?_,hw,by rw [hx];simpa using hl⟩
  rw [flat_Of.l0.eq_def,hd,if_neg Bool.false_ne_true];rfl
 | e::B,A,s,V,hx,hw,hl=>by
  obtain ⟨rv,stk,a⟩:=s
  have hTl:T.length=A.length+(B.length+1):=by rw [hx];simp
  have hin:(0:Int)≤(A.length:Int)∧(A.length:Int)<((T.map en).length:Int):=by rw [List.length_map];omega
  have hg:lget (T.map en) (A.length:Int)=en e:=by
   rw [hx,List.map_append,List.map_cons]
   have:=lget_mid (A.map en) (en e) (B.map en)
   rwa [List.length_map] at this
  have hwi:wr .i64 ((A.length:Int)+1)=((A++[e]).length:Int):=wr_mid A e (by omega)
  have hA1:(A++[e]).length=A.length+1:=by simp
  have he:=hT e (by rw [hx];simp)
  simp only at hw hl
  have hcl:=close_code e he V stk rv a hw (by omega)
  obtain ⟨c1,c2,c3⟩:=closeM_way (V:=V) (fun t=>decide (cont t.1 e.1)) stk rv a hw
  rw [List.foldl_cons]
  rw [flat_Of.l0.eq_def,decide_eq_true hin.2,if_pos rfl,if_pos hin,hg,hwi]
  show ∃ V',(flat_row_close (rowM rv stk V a) (en e)>>=fun t28=>_)=_∧_
  rw [hcl,bindM_some]
  generalize hc:closeM (fun t=>decide (cont t.1 e.1)) rv stk a=c at c1 c2 c3
  obtain ⟨rv1,stk1,a1⟩:=c
  simp only at c1 c2 c3 ⊢
  rw [stepO_eq hc]
  have fin:∀ (rv2:List Sn) (x:S_flat_row),okS rv2→rv2.length≤rv1.length+1→(∀ t∈stk1,t.1.1=e.1.1)→x.f_l=rv2.reverse.map sN→x.f_stack=stk1.reverse.map en →
    ∃ V',(if (x.f_stack.length+1)*40≤140737488355328 then flat_Of.l0 (T.map en) ((A++[e]).length:Int) ({ { { x with f_stack:=x.f_stack++[en e] } with f_at:=((en e).f_P).f_A } with f_done:=false }) else none)=some (rowM (B.foldl stepO (rv2,e::stk1,some e.1.2.1)).1 (B.foldl stepO (rv2,e::stk1,some e.1.2.1)).2.1 V' (B.foldl stepO (rv2,e::stk1,some e.1.2.1)).2.2)∧Way V' (B.foldl stepO (rv2,e::stk1,some e.1.2.1)).1 (B.foldl stepO (rv2,e::stk1,some e.1.2.1)).2.1 (B.foldl stepO (rv2,e::stk1,some e.1.2.1)).2.2∧(B.foldl stepO (rv2,e::stk1,some e.1.2.1)).1.length+(B.foldl stepO (rv2,e::stk1,some e.1.2.1)).2.1.length≤2*T.length:=by
   intro rv2 x h1 h2 h3 h4 h5
   have hsm:(x.f_stack.length+1)*40≤140737488355328:=by rw [h5,List.length_map,List.length_reverse];omega
   rw [if_pos hsm]
   have hrow:({ { { x with f_stack:=x.f_stack++[en e] } with f_at:=((en e).f_P).f_A } with f_done:=false }:S_flat_row)=rowM rv2 (e::stk1) e.1.1 (some e.1.2.1):=by
    rw [h5]
    unfold rowM
    have:(e::stk1).reverse.map en=stk1.reverse.map en++[en e]:=by simp
    rw [this,←h4];rfl
   rw [hrow]
   refine of_loop T hT hn B (A++[e]) (rv2,e::stk1,some e.1.2.1) e.1.1 (by rw [hx];simp) ⟨h1,fun t ht=>?_,fun N hN=>?_⟩ ?_
   ·rcases List.mem_cons.1 ht with rfl | ht
    ·exact ⟨he,rfl⟩
    ·exact ⟨(c1.st t ht).1,h3 t ht⟩
   ·cases hN;exact he.lt
   ·show rv2.length+(stk1.length+1)≤2*(A++[e]).length
    omega
  cases stk1 with
  | nil =>
   rw [if_neg (by show ¬ decide ((([]:List S_api_Entry).length:Int)>0)=true;decide)]
   exact fin rv1 (rowM rv1 [] V a1) c1.rv (by omega) (fun t ht=>by cases ht) rfl rfl
  | cons t stk2 =>
   have hct:cont t.1 e.1:=of_decide_eq_true (c3 t rfl)
   obtain ⟨ht,htV⟩:=c1.st t (List.mem_cons_self ..)
   have hVe:V=e.1.1:=by rw [←htV];exact hct.1.symm
   have hall:∀ u∈t::stk2,u.1.1=e.1.1:=fun u hu=>by rw [(c1.st u hu).2];exact hVe
   have hslen:(((rowM rv1 (t::stk2) V a1).f_stack).length:Int)>0:=by
    show ((((t::stk2).reverse.map en).length:Nat):Int)>0
    rw [List.length_map,List.length_reverse,List.length_cons];omega
   obtain ⟨z,hz⟩:=prev_adr he.fam he.lt
   have hz':flat_previous ((en e).f_P.f_A)=some (if 0<e.1.2.1 then (adr e.1.1 (e.1.2.1-1),true) else (z,false)):=hz
   have hn3:rv1.length+(stk2.length+1)≤rv.length+stk.length:=by simpa using c2
   rw [decide_eq_true hslen,if_pos rfl,hz',bindM_some]
   by_cases h0:0<e.1.2.1
   ·rw [if_pos h0,if_pos rfl]
    have hM:e.1.2.1-1<2 ^ wd t.1.1:=by have:=he.lt;rw [htV,hVe];omega
    have hput:=put_code2 rv1 c1.rv t ht stk2 a1 (by rw [htV];exact c1.at_) (e.1.2.1-1) hM (by omega)
    obtain ⟨p1,p2,p3⟩:=putM_ok (M:=e.1.2.1-1) c1.rv ht htV c1.at_ (by rw [←htV];exact hM)
    rw [htV] at hput
    rw [midO_cons,if_pos h0,←hVe,hput,bindM_some]
    exact fin _ (rowM (putM rv1 t a1 (e.1.2.1-1)).1 (t::stk2) V (putM rv1 t a1 (e.1.2.1-1)).2) p1 p3 hall rfl rfl
   ·rw [if_neg h0,if_neg Bool.false_ne_true,midO_cons,if_neg h0]
    exact fin rv1 (rowM rv1 (t::stk2) V a1) c1.rv (by omega) hall rfl rfl
theorem flatOf_code(l:List S_api_Entry)(T:List En)(hT:∀ e∈T,Good e.1)(hn:T.length≤10000)(h:flat_Own l=some (T.map en)):flat_Of l=some ((ofM T).reverse.map sN)∧okS (ofM T)∧(ofM T).length≤2*T.length:=by
 obtain ⟨V',h1,h2,h3⟩:=of_loop T hT hn T [] ([],[],some 0) 0 rfl ⟨fun s hs=>(by cases hs),fun t ht=>(by cases ht),fun N hN=>(by cases hN;decide)⟩ (Nat.le_refl _)
 have hc:=closeN_code V' _ _ _ h2 (by omega)
 obtain ⟨c1,c2,_⟩:=closeM_way (V:=V') (fun _=>false) _ _ _ h2
 refine ⟨?_,c1.rv,?_⟩
 ·unfold flat_Of
  rw [h,bindM_some]
  have hz:({ f_l:=([]:List S_flat_Span),f_stack:=([]:List S_api_Entry),f_at:=({ f_V:=(0:Int),f_B:=(Vector.replicate 16 (0:Int):(Vector Int 16)) }:S_api_Addr),f_done:=false }:S_flat_row)=rowM [] [] 0 (some 0):=by
   have:(adr 0 0)=({ f_V:=(0:Int),f_B:=(Vector.replicate 16 (0:Int):(Vector Int 16)) }:S_api_Addr):=by decide +kernel
   rw [←this];rfl
  rw [hz]
  show (flat_Of.l0 (T.map en) (([]:List En).length:Int) (rowM [] [] 0 (some 0))>>=_)=_
  rw [h1,bindM_some,hc];rfl
 ·have:(closeM (fun _=>false) (T.foldl stepO ([],[],some 0)).1 (T.foldl stepO ([],[],some 0)).2.1 (T.foldl stepO ([],[],some 0)).2.2).1.length≤2*T.length:=by omega
  exact this
end Go.Proofs.Ytahlbjmafceoeaa.Agg
