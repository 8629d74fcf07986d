/- Texts of this claim, those in one that belong together; printed by a program of this project. -/
import Derived.Test.YtahlbjmafceoeaaProg
import Derived.Test.YtahlbjmafceoeaaKFlatThins1
set_option linter.unusedVariables false
set_option linter.unusedSimpArgs false
set_option maxRecDepth 20000
namespace Go.Proofs.Ytahlbjmafceoeaa
open E Go.RowKit _root_.Go.Proofs.Try
theorem infoF760_is:(Try.prog.info? 60).isSome=true:=by kernel_rfl
noncomputable def infoF760_v:TypeInfo:=(Try.prog.info? 60).get infoF760_is
theorem infoF760:Try.prog.info? 60=some infoF760_v:=(Option.some_get _).symm
def flat_row_move(x0:S_flat_row)(x1:S_api_Addr):Option (S_flat_row) :=
 aggregate_Next x1>>=fun t2=>some ({ { x0 with f_at:=t2.1 } with f_done:=!t2.2 })
theorem flat_row_move_ok{x0:S_flat_row}{x1:S_api_Addr}{r:S_flat_row}(hF:flat_row_move x0 x1=some r):∀ {w0 w:World} {G_:List Ent} {b0_:Nat} {p0f_l_:Option Addr} {c0f_l_:Nat} {p0f_stack_:Option Addr} {c0f_stack_:Nat} (hw_:Wd w0 (cellsE b0_ (Cd.cs c_flat_row (((p0f_l_,c0f_l_),(p0f_stack_,c0f_stack_)),x0)) 84::rowE c_flat_Span 60 p0f_l_ c0f_l_ x0.f_l::rowE c_api_Entry 66 p0f_stack_ c0f_stack_ x0.f_stack::G_) w),
    Calls Try.prog 80 #[.pointer (some ⟨b0_,0,none⟩),.agg (Cd.cs c_api_Addr x1).toArray] w (fun e w'=>∃ (z0:G_flat_row),e=.returned (.tuple #[])∧Wd w0 (cellsE b0_ (Cd.cs c_flat_row (z0,r)) 84::rowE c_flat_Span 60 z0.1.1 z0.1.2 r.f_l::rowE c_api_Entry 66 z0.2.1 z0.2.2 r.f_stack::G_) w'):=by
 intro w0 w G_ b0_ p0f_l_ c0f_l_ p0f_stack_ c0f_stack_ hw_
 unfold flat_row_move at hF
 refine ce (l:=[.pointer (some ⟨b0_,0,none⟩),.agg (Cd.cs c_api_Addr x1).toArray]) func80 rfl rfl ?_
 refine at_enterF hw_ ?_
 refine sr ?_
 refine at_box (cs:=Cd.cs c_api_Addr x1) rfl rfl rfl ?_
 intro b1
 refine ns ?_
 refine aw (r_load_aggc (c:=c_api_Addr) (z:=x1) isAgg24 sizeOf24 rfl (lens_cell .z lw)) ?_
 obtain ⟨t2,ht2,hF⟩:=bM hF
 refine cB func25 rfl (fun w hw=>aggregate_Next_ok _ _ ht2 w) ?_
 refine am ?_
 refine aw xe (aw xe ?_)
 refine al (cs:=Cd.cs c_api_Addr zv0) zeroValue24 ?_
 intro b3
 refine at_store (c:=c_api_Addr) (z:=t2.1) .z lw sizeOf24 rfl rfl rfl ?_
 refine aa (qn ?_)
 refine at_drop (H:=_) (.s .z) ?_
 refine tn (qr (am (am ?_)))
 refine aw (r_load_aggc (c:=c_api_Addr) (z:=t2.1) isAgg24 sizeOf24 rfl (lens_cell .z lw)) ?_
 refine am ?_
 refine aw (r_not rfl) ?_
 refine aw (r_nilCheck rfl) ?_
 refine fa 2 underlying84 rfl sizeOf24 ?_
 refine at_store (c:=c_api_Addr) (z:=t2.1) (.s .z) (c_flat_row_f_at ((p0f_l_,c0f_l_),(p0f_stack_,c0f_stack_)) x0) sizeOf24 rfl rfl rfl ?_
 refine aw (r_nilCheck rfl) ?_
 refine fa 19 underlying84 rfl sizeOf4 ?_
 refine at_store (c:=cBool) (z:=!t2.2) (.s .z) (c_flat_row_f_done ((p0f_l_,c0f_l_),(p0f_stack_,c0f_stack_)) ({ x0 with f_at:=t2.1 })) sizeOf4 rfl rfl rfl ?_
 refine qn (dz ?_)
 refine at_weak [] trivial ?_
 have K:=os hF
 subst K
 exact at_return0 rfl (fun w1 hw=>⟨((p0f_l_,c0f_l_),(p0f_stack_,c0f_stack_)),rfl,hw⟩)
def flat_row_put(x0:S_flat_row)(x1:S_api_Addr):Option (S_flat_row) :=
 if x0.f_done=true then (some x0) else (addr_Less x1 x0.f_at>>=fun t3=>if t3=true then (some x0) else (if (0:Int)≤wr .i64 ((x0.f_stack.length:Int)-1)∧wr .i64 ((x0.f_stack.length:Int)-1)<(x0.f_stack.length:Int) then if (decide ((x0.f_l.length:Int)>0))=true then (if (0:Int)≤wr .i64 ((x0.f_l.length:Int)-1)∧wr .i64 ((x0.f_l.length:Int)-1)<(x0.f_l.length:Int) then if ((lget x0.f_l (wr .i64 ((x0.f_l.length:Int)-1))).f_Owner==(lget x0.f_stack (wr .i64 ((x0.f_stack.length:Int)-1))).f_Owner)=true then (if (0:Int)≤wr .i64 ((x0.f_l.length:Int)-1)∧wr .i64 ((x0.f_l.length:Int)-1)<(x0.f_l.length:Int) then aggregate_Next (((lget x0.f_l (wr .i64 ((x0.f_l.length:Int)-1))).f_Range).f_To)>>=fun t20=>if t20.2=true then (if (decide (t20.1=x0.f_at))=true then (if (0:Int)≤wr .i64 ((x0.f_l.length:Int)-1)∧wr .i64 ((x0.f_l.length:Int)-1)<(x0.f_l.length:Int) then flat_row_move ({ x0 with f_l:=lset x0.f_l (wr .i64 ((x0.f_l.length:Int)-1)) ({ (lget x0.f_l (wr .i64 ((x0.f_l.length:Int)-1))) with f_Range:={ (lget x0.f_l (wr .i64 ((x0.f_l.length:Int)-1))).f_Range with f_To:=x1 } }) }) x1>>=fun t30=>some t30 else none) else (if (x0.f_l.length+1)*56≤140737488355328 then flat_row_move ({ x0 with f_l:=x0.f_l++[{ { ({ f_Range:=({ f_From:=({ f_V:=(0:Int),f_B:=(Vector.replicate 16 (0:Int):(Vector Int 16)) }:S_api_Addr),f_To:=({ f_V:=(0:Int),f_B:=(Vector.replicate 16 (0:Int):(Vector Int 16)) }:S_api_Addr) }:S_aggregate_Range),f_Owner:=(0:Int) }:S_flat_Span) with f_Range:={ { ({ f_From:=({ f_V:=(0:Int),f_B:=(Vector.replicate 16 (0:Int):(Vector Int 16)) }:S_api_Addr),f_To:=({ f_V:=(0:Int),f_B:=(Vector.replicate 16 (0:Int):(Vector Int 16)) }:S_api_Addr) }:S_aggregate_Range) with f_From:=x0.f_at } with f_To:=x1 } } with f_Owner:=(lget x0.f_stack (wr .i64 ((x0.f_stack.length:Int)-1))).f_Owner }] }) x1>>=fun t40=>some t40 else none)) else (if (x0.f_l.length+1)*56≤140737488355328 then flat_row_move ({ x0 with f_l:=x0.f_l++[{ { ({ f_Range:=({ f_From:=({ f_V:=(0:Int),f_B:=(Vector.replicate 16 (0:Int):(Vector Int 16)) }:S_api_Addr),f_To:=({ f_V:=(0:Int),f_B:=(Vector.replicate 16 (0:Int):(Vector Int 16)) }:S_api_Addr) }:S_aggregate_Range),f_Owner:=(0:Int) }:S_flat_Span) with f_Range:={ { ({ f_From:=({ f_V:=(0:Int),f_B:=(Vector.replicate 16 (0:Int):(Vector Int 16)) }:S_api_Addr),f_To:=({ f_V:=(0:Int),f_B:=(Vector.replicate 16 (0:Int):(Vector Int 16)) }:S_api_Addr) }:S_aggregate_Range) with f_From:=x0.f_at } with f_To:=x1 } } with f_Owner:=(lget x0.f_stack (wr .i64 ((x0.f_stack.length:Int)-1))).f_Owner }] }) x1>>=fun t50=>some t50 else none) else none) else (if (x0.f_l.length+1)*56≤140737488355328 then flat_row_move ({ x0 with f_l:=x0.f_l++[{ { ({ f_Range:=({ f_From:=({ f_V:=(0:Int),f_B:=(Vector.replicate 16 (0:Int):(Vector Int 16)) }:S_api_Addr),f_To:=({ f_V:=(0:Int),f_B:=(Vector.replicate 16 (0:Int):(Vector Int 16)) }:S_api_Addr) }:S_aggregate_Range),f_Owner:=(0:Int) }:S_flat_Span) with f_Range:={ { ({ f_From:=({ f_V:=(0:Int),f_B:=(Vector.replicate 16 (0:Int):(Vector Int 16)) }:S_api_Addr),f_To:=({ f_V:=(0:Int),f_B:=(Vector.replicate 16 (0:Int):(Vector Int 16)) }:S_api_Addr) }:S_aggregate_Range) with f_From:=x0.f_at } with f_To:=x1 } } with f_Owner:=(lget x0.f_stack (wr .i64 ((x0.f_stack.length:Int)-1))).f_Owner }] }) x1>>=fun t60=>some t60 else none) else none) else (if (x0.f_l.length+1)*56≤140737488355328 then flat_row_move ({ x0 with f_l:=x0.f_l++[{ { ({ f_Range:=({ f_From:=({ f_V:=(0:Int),f_B:=(Vector.replicate 16 (0:Int):(Vector Int 16)) }:S_api_Addr),f_To:=({ f_V:=(0:Int),f_B:=(Vector.replicate 16 (0:Int):(Vector Int 16)) }:S_api_Addr) }:S_aggregate_Range),f_Owner:=(0:Int) }:S_flat_Span) with f_Range:={ { ({ f_From:=({ f_V:=(0:Int),f_B:=(Vector.replicate 16 (0:Int):(Vector Int 16)) }:S_api_Addr),f_To:=({ f_V:=(0:Int),f_B:=(Vector.replicate 16 (0:Int):(Vector Int 16)) }:S_api_Addr) }:S_aggregate_Range) with f_From:=x0.f_at } with f_To:=x1 } } with f_Owner:=(lget x0.f_stack (wr .i64 ((x0.f_stack.length:Int)-1))).f_Owner }] }) x1>>=fun t70=>some t70 else none) else none))
set_option maxHeartbeats 3200000 in
theorem flat_row_put_ok{x0:S_flat_row}{x1:S_api_Addr}{r:S_flat_row}(hF:flat_row_put x0 x1=some r):∀ {w0 w:World} {G_:List Ent} {b0_:Nat} {p0f_l_:Option Addr} {c0f_l_:Nat} {p0f_stack_:Option Addr} {c0f_stack_:Nat} (hw_:Wd w0 (cellsE b0_ (Cd.cs c_flat_row (((p0f_l_,c0f_l_),(p0f_stack_,c0f_stack_)),x0)) 84::rowE c_flat_Span 60 p0f_l_ c0f_l_ x0.f_l::rowE c_api_Entry 66 p0f_stack_ c0f_stack_ x0.f_stack::G_) w),
    Calls Try.prog 56 #[.pointer (some ⟨b0_,0,none⟩),.agg (Cd.cs c_api_Addr x1).toArray] w (fun e w'=>∃ (z0:G_flat_row),e=.returned (.tuple #[])∧Wd w0 (cellsE b0_ (Cd.cs c_flat_row (z0,r)) 84::rowE c_flat_Span 60 z0.1.1 z0.1.2 r.f_l::rowE c_api_Entry 66 z0.2.1 z0.2.2 r.f_stack::G_) w'):=by
 intro w0 w G_ b0_ p0f_l_ c0f_l_ p0f_stack_ c0f_stack_ hw_
 unfold flat_row_put at hF
 refine ce (l:=[.pointer (some ⟨b0_,0,none⟩),.agg (Cd.cs c_api_Addr x1).toArray]) func56 rfl rfl ?_
 refine at_enterF hw_ ?_
 refine sr ?_
 refine at_box (cs:=Cd.cs c_api_Addr x1) rfl rfl rfl ?_
 intro b1
 refine nwq [3,0] ?_
 refine qs (qs ?_)
 refine at_draw (by kernel_rfl) (by kernel_rfl) (fun _ h=>h.drew) ?_
 refine atq_val rfl rfl rfl (r_move rfl) ?_
 refine atq_val rfl rfl rfl (r_nilCheck rfl) ?_
 refine atq_val rfl rfl rfl (r_fieldAddr (fo:=19) underlying84 rfl rfl (fun w=>⟨_,sizeOf4 w⟩) rfl) ?_
 refine atq_val rfl rfl rfl (r_load_cell isAgg4 rfl (lens_cell0 (c:=cBool) (y:=x0.f_done) (.s .z) (c_flat_row_f_done ((p0f_l_,c0f_l_),(p0f_stack_,c0f_stack_)) x0) rfl)) ?_
 refine atq_val rfl rfl rfl (r_move rfl) ?_
 obtain ⟨h2,hF⟩|⟨h2,hF⟩:=oi hF
 ·refine atq_fix (g:=12) rfl h2 ?_
  refine atq_guard_no rfl rfl rfl rfl rfl ?_
  refine atq_guard_no rfl rfl rfl rfl rfl ?_
  refine atq_guard_no rfl rfl rfl rfl rfl ?_
  refine atq_guard_no rfl rfl rfl rfl rfl ?_
  refine atq_guard_no rfl rfl rfl rfl rfl ?_
  refine atq_guard_no rfl rfl rfl rfl rfl ?_
  refine atq_val rfl rfl rfl (r_pick rfl rfl rfl) ?_
  refine atq_nil ?_
  refine wq [19,3,0] ?_
  refine tn ?_
  refine ct rfl ?_
  refine rt (dz ?_)
  have K:=os hF
  subst K
  exact at_return0' rfl (fun w1 hw=>⟨((p0f_l_,c0f_l_),(p0f_stack_,c0f_stack_)),rfl,hw⟩)
 refine atq_fix (g:=12) rfl h2 ?_
 refine atq_guard_yes rfl rfl rfl ?_
 refine atq_val rfl rfl rfl (r_load_aggc (c:=c_api_Addr) (z:=x1) isAgg24 sizeOf24 rfl (lens_cell .z lw)) ?_
 refine atq_guard_yes rfl rfl rfl ?_
 refine atq_val rfl rfl rfl (r_move rfl) ?_
 refine atq_guard_yes rfl rfl rfl ?_
 refine atq_val rfl rfl rfl (r_nilCheck rfl) ?_
 refine atq_guard_yes rfl rfl rfl ?_
 refine atq_val rfl rfl rfl (r_fieldAddr (fo:=2) underlying84 rfl rfl (fun w=>⟨_,sizeOf24 w⟩) rfl) ?_
 refine atq_guard_yes rfl rfl rfl ?_
 refine atq_val rfl rfl rfl (r_load_aggc (c:=c_api_Addr) (z:=x0.f_at) isAgg24 sizeOf24 rfl (lens_cell (.s .z) (c_flat_row_f_at ((p0f_l_,c0f_l_),(p0f_stack_,c0f_stack_)) x0))) ?_
 refine atq_guard_yes rfl rfl rfl ?_
 obtain ⟨t3,ht3,hF⟩:=bM hF
 refine atq_call func39 rfl (by kernel_rfl) rfl rfl (fun w hw=>(addr_Less_ok _ _ _ ht3 w).mono fun _ _ h=>⟨h.1,hw.call h.2⟩) ?_
 refine atq_val rfl rfl rfl (r_pick rfl rfl rfl) ?_
 refine atq_nil ?_
 refine wq [19,3,0] ?_
 refine tn ?_
 obtain ⟨h4,hF⟩|⟨h4,hF⟩:=oi hF
 ·refine ct h4 ?_
  refine rt (dz ?_)
  have K:=os hF
  subst K
  exact at_return0' rfl (fun w1 hw=>⟨((p0f_l_,c0f_l_),(p0f_stack_,c0f_stack_)),rfl,hw⟩)
 refine cf h4 ?_
 refine sn (qs (wq [3,0] ?_))
 obtain ⟨h5,hF⟩:=gd hF
 refine at_pure (φ:=∃ b o,p0f_stack_=some ⟨b,o,none⟩) (fun _ hw=>row_ptr (hw.own (.s (.s (.s .z)))).row h5) ?_
 rintro ⟨b7,o8,hp6⟩
 refine at_inv [.q 20 (fun g9=>.pointer (some ⟨b0_,0,none⟩)) [] 0 0,.q 21 (fun g9=>.pointer (some ⟨b0_,0,none⟩)) [0] 0 0,.q 22 (fun g9=>.pointer (some ⟨b0_,0+1,none⟩)) [1] 0 0,.q 23 (fun g9=>.slice p0f_stack_ x0.f_stack.length c0f_stack_) [2] 0 0,.q 24 (fun g9=>.pointer (some ⟨b0_,0,none⟩)) [] 0 0,.q 25 (fun g9=>.pointer (some ⟨b0_,0,none⟩)) [4] 0 0,.q 26 (fun g9=>.pointer (some ⟨b0_,0+1,none⟩)) [5] 0 0,.q 27 (fun g9=>.slice p0f_stack_ x0.f_stack.length c0f_stack_) [6] 0 0,.q 28 (fun g9=>.int .i64 (x0.f_stack.length:Int)) [7] 0 0,.q 29 (fun g9=>.int .i64 (wr .i64 ((x0.f_stack.length:Int)-1))) [8] 0 0,.q 30 (fun g9=>.pointer (some ⟨b7,o8+Int.toNat (wr .i64 ((x0.f_stack.length:Int)-1))*19,none⟩)) [3,9] 0 0,.q 31 (fun g9=>.pointer (some ⟨b7,o8+Int.toNat (wr .i64 ((x0.f_stack.length:Int)-1))*19+18,none⟩)) [10] 0 0,.q 32 (fun g9=>.int .i64 ((lget x0.f_stack (wr .i64 ((x0.f_stack.length:Int)-1))).f_Owner)) [11] 0 0,.q 4 (fun g9=>.int .i64 ((lget x0.f_stack (wr .i64 ((x0.f_stack.length:Int)-1))).f_Owner)) [12] 0 0] (fun g9 s=>match s with | _=>(Wd w0 (cellsE b1 (Cd.cs c_api_Addr x1) 24::cellsE b0_ (Cd.cs c_flat_row (((p0f_l_,c0f_l_),(p0f_stack_,c0f_stack_)),x0)) 84::rowE c_flat_Span 60 p0f_l_ c0f_l_ x0.f_l::rowE c_api_Entry 66 p0f_stack_ c0f_stack_ x0.f_stack::G_))) 0 (by kernel_rfl) (by kernel_rfl) (by kernel_rfl) (by kernel_rfl) (by kernel_rfl) ⟨fun _ _ _=>rfl,fun _ _ _=>rfl,fun _ _ _=>rfl,fun _ _ _=>rfl,fun _ _ _=>rfl,fun _ _ _=>rfl,fun _ _ _=>rfl,fun _ _ _=>rfl,fun _ _ _=>rfl,fun _ _ _=>rfl,fun _ _ _=>rfl,fun _ _ _=>rfl,fun _ _ _=>rfl,fun _ _ _=>rfl,trivial⟩ (by kernel_rfl) (fun w_ h=>⟨fun _=>g3 0 none 0 none w_,h.drew⟩) ⟨?_,?_,?_,?_,?_,?_,?_,?_,?_,?_,?_,?_,?_,?_,trivial⟩ ?_
 ·intro Lx g9 s K hl hh k
  show At 109 ((0,_)::(3,_)::Lx) _ _
  refine am ?_
  exact at_nil k
 ·intro Lx g9 s K hl hh k
  show At 109 ((20,_)::(0,_)::(3,_)::Lx) _ _
  refine aw (r_nilCheck rfl) ?_
  exact at_nil k
 ·intro Lx g9 s K hl hh k
  show At 109 ((21,_)::(0,_)::(3,_)::Lx) _ _
  refine fa 1 underlying84 rfl sizeOf54 ?_
  exact at_nil k
 ·intro Lx g9 s K hl hh k
  show At 109 ((22,_)::(0,_)::(3,_)::Lx) _ _
  obtain rfl:s=0:=by omega
  refine aw (r_load_cell isAgg54 rfl (lens_cell0 (c:=cHd) (y:=⟨(((p0f_l_,c0f_l_),(p0f_stack_,c0f_stack_)).2).1,List.length x0.f_stack,(((p0f_l_,c0f_l_),(p0f_stack_,c0f_stack_)).2).2⟩) (.s .z) (c_flat_row_f_stack ((p0f_l_,c0f_l_),(p0f_stack_,c0f_stack_)) x0) rfl)) ?_
  exact at_nil k
 ·intro Lx g9 s K hl hh k
  show At 109 ((0,_)::(3,_)::Lx) _ _
  refine am ?_
  exact at_nil k
 ·intro Lx g9 s K hl hh k
  show At 109 ((24,_)::(0,_)::(3,_)::Lx) _ _
  refine aw (r_nilCheck rfl) ?_
  exact at_nil k
 ·intro Lx g9 s K hl hh k
  show At 109 ((25,_)::(0,_)::(3,_)::Lx) _ _
  refine fa 1 underlying84 rfl sizeOf54 ?_
  exact at_nil k
 ·intro Lx g9 s K hl hh k
  show At 109 ((26,_)::(0,_)::(3,_)::Lx) _ _
  obtain rfl:s=0:=by omega
  refine aw (r_load_cell isAgg54 rfl (lens_cell0 (c:=cHd) (y:=⟨(((p0f_l_,c0f_l_),(p0f_stack_,c0f_stack_)).2).1,List.length x0.f_stack,(((p0f_l_,c0f_l_),(p0f_stack_,c0f_stack_)).2).2⟩) (.s .z) (c_flat_row_f_stack ((p0f_l_,c0f_l_),(p0f_stack_,c0f_stack_)) x0) rfl)) ?_
  exact at_nil k
 ·intro Lx g9 s K hl hh k
  show At 109 ((27,_)::(0,_)::(3,_)::Lx) _ _
  obtain rfl:s=0:=by omega
  refine aw (r_len_sl underlying54 rfl) ?_
  exact at_nil k
 ·intro Lx g9 s K hl hh k
  show At 109 ((28,_)::(0,_)::(3,_)::Lx) _ _
  refine aw (r_isub rfl rfl) ?_
  exact at_nil k
 ·intro Lx g9 s K hl hh k
  show At 109 ((23,_)::(29,_)::(0,_)::(3,_)::Lx) _ _
  refine aw (r_idx underlying54 sizeOf66 rfl rfl h5 hp6) ?_
  exact at_nil k
 ·intro Lx g9 s K hl hh k
  show At 109 ((30,_)::(0,_)::(3,_)::Lx) _ _
  refine fa 18 underlying66 rfl sizeOf3 ?_
  exact at_nil k
 ·intro Lx g9 s K hl hh k
  show At 109 ((31,_)::(0,_)::(3,_)::Lx) _ _
  obtain rfl:s=0:=by omega
  refine aw (r_load_cell isAgg3 rfl (fun w1 hw=>row_lens0 (y:=(lget x0.f_stack (wr .i64 ((x0.f_stack.length:Int)-1))).f_Owner) (W:=fun w1=>w1=_) (fun w1 h=>by subst h;exact Below.refl _ _) (hw.own (.s (.s (.s .z)))).row h5 hp6 (Lens.comp lw (fun z=>{ (lget x0.f_stack (wr .i64 ((x0.f_stack.length:Int)-1))) with f_Owner:=z }) (c_api_Entry_f_Owner (lget x0.f_stack (wr .i64 ((x0.f_stack.length:Int)-1))))) rfl _ rfl)) ?_
  exact at_nil k
 ·intro Lx g9 s K hl hh k
  show At 109 ((32,_)::(0,_)::(3,_)::Lx) _ _
  refine aa ?_
  exact at_nil k
 intro g9
 show At 109 [(20,_),(21,_),(22,_),(23,_),(24,_),(25,_),(26,_),(27,_),(28,_),(29,_),(30,_),(31,_),(32,_),(4,_),(0,_),(3,_)] _ _
 refine tn (sr (am ?_))
 refine aw (r_nilCheck rfl) ?_
 refine fa 0 underlying84 rfl sizeOf55 ?_
 refine aw (r_load_cell isAgg55 rfl (lens_cell0 (c:=cHd) (y:=⟨(((p0f_l_,c0f_l_),(p0f_stack_,c0f_stack_)).1).1,List.length x0.f_l,(((p0f_l_,c0f_l_),(p0f_stack_,c0f_stack_)).1).2⟩) (.s .z) (c_flat_row_f_l ((p0f_l_,c0f_l_),(p0f_stack_,c0f_stack_)) x0) rfl)) ?_
 refine aw (r_len_sl underlying55 rfl) ?_
 refine aa (nwq [5,4,3,0] ?_)
 refine qs (sr (am ?_))
 refine aw (r_igtr rfl rfl) ?_
 refine am ?_
 obtain ⟨h10,hF⟩|⟨h10,hF⟩:=oi hF
 ·refine fx 40 h10 ?_
  refine gy ?_
  refine am ?_
  refine gy ?_
  refine aw (r_nilCheck rfl) ?_
  refine gy ?_
  refine fa 0 underlying84 rfl sizeOf55 ?_
  refine gy ?_
  refine aw (r_load_cell isAgg55 rfl (lens_cell0 (c:=cHd) (y:=⟨(((p0f_l_,c0f_l_),(p0f_stack_,c0f_stack_)).1).1,List.length x0.f_l,(((p0f_l_,c0f_l_),(p0f_stack_,c0f_stack_)).1).2⟩) (.s .z) (c_flat_row_f_l ((p0f_l_,c0f_l_),(p0f_stack_,c0f_stack_)) x0) rfl)) ?_
  refine gy ?_
  refine am ?_
  refine gy ?_
  refine aw (r_isub rfl rfl) ?_
  refine gy ?_
  obtain ⟨h11,hF⟩:=gd hF
  refine at_pure (φ:=∃ b o,p0f_l_=some ⟨b,o,none⟩) (fun _ hw=>row_ptr (hw.own (.s (.s .z))).row h11) ?_
  rintro ⟨b13,o14,hp12⟩
  refine aw (r_idx underlying55 sizeOf60 rfl rfl h11 hp12) ?_
  refine gy ?_
  refine fa 34 underlying60 rfl sizeOf3 ?_
  refine gy ?_
  refine aw (r_load_cell isAgg3 rfl (fun w1 hw=>row_lens0 (y:=(lget x0.f_l (wr .i64 ((x0.f_l.length:Int)-1))).f_Owner) (W:=fun w1=>w1=_) (fun w1 h=>by subst h;exact Below.refl _ _) (hw.own (.s (.s .z))).row h11 hp12 (Lens.comp lw (fun z=>{ (lget x0.f_l (wr .i64 ((x0.f_l.length:Int)-1))) with f_Owner:=z }) (c_flat_Span_f_Owner (lget x0.f_l (wr .i64 ((x0.f_l.length:Int)-1))))) rfl _ rfl)) ?_
  refine gy ?_
  refine am ?_
  refine gy ?_
  refine aw xq (aw xp (nwq [52,5,4,3,0] ?_))
  obtain ⟨h15,hF⟩|⟨h15,hF⟩:=oi hF
  ·refine ct h15 ?_
   refine sr (am ?_)
   refine aw (r_nilCheck rfl) ?_
   refine fa 0 underlying84 rfl sizeOf55 ?_
   refine aw (r_load_cell isAgg55 rfl (lens_cell0 (c:=cHd) (y:=⟨(((p0f_l_,c0f_l_),(p0f_stack_,c0f_stack_)).1).1,List.length x0.f_l,(((p0f_l_,c0f_l_),(p0f_stack_,c0f_stack_)).1).2⟩) (.s .z) (c_flat_row_f_l ((p0f_l_,c0f_l_),(p0f_stack_,c0f_stack_)) x0) rfl)) ?_
   refine am ?_
   refine aw (r_isub rfl rfl) ?_
   obtain ⟨h16,hF⟩:=gd hF
   refine at_pure (φ:=∃ b o,p0f_l_=some ⟨b,o,none⟩) (fun _ hw=>row_ptr (hw.own (.s (.s .z))).row h16) ?_
   rintro ⟨b18,o19,hp17⟩
   refine aw (r_idx underlying55 sizeOf60 rfl rfl h16 hp17) ?_
   refine fa 0 underlying60 rfl sizeOf26 (fa 17 underlying26 rfl sizeOf24 ?_)
   refine aw (r_load_aggc (c:=c_api_Addr) (z:=((lget x0.f_l (wr .i64 ((x0.f_l.length:Int)-1))).f_Range).f_To) isAgg24 sizeOf24 rfl (fun w1 hw=>row_lens (y:=((lget x0.f_l (wr .i64 ((x0.f_l.length:Int)-1))).f_Range).f_To) (W:=fun w1=>w1=_) (fun w1 h=>by subst h;exact Below.refl _ _) (hw.own (.s (.s .z))).row h16 hp17 (Lens.comp (Lens.comp lw (fun z=>{ (lget x0.f_l (wr .i64 ((x0.f_l.length:Int)-1))) with f_Range:=z }) (c_flat_Span_f_Range (lget x0.f_l (wr .i64 ((x0.f_l.length:Int)-1))))) (fun z=>{ (lget x0.f_l (wr .i64 ((x0.f_l.length:Int)-1))).f_Range with f_To:=z }) (c_aggregate_Range_f_To ((lget x0.f_l (wr .i64 ((x0.f_l.length:Int)-1))).f_Range))) _ rfl)) ?_
   obtain ⟨t20,ht20,hF⟩:=bM hF
   refine cB func25 rfl (fun w hw=>aggregate_Next_ok _ _ ht20 w) ?_
   refine am ?_
   refine aw xe (aw xe ?_)
   refine al (cs:=Cd.cs c_api_Addr zv0) zeroValue24 ?_
   intro b21
   refine at_store (c:=c_api_Addr) (z:=t20.1) .z lw sizeOf24 rfl rfl rfl ?_
   refine aa (nwq [7,6,5,4,3,0] ?_)
   refine qs ?_
   refine at_draw (by kernel_rfl) (by kernel_rfl) (fun _ h=>h.drew) ?_
   refine atq_val rfl rfl rfl (r_move rfl) ?_
   refine atq_val rfl rfl rfl (r_move rfl) ?_
   obtain ⟨h22,hF⟩|⟨h22,hF⟩:=oi hF
   ·refine atq_fix (g:=68) rfl h22 ?_
    refine atq_guard_yes rfl rfl rfl ?_
    refine atq_val rfl rfl rfl (r_load_aggc (c:=c_api_Addr) (z:=t20.1) isAgg24 sizeOf24 rfl (lens_cell .z lw)) ?_
    refine atq_guard_yes rfl rfl rfl ?_
    refine atq_val rfl rfl rfl (r_move rfl) ?_
    refine atq_guard_yes rfl rfl rfl ?_
    refine atq_val rfl rfl rfl (r_nilCheck rfl) ?_
    refine atq_guard_yes rfl rfl rfl ?_
    refine atq_val rfl rfl rfl (r_fieldAddr (fo:=2) underlying84 rfl rfl (fun w=>⟨_,sizeOf24 w⟩) rfl) ?_
    refine atq_guard_yes rfl rfl rfl ?_
    refine atq_val rfl rfl rfl (r_load_aggc (c:=c_api_Addr) (z:=x0.f_at) isAgg24 sizeOf24 rfl (lens_cell (.s (.s .z)) (c_flat_row_f_at ((p0f_l_,c0f_l_),(p0f_stack_,c0f_stack_)) x0))) ?_
    refine atq_guard_yes rfl rfl rfl ?_
    refine atq_val rfl rfl rfl (r_eqagg (c:=c_api_Addr) (a:=t20.1) (b:=x0.f_at) (eq_api_Addr_24) rfl Try.eqGuardType24 rfl rfl (.inl rfl) rfl) ?_
    refine atq_val rfl rfl rfl (r_pick rfl rfl rfl) ?_
    refine atq_nil ?_
    refine dz (wq [75,5,4,3,0] ?_)
    refine tn ?_
    obtain ⟨h23,hF⟩|⟨h23,hF⟩:=oi hF
    ·refine ct h23 ?_
     refine qs (wq [5,3,0] ?_)
     obtain ⟨h24,hF⟩:=gd hF
     refine at_pure (φ:=∃ b o,p0f_l_=some ⟨b,o,none⟩) (fun _ hw=>row_ptr (hw.own (.s (.s .z))).row h24) ?_
     rintro ⟨b26,o27,hp25⟩
     refine at_inv [.q 76 (fun g29=>.pointer (some ⟨b0_,0,none⟩)) [] 0 0,.q 77 (fun g29=>.pointer (some ⟨b0_,0,none⟩)) [0] 0 0,.q 78 (fun g29=>.pointer (some ⟨b0_,0+0,none⟩)) [1] 0 0,.q 79 (fun g29=>.slice p0f_l_ x0.f_l.length c0f_l_) [2] 0 0,.q 80 (fun g29=>.int .i64 (x0.f_l.length:Int)) [] 0 0,.q 81 (fun g29=>.int .i64 (wr .i64 ((x0.f_l.length:Int)-1))) [4] 0 0,.q 82 (fun g29=>.agg (Cd.cs c_api_Addr x1).toArray) [] 0 0,.q 83 (fun g29=>.pointer (some ⟨b26,o27+Int.toNat (wr .i64 ((x0.f_l.length:Int)-1))*35,none⟩)) [3,5] 0 0,.q 84 (fun g29=>.pointer (some ⟨b26,o27+Int.toNat (wr .i64 ((x0.f_l.length:Int)-1))*35+0,none⟩)) [7] 0 0,.q 85 (fun g29=>.pointer (some ⟨b26,o27+Int.toNat (wr .i64 ((x0.f_l.length:Int)-1))*35+0+17,none⟩)) [8] 0 0,.st 0 none [6,9]] (fun g29 s=>match s with | 0=>(Wd w0 (cellsE b1 (Cd.cs c_api_Addr x1) 24::cellsE b0_ (Cd.cs c_flat_row (((p0f_l_,c0f_l_),(p0f_stack_,c0f_stack_)),x0)) 84::rowE c_flat_Span 60 p0f_l_ c0f_l_ x0.f_l::rowE c_api_Entry 66 p0f_stack_ c0f_stack_ x0.f_stack::G_)) | _=>(Wd w0 (cellsE b1 (Cd.cs c_api_Addr x1) 24::cellsE b0_ (Cd.cs c_flat_row ((/-28-/((p0f_l_,c0f_l_),(p0f_stack_,c0f_stack_))),{ x0 with f_l:=lset x0.f_l (wr .i64 ((x0.f_l.length:Int)-1)) ({ (lget x0.f_l (wr .i64 ((x0.f_l.length:Int)-1))) with f_Range:={ (lget x0.f_l (wr .i64 ((x0.f_l.length:Int)-1))).f_Range with f_To:=x1 } }) })) 84::rowE c_flat_Span 60 p0f_l_ c0f_l_ (lset x0.f_l (wr .i64 ((x0.f_l.length:Int)-1)) ({ (lget x0.f_l (wr .i64 ((x0.f_l.length:Int)-1))) with f_Range:={ (lget x0.f_l (wr .i64 ((x0.f_l.length:Int)-1))).f_Range with f_To:=x1 } }))::rowE c_api_Entry 66 p0f_stack_ c0f_stack_ x0.f_stack::G_))) 1 (by kernel_rfl) (by kernel_rfl) (by kernel_rfl) (by kernel_rfl) (by kernel_rfl) ⟨fun _ _ _=>rfl,fun _ _ _=>rfl,fun _ _ _=>rfl,fun _ _ _=>rfl,fun _ _ _=>rfl,fun _ _ _=>rfl,fun _ _ _=>rfl,fun _ _ _=>rfl,fun _ _ _=>rfl,fun _ _ _=>rfl,fun _ _ _=>rfl,trivial⟩ (by kernel_rfl) (fun w_ h=>⟨fun _=>g3 0 none 0 none w_,h.drew⟩) ⟨?_,?_,?_,?_,?_,?_,?_,?_,?_,?_,?_,trivial⟩ ?_
     ·intro Lx g29 s K hl hh k
      show At 109 ((0,_)::(3,_)::(5,_)::Lx) _ _
      refine am ?_
      exact at_nil k
     ·intro Lx g29 s K hl hh k
      show At 109 ((76,_)::(0,_)::(3,_)::(5,_)::Lx) _ _
      refine aw (r_nilCheck rfl) ?_
      exact at_nil k
     ·intro Lx g29 s K hl hh k
      show At 109 ((77,_)::(0,_)::(3,_)::(5,_)::Lx) _ _
      refine fa 0 underlying84 rfl sizeOf55 ?_
      exact at_nil k
     ·intro Lx g29 s K hl hh k
      show At 109 ((78,_)::(0,_)::(3,_)::(5,_)::Lx) _ _
      obtain rfl:s=0:=by omega
      refine aw (r_load_cell isAgg55 rfl (lens_cell0 (c:=cHd) (y:=⟨(((p0f_l_,c0f_l_),(p0f_stack_,c0f_stack_)).1).1,List.length x0.f_l,(((p0f_l_,c0f_l_),(p0f_stack_,c0f_stack_)).1).2⟩) (.s .z) (c_flat_row_f_l ((p0f_l_,c0f_l_),(p0f_stack_,c0f_stack_)) x0) rfl)) ?_
      exact at_nil k
     ·intro Lx g29 s K hl hh k
      show At 109 ((0,_)::(3,_)::(5,_)::Lx) _ _
      refine am ?_
      exact at_nil k
     ·intro Lx g29 s K hl hh k
      show At 109 ((80,_)::(0,_)::(3,_)::(5,_)::Lx) _ _
      refine aw (r_isub rfl rfl) ?_
      exact at_nil k
     ·intro Lx g29 s K hl hh k
      show At 109 ((0,_)::(3,_)::(5,_)::Lx) _ _
      obtain rfl:s=0:=by omega
      refine aw (r_load_aggc (c:=c_api_Addr) (z:=x1) isAgg24 sizeOf24 rfl (lens_cell .z lw)) ?_
      exact at_nil k
     ·intro Lx g29 s K hl hh k
      show At 109 ((79,_)::(81,_)::(0,_)::(3,_)::(5,_)::Lx) _ _
      refine aw (r_idx underlying55 sizeOf60 rfl rfl h24 hp25) ?_
      exact at_nil k
     ·intro Lx g29 s K hl hh k
      show At 109 ((83,_)::(0,_)::(3,_)::(5,_)::Lx) _ _
      refine fa 0 underlying60 rfl sizeOf26 ?_
      exact at_nil k
     ·intro Lx g29 s K hl hh k
      show At 109 ((84,_)::(0,_)::(3,_)::(5,_)::Lx) _ _
      refine fa 17 underlying26 rfl sizeOf24 ?_
      exact at_nil k
     ·intro Lx g29 K k
      show At 109 ((82,_)::(85,_)::(0,_)::(3,_)::(5,_)::Lx) _ _
      refine at_storeRow (c:=c_flat_Span) (c':=c_api_Addr) (i:=wr .i64 ((x0.f_l.length:Int)-1)) (z:=x1) (y:={ (lget x0.f_l (wr .i64 ((x0.f_l.length:Int)-1))) with f_Range:={ (lget x0.f_l (wr .i64 ((x0.f_l.length:Int)-1))).f_Range with f_To:=x1 } }) (.s (.s .z)) h24 hp25 (Lens.comp (Lens.comp lw (fun z=>{ (lget x0.f_l (wr .i64 ((x0.f_l.length:Int)-1))) with f_Range:=z }) (c_flat_Span_f_Range (lget x0.f_l (wr .i64 ((x0.f_l.length:Int)-1))))) (fun z=>{ (lget x0.f_l (wr .i64 ((x0.f_l.length:Int)-1))).f_Range with f_To:=z }) (c_aggregate_Range_f_To ((lget x0.f_l (wr .i64 ((x0.f_l.length:Int)-1))).f_Range))) (by rfl) sizeOf24 rfl rfl rfl ?_
      refine at_cellsEq (cells':=Cd.cs c_flat_row (((p0f_l_,c0f_l_),(p0f_stack_,c0f_stack_)),{ x0 with f_l:=lset x0.f_l (wr .i64 ((x0.f_l.length:Int)-1)) ({ (lget x0.f_l (wr .i64 ((x0.f_l.length:Int)-1))) with f_Range:={ (lget x0.f_l (wr .i64 ((x0.f_l.length:Int)-1))).f_Range with f_To:=x1 } }) })) (.s .z) (by simp [c_flat_row,lset_length]) ?_
      exact at_nil k
     intro g29
     show At 109 [(76,_),(77,_),(78,_),(79,_),(80,_),(81,_),(82,_),(83,_),(84,_),(85,_),(0,_),(3,_),(5,_)] _ _
     refine at_ov (t:=79) rfl (show Value.slice p0f_l_ (List.length x0.f_l) c0f_l_=.slice p0f_l_ (List.length (lset x0.f_l (wr .i64 ((x0.f_l.length:Int)-1)) ({ (lget x0.f_l (wr .i64 ((x0.f_l.length:Int)-1))) with f_Range:={ (lget x0.f_l (wr .i64 ((x0.f_l.length:Int)-1))).f_Range with f_To:=x1 } }))) c0f_l_ from congrArg (fun n_=>Value.slice p0f_l_ n_ c0f_l_) ((lset_length _ _ _).symm)) ?_
     refine wq [3,0] ?_
     refine tn (sr (am ?_))
     refine aw (r_load_aggc (c:=c_api_Addr) (z:=x1) isAgg24 sizeOf24 rfl (lens_cell .z lw)) ?_
     obtain ⟨t30,ht30,hF⟩:=bM hF
     refine at_front (.s (.s (.s .z))) ?_
     refine at_front (.s (.s (.s .z))) ?_
     refine at_front (.s (.s (.s .z))) ?_
     refine at_callX (γ:=G_flat_row) (V:=fun z=>.tuple #[]) (T:=fun z=>(cellsE b0_ (Cd.cs c_flat_row (z,t30)) 84::rowE c_flat_Span 60 z.1.1 z.1.2 t30.f_l::rowE c_api_Entry 66 z.2.1 z.2.2 t30.f_stack::cellsE b1 (Cd.cs c_api_Addr x1) 24::G_)) func80 rfl (by kernel_rfl) rfl rfl (fun w hw=>flat_row_move_ok ht30 hw) ?_
     rintro ⟨⟨p31,c32⟩,⟨p33,c34⟩⟩
     refine qn ?_
     refine at_drop (H:=_) (.s (.s (.s .z))) ?_
     refine at_weak [] trivial ?_
     refine tn (rt ?_)
     have K:=os hF
     subst K
     exact at_return0' rfl (fun w1 hw=>⟨((p31,c32),(p33,c34)),rfl,hw⟩)
    refine cf h23 ?_
    refine sn (qs (wq [4,3,0] ?_))
    obtain ⟨h36,hF⟩:=gd hF
    refine at_inv [.q 89 (fun g39=>.pointer (some ⟨b0_,0,none⟩)) [] 0 2,.q 90 (fun g39=>.pointer (some ⟨b0_,0,none⟩)) [] 0 1,.q 91 (fun g39=>.pointer (some ⟨b0_,0,none⟩)) [1] 0 1,.q 92 (fun g39=>.pointer (some ⟨b0_,0+0,none⟩)) [2] 0 1,.q 93 (fun g39=>.slice p0f_l_ x0.f_l.length c0f_l_) [3] 0 1,.q 94 (fun g39=>.pointer (some ⟨b0_,0,none⟩)) [] 0 2,.q 95 (fun g39=>.pointer (some ⟨b0_,0,none⟩)) [5] 0 0,.q 96 (fun g39=>.pointer (some ⟨b0_,0+2,none⟩)) [6] 0 0,.q 97 (fun g39=>.agg (Cd.cs c_api_Addr x0.f_at).toArray) [7] 0 0,.q 98 (fun g39=>.agg (Cd.cs c_api_Addr x1).toArray) [] 0 0,.q 99 (fun g39=>.agg (Cd.cs c_aggregate_Range ({ { zv5 with f_From:=x0.f_at } with f_To:=x1 })).toArray) [8,9] 0 0,.q 100 (fun g39=>.int .i64 ((lget x0.f_stack (wr .i64 ((x0.f_stack.length:Int)-1))).f_Owner)) [] 0 0,.q 101 (fun g39=>.agg (Cd.cs c_flat_Span ({ { zv6 with f_Range:={ { zv5 with f_From:=x0.f_at } with f_To:=x1 } } with f_Owner:=(lget x0.f_stack (wr .i64 ((x0.f_stack.length:Int)-1))).f_Owner })).toArray) [10,11] 0 0,.al 0 102 (fun g39=>.slice (some ⟨((g39 0).1),0,none⟩) ([{ { zv6 with f_Range:={ { zv5 with f_From:=x0.f_at } with f_To:=x1 } } with f_Owner:=(lget x0.f_stack (wr .i64 ((x0.f_stack.length:Int)-1))).f_Owner }]:List S_flat_Span).length 1) [12],.al 1 103 (fun g39=>.slice ((g39 1).2.1) (x0.f_l++[{ { zv6 with f_Range:={ { zv5 with f_From:=x0.f_at } with f_To:=x1 } } with f_Owner:=(lget x0.f_stack (wr .i64 ((x0.f_stack.length:Int)-1))).f_Owner }]).length ((g39 1).2.2.1)) [4,13],.q 104 (fun g39=>.pointer (some ⟨b0_,0,none⟩)) [0] 2 2,.q 105 (fun g39=>.pointer (some ⟨b0_,0+0,none⟩)) [15] 2 2,.st 2 none [14,16]] (fun g39 s=>match s with | 0=>(Wd w0 (cellsE b1 (Cd.cs c_api_Addr x1) 24::cellsE b0_ (Cd.cs c_flat_row (((p0f_l_,c0f_l_),(p0f_stack_,c0f_stack_)),x0)) 84::rowE c_flat_Span 60 p0f_l_ c0f_l_ x0.f_l::rowE c_api_Entry 66 p0f_stack_ c0f_stack_ x0.f_stack::G_)) | 1=>(Wd w0 (cellsE ((g39 0).1) (c_flat_Span.all ([{ { zv6 with f_Range:={ { zv5 with f_From:=x0.f_at } with f_To:=x1 } } with f_Owner:=(lget x0.f_stack (wr .i64 ((x0.f_stack.length:Int)-1))).f_Owner }]:List S_flat_Span)) 60::cellsE b1 (Cd.cs c_api_Addr x1) 24::cellsE b0_ (Cd.cs c_flat_row (((p0f_l_,c0f_l_),(p0f_stack_,c0f_stack_)),x0)) 84::rowE c_flat_Span 60 p0f_l_ c0f_l_ x0.f_l::rowE c_api_Entry 66 p0f_stack_ c0f_stack_ x0.f_stack::G_)) | 2=>(Wd w0 (cellsE ((g39 0).1) (c_flat_Span.all ([{ { zv6 with f_Range:={ { zv5 with f_From:=x0.f_at } with f_To:=x1 } } with f_Owner:=(lget x0.f_stack (wr .i64 ((x0.f_stack.length:Int)-1))).f_Owner }]:List S_flat_Span)) 60::cellsE b1 (Cd.cs c_api_Addr x1) 24::cellsE b0_ (Cd.cs c_flat_row (((p0f_l_,c0f_l_),(p0f_stack_,c0f_stack_)),x0)) 84::rowE c_flat_Span 60 ((g39 1).2.1) ((g39 1).2.2.1) (x0.f_l++[{ { zv6 with f_Range:={ { zv5 with f_From:=x0.f_at } with f_To:=x1 } } with f_Owner:=(lget x0.f_stack (wr .i64 ((x0.f_stack.length:Int)-1))).f_Owner }])::rowE c_api_Entry 66 p0f_stack_ c0f_stack_ x0.f_stack::G_)) | _=>(Wd w0 (cellsE ((g39 0).1) (c_flat_Span.all ([{ { zv6 with f_Range:={ { zv5 with f_From:=x0.f_at } with f_To:=x1 } } with f_Owner:=(lget x0.f_stack (wr .i64 ((x0.f_stack.length:Int)-1))).f_Owner }]:List S_flat_Span)) 60::cellsE b1 (Cd.cs c_api_Addr x1) 24::cellsE b0_ (Cd.cs c_flat_row (((((g39 1).2.1),((g39 1).2.2.1)),(p0f_stack_,c0f_stack_)),{ x0 with f_l:=x0.f_l++[{ { zv6 with f_Range:={ { zv5 with f_From:=x0.f_at } with f_To:=x1 } } with f_Owner:=(lget x0.f_stack (wr .i64 ((x0.f_stack.length:Int)-1))).f_Owner }] })) 84::rowE c_flat_Span 60 ((g39 1).2.1) ((g39 1).2.2.1) (x0.f_l++[{ { zv6 with f_Range:={ { zv5 with f_From:=x0.f_at } with f_To:=x1 } } with f_Owner:=(lget x0.f_stack (wr .i64 ((x0.f_stack.length:Int)-1))).f_Owner }])::rowE c_api_Entry 66 p0f_stack_ c0f_stack_ x0.f_stack::G_))) 3 (by kernel_rfl) (by kernel_rfl) (by kernel_rfl) (by kernel_rfl) (by kernel_rfl) ⟨fun _ _ _=>rfl,fun _ _ _=>rfl,fun _ _ _=>rfl,fun _ _ _=>rfl,fun _ _ _=>rfl,fun _ _ _=>rfl,fun _ _ _=>rfl,fun _ _ _=>rfl,fun _ _ _=>rfl,fun _ _ _=>rfl,fun _ _ _=>rfl,fun _ _ _=>rfl,fun _ _ _=>rfl,fun g39 g2 h=>by show (.slice (some ⟨((g39 0).1),0,none⟩) ([{ { zv6 with f_Range:={ { zv5 with f_From:=x0.f_at } with f_To:=x1 } } with f_Owner:=(lget x0.f_stack (wr .i64 ((x0.f_stack.length:Int)-1))).f_Owner }]:List S_flat_Span).length 1:Value)=.slice (some ⟨((g2 0).1),0,none⟩) ([{ { zv6 with f_Range:={ { zv5 with f_From:=x0.f_at } with f_To:=x1 } } with f_Owner:=(lget x0.f_stack (wr .i64 ((x0.f_stack.length:Int)-1))).f_Owner }]:List S_flat_Span).length 1;rw [h 0 (show 0<1 by decide)],fun g39 g2 h=>by show (.slice ((g39 1).2.1) (x0.f_l++[{ { zv6 with f_Range:={ { zv5 with f_From:=x0.f_at } with f_To:=x1 } } with f_Owner:=(lget x0.f_stack (wr .i64 ((x0.f_stack.length:Int)-1))).f_Owner }]).length ((g39 1).2.2.1):Value)=.slice ((g2 1).2.1) (x0.f_l++[{ { zv6 with f_Range:={ { zv5 with f_From:=x0.f_at } with f_To:=x1 } } with f_Owner:=(lget x0.f_stack (wr .i64 ((x0.f_stack.length:Int)-1))).f_Owner }]).length ((g2 1).2.2.1);rw [h 1 (show 1<2 by decide)],fun _ _ _=>rfl,fun _ _ _=>rfl,fun _ _ _=>rfl,trivial⟩ (by kernel_rfl) (fun w_ h=>⟨fun _=>g3 0 none 0 none w_,h.drew⟩) ⟨?_,?_,?_,?_,?_,?_,?_,?_,?_,?_,?_,?_,?_,?_,?_,?_,?_,?_,trivial⟩ ?_
    ·intro Lx g39 s K hl hh k
     show At 109 ((0,_)::(3,_)::(4,_)::Lx) _ _
     refine am ?_
     exact at_nil k
    ·intro Lx g39 s K hl hh k
     show At 109 ((0,_)::(3,_)::(4,_)::Lx) _ _
     refine am ?_
     exact at_nil k
    ·intro Lx g39 s K hl hh k
     show At 109 ((90,_)::(0,_)::(3,_)::(4,_)::Lx) _ _
     refine aw (r_nilCheck rfl) ?_
     exact at_nil k
    ·intro Lx g39 s K hl hh k
     show At 109 ((91,_)::(0,_)::(3,_)::(4,_)::Lx) _ _
     refine fa 0 underlying84 rfl sizeOf55 ?_
     exact at_nil k
    ·intro Lx g39 s K hl hh k
     show At 109 ((92,_)::(0,_)::(3,_)::(4,_)::Lx) _ _
     rcases (by omega:s=0∨s=1) with rfl | rfl
     ·skip
      refine aw (r_load_cell isAgg55 rfl (lens_cell0 (c:=cHd) (y:=⟨(((p0f_l_,c0f_l_),(p0f_stack_,c0f_stack_)).1).1,List.length x0.f_l,(((p0f_l_,c0f_l_),(p0f_stack_,c0f_stack_)).1).2⟩) (.s .z) (c_flat_row_f_l ((p0f_l_,c0f_l_),(p0f_stack_,c0f_stack_)) x0) rfl)) ?_
      exact at_nil k
     skip
     refine aw (r_load_cell isAgg55 rfl (lens_cell0 (c:=cHd) (y:=⟨(((p0f_l_,c0f_l_),(p0f_stack_,c0f_stack_)).1).1,List.length x0.f_l,(((p0f_l_,c0f_l_),(p0f_stack_,c0f_stack_)).1).2⟩) (.s (.s .z)) (c_flat_row_f_l ((p0f_l_,c0f_l_),(p0f_stack_,c0f_stack_)) x0) rfl)) ?_
     exact at_nil k
    ·intro Lx g39 s K hl hh k
     show At 109 ((0,_)::(3,_)::(4,_)::Lx) _ _
     refine am ?_
     exact at_nil k
    ·intro Lx g39 s K hl hh k
     show At 109 ((94,_)::(0,_)::(3,_)::(4,_)::Lx) _ _
     refine aw (r_nilCheck rfl) ?_
     exact at_nil k
    ·intro Lx g39 s K hl hh k
     show At 109 ((95,_)::(0,_)::(3,_)::(4,_)::Lx) _ _
     refine fa 2 underlying84 rfl sizeOf24 ?_
     exact at_nil k
    ·intro Lx g39 s K hl hh k
     show At 109 ((96,_)::(0,_)::(3,_)::(4,_)::Lx) _ _
     obtain rfl:s=0:=by omega
     refine aw (r_load_aggc (c:=c_api_Addr) (z:=x0.f_at) isAgg24 sizeOf24 rfl (lens_cell (.s .z) (c_flat_row_f_at ((p0f_l_,c0f_l_),(p0f_stack_,c0f_stack_)) x0))) ?_
     exact at_nil k
    ·intro Lx g39 s K hl hh k
     show At 109 ((0,_)::(3,_)::(4,_)::Lx) _ _
     obtain rfl:s=0:=by omega
     refine aw (r_load_aggc (c:=c_api_Addr) (z:=x1) isAgg24 sizeOf24 rfl (lens_cell .z lw)) ?_
     exact at_nil k
    ·intro Lx g39 s K hl hh k
     show At 109 ((97,_)::(98,_)::(0,_)::(3,_)::(4,_)::Lx) _ _
     obtain rfl:s=0:=by omega
     refine aw (r_build_struct (zs:=Cd.cs c_aggregate_Range zv5) (cs:=Cd.cs c_aggregate_Range ({ { zv5 with f_From:=x0.f_at } with f_To:=x1 })) underlying26 zeroValue26 rfl (places_aggregate_Range_26) rfl (fill_step (c:=c_api_Addr) (z:=x0.f_at) rfl (c_aggregate_Range_f_From zv5) rfl (fill_step (c:=c_api_Addr) (z:=x1) rfl (c_aggregate_Range_f_To ({ zv5 with f_From:=x0.f_at })) rfl rfl))) ?_
     exact at_nil k
    ·intro Lx g39 s K hl hh k
     show At 109 ((0,_)::(3,_)::(4,_)::Lx) _ _
     refine am ?_
     exact at_nil k
    ·intro Lx g39 s K hl hh k
     show At 109 ((99,_)::(100,_)::(0,_)::(3,_)::(4,_)::Lx) _ _
     obtain rfl:s=0:=by omega
     refine aw (r_build_struct (zs:=Cd.cs c_flat_Span zv6) (cs:=Cd.cs c_flat_Span ({ { zv6 with f_Range:={ { zv5 with f_From:=x0.f_at } with f_To:=x1 } } with f_Owner:=(lget x0.f_stack (wr .i64 ((x0.f_stack.length:Int)-1))).f_Owner })) underlying60 zeroValue60 rfl (places_flat_Span_60) rfl (fill_step (c:=c_aggregate_Range) (z:={ { zv5 with f_From:=x0.f_at } with f_To:=x1 }) rfl (c_flat_Span_f_Range zv6) rfl (fill_step (c:=(cInt .i64)) (z:=(lget x0.f_stack (wr .i64 ((x0.f_stack.length:Int)-1))).f_Owner) rfl (c_flat_Span_f_Owner ({ zv6 with f_Range:={ { zv5 with f_From:=x0.f_at } with f_To:=x1 } })) rfl rfl))) ?_
     exact at_nil k
    ·intro Lx g39 K k
     show At 109 ((101,_)::(0,_)::(3,_)::(4,_)::Lx) _ _
     refine at_litL (c:=c_flat_Span) ([zv6]:List S_flat_Span) ([{ { zv6 with f_Range:={ { zv5 with f_From:=x0.f_at } with f_To:=x1 } } with f_Owner:=(lget x0.f_stack (wr .i64 ((x0.f_stack.length:Int)-1))).f_Owner }]:List S_flat_Span) underlying55 sizeOf60 zeroValue60 rfl rfl rfl (by kernel_rfl) (fill_step (c:=c_flat_Span) (z:={ { zv6 with f_Range:={ { zv5 with f_From:=x0.f_at } with f_To:=x1 } } with f_Owner:=(lget x0.f_stack (wr .i64 ((x0.f_stack.length:Int)-1))).f_Owner }) rfl (Lens.all c_flat_Span ([zv6]:List S_flat_Span) 0 (by first | decide | exact Nat.le_of_ble_eq_true rfl)) rfl rfl) rfl ?_
     intro b35
     exact at_nil (k (g3 b35 none 0 none w0))
    ·intro Lx g39 K k
     show At 109 ((93,_)::(102,_)::(0,_)::(3,_)::(4,_)::Lx) _ _
     refine at_append (z:=.agg (Cd.cs c_flat_Span zv6).toArray) (c:=c_flat_Span) (ys:=([{ { zv6 with f_Range:={ { zv5 with f_From:=x0.f_at } with f_To:=x1 } } with f_Owner:=(lget x0.f_stack (wr .i64 ((x0.f_stack.length:Int)-1))).f_Owner }]:List S_flat_Span)) (.s (.s (.s .z))) underlying55 infoF760 (by kernel_rfl) (by kernel_rfl) rfl rfl rfl rfl (fun _ hw=>cells_src (hw.ok (Upd.mem .z))) (by kernel_rfl) h36 (app_small h36) rfl ?_
     intro p37 c38
     exact at_nil (k (g3 0 p37 c38 none w0))
    ·intro Lx g39 s K hl hh k
     show At 109 ((89,_)::(0,_)::(3,_)::(4,_)::Lx) _ _
     refine aw (r_nilCheck rfl) ?_
     exact at_nil k
    ·intro Lx g39 s K hl hh k
     show At 109 ((104,_)::(0,_)::(3,_)::(4,_)::Lx) _ _
     refine fa 0 underlying84 rfl sizeOf55 ?_
     exact at_nil k
    ·intro Lx g39 K k
     show At 109 ((103,_)::(105,_)::(0,_)::(3,_)::(4,_)::Lx) _ _
     refine at_store (c:=cSv S_flat_Span) (z:=((((g39 1).2.1),((g39 1).2.2.1)),x0.f_l++[{ { zv6 with f_Range:={ { zv5 with f_From:=x0.f_at } with f_To:=x1 } } with f_Owner:=(lget x0.f_stack (wr .i64 ((x0.f_stack.length:Int)-1))).f_Owner }])) (.s (.s .z)) (c_flat_row_f_l_sv ((p0f_l_,c0f_l_),(p0f_stack_,c0f_stack_)) x0) sizeOf55 rfl rfl rfl ?_
     exact at_nil k
    intro g39
    show At 109 [(89,_),(90,_),(91,_),(92,_),(93,_),(94,_),(95,_),(96,_),(97,_),(98,_),(99,_),(100,_),(101,_),(102,_),(103,_),(104,_),(105,_),(0,_),(3,_),(4,_)] _ _
    refine dz (wq [3,0] ?_)
    refine tn (qr (am ?_))
    refine aw (r_load_aggc (c:=c_api_Addr) (z:=x1) isAgg24 sizeOf24 rfl (lens_cell .z lw)) ?_
    obtain ⟨t40,ht40,hF⟩:=bM hF
    refine at_front (.s (.s (.s .z))) ?_
    refine at_front (.s (.s (.s .z))) ?_
    refine at_front (.s (.s (.s .z))) ?_
    refine at_callX (γ:=G_flat_row) (V:=fun z=>.tuple #[]) (T:=fun z=>(cellsE b0_ (Cd.cs c_flat_row (z,t40)) 84::rowE c_flat_Span 60 z.1.1 z.1.2 t40.f_l::rowE c_api_Entry 66 z.2.1 z.2.2 t40.f_stack::cellsE b1 (Cd.cs c_api_Addr x1) 24::G_)) func80 rfl (by kernel_rfl) rfl rfl (fun w hw=>flat_row_move_ok ht40 hw) ?_
    rintro ⟨⟨p41,c42⟩,⟨p43,c44⟩⟩
    refine qn ?_
    refine at_drop (H:=_) (.s (.s (.s .z))) ?_
    refine at_weak [] trivial ?_
    have K:=os hF
    subst K
    exact at_return0 rfl (fun w1 hw=>⟨((p41,c42),(p43,c44)),rfl,hw⟩)
   refine atq_fix (g:=68) rfl h22 ?_
   refine atq_guard_no rfl rfl rfl rfl rfl ?_
   refine atq_guard_no rfl rfl rfl rfl rfl ?_
   refine atq_guard_no rfl rfl rfl rfl rfl ?_
   refine atq_guard_no rfl rfl rfl rfl rfl ?_
   refine atq_guard_no rfl rfl rfl rfl rfl ?_
   refine atq_guard_no rfl rfl rfl rfl rfl ?_
   refine atq_val rfl rfl rfl (r_pick rfl rfl rfl) ?_
   refine atq_nil ?_
   refine dz (wq [75,5,4,3,0] ?_)
   refine tn ?_
   refine cf rfl ?_
   refine sn (qs (wq [4,3,0] ?_))
   obtain ⟨h46,hF⟩:=gd hF
   refine at_inv [.q 89 (fun g49=>.pointer (some ⟨b0_,0,none⟩)) [] 0 2,.q 90 (fun g49=>.pointer (some ⟨b0_,0,none⟩)) [] 0 1,.q 91 (fun g49=>.pointer (some ⟨b0_,0,none⟩)) [1] 0 1,.q 92 (fun g49=>.pointer (some ⟨b0_,0+0,none⟩)) [2] 0 1,.q 93 (fun g49=>.slice p0f_l_ x0.f_l.length c0f_l_) [3] 0 1,.q 94 (fun g49=>.pointer (some ⟨b0_,0,none⟩)) [] 0 2,.q 95 (fun g49=>.pointer (some ⟨b0_,0,none⟩)) [5] 0 0,.q 96 (fun g49=>.pointer (some ⟨b0_,0+2,none⟩)) [6] 0 0,.q 97 (fun g49=>.agg (Cd.cs c_api_Addr x0.f_at).toArray) [7] 0 0,.q 98 (fun g49=>.agg (Cd.cs c_api_Addr x1).toArray) [] 0 0,.q 99 (fun g49=>.agg (Cd.cs c_aggregate_Range ({ { zv5 with f_From:=x0.f_at } with f_To:=x1 })).toArray) [8,9] 0 0,.q 100 (fun g49=>.int .i64 ((lget x0.f_stack (wr .i64 ((x0.f_stack.length:Int)-1))).f_Owner)) [] 0 0,.q 101 (fun g49=>.agg (Cd.cs c_flat_Span ({ { zv6 with f_Range:={ { zv5 with f_From:=x0.f_at } with f_To:=x1 } } with f_Owner:=(lget x0.f_stack (wr .i64 ((x0.f_stack.length:Int)-1))).f_Owner })).toArray) [10,11] 0 0,.al 0 102 (fun g49=>.slice (some ⟨((g49 0).1),0,none⟩) ([{ { zv6 with f_Range:={ { zv5 with f_From:=x0.f_at } with f_To:=x1 } } with f_Owner:=(lget x0.f_stack (wr .i64 ((x0.f_stack.length:Int)-1))).f_Owner }]:List S_flat_Span).length 1) [12],.al 1 103 (fun g49=>.slice ((g49 1).2.1) (x0.f_l++[{ { zv6 with f_Range:={ { zv5 with f_From:=x0.f_at } with f_To:=x1 } } with f_Owner:=(lget x0.f_stack (wr .i64 ((x0.f_stack.length:Int)-1))).f_Owner }]).length ((g49 1).2.2.1)) [4,13],.q 104 (fun g49=>.pointer (some ⟨b0_,0,none⟩)) [0] 2 2,.q 105 (fun g49=>.pointer (some ⟨b0_,0+0,none⟩)) [15] 2 2,.st 2 none [14,16]] (fun g49 s=>match s with | 0=>(Wd w0 (cellsE b1 (Cd.cs c_api_Addr x1) 24::cellsE b0_ (Cd.cs c_flat_row (((p0f_l_,c0f_l_),(p0f_stack_,c0f_stack_)),x0)) 84::rowE c_flat_Span 60 p0f_l_ c0f_l_ x0.f_l::rowE c_api_Entry 66 p0f_stack_ c0f_stack_ x0.f_stack::G_)) | 1=>(Wd w0 (cellsE ((g49 0).1) (c_flat_Span.all ([{ { zv6 with f_Range:={ { zv5 with f_From:=x0.f_at } with f_To:=x1 } } with f_Owner:=(lget x0.f_stack (wr .i64 ((x0.f_stack.length:Int)-1))).f_Owner }]:List S_flat_Span)) 60::cellsE b1 (Cd.cs c_api_Addr x1) 24::cellsE b0_ (Cd.cs c_flat_row (((p0f_l_,c0f_l_),(p0f_stack_,c0f_stack_)),x0)) 84::rowE c_flat_Span 60 p0f_l_ c0f_l_ x0.f_l::rowE c_api_Entry 66 p0f_stack_ c0f_stack_ x0.f_stack::G_)) | 2=>(Wd w0 (cellsE ((g49 0).1) (c_flat_Span.all ([{ { zv6 with f_Range:={ { zv5 with f_From:=x0.f_at } with f_To:=x1 } } with f_Owner:=(lget x0.f_stack (wr .i64 ((x0.f_stack.length:Int)-1))).f_Owner }]:List S_flat_Span)) 60::cellsE b1 (Cd.cs c_api_Addr x1) 24::cellsE b0_ (Cd.cs c_flat_row (((p0f_l_,c0f_l_),(p0f_stack_,c0f_stack_)),x0)) 84::rowE c_flat_Span 60 ((g49 1).2.1) ((g49 1).2.2.1) (x0.f_l++[{ { zv6 with f_Range:={ { zv5 with f_From:=x0.f_at } with f_To:=x1 } } with f_Owner:=(lget x0.f_stack (wr .i64 ((x0.f_stack.length:Int)-1))).f_Owner }])::rowE c_api_Entry 66 p0f_stack_ c0f_stack_ x0.f_stack::G_)) | _=>(Wd w0 (cellsE ((g49 0).1) (c_flat_Span.all ([{ { zv6 with f_Range:={ { zv5 with f_From:=x0.f_at } with f_To:=x1 } } with f_Owner:=(lget x0.f_stack (wr .i64 ((x0.f_stack.length:Int)-1))).f_Owner }]:List S_flat_Span)) 60::cellsE b1 (Cd.cs c_api_Addr x1) 24::cellsE b0_ (Cd.cs c_flat_row (((((g49 1).2.1),((g49 1).2.2.1)),(p0f_stack_,c0f_stack_)),{ x0 with f_l:=x0.f_l++[{ { zv6 with f_Range:={ { zv5 with f_From:=x0.f_at } with f_To:=x1 } } with f_Owner:=(lget x0.f_stack (wr .i64 ((x0.f_stack.length:Int)-1))).f_Owner }] })) 84::rowE c_flat_Span 60 ((g49 1).2.1) ((g49 1).2.2.1) (x0.f_l++[{ { zv6 with f_Range:={ { zv5 with f_From:=x0.f_at } with f_To:=x1 } } with f_Owner:=(lget x0.f_stack (wr .i64 ((x0.f_stack.length:Int)-1))).f_Owner }])::rowE c_api_Entry 66 p0f_stack_ c0f_stack_ x0.f_stack::G_))) 3 (by kernel_rfl) (by kernel_rfl) (by kernel_rfl) (by kernel_rfl) (by kernel_rfl) ⟨fun _ _ _=>rfl,fun _ _ _=>rfl,fun _ _ _=>rfl,fun _ _ _=>rfl,fun _ _ _=>rfl,fun _ _ _=>rfl,fun _ _ _=>rfl,fun _ _ _=>rfl,fun _ _ _=>rfl,fun _ _ _=>rfl,fun _ _ _=>rfl,fun _ _ _=>rfl,fun _ _ _=>rfl,fun g49 g2 h=>by show (.slice (some ⟨((g49 0).1),0,none⟩) ([{ { zv6 with f_Range:={ { zv5 with f_From:=x0.f_at } with f_To:=x1 } } with f_Owner:=(lget x0.f_stack (wr .i64 ((x0.f_stack.length:Int)-1))).f_Owner }]:List S_flat_Span).length 1:Value)=.slice (some ⟨((g2 0).1),0,none⟩) ([{ { zv6 with f_Range:={ { zv5 with f_From:=x0.f_at } with f_To:=x1 } } with f_Owner:=(lget x0.f_stack (wr .i64 ((x0.f_stack.length:Int)-1))).f_Owner }]:List S_flat_Span).length 1;rw [h 0 (show 0<1 by decide)],fun g49 g2 h=>by show (.slice ((g49 1).2.1) (x0.f_l++[{ { zv6 with f_Range:={ { zv5 with f_From:=x0.f_at } with f_To:=x1 } } with f_Owner:=(lget x0.f_stack (wr .i64 ((x0.f_stack.length:Int)-1))).f_Owner }]).length ((g49 1).2.2.1):Value)=.slice ((g2 1).2.1) (x0.f_l++[{ { zv6 with f_Range:={ { zv5 with f_From:=x0.f_at } with f_To:=x1 } } with f_Owner:=(lget x0.f_stack (wr .i64 ((x0.f_stack.length:Int)-1))).f_Owner }]).length ((g2 1).2.2.1);rw [h 1 (show 1<2 by decide)],fun _ _ _=>rfl,fun _ _ _=>rfl,fun _ _ _=>rfl,trivial⟩ (by kernel_rfl) (fun w_ h=>⟨fun _=>g3 0 none 0 none w_,h.drew⟩) ⟨?_,?_,?_,?_,?_,?_,?_,?_,?_,?_,?_,?_,?_,?_,?_,?_,?_,?_,trivial⟩ ?_
   ·intro Lx g49 s K hl hh k
    show At 109 ((0,_)::(3,_)::(4,_)::Lx) _ _
    refine am ?_
    exact at_nil k
   ·intro Lx g49 s K hl hh k
    show At 109 ((0,_)::(3,_)::(4,_)::Lx) _ _
    refine am ?_
    exact at_nil k
   ·intro Lx g49 s K hl hh k
    show At 109 ((90,_)::(0,_)::(3,_)::(4,_)::Lx) _ _
    refine aw (r_nilCheck rfl) ?_
    exact at_nil k
   ·intro Lx g49 s K hl hh k
    show At 109 ((91,_)::(0,_)::(3,_)::(4,_)::Lx) _ _
    refine fa 0 underlying84 rfl sizeOf55 ?_
    exact at_nil k
   ·intro Lx g49 s K hl hh k
    show At 109 ((92,_)::(0,_)::(3,_)::(4,_)::Lx) _ _
    rcases (by omega:s=0∨s=1) with rfl | rfl
    ·skip
     refine aw (r_load_cell isAgg55 rfl (lens_cell0 (c:=cHd) (y:=⟨(((p0f_l_,c0f_l_),(p0f_stack_,c0f_stack_)).1).1,List.length x0.f_l,(((p0f_l_,c0f_l_),(p0f_stack_,c0f_stack_)).1).2⟩) (.s .z) (c_flat_row_f_l ((p0f_l_,c0f_l_),(p0f_stack_,c0f_stack_)) x0) rfl)) ?_
     exact at_nil k
    skip
    refine aw (r_load_cell isAgg55 rfl (lens_cell0 (c:=cHd) (y:=⟨(((p0f_l_,c0f_l_),(p0f_stack_,c0f_stack_)).1).1,List.length x0.f_l,(((p0f_l_,c0f_l_),(p0f_stack_,c0f_stack_)).1).2⟩) (.s (.s .z)) (c_flat_row_f_l ((p0f_l_,c0f_l_),(p0f_stack_,c0f_stack_)) x0) rfl)) ?_
    exact at_nil k
   ·intro Lx g49 s K hl hh k
    show At 109 ((0,_)::(3,_)::(4,_)::Lx) _ _
    refine am ?_
    exact at_nil k
   ·intro Lx g49 s K hl hh k
    show At 109 ((94,_)::(0,_)::(3,_)::(4,_)::Lx) _ _
    refine aw (r_nilCheck rfl) ?_
    exact at_nil k
   ·intro Lx g49 s K hl hh k
    show At 109 ((95,_)::(0,_)::(3,_)::(4,_)::Lx) _ _
    refine fa 2 underlying84 rfl sizeOf24 ?_
    exact at_nil k
   ·intro Lx g49 s K hl hh k
    show At 109 ((96,_)::(0,_)::(3,_)::(4,_)::Lx) _ _
    obtain rfl:s=0:=by omega
    refine aw (r_load_aggc (c:=c_api_Addr) (z:=x0.f_at) isAgg24 sizeOf24 rfl (lens_cell (.s .z) (c_flat_row_f_at ((p0f_l_,c0f_l_),(p0f_stack_,c0f_stack_)) x0))) ?_
    exact at_nil k
   ·intro Lx g49 s K hl hh k
    show At 109 ((0,_)::(3,_)::(4,_)::Lx) _ _
    obtain rfl:s=0:=by omega
    refine aw (r_load_aggc (c:=c_api_Addr) (z:=x1) isAgg24 sizeOf24 rfl (lens_cell .z lw)) ?_
    exact at_nil k
   ·intro Lx g49 s K hl hh k
    show At 109 ((97,_)::(98,_)::(0,_)::(3,_)::(4,_)::Lx) _ _
    obtain rfl:s=0:=by omega
    refine aw (r_build_struct (zs:=Cd.cs c_aggregate_Range zv5) (cs:=Cd.cs c_aggregate_Range ({ { zv5 with f_From:=x0.f_at } with f_To:=x1 })) underlying26 zeroValue26 rfl (places_aggregate_Range_26) rfl (fill_step (c:=c_api_Addr) (z:=x0.f_at) rfl (c_aggregate_Range_f_From zv5) rfl (fill_step (c:=c_api_Addr) (z:=x1) rfl (c_aggregate_Range_f_To ({ zv5 with f_From:=x0.f_at })) rfl rfl))) ?_
    exact at_nil k
   ·intro Lx g49 s K hl hh k
    show At 109 ((0,_)::(3,_)::(4,_)::Lx) _ _
    refine am ?_
    exact at_nil k
   ·intro Lx g49 s K hl hh k
    show At 109 ((99,_)::(100,_)::(0,_)::(3,_)::(4,_)::Lx) _ _
    obtain rfl:s=0:=by omega
    refine aw (r_build_struct (zs:=Cd.cs c_flat_Span zv6) (cs:=Cd.cs c_flat_Span ({ { zv6 with f_Range:={ { zv5 with f_From:=x0.f_at } with f_To:=x1 } } with f_Owner:=(lget x0.f_stack (wr .i64 ((x0.f_stack.length:Int)-1))).f_Owner })) underlying60 zeroValue60 rfl (places_flat_Span_60) rfl (fill_step (c:=c_aggregate_Range) (z:={ { zv5 with f_From:=x0.f_at } with f_To:=x1 }) rfl (c_flat_Span_f_Range zv6) rfl (fill_step (c:=(cInt .i64)) (z:=(lget x0.f_stack (wr .i64 ((x0.f_stack.length:Int)-1))).f_Owner) rfl (c_flat_Span_f_Owner ({ zv6 with f_Range:={ { zv5 with f_From:=x0.f_at } with f_To:=x1 } })) rfl rfl))) ?_
    exact at_nil k
   ·intro Lx g49 K k
    show At 109 ((101,_)::(0,_)::(3,_)::(4,_)::Lx) _ _
    refine at_litL (c:=c_flat_Span) ([zv6]:List S_flat_Span) ([{ { zv6 with f_Range:={ { zv5 with f_From:=x0.f_at } with f_To:=x1 } } with f_Owner:=(lget x0.f_stack (wr .i64 ((x0.f_stack.length:Int)-1))).f_Owner }]:List S_flat_Span) underlying55 sizeOf60 zeroValue60 rfl rfl rfl (by kernel_rfl) (fill_step (c:=c_flat_Span) (z:={ { zv6 with f_Range:={ { zv5 with f_From:=x0.f_at } with f_To:=x1 } } with f_Owner:=(lget x0.f_stack (wr .i64 ((x0.f_stack.length:Int)-1))).f_Owner }) rfl (Lens.all c_flat_Span ([zv6]:List S_flat_Span) 0 (by first | decide | exact Nat.le_of_ble_eq_true rfl)) rfl rfl) rfl ?_
    intro b45
    exact at_nil (k (g3 b45 none 0 none w0))
   ·intro Lx g49 K k
    show At 109 ((93,_)::(102,_)::(0,_)::(3,_)::(4,_)::Lx) _ _
    refine at_append (z:=.agg (Cd.cs c_flat_Span zv6).toArray) (c:=c_flat_Span) (ys:=([{ { zv6 with f_Range:={ { zv5 with f_From:=x0.f_at } with f_To:=x1 } } with f_Owner:=(lget x0.f_stack (wr .i64 ((x0.f_stack.length:Int)-1))).f_Owner }]:List S_flat_Span)) (.s (.s (.s .z))) underlying55 infoF760 (by kernel_rfl) (by kernel_rfl) rfl rfl rfl rfl (fun _ hw=>cells_src (hw.ok (Upd.mem .z))) (by kernel_rfl) h46 (app_small h46) rfl ?_
    intro p47 c48
    exact at_nil (k (g3 0 p47 c48 none w0))
   ·intro Lx g49 s K hl hh k
    show At 109 ((89,_)::(0,_)::(3,_)::(4,_)::Lx) _ _
    refine aw (r_nilCheck rfl) ?_
    exact at_nil k
   ·intro Lx g49 s K hl hh k
    show At 109 ((104,_)::(0,_)::(3,_)::(4,_)::Lx) _ _
    refine fa 0 underlying84 rfl sizeOf55 ?_
    exact at_nil k
   ·intro Lx g49 K k
    show At 109 ((103,_)::(105,_)::(0,_)::(3,_)::(4,_)::Lx) _ _
    refine at_store (c:=cSv S_flat_Span) (z:=((((g49 1).2.1),((g49 1).2.2.1)),x0.f_l++[{ { zv6 with f_Range:={ { zv5 with f_From:=x0.f_at } with f_To:=x1 } } with f_Owner:=(lget x0.f_stack (wr .i64 ((x0.f_stack.length:Int)-1))).f_Owner }])) (.s (.s .z)) (c_flat_row_f_l_sv ((p0f_l_,c0f_l_),(p0f_stack_,c0f_stack_)) x0) sizeOf55 rfl rfl rfl ?_
    exact at_nil k
   intro g49
   show At 109 [(89,_),(90,_),(91,_),(92,_),(93,_),(94,_),(95,_),(96,_),(97,_),(98,_),(99,_),(100,_),(101,_),(102,_),(103,_),(104,_),(105,_),(0,_),(3,_),(4,_)] _ _
   refine dz (wq [3,0] ?_)
   refine tn (qr (am ?_))
   refine aw (r_load_aggc (c:=c_api_Addr) (z:=x1) isAgg24 sizeOf24 rfl (lens_cell .z lw)) ?_
   obtain ⟨t50,ht50,hF⟩:=bM hF
   refine at_front (.s (.s (.s .z))) ?_
   refine at_front (.s (.s (.s .z))) ?_
   refine at_front (.s (.s (.s .z))) ?_
   refine at_callX (γ:=G_flat_row) (V:=fun z=>.tuple #[]) (T:=fun z=>(cellsE b0_ (Cd.cs c_flat_row (z,t50)) 84::rowE c_flat_Span 60 z.1.1 z.1.2 t50.f_l::rowE c_api_Entry 66 z.2.1 z.2.2 t50.f_stack::cellsE b1 (Cd.cs c_api_Addr x1) 24::G_)) func80 rfl (by kernel_rfl) rfl rfl (fun w hw=>flat_row_move_ok ht50 hw) ?_
   rintro ⟨⟨p51,c52⟩,⟨p53,c54⟩⟩
   refine qn ?_
   refine at_drop (H:=_) (.s (.s (.s .z))) ?_
   refine at_weak [] trivial ?_
   have K:=os hF
   subst K
   exact at_return0 rfl (fun w1 hw=>⟨((p51,c52),(p53,c54)),rfl,hw⟩)
  refine cf h15 ?_
  refine sn (qs (wq [4,3,0] ?_))
  obtain ⟨h56,hF⟩:=gd hF
  refine at_inv [.q 89 (fun g59=>.pointer (some ⟨b0_,0,none⟩)) [] 0 2,.q 90 (fun g59=>.pointer (some ⟨b0_,0,none⟩)) [] 0 1,.q 91 (fun g59=>.pointer (some ⟨b0_,0,none⟩)) [1] 0 1,.q 92 (fun g59=>.pointer (some ⟨b0_,0+0,none⟩)) [2] 0 1,.q 93 (fun g59=>.slice p0f_l_ x0.f_l.length c0f_l_) [3] 0 1,.q 94 (fun g59=>.pointer (some ⟨b0_,0,none⟩)) [] 0 2,.q 95 (fun g59=>.pointer (some ⟨b0_,0,none⟩)) [5] 0 0,.q 96 (fun g59=>.pointer (some ⟨b0_,0+2,none⟩)) [6] 0 0,.q 97 (fun g59=>.agg (Cd.cs c_api_Addr x0.f_at).toArray) [7] 0 0,.q 98 (fun g59=>.agg (Cd.cs c_api_Addr x1).toArray) [] 0 0,.q 99 (fun g59=>.agg (Cd.cs c_aggregate_Range ({ { zv5 with f_From:=x0.f_at } with f_To:=x1 })).toArray) [8,9] 0 0,.q 100 (fun g59=>.int .i64 ((lget x0.f_stack (wr .i64 ((x0.f_stack.length:Int)-1))).f_Owner)) [] 0 0,.q 101 (fun g59=>.agg (Cd.cs c_flat_Span ({ { zv6 with f_Range:={ { zv5 with f_From:=x0.f_at } with f_To:=x1 } } with f_Owner:=(lget x0.f_stack (wr .i64 ((x0.f_stack.length:Int)-1))).f_Owner })).toArray) [10,11] 0 0,.al 0 102 (fun g59=>.slice (some ⟨((g59 0).1),0,none⟩) ([{ { zv6 with f_Range:={ { zv5 with f_From:=x0.f_at } with f_To:=x1 } } with f_Owner:=(lget x0.f_stack (wr .i64 ((x0.f_stack.length:Int)-1))).f_Owner }]:List S_flat_Span).length 1) [12],.al 1 103 (fun g59=>.slice ((g59 1).2.1) (x0.f_l++[{ { zv6 with f_Range:={ { zv5 with f_From:=x0.f_at } with f_To:=x1 } } with f_Owner:=(lget x0.f_stack (wr .i64 ((x0.f_stack.length:Int)-1))).f_Owner }]).length ((g59 1).2.2.1)) [4,13],.q 104 (fun g59=>.pointer (some ⟨b0_,0,none⟩)) [0] 2 2,.q 105 (fun g59=>.pointer (some ⟨b0_,0+0,none⟩)) [15] 2 2,.st 2 none [14,16]] (fun g59 s=>match s with | 0=>(Wd w0 (cellsE b1 (Cd.cs c_api_Addr x1) 24::cellsE b0_ (Cd.cs c_flat_row (((p0f_l_,c0f_l_),(p0f_stack_,c0f_stack_)),x0)) 84::rowE c_flat_Span 60 p0f_l_ c0f_l_ x0.f_l::rowE c_api_Entry 66 p0f_stack_ c0f_stack_ x0.f_stack::G_)) | 1=>(Wd w0 (cellsE ((g59 0).1) (c_flat_Span.all ([{ { zv6 with f_Range:={ { zv5 with f_From:=x0.f_at } with f_To:=x1 } } with f_Owner:=(lget x0.f_stack (wr .i64 ((x0.f_stack.length:Int)-1))).f_Owner }]:List S_flat_Span)) 60::cellsE b1 (Cd.cs c_api_Addr x1) 24::cellsE b0_ (Cd.cs c_flat_row (((p0f_l_,c0f_l_),(p0f_stack_,c0f_stack_)),x0)) 84::rowE c_flat_Span 60 p0f_l_ c0f_l_ x0.f_l::rowE c_api_Entry 66 p0f_stack_ c0f_stack_ x0.f_stack::G_)) | 2=>(Wd w0 (cellsE ((g59 0).1) (c_flat_Span.all ([{ { zv6 with f_Range:={ { zv5 with f_From:=x0.f_at } with f_To:=x1 } } with f_Owner:=(lget x0.f_stack (wr .i64 ((x0.f_stack.length:Int)-1))).f_Owner }]:List S_flat_Span)) 60::cellsE b1 (Cd.cs c_api_Addr x1) 24::cellsE b0_ (Cd.cs c_flat_row (((p0f_l_,c0f_l_),(p0f_stack_,c0f_stack_)),x0)) 84::rowE c_flat_Span 60 ((g59 1).2.1) ((g59 1).2.2.1) (x0.f_l++[{ { zv6 with f_Range:={ { zv5 with f_From:=x0.f_at } with f_To:=x1 } } with f_Owner:=(lget x0.f_stack (wr .i64 ((x0.f_stack.length:Int)-1))).f_Owner }])::rowE c_api_Entry 66 p0f_stack_ c0f_stack_ x0.f_stack::G_)) | _=>(Wd w0 (cellsE ((g59 0).1) (c_flat_Span.all ([{ { zv6 with f_Range:={ { zv5 with f_From:=x0.f_at } with f_To:=x1 } } with f_Owner:=(lget x0.f_stack (wr .i64 ((x0.f_stack.length:Int)-1))).f_Owner }]:List S_flat_Span)) 60::cellsE b1 (Cd.cs c_api_Addr x1) 24::cellsE b0_ (Cd.cs c_flat_row (((((g59 1).2.1),((g59 1).2.2.1)),(p0f_stack_,c0f_stack_)),{ x0 with f_l:=x0.f_l++[{ { zv6 with f_Range:={ { zv5 with f_From:=x0.f_at } with f_To:=x1 } } with f_Owner:=(lget x0.f_stack (wr .i64 ((x0.f_stack.length:Int)-1))).f_Owner }] })) 84::rowE c_flat_Span 60 ((g59 1).2.1) ((g59 1).2.2.1) (x0.f_l++[{ { zv6 with f_Range:={ { zv5 with f_From:=x0.f_at } with f_To:=x1 } } with f_Owner:=(lget x0.f_stack (wr .i64 ((x0.f_stack.length:Int)-1))).f_Owner }])::rowE c_api_Entry 66 p0f_stack_ c0f_stack_ x0.f_stack::G_))) 3 (by kernel_rfl) (by kernel_rfl) (by kernel_rfl) (by kernel_rfl) (by kernel_rfl) ⟨fun _ _ _=>rfl,fun _ _ _=>rfl,fun _ _ _=>rfl,fun _ _ _=>rfl,fun _ _ _=>rfl,fun _ _ _=>rfl,fun _ _ _=>rfl,fun _ _ _=>rfl,fun _ _ _=>rfl,fun _ _ _=>rfl,fun _ _ _=>rfl,fun _ _ _=>rfl,fun _ _ _=>rfl,fun g59 g2 h=>by show (.slice (some ⟨((g59 0).1),0,none⟩) ([{ { zv6 with f_Range:={ { zv5 with f_From:=x0.f_at } with f_To:=x1 } } with f_Owner:=(lget x0.f_stack (wr .i64 ((x0.f_stack.length:Int)-1))).f_Owner }]:List S_flat_Span).length 1:Value)=.slice (some ⟨((g2 0).1),0,none⟩) ([{ { zv6 with f_Range:={ { zv5 with f_From:=x0.f_at } with f_To:=x1 } } with f_Owner:=(lget x0.f_stack (wr .i64 ((x0.f_stack.length:Int)-1))).f_Owner }]:List S_flat_Span).length 1;rw [h 0 (show 0<1 by decide)],fun g59 g2 h=>by show (.slice ((g59 1).2.1) (x0.f_l++[{ { zv6 with f_Range:={ { zv5 with f_From:=x0.f_at } with f_To:=x1 } } with f_Owner:=(lget x0.f_stack (wr .i64 ((x0.f_stack.length:Int)-1))).f_Owner }]).length ((g59 1).2.2.1):Value)=.slice ((g2 1).2.1) (x0.f_l++[{ { zv6 with f_Range:={ { zv5 with f_From:=x0.f_at } with f_To:=x1 } } with f_Owner:=(lget x0.f_stack (wr .i64 ((x0.f_stack.length:Int)-1))).f_Owner }]).length ((g2 1).2.2.1);rw [h 1 (show 1<2 by decide)],fun _ _ _=>rfl,fun _ _ _=>rfl,fun _ _ _=>rfl,trivial⟩ (by kernel_rfl) (fun w_ h=>⟨fun _=>g3 0 none 0 none w_,h.drew⟩) ⟨?_,?_,?_,?_,?_,?_,?_,?_,?_,?_,?_,?_,?_,?_,?_,?_,?_,?_,trivial⟩ ?_
  ·intro Lx g59 s K hl hh k
   show At 109 ((0,_)::(3,_)::(4,_)::Lx) _ _
   refine am ?_
   exact at_nil k
  ·intro Lx g59 s K hl hh k
   show At 109 ((0,_)::(3,_)::(4,_)::Lx) _ _
   refine am ?_
   exact at_nil k
  ·intro Lx g59 s K hl hh k
   show At 109 ((90,_)::(0,_)::(3,_)::(4,_)::Lx) _ _
   refine aw (r_nilCheck rfl) ?_
   exact at_nil k
  ·intro Lx g59 s K hl hh k
   show At 109 ((91,_)::(0,_)::(3,_)::(4,_)::Lx) _ _
   refine fa 0 underlying84 rfl sizeOf55 ?_
   exact at_nil k
  ·intro Lx g59 s K hl hh k
   show At 109 ((92,_)::(0,_)::(3,_)::(4,_)::Lx) _ _
   rcases (by omega:s=0∨s=1) with rfl | rfl
   ·skip
    refine aw (r_load_cell isAgg55 rfl (lens_cell0 (c:=cHd) (y:=⟨(((p0f_l_,c0f_l_),(p0f_stack_,c0f_stack_)).1).1,List.length x0.f_l,(((p0f_l_,c0f_l_),(p0f_stack_,c0f_stack_)).1).2⟩) (.s .z) (c_flat_row_f_l ((p0f_l_,c0f_l_),(p0f_stack_,c0f_stack_)) x0) rfl)) ?_
    exact at_nil k
   skip
   refine aw (r_load_cell isAgg55 rfl (lens_cell0 (c:=cHd) (y:=⟨(((p0f_l_,c0f_l_),(p0f_stack_,c0f_stack_)).1).1,List.length x0.f_l,(((p0f_l_,c0f_l_),(p0f_stack_,c0f_stack_)).1).2⟩) (.s (.s .z)) (c_flat_row_f_l ((p0f_l_,c0f_l_),(p0f_stack_,c0f_stack_)) x0) rfl)) ?_
   exact at_nil k
  ·intro Lx g59 s K hl hh k
   show At 109 ((0,_)::(3,_)::(4,_)::Lx) _ _
   refine am ?_
   exact at_nil k
  ·intro Lx g59 s K hl hh k
   show At 109 ((94,_)::(0,_)::(3,_)::(4,_)::Lx) _ _
   refine aw (r_nilCheck rfl) ?_
   exact at_nil k
  ·intro Lx g59 s K hl hh k
   show At 109 ((95,_)::(0,_)::(3,_)::(4,_)::Lx) _ _
   refine fa 2 underlying84 rfl sizeOf24 ?_
   exact at_nil k
  ·intro Lx g59 s K hl hh k
   show At 109 ((96,_)::(0,_)::(3,_)::(4,_)::Lx) _ _
   obtain rfl:s=0:=by omega
   refine aw (r_load_aggc (c:=c_api_Addr) (z:=x0.f_at) isAgg24 sizeOf24 rfl (lens_cell (.s .z) (c_flat_row_f_at ((p0f_l_,c0f_l_),(p0f_stack_,c0f_stack_)) x0))) ?_
   exact at_nil k
  ·intro Lx g59 s K hl hh k
   show At 109 ((0,_)::(3,_)::(4,_)::Lx) _ _
   obtain rfl:s=0:=by omega
   refine aw (r_load_aggc (c:=c_api_Addr) (z:=x1) isAgg24 sizeOf24 rfl (lens_cell .z lw)) ?_
   exact at_nil k
  ·intro Lx g59 s K hl hh k
   show At 109 ((97,_)::(98,_)::(0,_)::(3,_)::(4,_)::Lx) _ _
   obtain rfl:s=0:=by omega
   refine aw (r_build_struct (zs:=Cd.cs c_aggregate_Range zv5) (cs:=Cd.cs c_aggregate_Range ({ { zv5 with f_From:=x0.f_at } with f_To:=x1 })) underlying26 zeroValue26 rfl (places_aggregate_Range_26) rfl (fill_step (c:=c_api_Addr) (z:=x0.f_at) rfl (c_aggregate_Range_f_From zv5) rfl (fill_step (c:=c_api_Addr) (z:=x1) rfl (c_aggregate_Range_f_To ({ zv5 with f_From:=x0.f_at })) rfl rfl))) ?_
   exact at_nil k
  ·intro Lx g59 s K hl hh k
   show At 109 ((0,_)::(3,_)::(4,_)::Lx) _ _
   refine am ?_
   exact at_nil k
  ·intro Lx g59 s K hl hh k
   show At 109 ((99,_)::(100,_)::(0,_)::(3,_)::(4,_)::Lx) _ _
   obtain rfl:s=0:=by omega
   refine aw (r_build_struct (zs:=Cd.cs c_flat_Span zv6) (cs:=Cd.cs c_flat_Span ({ { zv6 with f_Range:={ { zv5 with f_From:=x0.f_at } with f_To:=x1 } } with f_Owner:=(lget x0.f_stack (wr .i64 ((x0.f_stack.length:Int)-1))).f_Owner })) underlying60 zeroValue60 rfl (places_flat_Span_60) rfl (fill_step (c:=c_aggregate_Range) (z:={ { zv5 with f_From:=x0.f_at } with f_To:=x1 }) rfl (c_flat_Span_f_Range zv6) rfl (fill_step (c:=(cInt .i64)) (z:=(lget x0.f_stack (wr .i64 ((x0.f_stack.length:Int)-1))).f_Owner) rfl (c_flat_Span_f_Owner ({ zv6 with f_Range:={ { zv5 with f_From:=x0.f_at } with f_To:=x1 } })) rfl rfl))) ?_
   exact at_nil k
  ·intro Lx g59 K k
   show At 109 ((101,_)::(0,_)::(3,_)::(4,_)::Lx) _ _
   refine at_litL (c:=c_flat_Span) ([zv6]:List S_flat_Span) ([{ { zv6 with f_Range:={ { zv5 with f_From:=x0.f_at } with f_To:=x1 } } with f_Owner:=(lget x0.f_stack (wr .i64 ((x0.f_stack.length:Int)-1))).f_Owner }]:List S_flat_Span) underlying55 sizeOf60 zeroValue60 rfl rfl rfl (by kernel_rfl) (fill_step (c:=c_flat_Span) (z:={ { zv6 with f_Range:={ { zv5 with f_From:=x0.f_at } with f_To:=x1 } } with f_Owner:=(lget x0.f_stack (wr .i64 ((x0.f_stack.length:Int)-1))).f_Owner }) rfl (Lens.all c_flat_Span ([zv6]:List S_flat_Span) 0 (by first | decide | exact Nat.le_of_ble_eq_true rfl)) rfl rfl) rfl ?_
   intro b55
   exact at_nil (k (g3 b55 none 0 none w0))
  ·intro Lx g59 K k
   show At 109 ((93,_)::(102,_)::(0,_)::(3,_)::(4,_)::Lx) _ _
   refine at_append (z:=.agg (Cd.cs c_flat_Span zv6).toArray) (c:=c_flat_Span) (ys:=([{ { zv6 with f_Range:={ { zv5 with f_From:=x0.f_at } with f_To:=x1 } } with f_Owner:=(lget x0.f_stack (wr .i64 ((x0.f_stack.length:Int)-1))).f_Owner }]:List S_flat_Span)) (.s (.s (.s .z))) underlying55 infoF760 (by kernel_rfl) (by kernel_rfl) rfl rfl rfl rfl (fun _ hw=>cells_src (hw.ok (Upd.mem .z))) (by kernel_rfl) h56 (app_small h56) rfl ?_
   intro p57 c58
   exact at_nil (k (g3 0 p57 c58 none w0))
  ·intro Lx g59 s K hl hh k
   show At 109 ((89,_)::(0,_)::(3,_)::(4,_)::Lx) _ _
   refine aw (r_nilCheck rfl) ?_
   exact at_nil k
  ·intro Lx g59 s K hl hh k
   show At 109 ((104,_)::(0,_)::(3,_)::(4,_)::Lx) _ _
   refine fa 0 underlying84 rfl sizeOf55 ?_
   exact at_nil k
  ·intro Lx g59 K k
   show At 109 ((103,_)::(105,_)::(0,_)::(3,_)::(4,_)::Lx) _ _
   refine at_store (c:=cSv S_flat_Span) (z:=((((g59 1).2.1),((g59 1).2.2.1)),x0.f_l++[{ { zv6 with f_Range:={ { zv5 with f_From:=x0.f_at } with f_To:=x1 } } with f_Owner:=(lget x0.f_stack (wr .i64 ((x0.f_stack.length:Int)-1))).f_Owner }])) (.s (.s .z)) (c_flat_row_f_l_sv ((p0f_l_,c0f_l_),(p0f_stack_,c0f_stack_)) x0) sizeOf55 rfl rfl rfl ?_
   exact at_nil k
  intro g59
  show At 109 [(89,_),(90,_),(91,_),(92,_),(93,_),(94,_),(95,_),(96,_),(97,_),(98,_),(99,_),(100,_),(101,_),(102,_),(103,_),(104,_),(105,_),(0,_),(3,_),(4,_)] _ _
  refine dz (wq [3,0] ?_)
  refine tn (qr (am ?_))
  refine aw (r_load_aggc (c:=c_api_Addr) (z:=x1) isAgg24 sizeOf24 rfl (lens_cell .z lw)) ?_
  obtain ⟨t60,ht60,hF⟩:=bM hF
  refine at_front (.s (.s (.s .z))) ?_
  refine at_front (.s (.s (.s .z))) ?_
  refine at_front (.s (.s (.s .z))) ?_
  refine at_callX (γ:=G_flat_row) (V:=fun z=>.tuple #[]) (T:=fun z=>(cellsE b0_ (Cd.cs c_flat_row (z,t60)) 84::rowE c_flat_Span 60 z.1.1 z.1.2 t60.f_l::rowE c_api_Entry 66 z.2.1 z.2.2 t60.f_stack::cellsE b1 (Cd.cs c_api_Addr x1) 24::G_)) func80 rfl (by kernel_rfl) rfl rfl (fun w hw=>flat_row_move_ok ht60 hw) ?_
  rintro ⟨⟨p61,c62⟩,⟨p63,c64⟩⟩
  refine qn ?_
  refine at_drop (H:=_) (.s (.s (.s .z))) ?_
  refine at_weak [] trivial ?_
  have K:=os hF
  subst K
  exact at_return0 rfl (fun w1 hw=>⟨((p61,c62),(p63,c64)),rfl,hw⟩)
 refine fx 40 h10 ?_
 refine gn ?_
 refine gn ?_
 refine gn ?_
 refine gn ?_
 refine gn ?_
 refine gn ?_
 refine gn ?_
 refine gn ?_
 refine gn ?_
 refine gn ?_
 refine gn ?_
 refine aw xp (nwq [52,5,4,3,0] ?_)
 refine cf rfl ?_
 refine sn (qs (wq [4,3,0] ?_))
 obtain ⟨h66,hF⟩:=gd hF
 refine at_inv [.q 89 (fun g69=>.pointer (some ⟨b0_,0,none⟩)) [] 0 2,.q 90 (fun g69=>.pointer (some ⟨b0_,0,none⟩)) [] 0 1,.q 91 (fun g69=>.pointer (some ⟨b0_,0,none⟩)) [1] 0 1,.q 92 (fun g69=>.pointer (some ⟨b0_,0+0,none⟩)) [2] 0 1,.q 93 (fun g69=>.slice p0f_l_ x0.f_l.length c0f_l_) [3] 0 1,.q 94 (fun g69=>.pointer (some ⟨b0_,0,none⟩)) [] 0 2,.q 95 (fun g69=>.pointer (some ⟨b0_,0,none⟩)) [5] 0 0,.q 96 (fun g69=>.pointer (some ⟨b0_,0+2,none⟩)) [6] 0 0,.q 97 (fun g69=>.agg (Cd.cs c_api_Addr x0.f_at).toArray) [7] 0 0,.q 98 (fun g69=>.agg (Cd.cs c_api_Addr x1).toArray) [] 0 0,.q 99 (fun g69=>.agg (Cd.cs c_aggregate_Range ({ { zv5 with f_From:=x0.f_at } with f_To:=x1 })).toArray) [8,9] 0 0,.q 100 (fun g69=>.int .i64 ((lget x0.f_stack (wr .i64 ((x0.f_stack.length:Int)-1))).f_Owner)) [] 0 0,.q 101 (fun g69=>.agg (Cd.cs c_flat_Span ({ { zv6 with f_Range:={ { zv5 with f_From:=x0.f_at } with f_To:=x1 } } with f_Owner:=(lget x0.f_stack (wr .i64 ((x0.f_stack.length:Int)-1))).f_Owner })).toArray) [10,11] 0 0,.al 0 102 (fun g69=>.slice (some ⟨((g69 0).1),0,none⟩) ([{ { zv6 with f_Range:={ { zv5 with f_From:=x0.f_at } with f_To:=x1 } } with f_Owner:=(lget x0.f_stack (wr .i64 ((x0.f_stack.length:Int)-1))).f_Owner }]:List S_flat_Span).length 1) [12],.al 1 103 (fun g69=>.slice ((g69 1).2.1) (x0.f_l++[{ { zv6 with f_Range:={ { zv5 with f_From:=x0.f_at } with f_To:=x1 } } with f_Owner:=(lget x0.f_stack (wr .i64 ((x0.f_stack.length:Int)-1))).f_Owner }]).length ((g69 1).2.2.1)) [4,13],.q 104 (fun g69=>.pointer (some ⟨b0_,0,none⟩)) [0] 2 2,.q 105 (fun g69=>.pointer (some ⟨b0_,0+0,none⟩)) [15] 2 2,.st 2 none [14,16]] (fun g69 s=>match s with | 0=>(Wd w0 (cellsE b1 (Cd.cs c_api_Addr x1) 24::cellsE b0_ (Cd.cs c_flat_row (((p0f_l_,c0f_l_),(p0f_stack_,c0f_stack_)),x0)) 84::rowE c_flat_Span 60 p0f_l_ c0f_l_ x0.f_l::rowE c_api_Entry 66 p0f_stack_ c0f_stack_ x0.f_stack::G_)) | 1=>(Wd w0 (cellsE ((g69 0).1) (c_flat_Span.all ([{ { zv6 with f_Range:={ { zv5 with f_From:=x0.f_at } with f_To:=x1 } } with f_Owner:=(lget x0.f_stack (wr .i64 ((x0.f_stack.length:Int)-1))).f_Owner }]:List S_flat_Span)) 60::cellsE b1 (Cd.cs c_api_Addr x1) 24::cellsE b0_ (Cd.cs c_flat_row (((p0f_l_,c0f_l_),(p0f_stack_,c0f_stack_)),x0)) 84::rowE c_flat_Span 60 p0f_l_ c0f_l_ x0.f_l::rowE c_api_Entry 66 p0f_stack_ c0f_stack_ x0.f_stack::G_)) | 2=>(Wd w0 (cellsE ((g69 0).1) (c_flat_Span.all ([{ { zv6 with f_Range:={ { zv5 with f_From:=x0.f_at } with f_To:=x1 } } with f_Owner:=(lget x0.f_stack (wr .i64 ((x0.f_stack.length:Int)-1))).f_Owner }]:List S_flat_Span)) 60::cellsE b1 (Cd.cs c_api_Addr x1) 24::cellsE b0_ (Cd.cs c_flat_row (((p0f_l_,c0f_l_),(p0f_stack_,c0f_stack_)),x0)) 84::rowE c_flat_Span 60 ((g69 1).2.1) ((g69 1).2.2.1) (x0.f_l++[{ { zv6 with f_Range:={ { zv5 with f_From:=x0.f_at } with f_To:=x1 } } with f_Owner:=(lget x0.f_stack (wr .i64 ((x0.f_stack.length:Int)-1))).f_Owner }])::rowE c_api_Entry 66 p0f_stack_ c0f_stack_ x0.f_stack::G_)) | _=>(Wd w0 (cellsE ((g69 0).1) (c_flat_Span.all ([{ { zv6 with f_Range:={ { zv5 with f_From:=x0.f_at } with f_To:=x1 } } with f_Owner:=(lget x0.f_stack (wr .i64 ((x0.f_stack.length:Int)-1))).f_Owner }]:List S_flat_Span)) 60::cellsE b1 (Cd.cs c_api_Addr x1) 24::cellsE b0_ (Cd.cs c_flat_row (((((g69 1).2.1),((g69 1).2.2.1)),(p0f_stack_,c0f_stack_)),{ x0 with f_l:=x0.f_l++[{ { zv6 with f_Range:={ { zv5 with f_From:=x0.f_at } with f_To:=x1 } } with f_Owner:=(lget x0.f_stack (wr .i64 ((x0.f_stack.length:Int)-1))).f_Owner }] })) 84::rowE c_flat_Span 60 ((g69 1).2.1) ((g69 1).2.2.1) (x0.f_l++[{ { zv6 with f_Range:={ { zv5 with f_From:=x0.f_at } with f_To:=x1 } } with f_Owner:=(lget x0.f_stack (wr .i64 ((x0.f_stack.length:Int)-1))).f_Owner }])::rowE c_api_Entry 66 p0f_stack_ c0f_stack_ x0.f_stack::G_))) 3 (by kernel_rfl) (by kernel_rfl) (by kernel_rfl) (by kernel_rfl) (by kernel_rfl) ⟨fun _ _ _=>rfl,fun _ _ _=>rfl,fun _ _ _=>rfl,fun _ _ _=>rfl,fun _ _ _=>rfl,fun _ _ _=>rfl,fun _ _ _=>rfl,fun _ _ _=>rfl,fun _ _ _=>rfl,fun _ _ _=>rfl,fun _ _ _=>rfl,fun _ _ _=>rfl,fun _ _ _=>rfl,fun g69 g2 h=>by show (.slice (some ⟨((g69 0).1),0,none⟩) ([{ { zv6 with f_Range:={ { zv5 with f_From:=x0.f_at } with f_To:=x1 } } with f_Owner:=(lget x0.f_stack (wr .i64 ((x0.f_stack.length:Int)-1))).f_Owner }]:List S_flat_Span).length 1:Value)=.slice (some ⟨((g2 0).1),0,none⟩) ([{ { zv6 with f_Range:={ { zv5 with f_From:=x0.f_at } with f_To:=x1 } } with f_Owner:=(lget x0.f_stack (wr .i64 ((x0.f_stack.length:Int)-1))).f_Owner }]:List S_flat_Span).length 1;rw [h 0 (show 0<1 by decide)],fun g69 g2 h=>by show (.slice ((g69 1).2.1) (x0.f_l++[{ { zv6 with f_Range:={ { zv5 with f_From:=x0.f_at } with f_To:=x1 } } with f_Owner:=(lget x0.f_stack (wr .i64 ((x0.f_stack.length:Int)-1))).f_Owner }]).length ((g69 1).2.2.1):Value)=.slice ((g2 1).2.1) (x0.f_l++[{ { zv6 with f_Range:={ { zv5 with f_From:=x0.f_at } with f_To:=x1 } } with f_Owner:=(lget x0.f_stack (wr .i64 ((x0.f_stack.length:Int)-1))).f_Owner }]).length ((g2 1).2.2.1);rw [h 1 (show 1<2 by decide)],fun _ _ _=>rfl,fun _ _ _=>rfl,fun _ _ _=>rfl,trivial⟩ (by kernel_rfl) (fun w_ h=>⟨fun _=>g3 0 none 0 none w_,h.drew⟩) ⟨?_,?_,?_,?_,?_,?_,?_,?_,?_,?_,?_,?_,?_,?_,?_,?_,?_,?_,trivial⟩ ?_
 ·intro Lx g69 s K hl hh k
  show At 109 ((0,_)::(3,_)::(4,_)::Lx) _ _
  refine am ?_
  exact at_nil k
 ·intro Lx g69 s K hl hh k
  show At 109 ((0,_)::(3,_)::(4,_)::Lx) _ _
  refine am ?_
  exact at_nil k
 ·intro Lx g69 s K hl hh k
  show At 109 ((90,_)::(0,_)::(3,_)::(4,_)::Lx) _ _
  refine aw (r_nilCheck rfl) ?_
  exact at_nil k
 ·intro Lx g69 s K hl hh k
  show At 109 ((91,_)::(0,_)::(3,_)::(4,_)::Lx) _ _
  refine fa 0 underlying84 rfl sizeOf55 ?_
  exact at_nil k
 ·intro Lx g69 s K hl hh k
  show At 109 ((92,_)::(0,_)::(3,_)::(4,_)::Lx) _ _
  rcases (by omega:s=0∨s=1) with rfl | rfl
  ·skip
   refine aw (r_load_cell isAgg55 rfl (lens_cell0 (c:=cHd) (y:=⟨(((p0f_l_,c0f_l_),(p0f_stack_,c0f_stack_)).1).1,List.length x0.f_l,(((p0f_l_,c0f_l_),(p0f_stack_,c0f_stack_)).1).2⟩) (.s .z) (c_flat_row_f_l ((p0f_l_,c0f_l_),(p0f_stack_,c0f_stack_)) x0) rfl)) ?_
   exact at_nil k
  skip
  refine aw (r_load_cell isAgg55 rfl (lens_cell0 (c:=cHd) (y:=⟨(((p0f_l_,c0f_l_),(p0f_stack_,c0f_stack_)).1).1,List.length x0.f_l,(((p0f_l_,c0f_l_),(p0f_stack_,c0f_stack_)).1).2⟩) (.s (.s .z)) (c_flat_row_f_l ((p0f_l_,c0f_l_),(p0f_stack_,c0f_stack_)) x0) rfl)) ?_
  exact at_nil k
 ·intro Lx g69 s K hl hh k
  show At 109 ((0,_)::(3,_)::(4,_)::Lx) _ _
  refine am ?_
  exact at_nil k
 ·intro Lx g69 s K hl hh k
  show At 109 ((94,_)::(0,_)::(3,_)::(4,_)::Lx) _ _
  refine aw (r_nilCheck rfl) ?_
  exact at_nil k
 ·intro Lx g69 s K hl hh k
  show At 109 ((95,_)::(0,_)::(3,_)::(4,_)::Lx) _ _
  refine fa 2 underlying84 rfl sizeOf24 ?_
  exact at_nil k
 ·intro Lx g69 s K hl hh k
  show At 109 ((96,_)::(0,_)::(3,_)::(4,_)::Lx) _ _
  obtain rfl:s=0:=by omega
  refine aw (r_load_aggc (c:=c_api_Addr) (z:=x0.f_at) isAgg24 sizeOf24 rfl (lens_cell (.s .z) (c_flat_row_f_at ((p0f_l_,c0f_l_),(p0f_stack_,c0f_stack_)) x0))) ?_
  exact at_nil k
 ·intro Lx g69 s K hl hh k
  show At 109 ((0,_)::(3,_)::(4,_)::Lx) _ _
  obtain rfl:s=0:=by omega
  refine aw (r_load_aggc (c:=c_api_Addr) (z:=x1) isAgg24 sizeOf24 rfl (lens_cell .z lw)) ?_
  exact at_nil k
 ·intro Lx g69 s K hl hh k
  show At 109 ((97,_)::(98,_)::(0,_)::(3,_)::(4,_)::Lx) _ _
  obtain rfl:s=0:=by omega
  refine aw (r_build_struct (zs:=Cd.cs c_aggregate_Range zv5) (cs:=Cd.cs c_aggregate_Range ({ { zv5 with f_From:=x0.f_at } with f_To:=x1 })) underlying26 zeroValue26 rfl (places_aggregate_Range_26) rfl (fill_step (c:=c_api_Addr) (z:=x0.f_at) rfl (c_aggregate_Range_f_From zv5) rfl (fill_step (c:=c_api_Addr) (z:=x1) rfl (c_aggregate_Range_f_To ({ zv5 with f_From:=x0.f_at })) rfl rfl))) ?_
  exact at_nil k
 ·intro Lx g69 s K hl hh k
  show At 109 ((0,_)::(3,_)::(4,_)::Lx) _ _
  refine am ?_
  exact at_nil k
 ·intro Lx g69 s K hl hh k
  show At 109 ((99,_)::(100,_)::(0,_)::(3,_)::(4,_)::Lx) _ _
  obtain rfl:s=0:=by omega
  refine aw (r_build_struct (zs:=Cd.cs c_flat_Span zv6) (cs:=Cd.cs c_flat_Span ({ { zv6 with f_Range:={ { zv5 with f_From:=x0.f_at } with f_To:=x1 } } with f_Owner:=(lget x0.f_stack (wr .i64 ((x0.f_stack.length:Int)-1))).f_Owner })) underlying60 zeroValue60 rfl (places_flat_Span_60) rfl (fill_step (c:=c_aggregate_Range) (z:={ { zv5 with f_From:=x0.f_at } with f_To:=x1 }) rfl (c_flat_Span_f_Range zv6) rfl (fill_step (c:=(cInt .i64)) (z:=(lget x0.f_stack (wr .i64 ((x0.f_stack.length:Int)-1))).f_Owner) rfl (c_flat_Span_f_Owner ({ zv6 with f_Range:={ { zv5 with f_From:=x0.f_at } with f_To:=x1 } })) rfl rfl))) ?_
  exact at_nil k
 ·intro Lx g69 K k
  show At 109 ((101,_)::(0,_)::(3,_)::(4,_)::Lx) _ _
  refine at_litL (c:=c_flat_Span) ([zv6]:List S_flat_Span) ([{ { zv6 with f_Range:={ { zv5 with f_From:=x0.f_at } with f_To:=x1 } } with f_Owner:=(lget x0.f_stack (wr .i64 ((x0.f_stack.length:Int)-1))).f_Owner }]:List S_flat_Span) underlying55 sizeOf60 zeroValue60 rfl rfl rfl (by kernel_rfl) (fill_step (c:=c_flat_Span) (z:={ { zv6 with f_Range:={ { zv5 with f_From:=x0.f_at } with f_To:=x1 } } with f_Owner:=(lget x0.f_stack (wr .i64 ((x0.f_stack.length:Int)-1))).f_Owner }) rfl (Lens.all c_flat_Span ([zv6]:List S_flat_Span) 0 (by first | decide | exact Nat.le_of_ble_eq_true rfl)) rfl rfl) rfl ?_
  intro b65
  exact at_nil (k (g3 b65 none 0 none w0))
 ·intro Lx g69 K k
  show At 109 ((93,_)::(102,_)::(0,_)::(3,_)::(4,_)::Lx) _ _
  refine at_append (z:=.agg (Cd.cs c_flat_Span zv6).toArray) (c:=c_flat_Span) (ys:=([{ { zv6 with f_Range:={ { zv5 with f_From:=x0.f_at } with f_To:=x1 } } with f_Owner:=(lget x0.f_stack (wr .i64 ((x0.f_stack.length:Int)-1))).f_Owner }]:List S_flat_Span)) (.s (.s (.s .z))) underlying55 infoF760 (by kernel_rfl) (by kernel_rfl) rfl rfl rfl rfl (fun _ hw=>cells_src (hw.ok (Upd.mem .z))) (by kernel_rfl) h66 (app_small h66) rfl ?_
  intro p67 c68
  exact at_nil (k (g3 0 p67 c68 none w0))
 ·intro Lx g69 s K hl hh k
  show At 109 ((89,_)::(0,_)::(3,_)::(4,_)::Lx) _ _
  refine aw (r_nilCheck rfl) ?_
  exact at_nil k
 ·intro Lx g69 s K hl hh k
  show At 109 ((104,_)::(0,_)::(3,_)::(4,_)::Lx) _ _
  refine fa 0 underlying84 rfl sizeOf55 ?_
  exact at_nil k
 ·intro Lx g69 K k
  show At 109 ((103,_)::(105,_)::(0,_)::(3,_)::(4,_)::Lx) _ _
  refine at_store (c:=cSv S_flat_Span) (z:=((((g69 1).2.1),((g69 1).2.2.1)),x0.f_l++[{ { zv6 with f_Range:={ { zv5 with f_From:=x0.f_at } with f_To:=x1 } } with f_Owner:=(lget x0.f_stack (wr .i64 ((x0.f_stack.length:Int)-1))).f_Owner }])) (.s (.s .z)) (c_flat_row_f_l_sv ((p0f_l_,c0f_l_),(p0f_stack_,c0f_stack_)) x0) sizeOf55 rfl rfl rfl ?_
  exact at_nil k
 intro g69
 show At 109 [(89,_),(90,_),(91,_),(92,_),(93,_),(94,_),(95,_),(96,_),(97,_),(98,_),(99,_),(100,_),(101,_),(102,_),(103,_),(104,_),(105,_),(0,_),(3,_),(4,_)] _ _
 refine dz (wq [3,0] ?_)
 refine tn (qr (am ?_))
 refine aw (r_load_aggc (c:=c_api_Addr) (z:=x1) isAgg24 sizeOf24 rfl (lens_cell .z lw)) ?_
 obtain ⟨t70,ht70,hF⟩:=bM hF
 refine at_front (.s (.s (.s .z))) ?_
 refine at_front (.s (.s (.s .z))) ?_
 refine at_front (.s (.s (.s .z))) ?_
 refine at_callX (γ:=G_flat_row) (V:=fun z=>.tuple #[]) (T:=fun z=>(cellsE b0_ (Cd.cs c_flat_row (z,t70)) 84::rowE c_flat_Span 60 z.1.1 z.1.2 t70.f_l::rowE c_api_Entry 66 z.2.1 z.2.2 t70.f_stack::cellsE b1 (Cd.cs c_api_Addr x1) 24::G_)) func80 rfl (by kernel_rfl) rfl rfl (fun w hw=>flat_row_move_ok ht70 hw) ?_
 rintro ⟨⟨p71,c72⟩,⟨p73,c74⟩⟩
 refine qn ?_
 refine at_drop (H:=_) (.s (.s (.s .z))) ?_
 refine at_weak [] trivial ?_
 have K:=os hF
 subst K
 exact at_return0 rfl (fun w1 hw=>⟨((p71,c72),(p73,c74)),rfl,hw⟩)
def flat_row_close.l0(x1:S_api_Entry)(i6:S_flat_row):Option (Ctl (S_flat_row) (S_flat_row)) :=
 if (decide ((i6.f_stack.length:Int)>0))=true then (if (0:Int)≤wr .i64 ((i6.f_stack.length:Int)-1)∧wr .i64 ((i6.f_stack.length:Int)-1)<(i6.f_stack.length:Int) then cidr_Covers ((lget i6.f_stack (wr .i64 ((i6.f_stack.length:Int)-1))).f_P) x1.f_P>>=fun t22=>if t22=true then (some (.ret i6)) else (flat_end (lget i6.f_stack (wr .i64 ((i6.f_stack.length:Int)-1)))>>=fun t24=>flat_row_put i6 t24>>=fun t25=>if (0:Int)≤0∧0≤wr .i64 ((t25.f_stack.length:Int)-1)∧wr .i64 ((t25.f_stack.length:Int)-1)≤(t25.f_stack.length:Int) then flat_row_close.l0 x1 ({ { t25 with f_stack:=lsub t25.f_stack 0 (wr .i64 ((t25.f_stack.length:Int)-1)) } with f_stack:=List.take (Int.toNat (wr .i64 ((t25.f_stack.length:Int)-1))) t25.f_stack }) else none) else none) else (some (.nx i6))
 partial_fixpoint
def flat_row_close(x0:S_flat_row)(x1:S_api_Entry):Option (S_flat_row) :=
 flat_row_close.l0 x1 x0>>=fun q5=>match q5 with | .ret r'=>some r' | .nx sq5=>(some sq5)
set_option maxHeartbeats 3200000 in
theorem flat_row_close_ok{x0:S_flat_row}{x1:S_api_Entry}{r:S_flat_row}(hF:flat_row_close x0 x1=some r):∀ {w0 w:World} {G_:List Ent} {b0_:Nat} {p0f_l_:Option Addr} {c0f_l_:Nat} {p0f_stack_:Option Addr} {c0f_stack_:Nat} {b1_:Nat} (hw_:Wd w0 (cellsE b0_ (Cd.cs c_flat_row (((p0f_l_,c0f_l_),(p0f_stack_,c0f_stack_)),x0)) 84::rowE c_flat_Span 60 p0f_l_ c0f_l_ x0.f_l::rowE c_api_Entry 66 p0f_stack_ c0f_stack_ x0.f_stack::cellsE b1_ (Cd.cs c_api_Entry x1) 66::G_) w),
    Calls Try.prog 54 #[.pointer (some ⟨b0_,0,none⟩),.pointer (some ⟨b1_,0,none⟩)] w (fun e w'=>∃ (z0:G_flat_row),e=.returned (.tuple #[])∧Wd w0 (cellsE b0_ (Cd.cs c_flat_row (z0,r)) 84::rowE c_flat_Span 60 z0.1.1 z0.1.2 r.f_l::rowE c_api_Entry 66 z0.2.1 z0.2.2 r.f_stack::cellsE b1_ (Cd.cs c_api_Entry x1) 66::G_) w'):=by
 intro w0 w G_ b0_ p0f_l_ c0f_l_ p0f_stack_ c0f_stack_ b1_ hw_
 unfold flat_row_close at hF
 refine ce (l:=[.pointer (some ⟨b0_,0,none⟩),.pointer (some ⟨b1_,0,none⟩)]) func54 rfl rfl ?_
 refine at_enterF hw_ ?_
 refine wq [1,0] ?_
 refine qb ?_
 obtain ⟨q5,hq5,hF⟩:=bM hF
 refine wq [1,0] ?_
 refine at_loop_r (B:=0) (r:=r) (q:=q5) (A:=fun sq5 Y=>∀ (p11:Option Addr) (c12:Nat) (p13:Option Addr) (c14:Nat),At 52 [] (Wd w0 (cellsE b0_ (Cd.cs c_flat_row (((p11,c12),(p13,c14)),sq5)) 84::rowE c_flat_Span 60 p11 c12 sq5.f_l::rowE c_api_Entry 66 p13 c14 sq5.f_stack::cellsE b1_ (Cd.cs c_api_Entry x1) 66::G_)) Y) ?_ ?_
 ·intro K
  refine flat_row_close.l0.partial_correctness x1 (motive:=fun i6 x=>KR (fun sq5 Y=>∀ (p11:Option Addr) (c12:Nat) (p13:Option Addr) (c14:Nat),At 52 [] (Wd w0 (cellsE b0_ (Cd.cs c_flat_row (((p11,c12),(p13,c14)),sq5)) 84::rowE c_flat_Span 60 p11 c12 sq5.f_l::rowE c_api_Entry 66 p13 c14 sq5.f_stack::cellsE b1_ (Cd.cs c_api_Entry x1) 66::G_)) Y) _ 0 r x→Round (fun Y=>∀ (p7:Option Addr) (c8:Nat) (p9:Option Addr) (c10:Nat),At 52 [(0,.pointer (some ⟨b0_,0,none⟩)),(1,.pointer (some ⟨b1_,0,none⟩))] (Wd w0 (cellsE b0_ (Cd.cs c_flat_row (((p7,c8),(p9,c10)),i6)) 84::rowE c_flat_Span 60 p7 c8 i6.f_l::rowE c_api_Entry 66 p9 c10 i6.f_stack::cellsE b1_ (Cd.cs c_api_Entry x1) 66::G_)) Y) _ _ _) ?_ _ _ hq5 K p0f_l_ c0f_l_ p0f_stack_ c0f_stack_
  ·clear K hF
   intro g ih i6 x hF K p7 c8 p9 c10
   refine at_round ?_
   refine qs (sr (am ?_))
   refine aw (r_nilCheck rfl) ?_
   refine fa 1 underlying84 rfl sizeOf54 ?_
   refine aw (r_load_cell isAgg54 rfl (lens_cell0 (c:=cHd) (y:=⟨(((p7,c8),(p9,c10)).2).1,List.length i6.f_stack,(((p7,c8),(p9,c10)).2).2⟩) .z (c_flat_row_f_stack ((p7,c8),(p9,c10)) i6) rfl)) ?_
   refine aw (r_len_sl underlying54 rfl) ?_
   refine aw (r_igtr rfl rfl) ?_
   refine nwq [10,1,0] ?_
   obtain ⟨h15,hF⟩|⟨h15,hF⟩:=oi hF
   ·refine ct h15 ?_
    refine sn ?_
    refine qb ?_
    refine qs (wq [1,0] ?_)
    obtain ⟨h16,hF⟩:=gd hF
    refine at_pure (φ:=∃ b o,p9=some ⟨b,o,none⟩) (fun _ hw=>row_ptr (hw.own (.s (.s .z))).row h16) ?_
    rintro ⟨b18,o19,hp17⟩
    refine at_inv [.q 11 (fun g21=>.pointer (some ⟨b0_,0,none⟩)) [] 0 1,.q 12 (fun g21=>.pointer (some ⟨b0_,0,none⟩)) [0] 0 1,.q 13 (fun g21=>.pointer (some ⟨b0_,0+1,none⟩)) [1] 0 1,.q 14 (fun g21=>.slice p9 i6.f_stack.length c10) [2] 0 1,.q 15 (fun g21=>.pointer (some ⟨b0_,0,none⟩)) [] 0 1,.q 16 (fun g21=>.pointer (some ⟨b0_,0,none⟩)) [4] 0 1,.q 17 (fun g21=>.pointer (some ⟨b0_,0+1,none⟩)) [5] 0 1,.q 18 (fun g21=>.slice p9 i6.f_stack.length c10) [6] 0 1,.q 19 (fun g21=>.int .i64 (i6.f_stack.length:Int)) [7] 0 1,.q 20 (fun g21=>.int .i64 (wr .i64 ((i6.f_stack.length:Int)-1))) [8] 0 1,.q 21 (fun g21=>.pointer (some ⟨b18,o19+Int.toNat (wr .i64 ((i6.f_stack.length:Int)-1))*19,none⟩)) [3,9] 0 1,.q 22 (fun g21=>.agg (Cd.cs c_api_Entry (lget i6.f_stack (wr .i64 ((i6.f_stack.length:Int)-1)))).toArray) [10] 0 1,.al 0 4 (fun g21=>.pointer (some ⟨((g21 0).1),0,none⟩)) [],.st 1 none [12,11]] (fun g21 s=>match s with | 0=>(Wd w0 (cellsE b0_ (Cd.cs c_flat_row (((p7,c8),(p9,c10)),i6)) 84::rowE c_flat_Span 60 p7 c8 i6.f_l::rowE c_api_Entry 66 p9 c10 i6.f_stack::cellsE b1_ (Cd.cs c_api_Entry x1) 66::G_)) | 1=>(Wd w0 (cellsE ((g21 0).1) (Cd.cs c_api_Entry zv7) 66::cellsE b0_ (Cd.cs c_flat_row (((p7,c8),(p9,c10)),i6)) 84::rowE c_flat_Span 60 p7 c8 i6.f_l::rowE c_api_Entry 66 p9 c10 i6.f_stack::cellsE b1_ (Cd.cs c_api_Entry x1) 66::G_)) | _=>(Wd w0 (cellsE ((g21 0).1) (Cd.cs c_api_Entry (lget i6.f_stack (wr .i64 ((i6.f_stack.length:Int)-1)))) 66::cellsE b0_ (Cd.cs c_flat_row (((p7,c8),(p9,c10)),i6)) 84::rowE c_flat_Span 60 p7 c8 i6.f_l::rowE c_api_Entry 66 p9 c10 i6.f_stack::cellsE b1_ (Cd.cs c_api_Entry x1) 66::G_))) 2 (by kernel_rfl) (by kernel_rfl) (by kernel_rfl) (by kernel_rfl) (by kernel_rfl) ⟨fun _ _ _=>rfl,fun _ _ _=>rfl,fun _ _ _=>rfl,fun _ _ _=>rfl,fun _ _ _=>rfl,fun _ _ _=>rfl,fun _ _ _=>rfl,fun _ _ _=>rfl,fun _ _ _=>rfl,fun _ _ _=>rfl,fun _ _ _=>rfl,fun _ _ _=>rfl,fun g21 g2 h=>by show (.pointer (some ⟨((g21 0).1),0,none⟩):Value)=.pointer (some ⟨((g2 0).1),0,none⟩);rw [h 0 (show 0<1 by decide)],fun _ _ _=>rfl,trivial⟩ (by kernel_rfl) (fun w_ h=>⟨fun _=>g3 0 none 0 none w_,h.drew⟩) ⟨?_,?_,?_,?_,?_,?_,?_,?_,?_,?_,?_,?_,?_,?_,trivial⟩ ?_
    ·intro Lx g21 s K hl hh k
     show At 52 ((0,_)::(1,_)::Lx) _ _
     refine am ?_
     exact at_nil k
    ·intro Lx g21 s K hl hh k
     show At 52 ((11,_)::(0,_)::(1,_)::Lx) _ _
     refine aw (r_nilCheck rfl) ?_
     exact at_nil k
    ·intro Lx g21 s K hl hh k
     show At 52 ((12,_)::(0,_)::(1,_)::Lx) _ _
     refine fa 1 underlying84 rfl sizeOf54 ?_
     exact at_nil k
    ·intro Lx g21 s K hl hh k
     show At 52 ((13,_)::(0,_)::(1,_)::Lx) _ _
     rcases (by omega:s=0∨s=1) with rfl | rfl
     ·skip
      refine aw (r_load_cell isAgg54 rfl (lens_cell0 (c:=cHd) (y:=⟨(((p7,c8),(p9,c10)).2).1,List.length i6.f_stack,(((p7,c8),(p9,c10)).2).2⟩) .z (c_flat_row_f_stack ((p7,c8),(p9,c10)) i6) rfl)) ?_
      exact at_nil k
     skip
     refine aw (r_load_cell isAgg54 rfl (lens_cell0 (c:=cHd) (y:=⟨(((p7,c8),(p9,c10)).2).1,List.length i6.f_stack,(((p7,c8),(p9,c10)).2).2⟩) (.s .z) (c_flat_row_f_stack ((p7,c8),(p9,c10)) i6) rfl)) ?_
     exact at_nil k
    ·intro Lx g21 s K hl hh k
     show At 52 ((0,_)::(1,_)::Lx) _ _
     refine am ?_
     exact at_nil k
    ·intro Lx g21 s K hl hh k
     show At 52 ((15,_)::(0,_)::(1,_)::Lx) _ _
     refine aw (r_nilCheck rfl) ?_
     exact at_nil k
    ·intro Lx g21 s K hl hh k
     show At 52 ((16,_)::(0,_)::(1,_)::Lx) _ _
     refine fa 1 underlying84 rfl sizeOf54 ?_
     exact at_nil k
    ·intro Lx g21 s K hl hh k
     show At 52 ((17,_)::(0,_)::(1,_)::Lx) _ _
     rcases (by omega:s=0∨s=1) with rfl | rfl
     ·skip
      refine aw (r_load_cell isAgg54 rfl (lens_cell0 (c:=cHd) (y:=⟨(((p7,c8),(p9,c10)).2).1,List.length i6.f_stack,(((p7,c8),(p9,c10)).2).2⟩) .z (c_flat_row_f_stack ((p7,c8),(p9,c10)) i6) rfl)) ?_
      exact at_nil k
     skip
     refine aw (r_load_cell isAgg54 rfl (lens_cell0 (c:=cHd) (y:=⟨(((p7,c8),(p9,c10)).2).1,List.length i6.f_stack,(((p7,c8),(p9,c10)).2).2⟩) (.s .z) (c_flat_row_f_stack ((p7,c8),(p9,c10)) i6) rfl)) ?_
     exact at_nil k
    ·intro Lx g21 s K hl hh k
     show At 52 ((18,_)::(0,_)::(1,_)::Lx) _ _
     rcases (by omega:s=0∨s=1) with rfl | rfl
     ·skip
      refine aw (r_len_sl underlying54 rfl) ?_
      exact at_nil k
     skip
     refine aw (r_len_sl underlying54 rfl) ?_
     exact at_nil k
    ·intro Lx g21 s K hl hh k
     show At 52 ((19,_)::(0,_)::(1,_)::Lx) _ _
     refine aw (r_isub rfl rfl) ?_
     exact at_nil k
    ·intro Lx g21 s K hl hh k
     show At 52 ((14,_)::(20,_)::(0,_)::(1,_)::Lx) _ _
     refine aw (r_idx underlying54 sizeOf66 rfl rfl h16 hp17) ?_
     exact at_nil k
    ·intro Lx g21 s K hl hh k
     show At 52 ((21,_)::(0,_)::(1,_)::Lx) _ _
     rcases (by omega:s=0∨s=1) with rfl | rfl
     ·skip
      refine aw (r_load_aggc (c:=c_api_Entry) (z:=lget i6.f_stack (wr .i64 ((i6.f_stack.length:Int)-1))) isAgg66 sizeOf66 rfl (fun w1 hw=>row_cell (W:=fun w1=>w1=_) (fun w1 h=>by subst h;exact Below.refl _ _) (hw.own (.s (.s .z))).row h16 hp17 _ rfl)) ?_
      exact at_nil k
     skip
     refine aw (r_load_aggc (c:=c_api_Entry) (z:=lget i6.f_stack (wr .i64 ((i6.f_stack.length:Int)-1))) isAgg66 sizeOf66 rfl (fun w1 hw=>row_cell (W:=fun w1=>w1=_) (fun w1 h=>by subst h;exact Below.refl _ _) (hw.own (.s (.s (.s .z)))).row h16 hp17 _ rfl)) ?_
     exact at_nil k
    ·intro Lx g21 K k
     show At 52 ((0,_)::(1,_)::Lx) _ _
     refine al (cs:=Cd.cs c_api_Entry zv7) zeroValue66 ?_
     intro b20
     exact at_nil (k (g3 b20 none 0 none w0))
    ·intro Lx g21 K k
     show At 52 ((4,_)::(22,_)::(0,_)::(1,_)::Lx) _ _
     refine at_store (c:=c_api_Entry) (z:=lget i6.f_stack (wr .i64 ((i6.f_stack.length:Int)-1))) .z lw sizeOf66 rfl rfl rfl ?_
     exact at_nil k
    intro g21
    show At 52 [(11,_),(12,_),(13,_),(14,_),(15,_),(16,_),(17,_),(18,_),(19,_),(20,_),(21,_),(22,_),(4,_),(0,_),(1,_)] _ _
    refine wq [4,1,0] ?_
    refine tn (qs (qs ?_))
    refine at_draw (by kernel_rfl) (by kernel_rfl) (fun _ h=>h.drew) ?_
    refine atq_val rfl rfl rfl (r_move rfl) ?_
    refine atq_val rfl rfl rfl (r_pnil (g:=id) (p:=some b1_) underlying86 rfl rfl (.inr rfl) rfl) ?_
    refine atq_val rfl rfl rfl (r_move rfl) ?_
    refine atq_guard_yes rfl rfl rfl ?_
    refine atq_val rfl rfl rfl (r_fieldAddr (fo:=0) underlying66 rfl rfl (fun w=>⟨_,sizeOf37 w⟩) rfl) ?_
    refine atq_guard_yes rfl rfl rfl ?_
    refine atq_val rfl rfl rfl (r_load_aggc (c:=c_api_Prefix) (z:=(lget i6.f_stack (wr .i64 ((i6.f_stack.length:Int)-1))).f_P) isAgg37 sizeOf37 rfl (lens_cell .z (Lens.comp lw (fun z=>{ lget i6.f_stack (wr .i64 ((i6.f_stack.length:Int)-1)) with f_P:=z }) (c_api_Entry_f_P (lget i6.f_stack (wr .i64 ((i6.f_stack.length:Int)-1))))))) ?_
    refine atq_guard_yes rfl rfl rfl ?_
    refine atq_val rfl rfl rfl (r_move rfl) ?_
    refine atq_guard_yes rfl rfl rfl ?_
    refine atq_val rfl rfl rfl (r_nilCheck rfl) ?_
    refine atq_guard_yes rfl rfl rfl ?_
    refine atq_val rfl rfl rfl (r_fieldAddr (fo:=0) underlying66 rfl rfl (fun w=>⟨_,sizeOf37 w⟩) rfl) ?_
    refine atq_guard_yes rfl rfl rfl ?_
    refine atq_val rfl rfl rfl (r_load_aggc (c:=c_api_Prefix) (z:=x1.f_P) isAgg37 sizeOf37 rfl (lens_cell (.s (.s (.s (.s .z)))) (Lens.comp lw (fun z=>{ x1 with f_P:=z }) (c_api_Entry_f_P x1)))) ?_
    refine atq_guard_yes rfl rfl rfl ?_
    obtain ⟨t22,ht22,hF⟩:=bM hF
    refine atq_call func78 rfl (by kernel_rfl) rfl rfl (fun w hw=>(cidr_Covers_ok _ _ _ ht22 w).mono fun _ _ h=>⟨h.1,hw.call h.2⟩) ?_
    refine atq_val rfl rfl rfl (r_pick rfl rfl rfl) ?_
    refine atq_nil ?_
    refine wq [33,4,1,0] ?_
    refine tn ?_
    obtain ⟨h23,hF⟩|⟨h23,hF⟩:=oi hF
    ·refine ct h23 ?_
     refine qt ?_
     refine tr (br (tr (br ?_)))
     refine dz ?_
     obtain rfl:=os hF
     subst K
     exact at_return0' rfl (fun w1 hw=>⟨((p7,c8),(p9,c10)),rfl,hw⟩)
    refine cf h23 ?_
    refine sns (am ?_)
    refine aw (r_load_aggc (c:=c_api_Entry) (z:=lget i6.f_stack (wr .i64 ((i6.f_stack.length:Int)-1))) isAgg66 sizeOf66 rfl (lens_cell .z lw)) ?_
    obtain ⟨t24,ht24,hF⟩:=bM hF
    refine cB func79 rfl (fun w hw=>flat_end_ok _ _ ht24 w) ?_
    obtain ⟨t25,ht25,hF⟩:=bM hF
    refine at_front (.s (.s (.s .z))) ?_
    refine at_front (.s (.s (.s .z))) ?_
    refine at_front (.s (.s (.s .z))) ?_
    refine at_callX (γ:=G_flat_row) (V:=fun z=>.tuple #[]) (T:=fun z=>(cellsE b0_ (Cd.cs c_flat_row (z,t25)) 84::rowE c_flat_Span 60 z.1.1 z.1.2 t25.f_l::rowE c_api_Entry 66 z.2.1 z.2.2 t25.f_stack::cellsE (g21 0).1 (Cd.cs c_api_Entry (lget i6.f_stack (wr .i64 ((i6.f_stack.length:Int)-1)))) 66::cellsE b1_ (Cd.cs c_api_Entry x1) 66::G_)) func56 rfl (by kernel_rfl) rfl rfl (fun w hw=>flat_row_put_ok ht25 hw) ?_
    rintro ⟨⟨p26,c27⟩,⟨p28,c29⟩⟩
    refine qn ?_
    refine at_drop (H:=_) (.s (.s (.s .z))) ?_
    refine tn (wq [1,0] ?_)
    obtain ⟨h30,hF⟩:=gd hF
    refine at_inv [.q 38 (fun g32=>.pointer (some ⟨b0_,0,none⟩)) [] 0 0,.q 39 (fun g32=>.pointer (some ⟨b0_,0,none⟩)) [] 0 0,.q 40 (fun g32=>.pointer (some ⟨b0_,0,none⟩)) [1] 0 0,.q 41 (fun g32=>.pointer (some ⟨b0_,0+1,none⟩)) [2] 0 0,.q 42 (fun g32=>.slice p28 t25.f_stack.length c29) [3] 0 0,.q 43 (fun g32=>.pointer (some ⟨b0_,0,none⟩)) [] 0 0,.q 44 (fun g32=>.pointer (some ⟨b0_,0,none⟩)) [5] 0 0,.q 45 (fun g32=>.pointer (some ⟨b0_,0+1,none⟩)) [6] 0 0,.q 46 (fun g32=>.slice p28 t25.f_stack.length c29) [7] 0 0,.q 47 (fun g32=>.int .i64 (t25.f_stack.length:Int)) [8] 0 0,.q 48 (fun g32=>.int .i64 (wr .i64 ((t25.f_stack.length:Int)-1))) [9] 0 0,.q 49 (fun g32=>.slice (rsp p28 c29 0 (Cd.sz c_api_Entry)) (lsub t25.f_stack 0 (wr .i64 ((t25.f_stack.length:Int)-1))).length (c29-Int.toNat 0)) [4,10] 0 0,.q 50 (fun g32=>.pointer (some ⟨b0_,0,none⟩)) [0] 0 0,.q 51 (fun g32=>.pointer (some ⟨b0_,0+1,none⟩)) [12] 0 0,.st 0 none [11,13]] (fun g32 s=>match s with | 0=>(Wd w0 (cellsE b0_ (Cd.cs c_flat_row (((p26,c27),(p28,c29)),t25)) 84::rowE c_flat_Span 60 p26 c27 t25.f_l::rowE c_api_Entry 66 p28 c29 t25.f_stack::cellsE b1_ (Cd.cs c_api_Entry x1) 66::G_)) | _=>(Wd w0 (cellsE b0_ (Cd.cs c_flat_row (((p26,c27),(rsp p28 c29 0 (Cd.sz c_api_Entry),c29-Int.toNat 0)),{ t25 with f_stack:=lsub t25.f_stack 0 (wr .i64 ((t25.f_stack.length:Int)-1)) })) 84::rowE c_flat_Span 60 p26 c27 t25.f_l::rowE c_api_Entry 66 p28 c29 t25.f_stack::cellsE b1_ (Cd.cs c_api_Entry x1) 66::G_))) 1 (by kernel_rfl) (by kernel_rfl) (by kernel_rfl) (by kernel_rfl) (by kernel_rfl) ⟨fun _ _ _=>rfl,fun _ _ _=>rfl,fun _ _ _=>rfl,fun _ _ _=>rfl,fun _ _ _=>rfl,fun _ _ _=>rfl,fun _ _ _=>rfl,fun _ _ _=>rfl,fun _ _ _=>rfl,fun _ _ _=>rfl,fun _ _ _=>rfl,fun _ _ _=>rfl,fun _ _ _=>rfl,fun _ _ _=>rfl,fun _ _ _=>rfl,trivial⟩ (by kernel_rfl) (fun w_ h=>⟨fun _=>g3 0 none 0 none w_,h.drew⟩) ⟨?_,?_,?_,?_,?_,?_,?_,?_,?_,?_,?_,?_,?_,?_,?_,trivial⟩ ?_
    ·intro Lx g32 s K hl hh k
     show At 52 ((0,_)::(1,_)::Lx) _ _
     refine am ?_
     exact at_nil k
    ·intro Lx g32 s K hl hh k
     show At 52 ((0,_)::(1,_)::Lx) _ _
     refine am ?_
     exact at_nil k
    ·intro Lx g32 s K hl hh k
     show At 52 ((39,_)::(0,_)::(1,_)::Lx) _ _
     refine aw (r_nilCheck rfl) ?_
     exact at_nil k
    ·intro Lx g32 s K hl hh k
     show At 52 ((40,_)::(0,_)::(1,_)::Lx) _ _
     refine fa 1 underlying84 rfl sizeOf54 ?_
     exact at_nil k
    ·intro Lx g32 s K hl hh k
     show At 52 ((41,_)::(0,_)::(1,_)::Lx) _ _
     obtain rfl:s=0:=by omega
     refine aw (r_load_cell isAgg54 rfl (lens_cell0 (c:=cHd) (y:=⟨(((p26,c27),(p28,c29)).2).1,List.length t25.f_stack,(((p26,c27),(p28,c29)).2).2⟩) .z (c_flat_row_f_stack ((p26,c27),(p28,c29)) t25) rfl)) ?_
     exact at_nil k
    ·intro Lx g32 s K hl hh k
     show At 52 ((0,_)::(1,_)::Lx) _ _
     refine am ?_
     exact at_nil k
    ·intro Lx g32 s K hl hh k
     show At 52 ((43,_)::(0,_)::(1,_)::Lx) _ _
     refine aw (r_nilCheck rfl) ?_
     exact at_nil k
    ·intro Lx g32 s K hl hh k
     show At 52 ((44,_)::(0,_)::(1,_)::Lx) _ _
     refine fa 1 underlying84 rfl sizeOf54 ?_
     exact at_nil k
    ·intro Lx g32 s K hl hh k
     show At 52 ((45,_)::(0,_)::(1,_)::Lx) _ _
     obtain rfl:s=0:=by omega
     refine aw (r_load_cell isAgg54 rfl (lens_cell0 (c:=cHd) (y:=⟨(((p26,c27),(p28,c29)).2).1,List.length t25.f_stack,(((p26,c27),(p28,c29)).2).2⟩) .z (c_flat_row_f_stack ((p26,c27),(p28,c29)) t25) rfl)) ?_
     exact at_nil k
    ·intro Lx g32 s K hl hh k
     show At 52 ((46,_)::(0,_)::(1,_)::Lx) _ _
     obtain rfl:s=0:=by omega
     refine aw (r_len_sl underlying54 rfl) ?_
     exact at_nil k
    ·intro Lx g32 s K hl hh k
     show At 52 ((47,_)::(0,_)::(1,_)::Lx) _ _
     refine aw (r_isub rfl rfl) ?_
     exact at_nil k
    ·intro Lx g32 s K hl hh k
     show At 52 ((42,_)::(48,_)::(0,_)::(1,_)::Lx) _ _
     obtain rfl:s=0:=by omega
     refine at_pure (fun w1 hw=>(hw.own (.s (.s .z))).row.len) ?_
     intro hl31
     refine aw (r_reslice (c:=c_api_Entry) underlying54 sizeOf66 rfl hl31 rfl ⟨_,rfl⟩ h30) ?_
     exact at_nil k
    ·intro Lx g32 s K hl hh k
     show At 52 ((38,_)::(0,_)::(1,_)::Lx) _ _
     refine aw (r_nilCheck rfl) ?_
     exact at_nil k
    ·intro Lx g32 s K hl hh k
     show At 52 ((50,_)::(0,_)::(1,_)::Lx) _ _
     refine fa 1 underlying84 rfl sizeOf54 ?_
     exact at_nil k
    ·intro Lx g32 K k
     show At 52 ((49,_)::(51,_)::(0,_)::(1,_)::Lx) _ _
     refine at_store (c:=cSv S_api_Entry) (z:=((rsp p28 c29 0 (Cd.sz c_api_Entry),c29-Int.toNat 0),lsub t25.f_stack 0 (wr .i64 ((t25.f_stack.length:Int)-1)))) .z (c_flat_row_f_stack_sv ((p26,c27),(p28,c29)) t25) sizeOf54 rfl rfl rfl ?_
     exact at_nil k
    intro g32
    show At 52 [(38,_),(39,_),(40,_),(41,_),(42,_),(43,_),(44,_),(45,_),(46,_),(47,_),(48,_),(49,_),(50,_),(51,_),(0,_),(1,_)] _ _
    refine at_cutW (c:=c_api_Entry) (h:=wr .i64 ((t25.f_stack.length:Int)-1)) (.s (.s .z)) ⟨h30.2.1,h30.2.2⟩ ?_
    intro hr33
    refine at_cellsEq (cells':=Cd.cs c_flat_row ((/-34-/((p26,c27),(p28,c29))),{ { t25 with f_stack:=lsub t25.f_stack 0 (wr .i64 ((t25.f_stack.length:Int)-1)) } with f_stack:=List.take (Int.toNat (wr .i64 ((t25.f_stack.length:Int)-1))) t25.f_stack })) .z (by simp [c_flat_row,lsub,hr33]) ?_
    refine wq [1,0] ?_
    refine bm ?_
    exact at_weak_k (ih _ _ hF K p26 c27 p28 c29) ⟨rfl,rfl,trivial⟩
   refine cf h15 ?_
   refine at_exit ?_
   refine te (te ?_)
   obtain rfl:=os hF
   exact at_weak_k (K p7 c8 p9 c10) trivial
 cases q5 with
 | ret r'=>exact os hF
 | nx sq5 =>
  intro p11 c12 p13 c14
  refine at_blk_same ?_
  have K:=os hF
  subst K
  exact at_return0 rfl (fun w1 hw=>⟨((p11,c12),(p13,c14)),rfl,hw⟩)
def flat_row_close__nil1.l0(i6:S_flat_row):Option (Ctl (S_flat_row) (S_flat_row)) :=
 if (decide ((i6.f_stack.length:Int)>0))=true then (if (0:Int)≤wr .i64 ((i6.f_stack.length:Int)-1)∧wr .i64 ((i6.f_stack.length:Int)-1)<(i6.f_stack.length:Int) then flat_end (lget i6.f_stack (wr .i64 ((i6.f_stack.length:Int)-1)))>>=fun t22=>flat_row_put i6 t22>>=fun t23=>if (0:Int)≤0∧0≤wr .i64 ((t23.f_stack.length:Int)-1)∧wr .i64 ((t23.f_stack.length:Int)-1)≤(t23.f_stack.length:Int) then flat_row_close__nil1.l0 ({ { t23 with f_stack:=lsub t23.f_stack 0 (wr .i64 ((t23.f_stack.length:Int)-1)) } with f_stack:=List.take (Int.toNat (wr .i64 ((t23.f_stack.length:Int)-1))) t23.f_stack }) else none else none) else (some (.nx i6))
 partial_fixpoint
def flat_row_close__nil1(x0:S_flat_row):Option (S_flat_row) :=
 flat_row_close__nil1.l0 x0>>=fun q5=>match q5 with | .ret r'=>some r' | .nx sq5=>(some sq5)
set_option maxHeartbeats 3200000 in
theorem flat_row_close__nil1_ok{x0:S_flat_row}{r:S_flat_row}(hF:flat_row_close__nil1 x0=some r):∀ {w0 w:World} {G_:List Ent} {b0_:Nat} {p0f_l_:Option Addr} {c0f_l_:Nat} {p0f_stack_:Option Addr} {c0f_stack_:Nat} (hw_:Wd w0 (cellsE b0_ (Cd.cs c_flat_row (((p0f_l_,c0f_l_),(p0f_stack_,c0f_stack_)),x0)) 84::rowE c_flat_Span 60 p0f_l_ c0f_l_ x0.f_l::rowE c_api_Entry 66 p0f_stack_ c0f_stack_ x0.f_stack::G_) w),
    Calls Try.prog 54 #[.pointer (some ⟨b0_,0,none⟩),.pointer none] w (fun e w'=>∃ (z0:G_flat_row),e=.returned (.tuple #[])∧Wd w0 (cellsE b0_ (Cd.cs c_flat_row (z0,r)) 84::rowE c_flat_Span 60 z0.1.1 z0.1.2 r.f_l::rowE c_api_Entry 66 z0.2.1 z0.2.2 r.f_stack::G_) w'):=by
 intro w0 w G_ b0_ p0f_l_ c0f_l_ p0f_stack_ c0f_stack_ hw_
 unfold flat_row_close__nil1 at hF
 refine ce (l:=[.pointer (some ⟨b0_,0,none⟩),.pointer none]) func54 rfl rfl ?_
 refine at_enterF hw_ ?_
 refine wq [1,0] ?_
 refine qb ?_
 obtain ⟨q5,hq5,hF⟩:=bM hF
 refine wq [1,0] ?_
 refine at_loop_r (B:=0) (r:=r) (q:=q5) (A:=fun sq5 Y=>∀ (p11:Option Addr) (c12:Nat) (p13:Option Addr) (c14:Nat),At 52 [] (Wd w0 (cellsE b0_ (Cd.cs c_flat_row (((p11,c12),(p13,c14)),sq5)) 84::rowE c_flat_Span 60 p11 c12 sq5.f_l::rowE c_api_Entry 66 p13 c14 sq5.f_stack::G_)) Y) ?_ ?_
 ·intro K
  refine flat_row_close__nil1.l0.partial_correctness  (motive:=fun i6 x=>KR (fun sq5 Y=>∀ (p11:Option Addr) (c12:Nat) (p13:Option Addr) (c14:Nat),At 52 [] (Wd w0 (cellsE b0_ (Cd.cs c_flat_row (((p11,c12),(p13,c14)),sq5)) 84::rowE c_flat_Span 60 p11 c12 sq5.f_l::rowE c_api_Entry 66 p13 c14 sq5.f_stack::G_)) Y) _ 0 r x→Round (fun Y=>∀ (p7:Option Addr) (c8:Nat) (p9:Option Addr) (c10:Nat),At 52 [(0,.pointer (some ⟨b0_,0,none⟩)),(1,.pointer none)] (Wd w0 (cellsE b0_ (Cd.cs c_flat_row (((p7,c8),(p9,c10)),i6)) 84::rowE c_flat_Span 60 p7 c8 i6.f_l::rowE c_api_Entry 66 p9 c10 i6.f_stack::G_)) Y) _ _ _) ?_ _ _ hq5 K p0f_l_ c0f_l_ p0f_stack_ c0f_stack_
  ·clear K hF
   intro g ih i6 x hF K p7 c8 p9 c10
   refine at_round ?_
   refine qs (sr (am ?_))
   refine aw (r_nilCheck rfl) ?_
   refine fa 1 underlying84 rfl sizeOf54 ?_
   refine aw (r_load_cell isAgg54 rfl (lens_cell0 (c:=cHd) (y:=⟨(((p7,c8),(p9,c10)).2).1,List.length i6.f_stack,(((p7,c8),(p9,c10)).2).2⟩) .z (c_flat_row_f_stack ((p7,c8),(p9,c10)) i6) rfl)) ?_
   refine aw (r_len_sl underlying54 rfl) ?_
   refine aw (r_igtr rfl rfl) ?_
   refine nwq [10,1,0] ?_
   obtain ⟨h15,hF⟩|⟨h15,hF⟩:=oi hF
   ·refine ct h15 ?_
    refine sn ?_
    refine qb ?_
    refine qs (wq [1,0] ?_)
    obtain ⟨h16,hF⟩:=gd hF
    refine at_pure (φ:=∃ b o,p9=some ⟨b,o,none⟩) (fun _ hw=>row_ptr (hw.own (.s (.s .z))).row h16) ?_
    rintro ⟨b18,o19,hp17⟩
    refine at_inv [.q 11 (fun g21=>.pointer (some ⟨b0_,0,none⟩)) [] 0 1,.q 12 (fun g21=>.pointer (some ⟨b0_,0,none⟩)) [0] 0 1,.q 13 (fun g21=>.pointer (some ⟨b0_,0+1,none⟩)) [1] 0 1,.q 14 (fun g21=>.slice p9 i6.f_stack.length c10) [2] 0 1,.q 15 (fun g21=>.pointer (some ⟨b0_,0,none⟩)) [] 0 1,.q 16 (fun g21=>.pointer (some ⟨b0_,0,none⟩)) [4] 0 1,.q 17 (fun g21=>.pointer (some ⟨b0_,0+1,none⟩)) [5] 0 1,.q 18 (fun g21=>.slice p9 i6.f_stack.length c10) [6] 0 1,.q 19 (fun g21=>.int .i64 (i6.f_stack.length:Int)) [7] 0 1,.q 20 (fun g21=>.int .i64 (wr .i64 ((i6.f_stack.length:Int)-1))) [8] 0 1,.q 21 (fun g21=>.pointer (some ⟨b18,o19+Int.toNat (wr .i64 ((i6.f_stack.length:Int)-1))*19,none⟩)) [3,9] 0 1,.q 22 (fun g21=>.agg (Cd.cs c_api_Entry (lget i6.f_stack (wr .i64 ((i6.f_stack.length:Int)-1)))).toArray) [10] 0 1,.al 0 4 (fun g21=>.pointer (some ⟨((g21 0).1),0,none⟩)) [],.st 1 none [12,11]] (fun g21 s=>match s with | 0=>(Wd w0 (cellsE b0_ (Cd.cs c_flat_row (((p7,c8),(p9,c10)),i6)) 84::rowE c_flat_Span 60 p7 c8 i6.f_l::rowE c_api_Entry 66 p9 c10 i6.f_stack::G_)) | 1=>(Wd w0 (cellsE ((g21 0).1) (Cd.cs c_api_Entry zv7) 66::cellsE b0_ (Cd.cs c_flat_row (((p7,c8),(p9,c10)),i6)) 84::rowE c_flat_Span 60 p7 c8 i6.f_l::rowE c_api_Entry 66 p9 c10 i6.f_stack::G_)) | _=>(Wd w0 (cellsE ((g21 0).1) (Cd.cs c_api_Entry (lget i6.f_stack (wr .i64 ((i6.f_stack.length:Int)-1)))) 66::cellsE b0_ (Cd.cs c_flat_row (((p7,c8),(p9,c10)),i6)) 84::rowE c_flat_Span 60 p7 c8 i6.f_l::rowE c_api_Entry 66 p9 c10 i6.f_stack::G_))) 2 (by kernel_rfl) (by kernel_rfl) (by kernel_rfl) (by kernel_rfl) (by kernel_rfl) ⟨fun _ _ _=>rfl,fun _ _ _=>rfl,fun _ _ _=>rfl,fun _ _ _=>rfl,fun _ _ _=>rfl,fun _ _ _=>rfl,fun _ _ _=>rfl,fun _ _ _=>rfl,fun _ _ _=>rfl,fun _ _ _=>rfl,fun _ _ _=>rfl,fun _ _ _=>rfl,fun g21 g2 h=>by show (.pointer (some ⟨((g21 0).1),0,none⟩):Value)=.pointer (some ⟨((g2 0).1),0,none⟩);rw [h 0 (show 0<1 by decide)],fun _ _ _=>rfl,trivial⟩ (by kernel_rfl) (fun w_ h=>⟨fun _=>g3 0 none 0 none w_,h.drew⟩) ⟨?_,?_,?_,?_,?_,?_,?_,?_,?_,?_,?_,?_,?_,?_,trivial⟩ ?_
    ·intro Lx g21 s K hl hh k
     show At 52 ((0,_)::(1,_)::Lx) _ _
     refine am ?_
     exact at_nil k
    ·intro Lx g21 s K hl hh k
     show At 52 ((11,_)::(0,_)::(1,_)::Lx) _ _
     refine aw (r_nilCheck rfl) ?_
     exact at_nil k
    ·intro Lx g21 s K hl hh k
     show At 52 ((12,_)::(0,_)::(1,_)::Lx) _ _
     refine fa 1 underlying84 rfl sizeOf54 ?_
     exact at_nil k
    ·intro Lx g21 s K hl hh k
     show At 52 ((13,_)::(0,_)::(1,_)::Lx) _ _
     rcases (by omega:s=0∨s=1) with rfl | rfl
     ·skip
      refine aw (r_load_cell isAgg54 rfl (lens_cell0 (c:=cHd) (y:=⟨(((p7,c8),(p9,c10)).2).1,List.length i6.f_stack,(((p7,c8),(p9,c10)).2).2⟩) .z (c_flat_row_f_stack ((p7,c8),(p9,c10)) i6) rfl)) ?_
      exact at_nil k
     skip
     refine aw (r_load_cell isAgg54 rfl (lens_cell0 (c:=cHd) (y:=⟨(((p7,c8),(p9,c10)).2).1,List.length i6.f_stack,(((p7,c8),(p9,c10)).2).2⟩) (.s .z) (c_flat_row_f_stack ((p7,c8),(p9,c10)) i6) rfl)) ?_
     exact at_nil k
    ·intro Lx g21 s K hl hh k
     show At 52 ((0,_)::(1,_)::Lx) _ _
     refine am ?_
     exact at_nil k
    ·intro Lx g21 s K hl hh k
     show At 52 ((15,_)::(0,_)::(1,_)::Lx) _ _
     refine aw (r_nilCheck rfl) ?_
     exact at_nil k
    ·intro Lx g21 s K hl hh k
     show At 52 ((16,_)::(0,_)::(1,_)::Lx) _ _
     refine fa 1 underlying84 rfl sizeOf54 ?_
     exact at_nil k
    ·intro Lx g21 s K hl hh k
     show At 52 ((17,_)::(0,_)::(1,_)::Lx) _ _
     rcases (by omega:s=0∨s=1) with rfl | rfl
     ·skip
      refine aw (r_load_cell isAgg54 rfl (lens_cell0 (c:=cHd) (y:=⟨(((p7,c8),(p9,c10)).2).1,List.length i6.f_stack,(((p7,c8),(p9,c10)).2).2⟩) .z (c_flat_row_f_stack ((p7,c8),(p9,c10)) i6) rfl)) ?_
      exact at_nil k
     skip
     refine aw (r_load_cell isAgg54 rfl (lens_cell0 (c:=cHd) (y:=⟨(((p7,c8),(p9,c10)).2).1,List.length i6.f_stack,(((p7,c8),(p9,c10)).2).2⟩) (.s .z) (c_flat_row_f_stack ((p7,c8),(p9,c10)) i6) rfl)) ?_
     exact at_nil k
    ·intro Lx g21 s K hl hh k
     show At 52 ((18,_)::(0,_)::(1,_)::Lx) _ _
     rcases (by omega:s=0∨s=1) with rfl | rfl
     ·skip
      refine aw (r_len_sl underlying54 rfl) ?_
      exact at_nil k
     skip
     refine aw (r_len_sl underlying54 rfl) ?_
     exact at_nil k
    ·intro Lx g21 s K hl hh k
     show At 52 ((19,_)::(0,_)::(1,_)::Lx) _ _
     refine aw (r_isub rfl rfl) ?_
     exact at_nil k
    ·intro Lx g21 s K hl hh k
     show At 52 ((14,_)::(20,_)::(0,_)::(1,_)::Lx) _ _
     refine aw (r_idx underlying54 sizeOf66 rfl rfl h16 hp17) ?_
     exact at_nil k
    ·intro Lx g21 s K hl hh k
     show At 52 ((21,_)::(0,_)::(1,_)::Lx) _ _
     rcases (by omega:s=0∨s=1) with rfl | rfl
     ·skip
      refine aw (r_load_aggc (c:=c_api_Entry) (z:=lget i6.f_stack (wr .i64 ((i6.f_stack.length:Int)-1))) isAgg66 sizeOf66 rfl (fun w1 hw=>row_cell (W:=fun w1=>w1=_) (fun w1 h=>by subst h;exact Below.refl _ _) (hw.own (.s (.s .z))).row h16 hp17 _ rfl)) ?_
      exact at_nil k
     skip
     refine aw (r_load_aggc (c:=c_api_Entry) (z:=lget i6.f_stack (wr .i64 ((i6.f_stack.length:Int)-1))) isAgg66 sizeOf66 rfl (fun w1 hw=>row_cell (W:=fun w1=>w1=_) (fun w1 h=>by subst h;exact Below.refl _ _) (hw.own (.s (.s (.s .z)))).row h16 hp17 _ rfl)) ?_
     exact at_nil k
    ·intro Lx g21 K k
     show At 52 ((0,_)::(1,_)::Lx) _ _
     refine al (cs:=Cd.cs c_api_Entry zv7) zeroValue66 ?_
     intro b20
     exact at_nil (k (g3 b20 none 0 none w0))
    ·intro Lx g21 K k
     show At 52 ((4,_)::(22,_)::(0,_)::(1,_)::Lx) _ _
     refine at_store (c:=c_api_Entry) (z:=lget i6.f_stack (wr .i64 ((i6.f_stack.length:Int)-1))) .z lw sizeOf66 rfl rfl rfl ?_
     exact at_nil k
    intro g21
    show At 52 [(11,_),(12,_),(13,_),(14,_),(15,_),(16,_),(17,_),(18,_),(19,_),(20,_),(21,_),(22,_),(4,_),(0,_),(1,_)] _ _
    refine wq [4,1,0] ?_
    refine tn (qs (qs ?_))
    refine at_draw (by kernel_rfl) (by kernel_rfl) (fun _ h=>h.drew) ?_
    refine atq_val rfl rfl rfl (r_move rfl) ?_
    refine atq_val rfl rfl rfl (r_pnil (g:=id) (p:=none) underlying86 rfl rfl (.inr rfl) rfl) ?_
    refine atq_val rfl rfl rfl (r_move rfl) ?_
    refine atq_guard_no rfl rfl rfl rfl rfl ?_
    refine atq_guard_no rfl rfl rfl rfl rfl ?_
    refine atq_guard_no rfl rfl rfl rfl rfl ?_
    refine atq_guard_no rfl rfl rfl rfl rfl ?_
    refine atq_guard_no rfl rfl rfl rfl rfl ?_
    refine atq_guard_no rfl rfl rfl rfl rfl ?_
    refine atq_guard_no rfl rfl rfl rfl rfl ?_
    refine atq_val rfl rfl rfl (r_pick rfl rfl rfl) ?_
    refine atq_nil ?_
    refine wq [33,4,1,0] ?_
    refine tn ?_
    refine cf rfl ?_
    refine sns (am ?_)
    refine aw (r_load_aggc (c:=c_api_Entry) (z:=lget i6.f_stack (wr .i64 ((i6.f_stack.length:Int)-1))) isAgg66 sizeOf66 rfl (lens_cell .z lw)) ?_
    obtain ⟨t22,ht22,hF⟩:=bM hF
    refine cB func79 rfl (fun w hw=>flat_end_ok _ _ ht22 w) ?_
    obtain ⟨t23,ht23,hF⟩:=bM hF
    refine at_front (.s (.s (.s .z))) ?_
    refine at_front (.s (.s (.s .z))) ?_
    refine at_front (.s (.s (.s .z))) ?_
    refine at_callX (γ:=G_flat_row) (V:=fun z=>.tuple #[]) (T:=fun z=>(cellsE b0_ (Cd.cs c_flat_row (z,t23)) 84::rowE c_flat_Span 60 z.1.1 z.1.2 t23.f_l::rowE c_api_Entry 66 z.2.1 z.2.2 t23.f_stack::cellsE (g21 0).1 (Cd.cs c_api_Entry (lget i6.f_stack (wr .i64 ((i6.f_stack.length:Int)-1)))) 66::G_)) func56 rfl (by kernel_rfl) rfl rfl (fun w hw=>flat_row_put_ok ht23 hw) ?_
    rintro ⟨⟨p24,c25⟩,⟨p26,c27⟩⟩
    refine qn ?_
    refine at_drop (H:=_) (.s (.s (.s .z))) ?_
    refine tn (wq [1,0] ?_)
    obtain ⟨h28,hF⟩:=gd hF
    refine at_inv [.q 38 (fun g30=>.pointer (some ⟨b0_,0,none⟩)) [] 0 0,.q 39 (fun g30=>.pointer (some ⟨b0_,0,none⟩)) [] 0 0,.q 40 (fun g30=>.pointer (some ⟨b0_,0,none⟩)) [1] 0 0,.q 41 (fun g30=>.pointer (some ⟨b0_,0+1,none⟩)) [2] 0 0,.q 42 (fun g30=>.slice p26 t23.f_stack.length c27) [3] 0 0,.q 43 (fun g30=>.pointer (some ⟨b0_,0,none⟩)) [] 0 0,.q 44 (fun g30=>.pointer (some ⟨b0_,0,none⟩)) [5] 0 0,.q 45 (fun g30=>.pointer (some ⟨b0_,0+1,none⟩)) [6] 0 0,.q 46 (fun g30=>.slice p26 t23.f_stack.length c27) [7] 0 0,.q 47 (fun g30=>.int .i64 (t23.f_stack.length:Int)) [8] 0 0,.q 48 (fun g30=>.int .i64 (wr .i64 ((t23.f_stack.length:Int)-1))) [9] 0 0,.q 49 (fun g30=>.slice (rsp p26 c27 0 (Cd.sz c_api_Entry)) (lsub t23.f_stack 0 (wr .i64 ((t23.f_stack.length:Int)-1))).length (c27-Int.toNat 0)) [4,10] 0 0,.q 50 (fun g30=>.pointer (some ⟨b0_,0,none⟩)) [0] 0 0,.q 51 (fun g30=>.pointer (some ⟨b0_,0+1,none⟩)) [12] 0 0,.st 0 none [11,13]] (fun g30 s=>match s with | 0=>(Wd w0 (cellsE b0_ (Cd.cs c_flat_row (((p24,c25),(p26,c27)),t23)) 84::rowE c_flat_Span 60 p24 c25 t23.f_l::rowE c_api_Entry 66 p26 c27 t23.f_stack::G_)) | _=>(Wd w0 (cellsE b0_ (Cd.cs c_flat_row (((p24,c25),(rsp p26 c27 0 (Cd.sz c_api_Entry),c27-Int.toNat 0)),{ t23 with f_stack:=lsub t23.f_stack 0 (wr .i64 ((t23.f_stack.length:Int)-1)) })) 84::rowE c_flat_Span 60 p24 c25 t23.f_l::rowE c_api_Entry 66 p26 c27 t23.f_stack::G_))) 1 (by kernel_rfl) (by kernel_rfl) (by kernel_rfl) (by kernel_rfl) (by kernel_rfl) ⟨fun _ _ _=>rfl,fun _ _ _=>rfl,fun _ _ _=>rfl,fun _ _ _=>rfl,fun _ _ _=>rfl,fun _ _ _=>rfl,fun _ _ _=>rfl,fun _ _ _=>rfl,fun _ _ _=>rfl,fun _ _ _=>rfl,fun _ _ _=>rfl,fun _ _ _=>rfl,fun _ _ _=>rfl,fun _ _ _=>rfl,fun _ _ _=>rfl,trivial⟩ (by kernel_rfl) (fun w_ h=>⟨fun _=>g3 0 none 0 none w_,h.drew⟩) ⟨?_,?_,?_,?_,?_,?_,?_,?_,?_,?_,?_,?_,?_,?_,?_,trivial⟩ ?_
    ·intro Lx g30 s K hl hh k
     show At 52 ((0,_)::(1,_)::Lx) _ _
     refine am ?_
     exact at_nil k
    ·intro Lx g30 s K hl hh k
     show At 52 ((0,_)::(1,_)::Lx) _ _
     refine am ?_
     exact at_nil k
    ·intro Lx g30 s K hl hh k
     show At 52 ((39,_)::(0,_)::(1,_)::Lx) _ _
     refine aw (r_nilCheck rfl) ?_
     exact at_nil k
    ·intro Lx g30 s K hl hh k
     show At 52 ((40,_)::(0,_)::(1,_)::Lx) _ _
     refine fa 1 underlying84 rfl sizeOf54 ?_
     exact at_nil k
    ·intro Lx g30 s K hl hh k
     show At 52 ((41,_)::(0,_)::(1,_)::Lx) _ _
     obtain rfl:s=0:=by omega
     refine aw (r_load_cell isAgg54 rfl (lens_cell0 (c:=cHd) (y:=⟨(((p24,c25),(p26,c27)).2).1,List.length t23.f_stack,(((p24,c25),(p26,c27)).2).2⟩) .z (c_flat_row_f_stack ((p24,c25),(p26,c27)) t23) rfl)) ?_
     exact at_nil k
    ·intro Lx g30 s K hl hh k
     show At 52 ((0,_)::(1,_)::Lx) _ _
     refine am ?_
     exact at_nil k
    ·intro Lx g30 s K hl hh k
     show At 52 ((43,_)::(0,_)::(1,_)::Lx) _ _
     refine aw (r_nilCheck rfl) ?_
     exact at_nil k
    ·intro Lx g30 s K hl hh k
     show At 52 ((44,_)::(0,_)::(1,_)::Lx) _ _
     refine fa 1 underlying84 rfl sizeOf54 ?_
     exact at_nil k
    ·intro Lx g30 s K hl hh k
     show At 52 ((45,_)::(0,_)::(1,_)::Lx) _ _
     obtain rfl:s=0:=by omega
     refine aw (r_load_cell isAgg54 rfl (lens_cell0 (c:=cHd) (y:=⟨(((p24,c25),(p26,c27)).2).1,List.length t23.f_stack,(((p24,c25),(p26,c27)).2).2⟩) .z (c_flat_row_f_stack ((p24,c25),(p26,c27)) t23) rfl)) ?_
     exact at_nil k
    ·intro Lx g30 s K hl hh k
     show At 52 ((46,_)::(0,_)::(1,_)::Lx) _ _
     obtain rfl:s=0:=by omega
     refine aw (r_len_sl underlying54 rfl) ?_
     exact at_nil k
    ·intro Lx g30 s K hl hh k
     show At 52 ((47,_)::(0,_)::(1,_)::Lx) _ _
     refine aw (r_isub rfl rfl) ?_
     exact at_nil k
    ·intro Lx g30 s K hl hh k
     show At 52 ((42,_)::(48,_)::(0,_)::(1,_)::Lx) _ _
     obtain rfl:s=0:=by omega
     refine at_pure (fun w1 hw=>(hw.own (.s (.s .z))).row.len) ?_
     intro hl29
     refine aw (r_reslice (c:=c_api_Entry) underlying54 sizeOf66 rfl hl29 rfl ⟨_,rfl⟩ h28) ?_
     exact at_nil k
    ·intro Lx g30 s K hl hh k
     show At 52 ((38,_)::(0,_)::(1,_)::Lx) _ _
     refine aw (r_nilCheck rfl) ?_
     exact at_nil k
    ·intro Lx g30 s K hl hh k
     show At 52 ((50,_)::(0,_)::(1,_)::Lx) _ _
     refine fa 1 underlying84 rfl sizeOf54 ?_
     exact at_nil k
    ·intro Lx g30 K k
     show At 52 ((49,_)::(51,_)::(0,_)::(1,_)::Lx) _ _
     refine at_store (c:=cSv S_api_Entry) (z:=((rsp p26 c27 0 (Cd.sz c_api_Entry),c27-Int.toNat 0),lsub t23.f_stack 0 (wr .i64 ((t23.f_stack.length:Int)-1)))) .z (c_flat_row_f_stack_sv ((p24,c25),(p26,c27)) t23) sizeOf54 rfl rfl rfl ?_
     exact at_nil k
    intro g30
    show At 52 [(38,_),(39,_),(40,_),(41,_),(42,_),(43,_),(44,_),(45,_),(46,_),(47,_),(48,_),(49,_),(50,_),(51,_),(0,_),(1,_)] _ _
    refine at_cutW (c:=c_api_Entry) (h:=wr .i64 ((t23.f_stack.length:Int)-1)) (.s (.s .z)) ⟨h28.2.1,h28.2.2⟩ ?_
    intro hr31
    refine at_cellsEq (cells':=Cd.cs c_flat_row ((/-32-/((p24,c25),(p26,c27))),{ { t23 with f_stack:=lsub t23.f_stack 0 (wr .i64 ((t23.f_stack.length:Int)-1)) } with f_stack:=List.take (Int.toNat (wr .i64 ((t23.f_stack.length:Int)-1))) t23.f_stack })) .z (by simp [c_flat_row,lsub,hr31]) ?_
    refine wq [1,0] ?_
    refine bm ?_
    exact at_weak_k (ih _ _ hF K p24 c25 p26 c27) ⟨rfl,rfl,trivial⟩
   refine cf h15 ?_
   refine at_exit ?_
   refine te (te ?_)
   obtain rfl:=os hF
   exact at_weak_k (K p7 c8 p9 c10) trivial
 cases q5 with
 | ret r'=>exact os hF
 | nx sq5 =>
  intro p11 c12 p13 c14
  refine at_blk_same ?_
  have K:=os hF
  subst K
  exact at_return0 rfl (fun w1 hw=>⟨((p11,c12),(p13,c14)),rfl,hw⟩)
end Go.Proofs.Ytahlbjmafceoeaa
namespace Go.Proofs.Ytahlbjmafceoeaa
open E Go.RowKit _root_.Go.Proofs.Try
theorem infoF866_is:(Try.prog.info? 66).isSome=true:=by kernel_rfl
noncomputable def infoF866_v:TypeInfo:=(Try.prog.info? 66).get infoF866_is
theorem infoF866:Try.prog.info? 66=some infoF866_v:=(Option.some_get _).symm
def flat_Of.l0(t2:List S_api_Entry)(i12:Int)(i13:S_flat_row):Option (S_flat_row) :=
 if (decide (i12<(t2.length:Int)))=true then (if (0:Int)≤i12∧i12<(t2.length:Int) then flat_row_close i13 (lget t2 i12)>>=fun t28=>if (decide ((t28.f_stack.length:Int)>0))=true then (flat_previous (((lget t2 i12).f_P).f_A)>>=fun t34=>if t34.2=true then (flat_row_put t28 t34.1>>=fun t37=>if (t37.f_stack.length+1)*40≤140737488355328 then flat_Of.l0 t2 (wr .i64 (i12+1)) ({ { { t37 with f_stack:=t37.f_stack++[lget t2 i12] } with f_at:=((lget t2 i12).f_P).f_A } with f_done:=false }) else none) else (if (t28.f_stack.length+1)*40≤140737488355328 then flat_Of.l0 t2 (wr .i64 (i12+1)) ({ { { t28 with f_stack:=t28.f_stack++[lget t2 i12] } with f_at:=((lget t2 i12).f_P).f_A } with f_done:=false }) else none)) else (if (t28.f_stack.length+1)*40≤140737488355328 then flat_Of.l0 t2 (wr .i64 (i12+1)) ({ { { t28 with f_stack:=t28.f_stack++[lget t2 i12] } with f_at:=((lget t2 i12).f_P).f_A } with f_done:=false }) else none) else none) else (some i13)
 partial_fixpoint
def flat_Of(x0:List S_api_Entry):Option (List S_flat_Span) :=
 flat_Own x0>>=fun t2=>flat_Of.l0 t2 0 ({ f_l:=([]:List S_flat_Span),f_stack:=([]:List S_api_Entry),f_at:=({ f_V:=(0:Int),f_B:=(Vector.replicate 16 (0:Int):(Vector Int 16)) }:S_api_Addr),f_done:=false }:S_flat_row)>>=fun q11=>flat_row_close__nil1 q11>>=fun t57=>some t57.f_l
set_option maxHeartbeats 3200000 in
theorem flat_Of_ok(x0:List S_api_Entry)(p0_:Option Addr)(c0_:Nat)(r:List S_flat_Span)(hF:flat_Of x0=some r)(w:World)(hr0:Row c_api_Entry w p0_ c0_ x0) :
    Calls Try.prog 28 #[.slice p0_ x0.length c0_] w (fun e w'=>∃ p cap,e=.returned (.slice p r.length cap)∧Own c_flat_Span 60 w.heap.size w' p cap r∧Below w.heap.size w w'):=by
 unfold flat_Of at hF
 refine ce (l:=[.slice p0_ x0.length c0_]) func28 rfl rfl ?_
 refine at_start ?_
 refine sr (aa (ns ?_))
 refine aw (r_build_struct (zs:=Cd.cs c_flat_row zv9) (cs:=Cd.cs c_flat_row zv9) underlying84 zeroValue84 rfl (places_flat_row_84) rfl rfl) ?_
 refine at_box (cs:=Cd.cs c_flat_row zv9) rfl rfl rfl ?_
 intro b1
 refine aa (nt (qs (sr (am ?_))))
 obtain ⟨t2,ht2,hF⟩:=bM hF
 refine at_callO (c:=c_api_Entry) (e:=66) (ys:=t2) (V:=fun p cap=>.slice p t2.length cap) func33 rfl (by kernel_rfl) rfl rfl (fun w hw=>flat_Own_ok _ _ _ _ ht2 w (hr0.below hw.below)) ?_
 intro p3 c4
 refine aw (r_len_sl underlying54 rfl) ?_
 refine am (nwq [13,12,11,3] ?_)
 refine qb ?_
 refine at_own_nil c_flat_Span 60 ?_
 refine at_own_nil c_api_Entry 66 ?_
 obtain ⟨q11,hq11,hF⟩:=bM hF
 refine at_front (.s .z) ?_
 refine at_front (.s (.s (.s .z))) ?_
 refine at_front (.s (.s (.s .z))) ?_
 refine wq [13,12,11,3] ?_
 refine at_loop_n (B:=0) (A:=fun Y=>∀ (p18:Option Addr) (c19:Nat) (p20:Option Addr) (c21:Nat),At 62 [(3,.pointer (some ⟨b1,0,none⟩))] (Wd w [cellsE b1 (Cd.cs c_flat_row (((p18,c19),(p20,c21)),q11)) 84,rowE c_flat_Span 60 p18 c19 q11.f_l,rowE c_api_Entry 66 p20 c21 q11.f_stack]) Y) ?_ ?_
 ·intro K
  refine flat_Of.l0.partial_correctness t2 (motive:=fun i12 i13 x=>KN (fun Y=>∀ (p18:Option Addr) (c19:Nat) (p20:Option Addr) (c21:Nat),At 62 [(3,.pointer (some ⟨b1,0,none⟩))] (Wd w [cellsE b1 (Cd.cs c_flat_row (((p18,c19),(p20,c21)),x)) 84,rowE c_flat_Span 60 p18 c19 x.f_l,rowE c_api_Entry 66 p20 c21 x.f_stack]) Y) _ 0→Round (fun Y=>∀ (p14:Option Addr) (c15:Nat) (p16:Option Addr) (c17:Nat),At 62 [(3,.pointer (some ⟨b1,0,none⟩)),(11,.slice p3 t2.length c4),(12,.int .i64 (t2.length:Int)),(13,.int .i64 i12)] (Wd w [rowE c_api_Entry 66 p3 c4 t2,cellsE b1 (Cd.cs c_flat_row (((p14,c15),(p16,c17)),i13)) 84,rowE c_flat_Span 60 p14 c15 i13.f_l,rowE c_api_Entry 66 p16 c17 i13.f_stack]) Y) _ _ _) ?_ _ _ _ hq11 K (nn 5) 0 (nn 6) 0
  ·clear K hF
   intro g ih i12 i13 x hF K p14 c15 p16 c17
   refine at_round ?_
   refine sr (aw xl (nwq [14,13,12,11,3] ?_))
   refine qs ?_
   obtain ⟨h22,hF⟩|⟨h22,hF⟩:=oi hF
   ·refine ct h22 ?_
    refine sn (qs ?_)
    refine qb ?_
    refine sr ?_
    obtain ⟨h23,hF⟩:=gd hF
    refine at_pure (φ:=∃ b o,p3=some ⟨b,o,none⟩) (fun _ hw=>row_ptr (hw.own .z).row h23) ?_
    rintro ⟨b25,o26,hp24⟩
    refine aw (r_idx underlying54 sizeOf66 rfl rfl h23 hp24) ?_
    refine aw (r_load_aggc (c:=c_api_Entry) (z:=lget t2 i12) isAgg66 sizeOf66 rfl (fun w1 hw=>row_cell (W:=fun w1=>w1=_) (fun w1 h=>by subst h;exact Below.refl _ _) (hw.own .z).row h23 hp24 _ rfl)) ?_
    refine al (cs:=Cd.cs c_api_Entry zv7) zeroValue66 ?_
    intro b27
    refine at_store (c:=c_api_Entry) (z:=lget t2 i12) .z lw sizeOf66 rfl rfl rfl ?_
    refine nwx [13,12,11,5,3] ?_
    refine am ?_
    obtain ⟨t28,ht28,hF⟩:=bM hF
    refine at_front (.s .z) ?_
    refine at_front (.s .z) ?_
    refine at_front (.s (.s (.s (.s .z)))) ?_
    refine at_front (.s (.s (.s (.s .z)))) ?_
    refine at_front (.s (.s (.s (.s .z)))) ?_
    refine at_callX (γ:=G_flat_row) (V:=fun z=>.tuple #[]) (T:=fun z=>[cellsE b1 (Cd.cs c_flat_row (z,t28)) 84,rowE c_flat_Span 60 z.1.1 z.1.2 t28.f_l,rowE c_api_Entry 66 z.2.1 z.2.2 t28.f_stack,cellsE b27 (Cd.cs c_api_Entry (lget t2 i12)) 66,rowE c_api_Entry 66 p3 c4 t2]) func54 rfl (by kernel_rfl) rfl rfl (fun w hw=>flat_row_close_ok ht28 hw) ?_
    rintro ⟨⟨p29,c30⟩,⟨p31,c32⟩⟩
    refine nt (qs (sr (am ?_)))
    refine aw (r_nilCheck rfl) ?_
    refine fa 1 underlying84 rfl sizeOf54 ?_
    refine aw (r_load_cell isAgg54 rfl (lens_cell0 (c:=cHd) (y:=⟨(((p29,c30),(p31,c32)).2).1,List.length t28.f_stack,(((p29,c30),(p31,c32)).2).2⟩) .z (c_flat_row_f_stack ((p29,c30),(p31,c32)) t28) rfl)) ?_
    refine aw (r_len_sl underlying54 rfl) ?_
    refine aw (r_igtr rfl rfl) ?_
    refine nwq [24,13,12,11,5,3] ?_
    obtain ⟨h33,hF⟩|⟨h33,hF⟩:=oi hF
    ·refine ct h33 ?_
     refine sr (fa 0 underlying66 rfl sizeOf37 (fa 0 underlying37 rfl sizeOf24 ?_))
     refine aw (r_load_aggc (c:=c_api_Addr) (z:=((lget t2 i12).f_P).f_A) isAgg24 sizeOf24 rfl (lens_cell (.s (.s (.s .z))) (Lens.comp (Lens.comp lw (fun z=>{ lget t2 i12 with f_P:=z }) (c_api_Entry_f_P (lget t2 i12))) (fun z=>{ (lget t2 i12).f_P with f_A:=z }) (c_api_Prefix_f_A ((lget t2 i12).f_P))))) ?_
     obtain ⟨t34,ht34,hF⟩:=bM hF
     refine cB func55 rfl (fun w hw=>flat_previous_ok _ _ ht34 w) ?_
     refine am ?_
     refine aw xe (aw xe ?_)
     refine al (cs:=Cd.cs c_api_Addr zv0) zeroValue24 ?_
     intro b35
     refine at_store (c:=c_api_Addr) (z:=t34.1) .z lw sizeOf24 rfl rfl rfl ?_
     refine aa (ns (am (nwq [32,13,12,11,6,5,3] ?_)))
     obtain ⟨h36,hF⟩|⟨h36,hF⟩:=oi hF
     ·refine ct h36 ?_
      refine qr (am ?_)
      refine aw (r_load_aggc (c:=c_api_Addr) (z:=t34.1) isAgg24 sizeOf24 rfl (lens_cell .z lw)) ?_
      obtain ⟨t37,ht37,hF⟩:=bM hF
      refine at_front (.s (.s (.s .z))) ?_
      refine at_front (.s (.s (.s .z))) ?_
      refine at_front (.s (.s (.s .z))) ?_
      refine at_callX (γ:=G_flat_row) (V:=fun z=>.tuple #[]) (T:=fun z=>[cellsE b1 (Cd.cs c_flat_row (z,t37)) 84,rowE c_flat_Span 60 z.1.1 z.1.2 t37.f_l,rowE c_api_Entry 66 z.2.1 z.2.2 t37.f_stack,cellsE b35 (Cd.cs c_api_Addr t34.1) 24,cellsE b27 (Cd.cs c_api_Entry (lget t2 i12)) 66,rowE c_api_Entry 66 p3 c4 t2]) func56 rfl (by kernel_rfl) rfl rfl (fun w hw=>flat_row_put_ok ht37 hw) ?_
      rintro ⟨⟨p38,c39⟩,⟨p40,c41⟩⟩
      refine qn ?_
      refine at_drop (H:=_) (.s (.s (.s .z))) ?_
      refine tn (wq [13,12,11,5,3] ?_)
      obtain ⟨h43,hF⟩:=gd hF
      refine at_inv [.q 36 (fun g46=>.pointer (some ⟨b1,0,none⟩)) [] 0 2,.q 37 (fun g46=>.pointer (some ⟨b1,0,none⟩)) [] 0 3,.q 38 (fun g46=>.pointer (some ⟨b1,0,none⟩)) [] 0 4,.q 39 (fun g46=>.pointer (some ⟨b1,0,none⟩)) [] 0 1,.q 40 (fun g46=>.pointer (some ⟨b1,0,none⟩)) [3] 0 1,.q 41 (fun g46=>.pointer (some ⟨b1,0+1,none⟩)) [4] 0 1,.q 42 (fun g46=>.slice p40 t37.f_stack.length c41) [5] 0 1,.q 43 (fun g46=>.agg (Cd.cs c_api_Entry (lget t2 i12)).toArray) [] 0 0,.al 0 44 (fun g46=>.slice (some ⟨((g46 0).1),0,none⟩) ([lget t2 i12]:List S_api_Entry).length 1) [7],.al 1 45 (fun g46=>.slice ((g46 1).2.1) (t37.f_stack++[lget t2 i12]).length ((g46 1).2.2.1)) [6,8],.q 46 (fun g46=>.pointer (some ⟨b27,0+0,none⟩)) [] 0 2,.q 47 (fun g46=>.pointer (some ⟨b27,0+0+0,none⟩)) [10] 0 2,.q 48 (fun g46=>.agg (Cd.cs c_api_Addr (((lget t2 i12).f_P).f_A)).toArray) [11] 0 2,.q 49 (fun g46=>.pointer (some ⟨b1,0,none⟩)) [0] 2 2,.q 50 (fun g46=>.pointer (some ⟨b1,0+1,none⟩)) [13] 2 2,.st 2 none [9,14],.q 51 (fun g46=>.pointer (some ⟨b1,0,none⟩)) [1] 3 3,.q 52 (fun g46=>.pointer (some ⟨b1,0+2,none⟩)) [16] 3 3,.st 3 none [12,17],.q 53 (fun g46=>.pointer (some ⟨b1,0,none⟩)) [2] 4 4,.q 54 (fun g46=>.pointer (some ⟨b1,0+19,none⟩)) [19] 4 4,.st 4 none [20]] (fun g46 s=>match s with | 0=>(Wd w [cellsE b1 (Cd.cs c_flat_row (((p38,c39),(p40,c41)),t37)) 84,rowE c_flat_Span 60 p38 c39 t37.f_l,rowE c_api_Entry 66 p40 c41 t37.f_stack,cellsE b27 (Cd.cs c_api_Entry (lget t2 i12)) 66,rowE c_api_Entry 66 p3 c4 t2]) | 1=>(Wd w [cellsE ((g46 0).1) (c_api_Entry.all ([lget t2 i12]:List S_api_Entry)) 66,cellsE b1 (Cd.cs c_flat_row (((p38,c39),(p40,c41)),t37)) 84,rowE c_flat_Span 60 p38 c39 t37.f_l,rowE c_api_Entry 66 p40 c41 t37.f_stack,cellsE b27 (Cd.cs c_api_Entry (lget t2 i12)) 66,rowE c_api_Entry 66 p3 c4 t2]) | 2=>(Wd w [cellsE ((g46 0).1) (c_api_Entry.all ([lget t2 i12]:List S_api_Entry)) 66,cellsE b1 (Cd.cs c_flat_row (((p38,c39),(p40,c41)),t37)) 84,rowE c_flat_Span 60 p38 c39 t37.f_l,rowE c_api_Entry 66 ((g46 1).2.1) ((g46 1).2.2.1) (t37.f_stack++[lget t2 i12]),cellsE b27 (Cd.cs c_api_Entry (lget t2 i12)) 66,rowE c_api_Entry 66 p3 c4 t2]) | 3=>(Wd w [cellsE ((g46 0).1) (c_api_Entry.all ([lget t2 i12]:List S_api_Entry)) 66,cellsE b1 (Cd.cs c_flat_row (((p38,c39),(((g46 1).2.1),((g46 1).2.2.1))),{ t37 with f_stack:=t37.f_stack++[lget t2 i12] })) 84,rowE c_flat_Span 60 p38 c39 t37.f_l,rowE c_api_Entry 66 ((g46 1).2.1) ((g46 1).2.2.1) (t37.f_stack++[lget t2 i12]),cellsE b27 (Cd.cs c_api_Entry (lget t2 i12)) 66,rowE c_api_Entry 66 p3 c4 t2]) | 4=>(Wd w [cellsE ((g46 0).1) (c_api_Entry.all ([lget t2 i12]:List S_api_Entry)) 66,cellsE b1 (Cd.cs c_flat_row (((p38,c39),(((g46 1).2.1),((g46 1).2.2.1))),{ { t37 with f_stack:=t37.f_stack++[lget t2 i12] } with f_at:=((lget t2 i12).f_P).f_A })) 84,rowE c_flat_Span 60 p38 c39 t37.f_l,rowE c_api_Entry 66 ((g46 1).2.1) ((g46 1).2.2.1) (t37.f_stack++[lget t2 i12]),cellsE b27 (Cd.cs c_api_Entry (lget t2 i12)) 66,rowE c_api_Entry 66 p3 c4 t2]) | _=>(Wd w [cellsE ((g46 0).1) (c_api_Entry.all ([lget t2 i12]:List S_api_Entry)) 66,cellsE b1 (Cd.cs c_flat_row (((p38,c39),(((g46 1).2.1),((g46 1).2.2.1))),{ { { t37 with f_stack:=t37.f_stack++[lget t2 i12] } with f_at:=((lget t2 i12).f_P).f_A } with f_done:=false })) 84,rowE c_flat_Span 60 p38 c39 t37.f_l,rowE c_api_Entry 66 ((g46 1).2.1) ((g46 1).2.2.1) (t37.f_stack++[lget t2 i12]),cellsE b27 (Cd.cs c_api_Entry (lget t2 i12)) 66,rowE c_api_Entry 66 p3 c4 t2])) 5 (by kernel_rfl) (by kernel_rfl) (by kernel_rfl) (by kernel_rfl) (by kernel_rfl) ⟨fun _ _ _=>rfl,fun _ _ _=>rfl,fun _ _ _=>rfl,fun _ _ _=>rfl,fun _ _ _=>rfl,fun _ _ _=>rfl,fun _ _ _=>rfl,fun _ _ _=>rfl,fun g46 g2 h=>by show (.slice (some ⟨((g46 0).1),0,none⟩) ([lget t2 i12]:List S_api_Entry).length 1:Value)=.slice (some ⟨((g2 0).1),0,none⟩) ([lget t2 i12]:List S_api_Entry).length 1;rw [h 0 (show 0<1 by decide)],fun g46 g2 h=>by show (.slice ((g46 1).2.1) (t37.f_stack++[lget t2 i12]).length ((g46 1).2.2.1):Value)=.slice ((g2 1).2.1) (t37.f_stack++[lget t2 i12]).length ((g2 1).2.2.1);rw [h 1 (show 1<2 by decide)],fun _ _ _=>rfl,fun _ _ _=>rfl,fun _ _ _=>rfl,fun _ _ _=>rfl,fun _ _ _=>rfl,fun _ _ _=>rfl,fun _ _ _=>rfl,fun _ _ _=>rfl,fun _ _ _=>rfl,fun _ _ _=>rfl,fun _ _ _=>rfl,fun _ _ _=>rfl,trivial⟩ (by kernel_rfl) (fun w_ h=>⟨fun _=>g3 0 none 0 none w_,h.drew⟩) ⟨?_,?_,?_,?_,?_,?_,?_,?_,?_,?_,?_,?_,?_,?_,?_,?_,?_,?_,?_,?_,?_,?_,trivial⟩ ?_
      ·intro Lx g46 s K hl hh k
       show At 62 ((3,_)::(5,_)::(11,_)::(12,_)::(13,_)::Lx) _ _
       refine am ?_
       exact at_nil k
      ·intro Lx g46 s K hl hh k
       show At 62 ((3,_)::(5,_)::(11,_)::(12,_)::(13,_)::Lx) _ _
       refine am ?_
       exact at_nil k
      ·intro Lx g46 s K hl hh k
       show At 62 ((3,_)::(5,_)::(11,_)::(12,_)::(13,_)::Lx) _ _
       refine am ?_
       exact at_nil k
      ·intro Lx g46 s K hl hh k
       show At 62 ((3,_)::(5,_)::(11,_)::(12,_)::(13,_)::Lx) _ _
       refine am ?_
       exact at_nil k
      ·intro Lx g46 s K hl hh k
       show At 62 ((39,_)::(3,_)::(5,_)::(11,_)::(12,_)::(13,_)::Lx) _ _
       refine aw (r_nilCheck rfl) ?_
       exact at_nil k
      ·intro Lx g46 s K hl hh k
       show At 62 ((40,_)::(3,_)::(5,_)::(11,_)::(12,_)::(13,_)::Lx) _ _
       refine fa 1 underlying84 rfl sizeOf54 ?_
       exact at_nil k
      ·intro Lx g46 s K hl hh k
       show At 62 ((41,_)::(3,_)::(5,_)::(11,_)::(12,_)::(13,_)::Lx) _ _
       rcases (by omega:s=0∨s=1) with rfl | rfl
       ·skip
        refine aw (r_load_cell isAgg54 rfl (lens_cell0 (c:=cHd) (y:=⟨(((p38,c39),(p40,c41)).2).1,List.length t37.f_stack,(((p38,c39),(p40,c41)).2).2⟩) .z (c_flat_row_f_stack ((p38,c39),(p40,c41)) t37) rfl)) ?_
        exact at_nil k
       skip
       refine aw (r_load_cell isAgg54 rfl (lens_cell0 (c:=cHd) (y:=⟨(((p38,c39),(p40,c41)).2).1,List.length t37.f_stack,(((p38,c39),(p40,c41)).2).2⟩) (.s .z) (c_flat_row_f_stack ((p38,c39),(p40,c41)) t37) rfl)) ?_
       exact at_nil k
      ·intro Lx g46 s K hl hh k
       show At 62 ((3,_)::(5,_)::(11,_)::(12,_)::(13,_)::Lx) _ _
       obtain rfl:s=0:=by omega
       refine aw (r_load_aggc (c:=c_api_Entry) (z:=lget t2 i12) isAgg66 sizeOf66 rfl (lens_cell (.s (.s (.s .z))) lw)) ?_
       exact at_nil k
      ·intro Lx g46 K k
       show At 62 ((43,_)::(3,_)::(5,_)::(11,_)::(12,_)::(13,_)::Lx) _ _
       refine at_litL (c:=c_api_Entry) ([zv7]:List S_api_Entry) ([lget t2 i12]:List S_api_Entry) underlying54 sizeOf66 zeroValue66 rfl rfl rfl (by kernel_rfl) (fill_step (c:=c_api_Entry) (z:=lget t2 i12) rfl (Lens.all c_api_Entry ([zv7]:List S_api_Entry) 0 (by first | decide | exact Nat.le_of_ble_eq_true rfl)) rfl rfl) rfl ?_
       intro b42
       exact at_nil (k (g3 b42 none 0 none w))
      ·intro Lx g46 K k
       show At 62 ((42,_)::(44,_)::(3,_)::(5,_)::(11,_)::(12,_)::(13,_)::Lx) _ _
       refine at_append (z:=.agg (Cd.cs c_api_Entry zv7).toArray) (c:=c_api_Entry) (ys:=([lget t2 i12]:List S_api_Entry)) (.s (.s (.s .z))) underlying54 infoF866 (by kernel_rfl) (by kernel_rfl) rfl rfl rfl rfl (fun _ hw=>cells_src (hw.ok (Upd.mem .z))) (by kernel_rfl) h43 (app_small h43) rfl ?_
       intro p44 c45
       exact at_nil (k (g3 0 p44 c45 none w))
      ·intro Lx g46 s K hl hh k
       show At 62 ((3,_)::(5,_)::(11,_)::(12,_)::(13,_)::Lx) _ _
       refine fa 0 underlying66 rfl sizeOf37 ?_
       exact at_nil k
      ·intro Lx g46 s K hl hh k
       show At 62 ((46,_)::(3,_)::(5,_)::(11,_)::(12,_)::(13,_)::Lx) _ _
       refine fa 0 underlying37 rfl sizeOf24 ?_
       exact at_nil k
      ·intro Lx g46 s K hl hh k
       show At 62 ((47,_)::(3,_)::(5,_)::(11,_)::(12,_)::(13,_)::Lx) _ _
       rcases (by omega:s=0∨s=1∨s=2) with rfl | rfl | rfl
       ·skip
        refine aw (r_load_aggc (c:=c_api_Addr) (z:=((lget t2 i12).f_P).f_A) isAgg24 sizeOf24 rfl (lens_cell (.s (.s (.s .z))) (Lens.comp (Lens.comp lw (fun z=>{ lget t2 i12 with f_P:=z }) (c_api_Entry_f_P (lget t2 i12))) (fun z=>{ (lget t2 i12).f_P with f_A:=z }) (c_api_Prefix_f_A ((lget t2 i12).f_P))))) ?_
        exact at_nil k
       ·skip
        refine aw (r_load_aggc (c:=c_api_Addr) (z:=((lget t2 i12).f_P).f_A) isAgg24 sizeOf24 rfl (lens_cell (.s (.s (.s (.s .z)))) (Lens.comp (Lens.comp lw (fun z=>{ lget t2 i12 with f_P:=z }) (c_api_Entry_f_P (lget t2 i12))) (fun z=>{ (lget t2 i12).f_P with f_A:=z }) (c_api_Prefix_f_A ((lget t2 i12).f_P))))) ?_
        exact at_nil k
       skip
       refine aw (r_load_aggc (c:=c_api_Addr) (z:=((lget t2 i12).f_P).f_A) isAgg24 sizeOf24 rfl (lens_cell (.s (.s (.s (.s .z)))) (Lens.comp (Lens.comp lw (fun z=>{ lget t2 i12 with f_P:=z }) (c_api_Entry_f_P (lget t2 i12))) (fun z=>{ (lget t2 i12).f_P with f_A:=z }) (c_api_Prefix_f_A ((lget t2 i12).f_P))))) ?_
       exact at_nil k
      ·intro Lx g46 s K hl hh k
       show At 62 ((36,_)::(3,_)::(5,_)::(11,_)::(12,_)::(13,_)::Lx) _ _
       refine aw (r_nilCheck rfl) ?_
       exact at_nil k
      ·intro Lx g46 s K hl hh k
       show At 62 ((49,_)::(3,_)::(5,_)::(11,_)::(12,_)::(13,_)::Lx) _ _
       refine fa 1 underlying84 rfl sizeOf54 ?_
       exact at_nil k
      ·intro Lx g46 K k
       show At 62 ((45,_)::(50,_)::(3,_)::(5,_)::(11,_)::(12,_)::(13,_)::Lx) _ _
       refine at_store (c:=cSv S_api_Entry) (z:=((((g46 1).2.1),((g46 1).2.2.1)),t37.f_stack++[lget t2 i12])) (.s .z) (c_flat_row_f_stack_sv ((p38,c39),(p40,c41)) t37) sizeOf54 rfl rfl rfl ?_
       exact at_nil k
      ·intro Lx g46 s K hl hh k
       show At 62 ((37,_)::(3,_)::(5,_)::(11,_)::(12,_)::(13,_)::Lx) _ _
       refine aw (r_nilCheck rfl) ?_
       exact at_nil k
      ·intro Lx g46 s K hl hh k
       show At 62 ((51,_)::(3,_)::(5,_)::(11,_)::(12,_)::(13,_)::Lx) _ _
       refine fa 2 underlying84 rfl sizeOf24 ?_
       exact at_nil k
      ·intro Lx g46 K k
       show At 62 ((48,_)::(52,_)::(3,_)::(5,_)::(11,_)::(12,_)::(13,_)::Lx) _ _
       refine at_store (c:=c_api_Addr) (z:=((lget t2 i12).f_P).f_A) (.s .z) (c_flat_row_f_at ((p38,c39),(((g46 1).2.1),((g46 1).2.2.1))) ({ t37 with f_stack:=t37.f_stack++[lget t2 i12] })) sizeOf24 rfl rfl rfl ?_
       exact at_nil k
      ·intro Lx g46 s K hl hh k
       show At 62 ((38,_)::(3,_)::(5,_)::(11,_)::(12,_)::(13,_)::Lx) _ _
       refine aw (r_nilCheck rfl) ?_
       exact at_nil k
      ·intro Lx g46 s K hl hh k
       show At 62 ((53,_)::(3,_)::(5,_)::(11,_)::(12,_)::(13,_)::Lx) _ _
       refine fa 19 underlying84 rfl sizeOf4 ?_
       exact at_nil k
      ·intro Lx g46 K k
       show At 62 ((54,_)::(3,_)::(5,_)::(11,_)::(12,_)::(13,_)::Lx) _ _
       refine at_store (c:=cBool) (z:=false) (.s .z) (c_flat_row_f_done ((p38,c39),(((g46 1).2.1),((g46 1).2.2.1))) ({ { t37 with f_stack:=t37.f_stack++[lget t2 i12] } with f_at:=((lget t2 i12).f_P).f_A })) sizeOf4 rfl rfl rfl ?_
       exact at_nil k
      intro g46
      show At 62 [(36,_),(37,_),(38,_),(39,_),(40,_),(41,_),(42,_),(43,_),(44,_),(45,_),(46,_),(47,_),(48,_),(49,_),(50,_),(51,_),(52,_),(53,_),(54,_),(3,_),(5,_),(11,_),(12,_),(13,_)] _ _
      refine dz ?_
      refine at_drop (H:=_) (.s (.s (.s .z))) ?_
      refine wq [13,12,11,3] ?_
      refine bm ?_
      refine qr (aw xa (am (nwq [13,12,11,3] ?_)))
      refine at_front (.s (.s .z)) ?_
      refine at_front (.s (.s .z)) ?_
      refine at_front (.s (.s .z)) ?_
      refine at_front (.s (.s (.s .z))) ?_
      exact at_weak_k (ih _ _ _ hF K p38 c39 (g46 1).2.1 (g46 1).2.2.1) ⟨rfl,rfl,rfl,rfl,trivial⟩
     refine cf h36 ?_
     refine sn (wq [13,12,11,5,3] ?_)
     obtain ⟨h48,hF⟩:=gd hF
     refine at_inv [.q 36 (fun g51=>.pointer (some ⟨b1,0,none⟩)) [] 0 2,.q 37 (fun g51=>.pointer (some ⟨b1,0,none⟩)) [] 0 3,.q 38 (fun g51=>.pointer (some ⟨b1,0,none⟩)) [] 0 4,.q 39 (fun g51=>.pointer (some ⟨b1,0,none⟩)) [] 0 1,.q 40 (fun g51=>.pointer (some ⟨b1,0,none⟩)) [3] 0 1,.q 41 (fun g51=>.pointer (some ⟨b1,0+1,none⟩)) [4] 0 1,.q 42 (fun g51=>.slice p31 t28.f_stack.length c32) [5] 0 1,.q 43 (fun g51=>.agg (Cd.cs c_api_Entry (lget t2 i12)).toArray) [] 0 0,.al 0 44 (fun g51=>.slice (some ⟨((g51 0).1),0,none⟩) ([lget t2 i12]:List S_api_Entry).length 1) [7],.al 1 45 (fun g51=>.slice ((g51 1).2.1) (t28.f_stack++[lget t2 i12]).length ((g51 1).2.2.1)) [6,8],.q 46 (fun g51=>.pointer (some ⟨b27,0+0,none⟩)) [] 0 2,.q 47 (fun g51=>.pointer (some ⟨b27,0+0+0,none⟩)) [10] 0 2,.q 48 (fun g51=>.agg (Cd.cs c_api_Addr (((lget t2 i12).f_P).f_A)).toArray) [11] 0 2,.q 49 (fun g51=>.pointer (some ⟨b1,0,none⟩)) [0] 2 2,.q 50 (fun g51=>.pointer (some ⟨b1,0+1,none⟩)) [13] 2 2,.st 2 none [9,14],.q 51 (fun g51=>.pointer (some ⟨b1,0,none⟩)) [1] 3 3,.q 52 (fun g51=>.pointer (some ⟨b1,0+2,none⟩)) [16] 3 3,.st 3 none [12,17],.q 53 (fun g51=>.pointer (some ⟨b1,0,none⟩)) [2] 4 4,.q 54 (fun g51=>.pointer (some ⟨b1,0+19,none⟩)) [19] 4 4,.st 4 none [20]] (fun g51 s=>match s with | 0=>(Wd w [cellsE b35 (Cd.cs c_api_Addr t34.1) 24,cellsE b1 (Cd.cs c_flat_row (((p29,c30),(p31,c32)),t28)) 84,rowE c_flat_Span 60 p29 c30 t28.f_l,rowE c_api_Entry 66 p31 c32 t28.f_stack,cellsE b27 (Cd.cs c_api_Entry (lget t2 i12)) 66,rowE c_api_Entry 66 p3 c4 t2]) | 1=>(Wd w [cellsE ((g51 0).1) (c_api_Entry.all ([lget t2 i12]:List S_api_Entry)) 66,cellsE b35 (Cd.cs c_api_Addr t34.1) 24,cellsE b1 (Cd.cs c_flat_row (((p29,c30),(p31,c32)),t28)) 84,rowE c_flat_Span 60 p29 c30 t28.f_l,rowE c_api_Entry 66 p31 c32 t28.f_stack,cellsE b27 (Cd.cs c_api_Entry (lget t2 i12)) 66,rowE c_api_Entry 66 p3 c4 t2]) | 2=>(Wd w [cellsE ((g51 0).1) (c_api_Entry.all ([lget t2 i12]:List S_api_Entry)) 66,cellsE b35 (Cd.cs c_api_Addr t34.1) 24,cellsE b1 (Cd.cs c_flat_row (((p29,c30),(p31,c32)),t28)) 84,rowE c_flat_Span 60 p29 c30 t28.f_l,rowE c_api_Entry 66 ((g51 1).2.1) ((g51 1).2.2.1) (t28.f_stack++[lget t2 i12]),cellsE b27 (Cd.cs c_api_Entry (lget t2 i12)) 66,rowE c_api_Entry 66 p3 c4 t2]) | 3=>(Wd w [cellsE ((g51 0).1) (c_api_Entry.all ([lget t2 i12]:List S_api_Entry)) 66,cellsE b35 (Cd.cs c_api_Addr t34.1) 24,cellsE b1 (Cd.cs c_flat_row (((p29,c30),(((g51 1).2.1),((g51 1).2.2.1))),{ t28 with f_stack:=t28.f_stack++[lget t2 i12] })) 84,rowE c_flat_Span 60 p29 c30 t28.f_l,rowE c_api_Entry 66 ((g51 1).2.1) ((g51 1).2.2.1) (t28.f_stack++[lget t2 i12]),cellsE b27 (Cd.cs c_api_Entry (lget t2 i12)) 66,rowE c_api_Entry 66 p3 c4 t2]) | 4=>(Wd w [cellsE ((g51 0).1) (c_api_Entry.all ([lget t2 i12]:List S_api_Entry)) 66,cellsE b35 (Cd.cs c_api_Addr t34.1) 24,cellsE b1 (Cd.cs c_flat_row (((p29,c30),(((g51 1).2.1),((g51 1).2.2.1))),{ { t28 with f_stack:=t28.f_stack++[lget t2 i12] } with f_at:=((lget t2 i12).f_P).f_A })) 84,rowE c_flat_Span 60 p29 c30 t28.f_l,rowE c_api_Entry 66 ((g51 1).2.1) ((g51 1).2.2.1) (t28.f_stack++[lget t2 i12]),cellsE b27 (Cd.cs c_api_Entry (lget t2 i12)) 66,rowE c_api_Entry 66 p3 c4 t2]) | _=>(Wd w [cellsE ((g51 0).1) (c_api_Entry.all ([lget t2 i12]:List S_api_Entry)) 66,cellsE b35 (Cd.cs c_api_Addr t34.1) 24,cellsE b1 (Cd.cs c_flat_row (((p29,c30),(((g51 1).2.1),((g51 1).2.2.1))),{ { { t28 with f_stack:=t28.f_stack++[lget t2 i12] } with f_at:=((lget t2 i12).f_P).f_A } with f_done:=false })) 84,rowE c_flat_Span 60 p29 c30 t28.f_l,rowE c_api_Entry 66 ((g51 1).2.1) ((g51 1).2.2.1) (t28.f_stack++[lget t2 i12]),cellsE b27 (Cd.cs c_api_Entry (lget t2 i12)) 66,rowE c_api_Entry 66 p3 c4 t2])) 5 (by kernel_rfl) (by kernel_rfl) (by kernel_rfl) (by kernel_rfl) (by kernel_rfl) ⟨fun _ _ _=>rfl,fun _ _ _=>rfl,fun _ _ _=>rfl,fun _ _ _=>rfl,fun _ _ _=>rfl,fun _ _ _=>rfl,fun _ _ _=>rfl,fun _ _ _=>rfl,fun g51 g2 h=>by show (.slice (some ⟨((g51 0).1),0,none⟩) ([lget t2 i12]:List S_api_Entry).length 1:Value)=.slice (some ⟨((g2 0).1),0,none⟩) ([lget t2 i12]:List S_api_Entry).length 1;rw [h 0 (show 0<1 by decide)],fun g51 g2 h=>by show (.slice ((g51 1).2.1) (t28.f_stack++[lget t2 i12]).length ((g51 1).2.2.1):Value)=.slice ((g2 1).2.1) (t28.f_stack++[lget t2 i12]).length ((g2 1).2.2.1);rw [h 1 (show 1<2 by decide)],fun _ _ _=>rfl,fun _ _ _=>rfl,fun _ _ _=>rfl,fun _ _ _=>rfl,fun _ _ _=>rfl,fun _ _ _=>rfl,fun _ _ _=>rfl,fun _ _ _=>rfl,fun _ _ _=>rfl,fun _ _ _=>rfl,fun _ _ _=>rfl,fun _ _ _=>rfl,trivial⟩ (by kernel_rfl) (fun w_ h=>⟨fun _=>g3 0 none 0 none w_,h.drew⟩) ⟨?_,?_,?_,?_,?_,?_,?_,?_,?_,?_,?_,?_,?_,?_,?_,?_,?_,?_,?_,?_,?_,?_,trivial⟩ ?_
     ·intro Lx g51 s K hl hh k
      show At 62 ((3,_)::(5,_)::(11,_)::(12,_)::(13,_)::Lx) _ _
      refine am ?_
      exact at_nil k
     ·intro Lx g51 s K hl hh k
      show At 62 ((3,_)::(5,_)::(11,_)::(12,_)::(13,_)::Lx) _ _
      refine am ?_
      exact at_nil k
     ·intro Lx g51 s K hl hh k
      show At 62 ((3,_)::(5,_)::(11,_)::(12,_)::(13,_)::Lx) _ _
      refine am ?_
      exact at_nil k
     ·intro Lx g51 s K hl hh k
      show At 62 ((3,_)::(5,_)::(11,_)::(12,_)::(13,_)::Lx) _ _
      refine am ?_
      exact at_nil k
     ·intro Lx g51 s K hl hh k
      show At 62 ((39,_)::(3,_)::(5,_)::(11,_)::(12,_)::(13,_)::Lx) _ _
      refine aw (r_nilCheck rfl) ?_
      exact at_nil k
     ·intro Lx g51 s K hl hh k
      show At 62 ((40,_)::(3,_)::(5,_)::(11,_)::(12,_)::(13,_)::Lx) _ _
      refine fa 1 underlying84 rfl sizeOf54 ?_
      exact at_nil k
     ·intro Lx g51 s K hl hh k
      show At 62 ((41,_)::(3,_)::(5,_)::(11,_)::(12,_)::(13,_)::Lx) _ _
      rcases (by omega:s=0∨s=1) with rfl | rfl
      ·skip
       refine aw (r_load_cell isAgg54 rfl (lens_cell0 (c:=cHd) (y:=⟨(((p29,c30),(p31,c32)).2).1,List.length t28.f_stack,(((p29,c30),(p31,c32)).2).2⟩) (.s .z) (c_flat_row_f_stack ((p29,c30),(p31,c32)) t28) rfl)) ?_
       exact at_nil k
      skip
      refine aw (r_load_cell isAgg54 rfl (lens_cell0 (c:=cHd) (y:=⟨(((p29,c30),(p31,c32)).2).1,List.length t28.f_stack,(((p29,c30),(p31,c32)).2).2⟩) (.s (.s .z)) (c_flat_row_f_stack ((p29,c30),(p31,c32)) t28) rfl)) ?_
      exact at_nil k
     ·intro Lx g51 s K hl hh k
      show At 62 ((3,_)::(5,_)::(11,_)::(12,_)::(13,_)::Lx) _ _
      obtain rfl:s=0:=by omega
      refine aw (r_load_aggc (c:=c_api_Entry) (z:=lget t2 i12) isAgg66 sizeOf66 rfl (lens_cell (.s (.s (.s (.s .z)))) lw)) ?_
      exact at_nil k
     ·intro Lx g51 K k
      show At 62 ((43,_)::(3,_)::(5,_)::(11,_)::(12,_)::(13,_)::Lx) _ _
      refine at_litL (c:=c_api_Entry) ([zv7]:List S_api_Entry) ([lget t2 i12]:List S_api_Entry) underlying54 sizeOf66 zeroValue66 rfl rfl rfl (by kernel_rfl) (fill_step (c:=c_api_Entry) (z:=lget t2 i12) rfl (Lens.all c_api_Entry ([zv7]:List S_api_Entry) 0 (by first | decide | exact Nat.le_of_ble_eq_true rfl)) rfl rfl) rfl ?_
      intro b47
      exact at_nil (k (g3 b47 none 0 none w))
     ·intro Lx g51 K k
      show At 62 ((42,_)::(44,_)::(3,_)::(5,_)::(11,_)::(12,_)::(13,_)::Lx) _ _
      refine at_append (z:=.agg (Cd.cs c_api_Entry zv7).toArray) (c:=c_api_Entry) (ys:=([lget t2 i12]:List S_api_Entry)) (.s (.s (.s (.s .z)))) underlying54 infoF866 (by kernel_rfl) (by kernel_rfl) rfl rfl rfl rfl (fun _ hw=>cells_src (hw.ok (Upd.mem .z))) (by kernel_rfl) h48 (app_small h48) rfl ?_
      intro p49 c50
      exact at_nil (k (g3 0 p49 c50 none w))
     ·intro Lx g51 s K hl hh k
      show At 62 ((3,_)::(5,_)::(11,_)::(12,_)::(13,_)::Lx) _ _
      refine fa 0 underlying66 rfl sizeOf37 ?_
      exact at_nil k
     ·intro Lx g51 s K hl hh k
      show At 62 ((46,_)::(3,_)::(5,_)::(11,_)::(12,_)::(13,_)::Lx) _ _
      refine fa 0 underlying37 rfl sizeOf24 ?_
      exact at_nil k
     ·intro Lx g51 s K hl hh k
      show At 62 ((47,_)::(3,_)::(5,_)::(11,_)::(12,_)::(13,_)::Lx) _ _
      rcases (by omega:s=0∨s=1∨s=2) with rfl | rfl | rfl
      ·skip
       refine aw (r_load_aggc (c:=c_api_Addr) (z:=((lget t2 i12).f_P).f_A) isAgg24 sizeOf24 rfl (lens_cell (.s (.s (.s (.s .z)))) (Lens.comp (Lens.comp lw (fun z=>{ lget t2 i12 with f_P:=z }) (c_api_Entry_f_P (lget t2 i12))) (fun z=>{ (lget t2 i12).f_P with f_A:=z }) (c_api_Prefix_f_A ((lget t2 i12).f_P))))) ?_
       exact at_nil k
      ·skip
       refine aw (r_load_aggc (c:=c_api_Addr) (z:=((lget t2 i12).f_P).f_A) isAgg24 sizeOf24 rfl (lens_cell (.s (.s (.s (.s (.s .z))))) (Lens.comp (Lens.comp lw (fun z=>{ lget t2 i12 with f_P:=z }) (c_api_Entry_f_P (lget t2 i12))) (fun z=>{ (lget t2 i12).f_P with f_A:=z }) (c_api_Prefix_f_A ((lget t2 i12).f_P))))) ?_
       exact at_nil k
      skip
      refine aw (r_load_aggc (c:=c_api_Addr) (z:=((lget t2 i12).f_P).f_A) isAgg24 sizeOf24 rfl (lens_cell (.s (.s (.s (.s (.s .z))))) (Lens.comp (Lens.comp lw (fun z=>{ lget t2 i12 with f_P:=z }) (c_api_Entry_f_P (lget t2 i12))) (fun z=>{ (lget t2 i12).f_P with f_A:=z }) (c_api_Prefix_f_A ((lget t2 i12).f_P))))) ?_
      exact at_nil k
     ·intro Lx g51 s K hl hh k
      show At 62 ((36,_)::(3,_)::(5,_)::(11,_)::(12,_)::(13,_)::Lx) _ _
      refine aw (r_nilCheck rfl) ?_
      exact at_nil k
     ·intro Lx g51 s K hl hh k
      show At 62 ((49,_)::(3,_)::(5,_)::(11,_)::(12,_)::(13,_)::Lx) _ _
      refine fa 1 underlying84 rfl sizeOf54 ?_
      exact at_nil k
     ·intro Lx g51 K k
      show At 62 ((45,_)::(50,_)::(3,_)::(5,_)::(11,_)::(12,_)::(13,_)::Lx) _ _
      refine at_store (c:=cSv S_api_Entry) (z:=((((g51 1).2.1),((g51 1).2.2.1)),t28.f_stack++[lget t2 i12])) (.s (.s .z)) (c_flat_row_f_stack_sv ((p29,c30),(p31,c32)) t28) sizeOf54 rfl rfl rfl ?_
      exact at_nil k
     ·intro Lx g51 s K hl hh k
      show At 62 ((37,_)::(3,_)::(5,_)::(11,_)::(12,_)::(13,_)::Lx) _ _
      refine aw (r_nilCheck rfl) ?_
      exact at_nil k
     ·intro Lx g51 s K hl hh k
      show At 62 ((51,_)::(3,_)::(5,_)::(11,_)::(12,_)::(13,_)::Lx) _ _
      refine fa 2 underlying84 rfl sizeOf24 ?_
      exact at_nil k
     ·intro Lx g51 K k
      show At 62 ((48,_)::(52,_)::(3,_)::(5,_)::(11,_)::(12,_)::(13,_)::Lx) _ _
      refine at_store (c:=c_api_Addr) (z:=((lget t2 i12).f_P).f_A) (.s (.s .z)) (c_flat_row_f_at ((p29,c30),(((g51 1).2.1),((g51 1).2.2.1))) ({ t28 with f_stack:=t28.f_stack++[lget t2 i12] })) sizeOf24 rfl rfl rfl ?_
      exact at_nil k
     ·intro Lx g51 s K hl hh k
      show At 62 ((38,_)::(3,_)::(5,_)::(11,_)::(12,_)::(13,_)::Lx) _ _
      refine aw (r_nilCheck rfl) ?_
      exact at_nil k
     ·intro Lx g51 s K hl hh k
      show At 62 ((53,_)::(3,_)::(5,_)::(11,_)::(12,_)::(13,_)::Lx) _ _
      refine fa 19 underlying84 rfl sizeOf4 ?_
      exact at_nil k
     ·intro Lx g51 K k
      show At 62 ((54,_)::(3,_)::(5,_)::(11,_)::(12,_)::(13,_)::Lx) _ _
      refine at_store (c:=cBool) (z:=false) (.s (.s .z)) (c_flat_row_f_done ((p29,c30),(((g51 1).2.1),((g51 1).2.2.1))) ({ { t28 with f_stack:=t28.f_stack++[lget t2 i12] } with f_at:=((lget t2 i12).f_P).f_A })) sizeOf4 rfl rfl rfl ?_
      exact at_nil k
     intro g51
     show At 62 [(36,_),(37,_),(38,_),(39,_),(40,_),(41,_),(42,_),(43,_),(44,_),(45,_),(46,_),(47,_),(48,_),(49,_),(50,_),(51,_),(52,_),(53,_),(54,_),(3,_),(5,_),(11,_),(12,_),(13,_)] _ _
     refine dz (dz ?_)
     refine at_drop (H:=_) (.s (.s (.s .z))) ?_
     refine wq [13,12,11,3] ?_
     refine bm ?_
     refine qr (aw xa (am (nwq [13,12,11,3] ?_)))
     refine at_front (.s (.s .z)) ?_
     refine at_front (.s (.s .z)) ?_
     refine at_front (.s (.s .z)) ?_
     refine at_front (.s (.s (.s .z))) ?_
     exact at_weak_k (ih _ _ _ hF K p29 c30 (g51 1).2.1 (g51 1).2.2.1) ⟨rfl,rfl,rfl,rfl,trivial⟩
    refine cf h33 ?_
    refine sn (wq [13,12,11,5,3] ?_)
    obtain ⟨h53,hF⟩:=gd hF
    refine at_inv [.q 36 (fun g56=>.pointer (some ⟨b1,0,none⟩)) [] 0 2,.q 37 (fun g56=>.pointer (some ⟨b1,0,none⟩)) [] 0 3,.q 38 (fun g56=>.pointer (some ⟨b1,0,none⟩)) [] 0 4,.q 39 (fun g56=>.pointer (some ⟨b1,0,none⟩)) [] 0 1,.q 40 (fun g56=>.pointer (some ⟨b1,0,none⟩)) [3] 0 1,.q 41 (fun g56=>.pointer (some ⟨b1,0+1,none⟩)) [4] 0 1,.q 42 (fun g56=>.slice p31 t28.f_stack.length c32) [5] 0 1,.q 43 (fun g56=>.agg (Cd.cs c_api_Entry (lget t2 i12)).toArray) [] 0 0,.al 0 44 (fun g56=>.slice (some ⟨((g56 0).1),0,none⟩) ([lget t2 i12]:List S_api_Entry).length 1) [7],.al 1 45 (fun g56=>.slice ((g56 1).2.1) (t28.f_stack++[lget t2 i12]).length ((g56 1).2.2.1)) [6,8],.q 46 (fun g56=>.pointer (some ⟨b27,0+0,none⟩)) [] 0 2,.q 47 (fun g56=>.pointer (some ⟨b27,0+0+0,none⟩)) [10] 0 2,.q 48 (fun g56=>.agg (Cd.cs c_api_Addr (((lget t2 i12).f_P).f_A)).toArray) [11] 0 2,.q 49 (fun g56=>.pointer (some ⟨b1,0,none⟩)) [0] 2 2,.q 50 (fun g56=>.pointer (some ⟨b1,0+1,none⟩)) [13] 2 2,.st 2 none [9,14],.q 51 (fun g56=>.pointer (some ⟨b1,0,none⟩)) [1] 3 3,.q 52 (fun g56=>.pointer (some ⟨b1,0+2,none⟩)) [16] 3 3,.st 3 none [12,17],.q 53 (fun g56=>.pointer (some ⟨b1,0,none⟩)) [2] 4 4,.q 54 (fun g56=>.pointer (some ⟨b1,0+19,none⟩)) [19] 4 4,.st 4 none [20]] (fun g56 s=>match s with | 0=>(Wd w [cellsE b1 (Cd.cs c_flat_row (((p29,c30),(p31,c32)),t28)) 84,rowE c_flat_Span 60 p29 c30 t28.f_l,rowE c_api_Entry 66 p31 c32 t28.f_stack,cellsE b27 (Cd.cs c_api_Entry (lget t2 i12)) 66,rowE c_api_Entry 66 p3 c4 t2]) | 1=>(Wd w [cellsE ((g56 0).1) (c_api_Entry.all ([lget t2 i12]:List S_api_Entry)) 66,cellsE b1 (Cd.cs c_flat_row (((p29,c30),(p31,c32)),t28)) 84,rowE c_flat_Span 60 p29 c30 t28.f_l,rowE c_api_Entry 66 p31 c32 t28.f_stack,cellsE b27 (Cd.cs c_api_Entry (lget t2 i12)) 66,rowE c_api_Entry 66 p3 c4 t2]) | 2=>(Wd w [cellsE ((g56 0).1) (c_api_Entry.all ([lget t2 i12]:List S_api_Entry)) 66,cellsE b1 (Cd.cs c_flat_row (((p29,c30),(p31,c32)),t28)) 84,rowE c_flat_Span 60 p29 c30 t28.f_l,rowE c_api_Entry 66 ((g56 1).2.1) ((g56 1).2.2.1) (t28.f_stack++[lget t2 i12]),cellsE b27 (Cd.cs c_api_Entry (lget t2 i12)) 66,rowE c_api_Entry 66 p3 c4 t2]) | 3=>(Wd w [cellsE ((g56 0).1) (c_api_Entry.all ([lget t2 i12]:List S_api_Entry)) 66,cellsE b1 (Cd.cs c_flat_row (((p29,c30),(((g56 1).2.1),((g56 1).2.2.1))),{ t28 with f_stack:=t28.f_stack++[lget t2 i12] })) 84,rowE c_flat_Span 60 p29 c30 t28.f_l,rowE c_api_Entry 66 ((g56 1).2.1) ((g56 1).2.2.1) (t28.f_stack++[lget t2 i12]),cellsE b27 (Cd.cs c_api_Entry (lget t2 i12)) 66,rowE c_api_Entry 66 p3 c4 t2]) | 4=>(Wd w [cellsE ((g56 0).1) (c_api_Entry.all ([lget t2 i12]:List S_api_Entry)) 66,cellsE b1 (Cd.cs c_flat_row (((p29,c30),(((g56 1).2.1),((g56 1).2.2.1))),{ { t28 with f_stack:=t28.f_stack++[lget t2 i12] } with f_at:=((lget t2 i12).f_P).f_A })) 84,rowE c_flat_Span 60 p29 c30 t28.f_l,rowE c_api_Entry 66 ((g56 1).2.1) ((g56 1).2.2.1) (t28.f_stack++[lget t2 i12]),cellsE b27 (Cd.cs c_api_Entry (lget t2 i12)) 66,rowE c_api_Entry 66 p3 c4 t2]) | _=>(Wd w [cellsE ((g56 0).1) (c_api_Entry.all ([lget t2 i12]:List S_api_Entry)) 66,cellsE b1 (Cd.cs c_flat_row (((p29,c30),(((g56 1).2.1),((g56 1).2.2.1))),{ { { t28 with f_stack:=t28.f_stack++[lget t2 i12] } with f_at:=((lget t2 i12).f_P).f_A } with f_done:=false })) 84,rowE c_flat_Span 60 p29 c30 t28.f_l,rowE c_api_Entry 66 ((g56 1).2.1) ((g56 1).2.2.1) (t28.f_stack++[lget t2 i12]),cellsE b27 (Cd.cs c_api_Entry (lget t2 i12)) 66,rowE c_api_Entry 66 p3 c4 t2])) 5 (by kernel_rfl) (by kernel_rfl) (by kernel_rfl) (by kernel_rfl) (by kernel_rfl) ⟨fun _ _ _=>rfl,fun _ _ _=>rfl,fun _ _ _=>rfl,fun _ _ _=>rfl,fun _ _ _=>rfl,fun _ _ _=>rfl,fun _ _ _=>rfl,fun _ _ _=>rfl,fun g56 g2 h=>by show (.slice (some ⟨((g56 0).1),0,none⟩) ([lget t2 i12]:List S_api_Entry).length 1:Value)=.slice (some ⟨((g2 0).1),0,none⟩) ([lget t2 i12]:List S_api_Entry).length 1;rw [h 0 (show 0<1 by decide)],fun g56 g2 h=>by show (.slice ((g56 1).2.1) (t28.f_stack++[lget t2 i12]).length ((g56 1).2.2.1):Value)=.slice ((g2 1).2.1) (t28.f_stack++[lget t2 i12]).length ((g2 1).2.2.1);rw [h 1 (show 1<2 by decide)],fun _ _ _=>rfl,fun _ _ _=>rfl,fun _ _ _=>rfl,fun _ _ _=>rfl,fun _ _ _=>rfl,fun _ _ _=>rfl,fun _ _ _=>rfl,fun _ _ _=>rfl,fun _ _ _=>rfl,fun _ _ _=>rfl,fun _ _ _=>rfl,fun _ _ _=>rfl,trivial⟩ (by kernel_rfl) (fun w_ h=>⟨fun _=>g3 0 none 0 none w_,h.drew⟩) ⟨?_,?_,?_,?_,?_,?_,?_,?_,?_,?_,?_,?_,?_,?_,?_,?_,?_,?_,?_,?_,?_,?_,trivial⟩ ?_
    ·intro Lx g56 s K hl hh k
     show At 62 ((3,_)::(5,_)::(11,_)::(12,_)::(13,_)::Lx) _ _
     refine am ?_
     exact at_nil k
    ·intro Lx g56 s K hl hh k
     show At 62 ((3,_)::(5,_)::(11,_)::(12,_)::(13,_)::Lx) _ _
     refine am ?_
     exact at_nil k
    ·intro Lx g56 s K hl hh k
     show At 62 ((3,_)::(5,_)::(11,_)::(12,_)::(13,_)::Lx) _ _
     refine am ?_
     exact at_nil k
    ·intro Lx g56 s K hl hh k
     show At 62 ((3,_)::(5,_)::(11,_)::(12,_)::(13,_)::Lx) _ _
     refine am ?_
     exact at_nil k
    ·intro Lx g56 s K hl hh k
     show At 62 ((39,_)::(3,_)::(5,_)::(11,_)::(12,_)::(13,_)::Lx) _ _
     refine aw (r_nilCheck rfl) ?_
     exact at_nil k
    ·intro Lx g56 s K hl hh k
     show At 62 ((40,_)::(3,_)::(5,_)::(11,_)::(12,_)::(13,_)::Lx) _ _
     refine fa 1 underlying84 rfl sizeOf54 ?_
     exact at_nil k
    ·intro Lx g56 s K hl hh k
     show At 62 ((41,_)::(3,_)::(5,_)::(11,_)::(12,_)::(13,_)::Lx) _ _
     rcases (by omega:s=0∨s=1) with rfl | rfl
     ·skip
      refine aw (r_load_cell isAgg54 rfl (lens_cell0 (c:=cHd) (y:=⟨(((p29,c30),(p31,c32)).2).1,List.length t28.f_stack,(((p29,c30),(p31,c32)).2).2⟩) .z (c_flat_row_f_stack ((p29,c30),(p31,c32)) t28) rfl)) ?_
      exact at_nil k
     skip
     refine aw (r_load_cell isAgg54 rfl (lens_cell0 (c:=cHd) (y:=⟨(((p29,c30),(p31,c32)).2).1,List.length t28.f_stack,(((p29,c30),(p31,c32)).2).2⟩) (.s .z) (c_flat_row_f_stack ((p29,c30),(p31,c32)) t28) rfl)) ?_
     exact at_nil k
    ·intro Lx g56 s K hl hh k
     show At 62 ((3,_)::(5,_)::(11,_)::(12,_)::(13,_)::Lx) _ _
     obtain rfl:s=0:=by omega
     refine aw (r_load_aggc (c:=c_api_Entry) (z:=lget t2 i12) isAgg66 sizeOf66 rfl (lens_cell (.s (.s (.s .z))) lw)) ?_
     exact at_nil k
    ·intro Lx g56 K k
     show At 62 ((43,_)::(3,_)::(5,_)::(11,_)::(12,_)::(13,_)::Lx) _ _
     refine at_litL (c:=c_api_Entry) ([zv7]:List S_api_Entry) ([lget t2 i12]:List S_api_Entry) underlying54 sizeOf66 zeroValue66 rfl rfl rfl (by kernel_rfl) (fill_step (c:=c_api_Entry) (z:=lget t2 i12) rfl (Lens.all c_api_Entry ([zv7]:List S_api_Entry) 0 (by first | decide | exact Nat.le_of_ble_eq_true rfl)) rfl rfl) rfl ?_
     intro b52
     exact at_nil (k (g3 b52 none 0 none w))
    ·intro Lx g56 K k
     show At 62 ((42,_)::(44,_)::(3,_)::(5,_)::(11,_)::(12,_)::(13,_)::Lx) _ _
     refine at_append (z:=.agg (Cd.cs c_api_Entry zv7).toArray) (c:=c_api_Entry) (ys:=([lget t2 i12]:List S_api_Entry)) (.s (.s (.s .z))) underlying54 infoF866 (by kernel_rfl) (by kernel_rfl) rfl rfl rfl rfl (fun _ hw=>cells_src (hw.ok (Upd.mem .z))) (by kernel_rfl) h53 (app_small h53) rfl ?_
     intro p54 c55
     exact at_nil (k (g3 0 p54 c55 none w))
    ·intro Lx g56 s K hl hh k
     show At 62 ((3,_)::(5,_)::(11,_)::(12,_)::(13,_)::Lx) _ _
     refine fa 0 underlying66 rfl sizeOf37 ?_
     exact at_nil k
    ·intro Lx g56 s K hl hh k
     show At 62 ((46,_)::(3,_)::(5,_)::(11,_)::(12,_)::(13,_)::Lx) _ _
     refine fa 0 underlying37 rfl sizeOf24 ?_
     exact at_nil k
    ·intro Lx g56 s K hl hh k
     show At 62 ((47,_)::(3,_)::(5,_)::(11,_)::(12,_)::(13,_)::Lx) _ _
     rcases (by omega:s=0∨s=1∨s=2) with rfl | rfl | rfl
     ·skip
      refine aw (r_load_aggc (c:=c_api_Addr) (z:=((lget t2 i12).f_P).f_A) isAgg24 sizeOf24 rfl (lens_cell (.s (.s (.s .z))) (Lens.comp (Lens.comp lw (fun z=>{ lget t2 i12 with f_P:=z }) (c_api_Entry_f_P (lget t2 i12))) (fun z=>{ (lget t2 i12).f_P with f_A:=z }) (c_api_Prefix_f_A ((lget t2 i12).f_P))))) ?_
      exact at_nil k
     ·skip
      refine aw (r_load_aggc (c:=c_api_Addr) (z:=((lget t2 i12).f_P).f_A) isAgg24 sizeOf24 rfl (lens_cell (.s (.s (.s (.s .z)))) (Lens.comp (Lens.comp lw (fun z=>{ lget t2 i12 with f_P:=z }) (c_api_Entry_f_P (lget t2 i12))) (fun z=>{ (lget t2 i12).f_P with f_A:=z }) (c_api_Prefix_f_A ((lget t2 i12).f_P))))) ?_
      exact at_nil k
     skip
     refine aw (r_load_aggc (c:=c_api_Addr) (z:=((lget t2 i12).f_P).f_A) isAgg24 sizeOf24 rfl (lens_cell (.s (.s (.s (.s .z)))) (Lens.comp (Lens.comp lw (fun z=>{ lget t2 i12 with f_P:=z }) (c_api_Entry_f_P (lget t2 i12))) (fun z=>{ (lget t2 i12).f_P with f_A:=z }) (c_api_Prefix_f_A ((lget t2 i12).f_P))))) ?_
     exact at_nil k
    ·intro Lx g56 s K hl hh k
     show At 62 ((36,_)::(3,_)::(5,_)::(11,_)::(12,_)::(13,_)::Lx) _ _
     refine aw (r_nilCheck rfl) ?_
     exact at_nil k
    ·intro Lx g56 s K hl hh k
     show At 62 ((49,_)::(3,_)::(5,_)::(11,_)::(12,_)::(13,_)::Lx) _ _
     refine fa 1 underlying84 rfl sizeOf54 ?_
     exact at_nil k
    ·intro Lx g56 K k
     show At 62 ((45,_)::(50,_)::(3,_)::(5,_)::(11,_)::(12,_)::(13,_)::Lx) _ _
     refine at_store (c:=cSv S_api_Entry) (z:=((((g56 1).2.1),((g56 1).2.2.1)),t28.f_stack++[lget t2 i12])) (.s .z) (c_flat_row_f_stack_sv ((p29,c30),(p31,c32)) t28) sizeOf54 rfl rfl rfl ?_
     exact at_nil k
    ·intro Lx g56 s K hl hh k
     show At 62 ((37,_)::(3,_)::(5,_)::(11,_)::(12,_)::(13,_)::Lx) _ _
     refine aw (r_nilCheck rfl) ?_
     exact at_nil k
    ·intro Lx g56 s K hl hh k
     show At 62 ((51,_)::(3,_)::(5,_)::(11,_)::(12,_)::(13,_)::Lx) _ _
     refine fa 2 underlying84 rfl sizeOf24 ?_
     exact at_nil k
    ·intro Lx g56 K k
     show At 62 ((48,_)::(52,_)::(3,_)::(5,_)::(11,_)::(12,_)::(13,_)::Lx) _ _
     refine at_store (c:=c_api_Addr) (z:=((lget t2 i12).f_P).f_A) (.s .z) (c_flat_row_f_at ((p29,c30),(((g56 1).2.1),((g56 1).2.2.1))) ({ t28 with f_stack:=t28.f_stack++[lget t2 i12] })) sizeOf24 rfl rfl rfl ?_
     exact at_nil k
    ·intro Lx g56 s K hl hh k
     show At 62 ((38,_)::(3,_)::(5,_)::(11,_)::(12,_)::(13,_)::Lx) _ _
     refine aw (r_nilCheck rfl) ?_
     exact at_nil k
    ·intro Lx g56 s K hl hh k
     show At 62 ((53,_)::(3,_)::(5,_)::(11,_)::(12,_)::(13,_)::Lx) _ _
     refine fa 19 underlying84 rfl sizeOf4 ?_
     exact at_nil k
    ·intro Lx g56 K k
     show At 62 ((54,_)::(3,_)::(5,_)::(11,_)::(12,_)::(13,_)::Lx) _ _
     refine at_store (c:=cBool) (z:=false) (.s .z) (c_flat_row_f_done ((p29,c30),(((g56 1).2.1),((g56 1).2.2.1))) ({ { t28 with f_stack:=t28.f_stack++[lget t2 i12] } with f_at:=((lget t2 i12).f_P).f_A })) sizeOf4 rfl rfl rfl ?_
     exact at_nil k
    intro g56
    show At 62 [(36,_),(37,_),(38,_),(39,_),(40,_),(41,_),(42,_),(43,_),(44,_),(45,_),(46,_),(47,_),(48,_),(49,_),(50,_),(51,_),(52,_),(53,_),(54,_),(3,_),(5,_),(11,_),(12,_),(13,_)] _ _
    refine dz ?_
    refine at_drop (H:=_) (.s (.s (.s .z))) ?_
    refine wq [13,12,11,3] ?_
    refine bm ?_
    refine qr (aw xa (am (nwq [13,12,11,3] ?_)))
    refine at_front (.s (.s .z)) ?_
    refine at_front (.s (.s .z)) ?_
    refine at_front (.s (.s .z)) ?_
    refine at_front (.s (.s (.s .z))) ?_
    exact at_weak_k (ih _ _ _ hF K p29 c30 (g56 1).2.1 (g56 1).2.2.1) ⟨rfl,rfl,rfl,rfl,trivial⟩
   refine cf h22 ?_
   refine at_exit ?_
   refine te (te ?_)
   refine dz ?_
   obtain rfl:=os hF
   exact at_weak_k (K p14 c15 p16 c17) ⟨rfl,trivial⟩
 skip
 intro p18 c19 p20 c21
 refine at_blk_same ?_
 refine tn (sr (am ?_))
 obtain ⟨t57,ht57,hF⟩:=bM hF
 refine at_callX (γ:=G_flat_row) (V:=fun z=>.tuple #[]) (T:=fun z=>[cellsE b1 (Cd.cs c_flat_row (z,t57)) 84,rowE c_flat_Span 60 z.1.1 z.1.2 t57.f_l,rowE c_api_Entry 66 z.2.1 z.2.2 t57.f_stack]) func54 rfl (by kernel_rfl) rfl rfl (fun w hw=>flat_row_close__nil1_ok ht57 hw) ?_
 rintro ⟨⟨p58,c59⟩,⟨p60,c61⟩⟩
 refine ns (am ?_)
 refine aw (r_nilCheck rfl) ?_
 refine fa 0 underlying84 rfl sizeOf55 ?_
 refine aw (r_load_cell isAgg55 rfl (lens_cell0 (c:=cHd) (y:=⟨(((p58,c59),(p60,c61)).1).1,List.length t57.f_l,(((p58,c59),(p60,c61)).1).2⟩) .z (c_flat_row_f_l ((p58,c59),(p60,c61)) t57) rfl)) ?_
 refine aa (qn (dz ?_))
 refine at_drop (H:=_) (.s .z) ?_
 refine wq [2] ?_
 refine tn (qt ?_)
 have K:=os hF
 subst K
 exact r1 (fun w1 hw=>⟨p58,c59,rfl,hw.own .z,hw.below⟩)
def flat_Thin.l0(t1:List S_api_Entry)(i7:List S_api_Entry)(i9:Int):Option (List S_api_Entry) :=
 if (decide (i9<(t1.length:Int)))=true then (if (0:Int)≤i9∧i9<(t1.length:Int) then flat_above t1 (lget t1 i9)>>=fun t20=>if (!t20.2)=true then (if (i7.length+1)*40≤140737488355328 then flat_Thin.l0 t1 (i7++[lget t1 i9]) (wr .i64 (i9+1)) else none) else (if (t20.1.f_Owner != (lget t1 i9).f_Owner)=true then (if (i7.length+1)*40≤140737488355328 then flat_Thin.l0 t1 (i7++[lget t1 i9]) (wr .i64 (i9+1)) else none) else (flat_Thin.l0 t1 i7 (wr .i64 (i9+1)))) else none) else (some i7)
 partial_fixpoint
def flat_Thin(x0:List S_api_Entry):Option (List S_api_Entry) :=
 flat_Own x0>>=fun t1=>flat_Thin.l0 t1 ([]:List S_api_Entry) 0>>=fun q6=>some q6
theorem flat_Thin_ok(x0:List S_api_Entry)(p0_:Option Addr)(c0_:Nat)(r:List S_api_Entry)(hF:flat_Thin x0=some r)(w:World)(hr0:Row c_api_Entry w p0_ c0_ x0) :
    Calls Try.prog 34 #[.slice p0_ x0.length c0_] w (fun e w'=>∃ p cap,e=.returned (.slice p r.length cap)∧Own c_api_Entry 66 w.heap.size w' p cap r∧Below w.heap.size w w'):=by
 unfold flat_Thin at hF
 refine ce (l:=[.slice p0_ x0.length c0_]) func34 rfl rfl ?_
 refine at_start ?_
 refine sr (aa (ns (am ?_)))
 obtain ⟨t1,ht1,hF⟩:=bM hF
 refine at_callO (c:=c_api_Entry) (e:=66) (ys:=t1) (V:=fun p cap=>.slice p t1.length cap) func33 rfl (by kernel_rfl) rfl rfl (fun w hw=>flat_Own_ok _ _ _ _ ht1 w (hr0.below hw.below)) ?_
 intro p2 c3
 refine aa (ns (aa (nt (qs (sr (am ?_))))))
 refine aw (r_len_sl underlying54 rfl) ?_
 refine am (nwq [13,12,11,4,3] ?_)
 refine qb ?_
 refine at_own_nil c_api_Entry 66 ?_
 obtain ⟨q6,hq6,hF⟩:=bM hF
 refine wq [13,12,11,4,3] ?_
 refine at_loop_n (B:=0) (A:=fun Y=>∀ (p12:Option Addr) (c13:Nat),At 38 [(4,.slice p12 q6.length c13)] (Wd w [rowE c_api_Entry 66 p12 c13 q6]) Y) ?_ ?_
 ·intro K
  refine flat_Thin.l0.partial_correctness t1 (motive:=fun i7 i9 x=>KN (fun Y=>∀ (p12:Option Addr) (c13:Nat),At 38 [(4,.slice p12 x.length c13)] (Wd w [rowE c_api_Entry 66 p12 c13 x]) Y) _ 0→Round (fun Y=>∀ (p10:Option Addr) (c11:Nat),At 38 [(3,.slice p2 t1.length c3),(4,.slice p10 i7.length c11),(11,.slice p2 t1.length c3),(12,.int .i64 (t1.length:Int)),(13,.int .i64 i9)] (Wd w [rowE c_api_Entry 66 p10 c11 i7,rowE c_api_Entry 66 p2 c3 t1]) Y) _ _ _) ?_ _ _ _ hq6 K none 0
  ·clear K hF
   intro g ih i7 i9 x hF K p10 c11
   refine at_round ?_
   refine sr (aw xl (nwq [14,13,12,11,4,3] ?_))
   refine qs ?_
   obtain ⟨h14,hF⟩|⟨h14,hF⟩:=oi hF
   ·refine ct h14 ?_
    refine sn (qs ?_)
    refine qb ?_
    refine sr ?_
    obtain ⟨h15,hF⟩:=gd hF
    refine at_pure (φ:=∃ b o,p2=some ⟨b,o,none⟩) (fun _ hw=>row_ptr (hw.own (.s .z)).row h15) ?_
    rintro ⟨b17,o18,hp16⟩
    refine aw (r_idx underlying54 sizeOf66 rfl rfl h15 hp16) ?_
    refine aw (r_load_aggc (c:=c_api_Entry) (z:=lget t1 i9) isAgg66 sizeOf66 rfl (fun w1 hw=>row_cell (W:=fun w1=>w1=_) (fun w1 h=>by subst h;exact Below.refl _ _) (hw.own (.s .z)).row h15 hp16 _ rfl)) ?_
    refine al (cs:=Cd.cs c_api_Entry zv7) zeroValue66 ?_
    intro b19
    refine at_store (c:=c_api_Entry) (z:=lget t1 i9) .z lw sizeOf66 rfl rfl rfl ?_
    refine ns (am ?_)
    refine aw (r_load_aggc (c:=c_api_Entry) (z:=lget t1 i9) isAgg66 sizeOf66 rfl (lens_cell .z lw)) ?_
    obtain ⟨t20,ht20,hF⟩:=bM hF
    refine cB func68 rfl (fun w hw=>flat_above_ok _ _ _ _ _ ht20 w (hw.own (.s (.s .z))).row) ?_
    refine am ?_
    refine aw xe (aw xe ?_)
    refine al (cs:=Cd.cs c_api_Entry zv7) zeroValue66 ?_
    intro b21
    refine at_store (c:=c_api_Entry) (z:=t20.1) .z lw sizeOf66 rfl rfl rfl ?_
    refine aa (nwx [13,12,11,8,7,6,4,3] ?_)
    refine am ?_
    refine aw (r_not rfl) ?_
    refine am ?_
    obtain ⟨h22,hF⟩|⟨h22,hF⟩:=oi hF
    ·refine fx 25 h22 ?_
     refine gn ?_
     refine gn ?_
     refine gn ?_
     refine gn ?_
     refine gn ?_
     refine aw xp (qn (dz (wq [31,13,12,11,6,4,3] ?_)))
     refine tn ?_
     refine ct rfl ?_
     refine qr (am ?_)
     refine aw (r_load_aggc (c:=c_api_Entry) (z:=lget t1 i9) isAgg66 sizeOf66 rfl (lens_cell .z lw)) ?_
     refine at_litL (c:=c_api_Entry) ([zv7]:List S_api_Entry) ([lget t1 i9]:List S_api_Entry) underlying54 sizeOf66 zeroValue66 rfl rfl rfl (by kernel_rfl) (fill_step (c:=c_api_Entry) (z:=lget t1 i9) rfl (Lens.all c_api_Entry ([zv7]:List S_api_Entry) 0 (by first | decide | exact Nat.le_of_ble_eq_true rfl)) rfl rfl) rfl ?_
     intro b23
     obtain ⟨h24,hF⟩:=gd hF
     refine at_append (z:=.agg (Cd.cs c_api_Entry zv7).toArray) (c:=c_api_Entry) (ys:=([lget t1 i9]:List S_api_Entry)) (.s (.s .z)) underlying54 infoF866 (by kernel_rfl) (by kernel_rfl) rfl rfl rfl rfl (fun _ hw=>cells_src (hw.ok (Upd.mem .z))) (by kernel_rfl) h24 (app_small h24) rfl ?_
     intro p25 c26
     refine aa (qn (dz (dz (wq [13,12,11,4,3] ?_))))
     refine bm ?_
     refine qr (aw xa (am (nwq [13,12,11,4,3] ?_)))
     exact at_weak_k (ih _ _ _ hF K p25 c26) ⟨rfl,rfl,rfl,rfl,rfl,trivial⟩
    refine fx 25 h22 ?_
    refine gy ?_
    refine fa 18 underlying66 rfl sizeOf3 ?_
    refine gy ?_
    refine aw (r_load_cell isAgg3 rfl (lens_cell0 (c:=(cInt .i64)) (y:=t20.1.f_Owner) .z (Lens.comp lw (fun z=>{ t20.1 with f_Owner:=z }) (c_api_Entry_f_Owner t20.1)) rfl)) ?_
    refine gy ?_
    refine fa 18 underlying66 rfl sizeOf3 ?_
    refine gy ?_
    refine aw (r_load_cell isAgg3 rfl (lens_cell0 (c:=(cInt .i64)) (y:=(lget t1 i9).f_Owner) (.s .z) (Lens.comp lw (fun z=>{ lget t1 i9 with f_Owner:=z }) (c_api_Entry_f_Owner (lget t1 i9))) rfl)) ?_
    refine gy ?_
    refine aw xn (aw xp (qn (dz (wq [31,13,12,11,6,4,3] ?_))))
    refine tn ?_
    obtain ⟨h27,hF⟩|⟨h27,hF⟩:=oi hF
    ·refine ct h27 ?_
     refine qr (am ?_)
     refine aw (r_load_aggc (c:=c_api_Entry) (z:=lget t1 i9) isAgg66 sizeOf66 rfl (lens_cell .z lw)) ?_
     refine at_litL (c:=c_api_Entry) ([zv7]:List S_api_Entry) ([lget t1 i9]:List S_api_Entry) underlying54 sizeOf66 zeroValue66 rfl rfl rfl (by kernel_rfl) (fill_step (c:=c_api_Entry) (z:=lget t1 i9) rfl (Lens.all c_api_Entry ([zv7]:List S_api_Entry) 0 (by first | decide | exact Nat.le_of_ble_eq_true rfl)) rfl rfl) rfl ?_
     intro b28
     obtain ⟨h29,hF⟩:=gd hF
     refine at_append (z:=.agg (Cd.cs c_api_Entry zv7).toArray) (c:=c_api_Entry) (ys:=([lget t1 i9]:List S_api_Entry)) (.s (.s .z)) underlying54 infoF866 (by kernel_rfl) (by kernel_rfl) rfl rfl rfl rfl (fun _ hw=>cells_src (hw.ok (Upd.mem .z))) (by kernel_rfl) h29 (app_small h29) rfl ?_
     intro p30 c31
     refine aa (qn (dz (dz (wq [13,12,11,4,3] ?_))))
     refine bm ?_
     refine qr (aw xa (am (nwq [13,12,11,4,3] ?_)))
     exact at_weak_k (ih _ _ _ hF K p30 c31) ⟨rfl,rfl,rfl,rfl,rfl,trivial⟩
    refine cf h27 ?_
    refine at_skip ?_
    refine bm ?_
    refine qr (aw xa (am (qn (dz (wq [13,12,11,4,3] ?_)))))
    refine tn ?_
    exact at_weak_k (ih _ _ _ hF K p10 c11) ⟨rfl,rfl,rfl,rfl,rfl,trivial⟩
   refine cf h14 ?_
   refine at_exit ?_
   refine te (te ?_)
   refine at_drop (H:=_) (.s .z) ?_
   obtain rfl:=os hF
   exact at_weak_k (K p10 c11) ⟨rfl,trivial⟩
 skip
 intro p12 c13
 refine at_blk_same ?_
 refine tn (sr (am (aa (nwq [2] ?_))))
 refine qt ?_
 have K:=os hF
 subst K
 exact r1 (fun w1 hw=>⟨p12,c13,rfl,hw.own .z,hw.below⟩)
end Go.Proofs.Ytahlbjmafceoeaa
namespace Go.Proofs.Ytahlbjmafceoeaa.Agg
open E Go.RowKit Adr Cid
abbrev En:=Tr×Int
def en(e:En):S_api_Entry:={ f_P:=pf e.1,f_Owner:=e.2 }
theorem allE{O:List S_api_Entry}(h:Sorted O):∃ T:List En,(∀ e∈T,Good e.1)∧O=T.map en∧(T.map Prod.fst).Nodup:=by
 have key:∀ O:List S_api_Entry,(∀ x∈O,IsE x)→∃ T:List En,(∀ e∈T,Good e.1)∧O=T.map en:=by
  intro O h
  induction O with
  | nil=>exact ⟨[],fun e h=>(by cases h),rfl⟩
  | cons x O ih =>
   obtain ⟨t,ht,e⟩:=h x (List.mem_cons_self ..)
   obtain ⟨T,h1,h2⟩:=ih fun y hy=>h y (List.mem_cons_of_mem _ hy)
   refine ⟨(t,x.f_Owner)::T,fun u hu=>?_,?_⟩
   ·rcases List.mem_cons.1 hu with rfl | hu
    ·exact ht
    ·exact h1 u hu
   ·rw [List.map_cons,←h2]
    congr 1
    unfold en
    rw [←e]
 obtain ⟨T,h1,h2⟩:=key O h.is
 refine ⟨T,h1,h2,?_⟩
 have hn:=h.nd
 rw [h2,List.map_map] at hn
 have e:S_api_Entry.f_P∘en=pf∘Prod.fst:=rfl
 rw [e,←List.map_map] at hn
 have inj:∀ L:List Tr,(L.map pf).Nodup→L.Nodup:=by
  intro L hL
  induction L with
  | nil=>exact List.nodup_nil
  | cons t L ih =>
   rw [List.map_cons] at hL
   obtain ⟨a,b⟩:=List.nodup_cons.1 hL
   exact List.nodup_cons.2 ⟨fun ht=>a (List.mem_map.2 ⟨t,ht,rfl⟩),ih b⟩
 exact inj _ hn
theorem fst_on{T:List En}(h:(T.map Prod.fst).Nodup){x y:En}(hx:x∈T)(hy:y∈T)(e:x.1=y.1):x=y:=nodup_on h x hx y hy e
def bitsOf(e:En):Nat:=wd e.1.1-e.1.2.2
def better(x:En):Option En→Bool
 | none=>true
 | some y=>decide (bitsOf x>bitsOf y)
def stepB(p:En→Bool)(b:Option En)(x:En):Option En:=if p x=true then (if better x b=true then some x else b) else b
def best(p:En→Bool)(T:List En):Option En:=T.foldl (stepB p) none
theorem stepB_no{p:En→Bool}{b:Option En}{x:En}(h:p x=false):stepB p b x=b:=by unfold stepB;rw [h];rfl
theorem stepB_none{p:En→Bool}{x:En}(h:p x=true):stepB p none x=some x:=by unfold stepB;rw [h];rfl
theorem stepB_gt{p:En→Bool}{x y:En}(h:p x=true)(hb:bitsOf x>bitsOf y):stepB p (some y) x=some x:=by
 unfold stepB
 rw [h,if_pos rfl]
 show (if decide (bitsOf x>bitsOf y)=true then some x else some y)=_
 rw [decide_eq_true hb,if_pos rfl]
theorem stepB_le{p:En→Bool}{x y:En}(h:p x=true)(hb:¬ bitsOf x>bitsOf y):stepB p (some y) x=some y:=by
 unfold stepB
 rw [h,if_pos rfl]
 show (if decide (bitsOf x>bitsOf y)=true then some x else some y)=_
 rw [decide_eq_false hb,if_neg Bool.false_ne_true]
theorem fold_best(p:En→Bool):∀ (T:List En) (b:Option En),(T.foldl (stepB p) b=none↔b=none∧∀ x∈T,p x=false)∧∀ m,T.foldl (stepB p) b=some m→(b=some m∨(m∈T∧p m=true))∧(∀ y,b=some y→bitsOf y≤bitsOf m)∧∀ x∈T,p x=true→bitsOf x≤bitsOf m
 | [],b=>⟨by simp,fun m h=>⟨.inl h,fun y hy=>by rw [List.foldl_nil] at h;rw [h] at hy;cases hy;exact Nat.le_refl _,fun x hx=>by cases hx⟩⟩
 | x::T,b=>by
  obtain ⟨h1,h2⟩:=fold_best p T (stepB p b x)
  rw [List.foldl_cons]
  cases hp:p x with
  | false =>
   have e:stepB p b x=b:=by unfold stepB;rw [hp];rfl
   rw [e] at h1 h2 ⊢
   refine ⟨?_,fun m hm=>?_⟩
   ·rw [h1]
    constructor
    ·rintro ⟨a,c⟩
     refine ⟨a,fun y hy=>?_⟩
     rcases List.mem_cons.1 hy with rfl | hy
     ·exact hp
     ·exact c y hy
    ·rintro ⟨a,c⟩
     exact ⟨a,fun y hy=>c y (List.mem_cons_of_mem _ hy)⟩
   ·obtain ⟨a,c,d⟩:=h2 m hm
    refine ⟨a.elim .inl fun q=>.inr ⟨List.mem_cons_of_mem _ q.1,q.2⟩,c,fun y hy hpy=>?_⟩
    rcases List.mem_cons.1 hy with rfl | hy
    ·rw [hp] at hpy;cases hpy
    ·exact d y hy hpy
  | true =>
   have hs:∃ y,stepB p b x=some y∧(y=x∨b=some y)∧bitsOf x≤bitsOf y∧∀ z,b=some z→bitsOf z≤bitsOf y:=by
    unfold stepB
    rw [hp,if_pos rfl]
    cases b with
    | none=>exact ⟨x,rfl,.inl rfl,Nat.le_refl _,fun z hz=>by cases hz⟩
    | some z =>
     by_cases hb:bitsOf x>bitsOf z
     ·refine ⟨x,?_,.inl rfl,Nat.le_refl _,fun z' hz=>by cases hz;omega⟩
      show (if decide (bitsOf x>bitsOf z)=true then some x else some z)=_
      rw [decide_eq_true hb,if_pos rfl]
     ·refine ⟨z,?_,.inr rfl,by omega,fun z' hz=>by cases hz;exact Nat.le_refl _⟩
      show (if decide (bitsOf x>bitsOf z)=true then some x else some z)=_
      rw [decide_eq_false hb,if_neg Bool.false_ne_true]
   obtain ⟨y,e,hy,hb1,hb2⟩:=hs
   rw [e] at h1 h2 ⊢
   refine ⟨?_,fun m hm=>?_⟩
   ·rw [h1]
    constructor
    ·rintro ⟨a,_⟩;cases a
    ·rintro ⟨_,c⟩
     have:=c x (List.mem_cons_self ..)
     rw [hp] at this;cases this
   ·obtain ⟨a,c,d⟩:=h2 m hm
    have hym:=c y rfl
    refine ⟨?_,fun z hz=>Nat.le_trans (hb2 z hz) hym,fun z hz hpz=>?_⟩
    ·rcases a with a | a
     ·cases a
      rcases hy with rfl | hy
      ·exact .inr ⟨List.mem_cons_self ..,hp⟩
      ·exact .inl hy
     ·exact .inr ⟨List.mem_cons_of_mem _ a.1,a.2⟩
    ·rcases List.mem_cons.1 hz with rfl | hz
     ·exact Nat.le_trans hb1 hym
     ·exact d z hz hpz
theorem best_none{p:En→Bool}{T:List En}:best p T=none↔∀ x∈T,p x=false:=by
 unfold best;rw [(fold_best p T none).1];simp
theorem best_some{p:En→Bool}{T:List En}{m:En}(h:best p T=some m):m∈T∧p m=true∧∀ x∈T,p x=true→bitsOf x≤bitsOf m:=by
 obtain ⟨a,_,c⟩:=(fold_best p T none).2 m h
 rcases a with a | a
 ·cases a
 ·exact ⟨a.1,a.2,c⟩
def zE:S_api_Entry:={ f_P:={ f_A:={ f_V:=(0:Int),f_B:=(Vector.replicate 16 (0:Int):(Vector Int 16)) },f_Bits:=(0:Int) },f_Owner:=(0:Int) }
def outE(b:Option En):S_api_Entry:=match b with | none=>zE | some x=>en x
theorem bits_gt(x y:En):decide ((en x).f_P.f_Bits>(en y).f_P.f_Bits)=decide (bitsOf x>bitsOf y):=by
 rw [decide_eq_decide]
 show ((wd x.1.1-x.1.2.2:Nat):Int)>((wd y.1.1-y.1.2.2:Nat):Int)↔bitsOf x>bitsOf y
 unfold bitsOf;omega
theorem find_loop(a:S_api_Addr)(p:En→Bool)(T:List En)(hn:T.length≤100000)(hp:∀ e∈T,crawlwayref11_Has (pf e.1) a=some (p e)):∀ (B A:List En) (b:Option En),T=A++B →
  crawlwayref25_Find.l0 (T.map en) a b.isSome (A.length:Int) (outE b)=some ((B.foldl (stepB p) b).isSome,outE (B.foldl (stepB p) b))
 | [],A,b,hx=>by
  have hd:decide ((A.length:Int)<((T.map en).length:Int))=false:=decide_eq_false (by rw [hx];simp)
  rw [crawlwayref25_Find.l0.eq_def,hd,if_neg Bool.false_ne_true];rfl
 | x::B,A,b,hx=>by
  have hTl:T.length=A.length+(B.length+1):=by rw [hx];simp
  have hin:(0:Int)≤(A.length:Int)∧(A.length:Int)<((T.map en).length:Int):=by rw [List.length_map];omega
  have hg:lget (T.map en) (A.length:Int)=en x:=by
   rw [hx,List.map_append,List.map_cons]
   have:=lget_mid (A.map en) (en x) (B.map en)
   rwa [List.length_map] at this
  have hwi:wr .i64 ((A.length:Int)+1)=((A++[x]).length:Int):=wr_mid A x (by omega)
  have ih:=fun c=>find_loop a p T hn hp B (A++[x]) c (by rw [hx];simp)
  have hpx:crawlwayref11_Has (en x).f_P a=some (p x):=hp x (by rw [hx];simp)
  rw [crawlwayref25_Find.l0.eq_def,decide_eq_true hin.2,if_pos rfl]
  simp only [if_pos hin,hg,hwi,hpx,bindM_some]
  rw [List.foldl_cons]
  cases hpp:p x with
  | false=>rw [if_neg Bool.false_ne_true,stepB_no hpp];exact ih b
  | true =>
   rw [if_pos rfl]
   cases b with
   | none=>rw [stepB_none hpp];exact ih (some x)
   | some y =>
    show (if (!true)=true then _ else (if decide ((en x).f_P.f_Bits>(en y).f_P.f_Bits)=true then _ else _))=_
    rw [if_neg (by decide),bits_gt]
    by_cases hd:bitsOf x>bitsOf y
    ·rw [decide_eq_true hd,if_pos rfl,stepB_gt hpp hd];exact ih (some x)
    ·rw [decide_eq_false hd,if_neg Bool.false_ne_true,stepB_le hpp hd];exact ih (some y)
theorem find_code(a:S_api_Addr)(p:En→Bool)(T:List En)(hn:T.length≤100000)(hp:∀ e∈T,crawlwayref11_Has (pf e.1) a=some (p e)):crawlwayref25_Find (T.map en) a=some (outE (best p T),(best p T).isSome):=by
 have:=find_loop a p T hn hp T [] none rfl
 unfold crawlwayref25_Find
 show (crawlwayref25_Find.l0 (T.map en) a (none:Option En).isSome (([]:List En).length:Int) (outE none)>>=_)=_
 rw [this];rfl
def pa(x e:En):Bool:=!decide (e.1=x.1)&&decide (cont e.1 x.1)
theorem pf_eq{x e:En}(hx:Good x.1)(he:Good e.1):decide ((en e).f_P=(en x).f_P)=decide (e.1=x.1):=by
 rw [decide_eq_decide]
 exact ⟨fun h=>pf_inj he hx h,fun h=>congrArg pf h⟩
theorem above_loop(x:En)(hx0:Good x.1)(T:List En)(hn:T.length≤100000)(hT:∀ e∈T,Good e.1):∀ (B A:List En) (b:Option En),T=A++B →
  flat_above.l0 (T.map en) (en x) b.isSome (A.length:Int) (outE b)=some ((B.foldl (stepB (pa x)) b).isSome,outE (B.foldl (stepB (pa x)) b))
 | [],A,b,hx=>by
  have hd:decide ((A.length:Int)<((T.map en).length:Int))=false:=decide_eq_false (by rw [hx];simp)
  rw [flat_above.l0.eq_def,hd,if_neg Bool.false_ne_true];rfl
 | e::B,A,b,hx=>by
  have hTl:T.length=A.length+(B.length+1):=by rw [hx];simp
  have hin:(0:Int)≤(A.length:Int)∧(A.length:Int)<((T.map en).length:Int):=by rw [List.length_map];omega
  have hg:lget (T.map en) (A.length:Int)=en e:=by
   rw [hx,List.map_append,List.map_cons]
   have:=lget_mid (A.map en) (en e) (B.map en)
   rwa [List.length_map] at this
  have hwi:wr .i64 ((A.length:Int)+1)=((A++[e]).length:Int):=wr_mid A e (by omega)
  have ih:=fun c=>above_loop x hx0 T hn hT B (A++[e]) c (by rw [hx];simp)
  have he:=hT e (by rw [hx];simp)
  have hc:cidr_Covers (en e).f_P (en x).f_P=some (decide (cont e.1 x.1)):=(cov_pf he hx0).1
  rw [flat_above.l0.eq_def,decide_eq_true hin.2,if_pos rfl]
  simp only [if_pos hin,hg,hwi,hc,bindM_some,pf_eq hx0 he]
  rw [List.foldl_cons]
  have hpa:pa x e=(!decide (e.1=x.1)&&decide (cont e.1 x.1)):=rfl
  cases h1:decide (e.1=x.1) with
  | true =>
   rw [h1,Bool.not_true,Bool.false_and] at hpa
   rw [if_neg (by decide),stepB_no hpa];exact ih b
  | false =>
   rw [h1,Bool.not_false,Bool.true_and] at hpa
   rw [if_pos (by decide)]
   cases h2:decide (cont e.1 x.1) with
   | false=>rw [h2] at hpa;rw [if_neg Bool.false_ne_true,stepB_no hpa];exact ih b
   | true =>
    rw [h2] at hpa
    rw [if_pos rfl]
    cases b with
    | none=>rw [stepB_none hpa];exact ih (some e)
    | some y =>
     show (if (!true)=true then _ else (if decide ((en e).f_P.f_Bits>(en y).f_P.f_Bits)=true then _ else _))=_
     rw [if_neg (by decide),bits_gt]
     by_cases hd:bitsOf e>bitsOf y
     ·rw [decide_eq_true hd,if_pos rfl,stepB_gt hpa hd];exact ih (some e)
     ·rw [decide_eq_false hd,if_neg Bool.false_ne_true,stepB_le hpa hd];exact ih (some y)
theorem above_code(x:En)(hx0:Good x.1)(T:List En)(hn:T.length≤100000)(hT:∀ e∈T,Good e.1):flat_above (T.map en) (en x)=some (outE (best (pa x) T),(best (pa x) T).isSome):=by
 have:=above_loop x hx0 T hn hT T [] none rfl
 unfold flat_above
 show (flat_above.l0 (T.map en) (en x) (none:Option En).isSome (([]:List En).length:Int) (outE none)>>=_)=_
 rw [this];rfl
def keepT(T:List En)(x:En):Bool:=match best (pa x) T with | none=>true | some y=>y.2 != x.2
def thinT(T:List En):List En:=T.filter (keepT T)
theorem thin_loop(T:List En)(hn:T.length≤100000)(hT:∀ e∈T,Good e.1):∀ (B A:List En) (out:List S_api_Entry),T=A++B→out.length≤A.length →
  flat_Thin.l0 (T.map en) out (A.length:Int)=some (out++(B.filter (keepT T)).map en)
 | [],A,out,hx,ho=>by
  have hd:decide ((A.length:Int)<((T.map en).length:Int))=false:=decide_eq_false (by rw [hx];simp)
  rw [flat_Thin.l0.eq_def,hd,if_neg Bool.false_ne_true]
  show some out=some (out++[])
  rw [List.append_nil]
 | e::B,A,out,hx,ho=>by
  have hTl:T.length=A.length+(B.length+1):=by rw [hx];simp
  have hin:(0:Int)≤(A.length:Int)∧(A.length:Int)<((T.map en).length:Int):=by rw [List.length_map];omega
  have hg:lget (T.map en) (A.length:Int)=en e:=by
   rw [hx,List.map_append,List.map_cons]
   have:=lget_mid (A.map en) (en e) (B.map en)
   rwa [List.length_map] at this
  have hwi:wr .i64 ((A.length:Int)+1)=((A++[e]).length:Int):=wr_mid A e (by omega)
  have hA1:(A++[e]).length=A.length+1:=by simp
  have ih:=fun o (h:o.length≤A.length+1)=>thin_loop T hn hT B (A++[e]) o (by rw [hx];simp) (by omega)
  have he:=hT e (by rw [hx];simp)
  rw [flat_Thin.l0.eq_def,decide_eq_true hin.2,if_pos rfl,if_pos hin,hg,hwi,above_code e he T hn hT,bindM_some]
  have hg2:(out.length+1)*40≤140737488355328:=by omega
  have hyes:(if (out.length+1)*40≤140737488355328 then flat_Thin.l0 (T.map en) (out++[en e]) ((A++[e]).length:Int) else none)=some (out++(en e::(B.filter (keepT T)).map en)):=by
   rw [if_pos hg2,ih (out++[en e]) (by simp;omega),List.append_assoc];rfl
  cases hk:keepT T e with
  | true =>
   rw [List.filter_cons_of_pos hk,List.map_cons,hyes]
   unfold keepT at hk
   cases hb:best (pa e) T with
   | none=>rfl
   | some y =>
    rw [hb] at hk
    have hk:(y.2 != e.2)=true:=hk
    show (if (!true)=true then _ else (if (y.2 != e.2)=true then _ else _))=_
    rw [if_neg (by decide),if_pos hk]
  | false =>
   rw [List.filter_cons_of_neg (by rw [hk];decide),hyes]
   unfold keepT at hk
   cases hb:best (pa e) T with
   | none=>rw [hb] at hk;cases hk
   | some y =>
    rw [hb] at hk
    have hk:(y.2 != e.2)=false:=hk
    show (if (!true)=true then _ else (if (y.2 != e.2)=true then _ else _))=_
    rw [if_neg (by decide),hk,if_neg Bool.false_ne_true]
    exact ih out (by omega)
theorem flatThin_code(l:List S_api_Entry)(T:List En)(hn:T.length≤100000)(hT:∀ e∈T,Good e.1)(h:flat_Own l=some (T.map en)):flat_Thin l=some ((thinT T).map en):=by
 unfold flat_Thin
 have:=thin_loop T hn hT T [] [] rfl (Nat.le_refl _)
 rw [h,bindM_some]
 show (flat_Thin.l0 (T.map en) [] (([]:List En).length:Int)>>=_)=_
 rw [this];rfl
theorem spare_loop(T:List En)(hn:T.length≤100000)(hT:∀ e∈T,Good e.1)(hnd:(T.map Prod.fst).Nodup)(at_:Nat)(x:En)(hat:at_<T.length)(hx:T[at_]? = some x):∀ (B A:List En) (b:Option En) (j:Int),T=A++B→(match b with | none=>j = -1 | some y=>0≤j∧j<(T.length:Int)∧lget (T.map en) j=en y) →
  ∃ j',crawlwayref59_spare.l0 (T.map en) (at_:Int) j (A.length:Int)=some j'∧(match B.foldl (stepB (pa x)) b with | none=>j' = -1 | some y=>0≤j'∧j'<(T.length:Int)∧lget (T.map en) j'=en y)
 | [],A,b,j,hx,hj=>by
  have hd:decide ((A.length:Int)<((T.map en).length:Int))=false:=decide_eq_false (by rw [hx];simp)
  refine ⟨j,?_,hj⟩
  rw [crawlwayref59_spare.l0.eq_def,hd,if_neg Bool.false_ne_true]
 | e::B,A,b,j,hxx,hj=>by
  have hTl:T.length=A.length+(B.length+1):=by rw [hxx];simp
  have hml:(T.map en).length=T.length:=List.length_map ..
  have hin:(0:Int)≤(A.length:Int)∧(A.length:Int)<((T.map en).length:Int):=by omega
  have hin2:(0:Int)≤(at_:Int)∧(at_:Int)<((T.map en).length:Int):=by omega
  have hg:lget (T.map en) (A.length:Int)=en e:=by
   rw [hxx,List.map_append,List.map_cons]
   have:=lget_mid (A.map en) (en e) (B.map en)
   rwa [List.length_map] at this
  have hg2:lget (T.map en) (at_:Int)=en x:=by
   unfold lget
   rw [Int.toNat_natCast,List.getD_eq_getElem?_getD,List.getElem?_map,hx];rfl
  have hwi:wr .i64 ((A.length:Int)+1)=((A++[e]).length:Int):=wr_mid A e (by omega)
  have ih:=fun c j (hj:match c with | none=>j = -1 | some y=>0≤j∧j<(T.length:Int)∧lget (T.map en) j=en y)=>spare_loop T hn hT hnd at_ x hat hx B (A++[e]) c j (by rw [hxx];simp) hj
  have hem:e∈T:=by rw [hxx];simp
  have hxm:x∈T:=List.mem_of_getElem? hx
  have hc:crawlwayref11_Covers (en e).f_P (en x).f_P=some (decide (cont e.1 x.1)):=(cov_pf (hT e hem) (hT x hxm)).2
  have hsame:((A.length:Int) != (at_:Int))=!decide (e.1=x.1):=by
   have hAe:T[A.length]? = some e:=by rw [hxx];simp
   rw [Bool.eq_iff_iff,bne_iff_ne,Bool.not_eq_true',decide_eq_false_iff_not]
   constructor
   ·intro h ee
    apply h
    have e1:(T.map Prod.fst)[A.length]? = some e.1:=by rw [List.getElem?_map,hAe];rfl
    have e2:(T.map Prod.fst)[at_]? = some x.1:=by rw [List.getElem?_map,hx];rfl
    have:=(List.getElem?_inj (by rw [List.length_map];omega) hnd).1 (show (T.map Prod.fst)[A.length]? = (T.map Prod.fst)[at_]? by rw [e1,e2,ee])
    omega
   ·intro h ee
    apply h
    have:A.length=at_:=by omega
    rw [this,hx] at hAe
    rw [Option.some.inj hAe]
  rw [crawlwayref59_spare.l0.eq_def,decide_eq_true hin.2,if_pos rfl,hsame,List.foldl_cons]
  simp only [if_pos hin,if_pos hin2,hg,hg2,hwi,hc,bindM_some]
  have hpa:pa x e=(!decide (e.1=x.1)&&decide (cont e.1 x.1)):=rfl
  cases h1:decide (e.1=x.1) with
  | true =>
   rw [h1,Bool.not_true,Bool.false_and] at hpa
   rw [Bool.not_true,if_neg Bool.false_ne_true,stepB_no hpa];exact ih b j hj
  | false =>
   rw [h1,Bool.not_false,Bool.true_and] at hpa
   rw [Bool.not_false,if_pos rfl]
   cases h2:decide (cont e.1 x.1) with
   | false=>rw [h2] at hpa;rw [if_neg Bool.false_ne_true,stepB_no hpa];exact ih b j hj
   | true =>
    rw [h2] at hpa
    rw [if_pos rfl]
    have hme:0≤(A.length:Int)∧(A.length:Int)<(T.length:Int)∧lget (T.map en) (A.length:Int)=en e:=⟨by omega,by omega,hg⟩
    cases b with
    | none =>
     have hj:j = -1:=hj
     rw [hj,if_pos (by decide),stepB_none hpa]
     exact ih (some e) _ hme
    | some y =>
     obtain ⟨j1,j2,j3⟩:0≤j∧j<(T.length:Int)∧lget (T.map en) j=en y:=hj
     rw [decide_eq_false (show ¬ j<0 by omega),if_neg Bool.false_ne_true,if_pos (show 0≤j∧j<((T.map en).length:Int) by omega),j3,bits_gt]
     by_cases hd:bitsOf e>bitsOf y
     ·rw [decide_eq_true hd,if_pos rfl,stepB_gt hpa hd];exact ih (some e) _ hme
     ·rw [decide_eq_false hd,if_neg Bool.false_ne_true,stepB_le hpa hd];exact ih (some y) j ⟨j1,j2,j3⟩
theorem spare_code(T:List En)(hn:T.length≤100000)(hT:∀ e∈T,Good e.1)(hnd:(T.map Prod.fst).Nodup)(at_:Nat)(x:En)(hat:at_<T.length)(hx:T[at_]? = some x):crawlwayref59_spare (T.map en) (at_:Int)=some (!keepT T x):=by
 have hml:(T.map en).length=T.length:=List.length_map ..
 have hg2:lget (T.map en) (at_:Int)=en x:=by
  unfold lget
  rw [Int.toNat_natCast,List.getD_eq_getElem?_getD,List.getElem?_map,hx];rfl
 obtain ⟨j,h1,h2⟩:=spare_loop T hn hT hnd at_ x hat hx T [] none (-1) rfl rfl
 unfold crawlwayref59_spare
 show (crawlwayref59_spare.l0 (T.map en) (at_:Int) (-1) (([]:List En).length:Int)>>=_)=_
 rw [h1,bindM_some]
 unfold keepT
 have e:T.foldl (stepB (pa x)) none=best (pa x) T:=rfl
 rw [e] at h2
 cases hb:best (pa x) T with
 | none =>
  rw [hb] at h2
  have h2:j = -1:=h2
  rw [h2];rfl
 | some y =>
  rw [hb] at h2
  obtain ⟨j1,j2,j3⟩:0≤j∧j<(T.length:Int)∧lget (T.map en) j=en y:=h2
  rw [decide_eq_true (show j≥0 by omega),if_pos rfl,if_pos (by omega),if_pos (by omega),j3,hg2]
  show some (y.2==x.2)=some (!(!(y.2==x.2)))
  rw [Bool.not_not]
theorem refThin_loop(T:List En)(hn:T.length≤100000)(hT:∀ e∈T,Good e.1)(hnd:(T.map Prod.fst).Nodup):∀ (B A:List En) (out:List S_api_Entry),T=A++B→out.length≤A.length →
  crawlwayref59_Thin.l0 (T.map en) out (A.length:Int)=some (out++(B.filter (keepT T)).map en)
 | [],A,out,hx,ho=>by
  have hd:decide ((A.length:Int)<((T.map en).length:Int))=false:=decide_eq_false (by rw [hx];simp)
  rw [crawlwayref59_Thin.l0.eq_def,hd,if_neg Bool.false_ne_true]
  show some out=some (out++[])
  rw [List.append_nil]
 | e::B,A,out,hx,ho=>by
  have hTl:T.length=A.length+(B.length+1):=by rw [hx];simp
  have hin:(0:Int)≤(A.length:Int)∧(A.length:Int)<((T.map en).length:Int):=by rw [List.length_map];omega
  have hg:lget (T.map en) (A.length:Int)=en e:=by
   rw [hx,List.map_append,List.map_cons]
   have:=lget_mid (A.map en) (en e) (B.map en)
   rwa [List.length_map] at this
  have hwi:wr .i64 ((A.length:Int)+1)=((A++[e]).length:Int):=wr_mid A e (by omega)
  have hA1:(A++[e]).length=A.length+1:=by simp
  have ih:=fun o (h:o.length≤A.length+1)=>refThin_loop T hn hT hnd B (A++[e]) o (by rw [hx];simp) (by omega)
  have hAe:T[A.length]? = some e:=by rw [hx];simp
  rw [crawlwayref59_Thin.l0.eq_def,decide_eq_true hin.2,if_pos rfl,spare_code T hn hT hnd A.length e (by omega) hAe,bindM_some,if_pos hin,hg,hwi]
  cases hk:keepT T e with
  | true =>
   rw [if_pos (by decide),List.filter_cons_of_pos hk,List.map_cons,if_pos (by omega),ih (out++[en e]) (by simp;omega),List.append_assoc];rfl
  | false =>
   rw [if_neg (by decide),List.filter_cons_of_neg (by rw [hk];decide)]
   exact ih out (by omega)
theorem refThin_code(l:List S_api_Entry)(T:List En)(hn:T.length≤100000)(hT:∀ e∈T,Good e.1)(hnd:(T.map Prod.fst).Nodup)(h:crawlwayref59_Own l=some (T.map en)):crawlwayref59_Thin l=some ((thinT T).map en):=by
 unfold crawlwayref59_Thin
 have:=refThin_loop T hn hT hnd T [] [] rfl (Nat.le_refl _)
 rw [h,bindM_some]
 show (crawlwayref59_Thin.l0 (T.map en) [] (([]:List En).length:Int)>>=_)=_
 rw [this];rfl
end Go.Proofs.Ytahlbjmafceoeaa.Agg
namespace Go.Proofs.Ytahlbjmafceoeaa.Agg
open E Go.RowKit Adr Cid
def inP(V:Int)(a:Nat)(t:Tr):Prop:=V=t.1∧t.2.1≤a∧a≤endT t
instance inPDec (V:Int) (a:Nat) (t:Tr):Decidable (inP V a t):=inferInstanceAs (Decidable (_∧_))
theorem nest{t u:Tr}(ht:Good t)(hu:Good u)(h1:u.1=t.1)(hk:u.2.2≤t.2.2){p:Nat}(ht1:t.2.1≤p)(ht2:p≤endT t)(hu1:u.2.1≤p)(hu2:p≤endT u):cont t u∧endT u≤endT t:=by
 obtain ⟨V,N,k⟩:=t
 obtain ⟨W,M,j⟩:=u
 unfold endT at *
 unfold cont endT
 simp only at *
 have hd1:2 ^ k ∣ N:=ht.dvd
 have hd2:2 ^ j ∣ M:=hu.dvd
 have hp1:0<2 ^ k:=Nat.pow_pos (by omega)
 have hp2:0<2 ^ j:=Nat.pow_pos (by omega)
 have hjk:2 ^ j ∣ 2 ^ k:=Nat.pow_dvd_pow 2 hk
 have hd3:2 ^ j ∣ N:=Nat.dvd_trans hjk hd1
 obtain ⟨a,rfl⟩:=hd2
 obtain ⟨b,rfl⟩:=hd3
 obtain ⟨c,hc⟩:=hjk
 generalize 2 ^ j=q at *
 have hab:b≤a:=by
  rcases Nat.lt_or_ge a b with h | h
  ·have:=Nat.mul_le_mul_left q (show a+1≤b from h)
   rw [Nat.mul_add,Nat.mul_one] at this
   omega
  ·exact h
 have hac:a<b+c:=by
  rcases Nat.lt_or_ge a (b+c) with h | h
  ·exact h
  ·have:=Nat.mul_le_mul_left q h
   rw [Nat.mul_add,←hc] at this
   omega
 have h3:=Nat.mul_le_mul_left q hab
 have h4:=Nat.mul_le_mul_left q (show a+1≤b+c from hac)
 rw [Nat.mul_add,Nat.mul_add,Nat.mul_one,←hc] at h4
 exact ⟨⟨h1,hk,h3,by omega⟩,by omega⟩
theorem cont_end{t u:Tr}(ht:Good t)(hu:Good u)(h:cont t u):endT u≤endT t:=(nest ht hu h.1 h.2.1 h.2.2.1 h.2.2.2 (Nat.le_refl _) (le_endT u)).2
theorem cont_refl(t:Tr):cont t t:=⟨rfl,Nat.le_refl _,Nat.le_refl _,le_endT t⟩
theorem cont_trans{t u v:Tr}(ht:Good t)(hu:Good u)(h1:cont t u)(h2:cont u v):cont t v :=
 ⟨h2.1.trans h1.1,Nat.le_trans h2.2.1 h1.2.1,Nat.le_trans h1.2.2.1 h2.2.2.1,Nat.le_trans h2.2.2.2 (cont_end ht hu h1)⟩
theorem cont_same{t u:Tr}(ht:Good t)(hu:Good u)(h:cont t u)(hk:t.2.2≤u.2.2):t=u:=by
 have h2:=(nest hu ht h.1.symm hk (Nat.le_refl _) (le_endT u) h.2.2.1 h.2.2.2).1
 obtain ⟨V,N,k⟩:=t
 obtain ⟨W,M,j⟩:=u
 obtain ⟨a1,a2,a3,a4⟩:=h
 obtain ⟨b1,b2,b3,b4⟩:=h2
 simp only at *
 have e1:V=W:=b1
 have e2:N=M:=Nat.le_antisymm a3 b3
 have e3:k=j:=Nat.le_antisymm hk a2
 rw [e1,e2,e3]
theorem bits_k{x y:En}(hx:Good x.1)(hy:Good y.1)(h:x.1.1=y.1.1):bitsOf x≤bitsOf y↔y.1.2.2≤x.1.2.2:=by
 have h1:=hx.le
 have h2:=hy.le
 unfold bitsOf
 rw [h] at h1 ⊢
 omega
theorem same_of{T:List En}(hT:∀ e∈T,Good e.1)(hnd:(T.map Prod.fst).Nodup){x y:En}(hx:x∈T)(hy:y∈T){V:Int}{a:Nat}(h1:inP V a x.1)(h2:inP V a y.1)(hb:bitsOf x=bitsOf y):x=y:=by
 have hV:x.1.1=y.1.1:=h1.1.symm.trans h2.1
 have k1:=(bits_k (hT x hx) (hT y hy) hV).1 (by omega)
 have k2:=(bits_k (hT y hy) (hT x hx) hV.symm).1 (by omega)
 have hc:=(nest (hT x hx) (hT y hy) hV.symm k1 h1.2.1 h1.2.2 h2.2.1 h2.2.2).1
 exact fst_on hnd hx hy (cont_same (hT x hx) (hT y hy) hc k2)
theorem cont_of{T:List En}(hT:∀ e∈T,Good e.1){x y:En}(hx:x∈T)(hy:y∈T){V:Int}{a:Nat}(h1:inP V a x.1)(h2:inP V a y.1)(hb:bitsOf x≤bitsOf y):cont x.1 y.1:=by
 have hV:x.1.1=y.1.1:=h1.1.symm.trans h2.1
 exact (nest (hT x hx) (hT y hy) hV.symm ((bits_k (hT x hx) (hT y hy) hV).1 hb) h1.2.1 h1.2.2 h2.2.1 h2.2.2).1
theorem inP_of{t u:Tr}(ht:Good t)(hu:Good u)(h:cont t u){V:Int}{a:Nat}(hu2:inP V a u):inP V a t :=
 ⟨hu2.1.trans h.1,Nat.le_trans h.2.2.1 hu2.2.1,Nat.le_trans hu2.2.2 (cont_end ht hu h)⟩
theorem inP_start(t:Tr):inP t.1 t.2.1 t:=⟨rfl,Nat.le_refl _,le_endT t⟩
theorem pa_iff{x e:En}:pa x e=true↔e.1≠x.1∧cont e.1 x.1:=by
 unfold pa
 rw [Bool.and_eq_true,Bool.not_eq_true',decide_eq_false_iff_not,decide_eq_true_iff]
theorem mem_thin{T:List En}{x:En}:x∈thinT T↔x∈T∧keepT T x=true:=by unfold thinT;rw [List.mem_filter]
theorem chain{T:List En}(hT:∀ e∈T,Good e.1)(hnd:(T.map Prod.fst).Nodup):∀ (n:Nat) (e:En),e∈T→bitsOf e=n→∃ z,z∈thinT T∧cont z.1 e.1∧z.2=e.2∧∀ w∈thinT T,cont w.1 e.1→bitsOf w≤bitsOf z:=by
 intro n
 induction n using Nat.strongRecOn with
 | ind n ih =>
  intro e he hn
  cases hk:keepT T e with
  | true =>
   refine ⟨e,mem_thin.2 ⟨he,hk⟩,cont_refl _,rfl,fun w hw hc=>?_⟩
   exact (bits_k (hT w (mem_thin.1 hw).1) (hT e he) hc.1.symm).2 hc.2.1
  | false =>
   have hk0:=hk
   unfold keepT at hk
   cases hb:best (pa e) T with
   | none=>rw [hb] at hk;cases hk
   | some x =>
    rw [hb] at hk
    have hown:x.2=e.2:=by
     have:(x.2 != e.2)=false:=hk
     simpa using this
    obtain ⟨hx,hpx,hmax⟩:=best_some hb
    obtain ⟨hne,hc⟩:=pa_iff.1 hpx
    have hlt:bitsOf x<bitsOf e:=by
     have h1:=(bits_k (hT x hx) (hT e he) hc.1.symm).2 hc.2.1
     rcases Nat.lt_or_ge (bitsOf x) (bitsOf e) with h | h
     ·exact h
     ·have:=(bits_k (hT e he) (hT x hx) hc.1).1 h
      exact absurd (cont_same (hT x hx) (hT e he) hc this) hne
    obtain ⟨z,z1,z2,z3,z4⟩:=ih (bitsOf x) (by omega) x hx rfl
    refine ⟨z,z1,cont_trans (hT z (mem_thin.1 z1).1) (hT x hx) z2 hc,z3.trans hown,fun w hw hwc=>?_⟩
    have hwT:=(mem_thin.1 hw).1
    have hwe:w.1≠e.1:=fun ee=>by
     have:=fst_on hnd hwT he ee
     rw [this] at hw
     rw [(mem_thin.1 hw).2] at hk0
     cases hk0
    have hwx:=hmax w hwT (pa_iff.2 ⟨hwe,hwc⟩)
    exact z4 w hw (cont_of hT hwT hx (inP_of (hT w hwT) (hT e he) hwc (inP_start _)) (inP_of (hT x hx) (hT e he) hc (inP_start _)) hwx)
theorem thin_good{T:List En}(hT:∀ e∈T,Good e.1):∀ e∈thinT T,Good e.1:=fun e he=>hT e (mem_thin.1 he).1
theorem find_thin{T:List En}(hT:∀ e∈T,Good e.1)(hnd:(T.map Prod.fst).Nodup){p:En→Bool}{V:Int}{a:Nat}(hp:∀ e∈T,p e=decide (inP V a e.1)):(best p (thinT T)).isSome=(best p T).isSome∧(outE (best p (thinT T))).f_Owner=(outE (best p T)).f_Owner:=by
 have hpi:∀ e∈T,p e=true→inP V a e.1:=fun e he h=>by rw [hp e he] at h;exact of_decide_eq_true h
 cases hb:best p T with
 | none =>
  have h1:=best_none.1 hb
  have h2:best p (thinT T)=none:=best_none.2 fun x hx=>h1 x (mem_thin.1 hx).1
  rw [h2];exact ⟨rfl,rfl⟩
 | some m =>
  obtain ⟨m1,m2,m3⟩:=best_some hb
  have ma:=hpi m m1 m2
  obtain ⟨z,z1,z2,z3,z4⟩:=chain hT hnd _ m m1 rfl
  have zT:=(mem_thin.1 z1).1
  have za:=inP_of (hT z zT) (hT m m1) z2 ma
  have hpz:p z=true:=by rw [hp z zT];exact decide_eq_true za
  cases hb2:best p (thinT T) with
  | none =>
   have:=best_none.1 hb2 z z1
   rw [hpz] at this;cases this
  | some y =>
   obtain ⟨y1,y2,y3⟩:=best_some hb2
   have yT:=(mem_thin.1 y1).1
   have ya:=hpi y yT y2
   have hzy:=y3 z z1 hpz
   have hyz:=z4 y y1 (cont_of hT yT m1 ya ma (m3 y yT y2))
   have:y=z:=same_of hT hnd yT zT ya za (by omega)
   subst this
   exact ⟨rfl,z3⟩
theorem thin_thin{T:List En}(hT:∀ e∈T,Good e.1)(hnd:(T.map Prod.fst).Nodup):thinT (thinT T)=thinT T:=by
 refine List.filter_eq_self.2 fun e he=>?_
 obtain ⟨eT,ek⟩:=mem_thin.1 he
 have eG:=hT e eT
 unfold keepT
 cases hb:best (pa e) (thinT T) with
 | none=>rfl
 | some y =>
  show (y.2 != e.2)=true
  obtain ⟨y1,y2,y3⟩:=best_some hb
  have yT:=(mem_thin.1 y1).1
  obtain ⟨yne,yc⟩:=pa_iff.1 y2
  unfold keepT at ek
  cases hb2:best (pa e) T with
  | none =>
   have:=best_none.1 hb2 y yT
   rw [y2] at this;cases this
  | some x =>
   rw [hb2] at ek
   have hxo:(x.2 != e.2)=true:=ek
   obtain ⟨x1,x2,x3⟩:=best_some hb2
   obtain ⟨xne,xc⟩:=pa_iff.1 x2
   obtain ⟨z,z1,z2,z3,z4⟩:=chain hT hnd _ x x1 rfl
   have zT:=(mem_thin.1 z1).1
   have zc:=cont_trans (hT z zT) (hT x x1) z2 xc
   have zne:z.1≠e.1:=fun ee=>by
    rw [ee] at z2
    exact xne (cont_same (hT x x1) eG xc z2.2.1)
   have hzy:=y3 z z1 (pa_iff.2 ⟨zne,zc⟩)
   have hyx:=x3 y yT y2
   have ya:=inP_of (hT y yT) eG yc (inP_start _)
   have xa:=inP_of (hT x x1) eG xc (inP_start _)
   have za:=inP_of (hT z zT) eG zc (inP_start _)
   have hyz:=z4 y y1 (cont_of hT yT x1 ya xa hyx)
   have:y=z:=same_of hT hnd yT zT ya za (by omega)
   subst this
   rw [z3];exact hxo
end Go.Proofs.Ytahlbjmafceoeaa.Agg
namespace Go.Proofs.Ytahlbjmafceoeaa.Agg
open E Go.RowKit Adr Cid
theorem prev_loop(V:Int):∀ (i n:Nat) (tl:List UInt8),tl.length=16-i→i≤16→n<256 ^ i →
  ∃ z,flat_previous.l0 ((i:Int)-1) (mkA V (digs i n++tl))=some (if 0<n then .ret (mkA V (digs i (n-1)++tl),true) else .nx z)
 | 0,n,tl,ht,hi,hn=>by
  have hd:decide (((0:Nat):Int)-1≥0)=false:=by decide
  have:n=0:=by simpa using hn
  refine ⟨mkA V (digs 0 n++tl),?_⟩
  rw [flat_previous.l0.eq_def,hd,if_neg Bool.false_ne_true,if_neg (by omega)]
 | i+1,n,tl,ht,hi,hn=>by
  have e1:(((i+1:Nat):Int)-1)=(i:Int):=by omega
  have hd:decide ((i:Int)≥0)=true:=decide_eq_true (by omega)
  have hg:(0:Int)≤(i:Int)∧(i:Int)<16:=by omega
  have hp:digs (i+1) n++tl=digs i (n/256)++UInt8.ofNat (n%256)::tl:=by rw [digs,List.append_assoc];rfl
  have hpl:(digs i (n/256)).length=i:=digs_length _ _
  have hl:(digs i (n/256)++UInt8.ofNat (n%256)::tl).length=16:=by rw [List.length_append,List.length_cons,hpl,ht];omega
  have hx:(UInt8.ofNat (n%256)).toNat=n%256:=ofNat_toNat (Nat.mod_lt _ (by omega))
  have hbg:bg (digs i (n/256)++UInt8.ofNat (n%256)::tl) i=n%256:=by
   have:=bg_mid (digs i (n/256)) (UInt8.ofNat (n%256)) tl
   rw [hpl,hx] at this;exact this
  have hset:∀ y,(digs i (n/256)++UInt8.ofNat (n%256)::tl).set i y=digs i (n/256)++y::tl:=fun y=>by
   have:=set_mid (digs i (n/256)) (UInt8.ofNat (n%256)) y tl
   rw [hpl] at this;exact this
  have hwi:wr .i64 ((i:Int)-1)=(i:Int)-1:=wr_i64 (by omega) (by omega)
  rw [Nat.pow_succ] at hn
  rw [e1,hp,flat_previous.l0.eq_def,hd,if_pos rfl,if_pos hg,if_pos hg,if_pos hg,get_mkA hl i (by omega),hbg,hwi]
  by_cases h0:n%256=0
  ·have hw:wr .u8 (((n%256:Nat):Int)-1)=(((255:UInt8).toNat:Nat):Int):=by rw [h0];rfl
   have hl2:(digs i (n/256)++255::tl).length=16:=by rw [List.length_append,List.length_cons,hpl,ht];omega
   have hb0:bg (digs i (n/256)++255::tl) i=255:=by
    have:=bg_mid (digs i (n/256)) 255 tl
    rw [hpl] at this;exact this
   rw [hw,set_mkA hl,hset,get_mkA hl2 i (by omega),hb0,if_neg (by decide)]
   obtain ⟨z,h⟩:=prev_loop V i (n/256) (255::tl) (by rw [List.length_cons,ht];omega) (by omega) (by omega)
   refine ⟨z,?_⟩
   rw [h]
   by_cases h2:0<n/256
   ·rw [if_pos h2,if_pos (by omega)]
    have hd1:digs (i+1) (n-1)++tl=digs i (n/256-1)++255::tl:=by
     rw [digs,show (n-1)/256=n/256-1 by omega,show (n-1)%256=255 by omega,List.append_assoc];rfl
    rw [hd1]
   ·rw [if_neg h2,if_neg (by omega)]
  ·have hw:wr .u8 (((n%256:Nat):Int)-1)=(((UInt8.ofNat (n%256-1)).toNat:Nat):Int):=by
    rw [ofNat_toNat (by omega),wr_u8 (by omega) (by omega)];omega
   have hl2:(digs i (n/256)++UInt8.ofNat (n%256-1)::tl).length=16:=by rw [List.length_append,List.length_cons,hpl,ht];omega
   have hb0:bg (digs i (n/256)++UInt8.ofNat (n%256-1)::tl) i=n%256-1:=by
    have:=bg_mid (digs i (n/256)) (UInt8.ofNat (n%256-1)) tl
    rw [hpl,ofNat_toNat (by omega)] at this;exact this
   have hne:(((n%256-1:Nat):Int) != (255:Int))=true:=by rw [bne_iff_ne];omega
   refine ⟨mkA V [],?_⟩
   rw [hw,set_mkA hl,hset,get_mkA hl2 i (by omega),hb0,hne,if_pos rfl,if_pos (by omega)]
   have hd1:digs (i+1) (n-1)++tl=digs i (n/256)++UInt8.ofNat (n%256-1)::tl:=by
    rw [digs,show (n-1)/256=n/256 by omega,show (n-1)%256=n%256-1 by omega,List.append_assoc];rfl
   rw [hd1]
theorem prev_adr{V:Int}(hf:fam V){N:Nat}(hN:N<2 ^ wd V):∃ z,flat_previous (adr V N)=some (if 0<N then (adr V (N-1),true) else (z,false)):=by
 have w1:=(adr_width hf N).1
 have hi:wr .i64 ((ishr .i64 (wd V:Int) 3)-1)=(wb V:Int)-1:=by
  have e:=ishr_nat .i64 (wd V) 3 (by decide)
  rw [show ((3:Nat):Int)=3 from rfl] at e
  rw [e,wd_wb,show (8*wb V)/2 ^ 3=wb V by omega]
  exact wr_i64 (by have:=wb_le V;omega) (by have:=wb_le V;omega)
 obtain ⟨z,l1⟩:=prev_loop V (wb V) N (List.replicate (16-wb V) 0) (by rw [List.length_replicate]) (wb_le V) (by rw [pow_wb];exact hN)
 refine ⟨z,?_⟩
 unfold flat_previous
 rw [w1,bindM_some,hi]
 unfold adr bt
 rw [l1,bindM_some]
 by_cases h:0<N
 ·rw [if_pos h,if_pos h]
 ·rw [if_neg h,if_neg h]
abbrev Sn:=Rg×Int
def sN(s:Sn):S_flat_Span:={ f_Range:=toR s.1,f_Owner:=s.2 }
def addS:List Sn→Sn→List Sn
 | [],s=>[s]
 | q::rest,s=>if q.2=s.2∧q.1.1=s.1.1∧q.1.2.2+1=s.1.2.1 then ((q.1.1,q.1.2.1,s.1.2.2),q.2)::rest else s::q::rest
theorem addS_cons(q:Sn)(rest:List Sn)(s:Sn):addS (q::rest) s=if q.2=s.2∧q.1.1=s.1.1∧q.1.2.2+1=s.1.2.1 then ((q.1.1,q.1.2.1,s.1.2.2),q.2)::rest else s::q::rest:=rfl
theorem addS_len(rv:List Sn)(s:Sn):(addS rv s).length≤rv.length+1:=by
 cases rv with
 | nil=>simp [addS]
 | cons q rest=>rw [addS_cons];split<;>simp
def nxO(V:Int)(M:Nat):Option Nat:=if M+1<2 ^ wd V then some (M+1) else none
def putM(rv:List Sn)(e:En):Option Nat→Nat→List Sn×Option Nat
 | none,_=>(rv,none)
 | some N,M=>if M<N then (rv,some N) else (addS rv ((e.1.1,N,M),e.2),nxO e.1.1 M)
theorem putM_some(rv:List Sn)(e:En)(N M:Nat):putM rv e (some N) M=if M<N then (rv,some N) else (addS rv ((e.1.1,N,M),e.2),nxO e.1.1 M):=rfl
def atA(V:Int):Option Nat→S_api_Addr
 | none=>zA
 | some N=>adr V N
def rowM(rv:List Sn)(stk:List En)(V:Int)(at_:Option Nat):S_flat_row:={ f_l:=rv.reverse.map sN,f_stack:=stk.reverse.map en,f_at:=atA V at_,f_done:=at_.isNone }
def okAt(V:Int)(at_:Option Nat):Prop:=∀ N,at_=some N→N<2 ^ wd V
theorem nxO_ok(V:Int)(M:Nat):okAt V (nxO V M):=fun N h=>by
 unfold nxO at h
 split at h
 ·cases h;assumption
 ·cases h
def okS(rv:List Sn):Prop:=∀ s∈rv,GoodR s.1
theorem move_code{V:Int}(hf:fam V)(l:List S_flat_Span)(st:List S_api_Entry)(a:S_api_Addr)(d:Bool){M:Nat}(hM:M<2 ^ wd V):flat_row_move { f_l:=l,f_stack:=st,f_at:=a,f_done:=d } (adr V M)=some { f_l:=l,f_stack:=st,f_at:=atA V (nxO V M),f_done:=(nxO V M).isNone }:=by
 unfold flat_row_move
 rw [(next_adr hf hM).1,bindM_some]
 unfold nx nxO
 by_cases h:M+1<2 ^ wd V
 ·rw [if_pos h,if_pos h];rfl
 ·rw [if_neg h,if_neg h];rfl
theorem put_code2(rv:List Sn)(hrv:okS rv)(e:En)(he:Good e.1)(stk:List En)(at_:Option Nat)(ha:okAt e.1.1 at_)(M:Nat)(hM:M<2 ^ wd e.1.1)(hn:rv.length≤100000∧stk.length≤100000) :
  flat_row_put (rowM rv (e::stk) e.1.1 at_) (adr e.1.1 M)=some (rowM (putM rv e at_ M).1 (e::stk) e.1.1 (putM rv e at_ M).2):=by
 unfold flat_row_put
 cases at_ with
 | none=>rfl
 | some N =>
  have hN:=ha N rfl
  show (if false=true then _ else (addr_Less (adr e.1.1 M) (adr e.1.1 N)>>=fun t3=>_))=_
  rw [if_neg Bool.false_ne_true,(adr_less hM hN).1,bindM_some]
  unfold ltA
  rw [if_pos rfl]
  by_cases hlt:M<N
  ·rw [decide_eq_true hlt,if_pos rfl]
   rw [putM_some,if_pos hlt]
  ·rw [decide_eq_false hlt,if_neg Bool.false_ne_true]
   have hput:putM rv e (some N) M=(addS rv ((e.1.1,N,M),e.2),nxO e.1.1 M):=by rw [putM_some,if_neg hlt]
   rw [hput]
   have hst:(rowM rv (e::stk) e.1.1 (some N)).f_stack=stk.reverse.map en++[en e]:=by show ((e::stk).reverse.map en)=_;simp
   have hsl:(((rowM rv (e::stk) e.1.1 (some N)).f_stack).length:Int)=((stk.length+1:Nat):Int):=by rw [hst];simp
   have hw1:wr .i64 (((stk.length+1:Nat):Int)-1)=(stk.length:Int):=by rw [wr_i64 (by omega) (by omega)];omega
   have hi1:(0:Int)≤(stk.length:Int)∧(stk.length:Int)<((stk.length+1:Nat):Int):=by omega
   have hg1:lget ((rowM rv (e::stk) e.1.1 (some N)).f_stack) (stk.length:Int)=en e:=by
    rw [hst]
    have:=lget_mid (stk.reverse.map en) (en e) []
    rwa [List.length_map,List.length_reverse] at this
   have hnewv:∀ l st a d,flat_row_move { f_l:=l,f_stack:=st,f_at:=a,f_done:=d } (adr e.1.1 M)=some { f_l:=l,f_stack:=st,f_at:=atA e.1.1 (nxO e.1.1 M),f_done:=(nxO e.1.1 M).isNone }:=fun l st a d=>move_code he.fam l st a d hM
   have hown:(en e).f_Owner=e.2:=rfl
   have hrl:(rowM rv (e::stk) e.1.1 (some N)).f_l=rv.reverse.map sN:=rfl
   have hnew:(if ((rowM rv (e::stk) e.1.1 (some N)).f_l.length+1)*56≤140737488355328 then flat_row_move ({ (rowM rv (e::stk) e.1.1 (some N)) with f_l:=(rowM rv (e::stk) e.1.1 (some N)).f_l++[{ { ({ f_Range:=({ f_From:=({ f_V:=(0:Int),f_B:=(Vector.replicate 16 (0:Int):(Vector Int 16)) }:S_api_Addr),f_To:=({ f_V:=(0:Int),f_B:=(Vector.replicate 16 (0:Int):(Vector Int 16)) }:S_api_Addr) }:S_aggregate_Range),f_Owner:=(0:Int) }:S_flat_Span) with f_Range:={ { ({ f_From:=({ f_V:=(0:Int),f_B:=(Vector.replicate 16 (0:Int):(Vector Int 16)) }:S_api_Addr),f_To:=({ f_V:=(0:Int),f_B:=(Vector.replicate 16 (0:Int):(Vector Int 16)) }:S_api_Addr) }:S_aggregate_Range) with f_From:=(rowM rv (e::stk) e.1.1 (some N)).f_at } with f_To:=adr e.1.1 M } } with f_Owner:=(en e).f_Owner }] }) (adr e.1.1 M)>>=fun t60=>some t60 else none)=some (rowM (((e.1.1,N,M),e.2)::rv) (e::stk) e.1.1 (nxO e.1.1 M)):=by
    rw [if_pos (by rw [hrl,List.length_map,List.length_reverse];omega)]
    show (flat_row_move { f_l:=rv.reverse.map sN++[sN ((e.1.1,N,M),e.2)],f_stack:=(e::stk).reverse.map en,f_at:=adr e.1.1 N,f_done:=false } (adr e.1.1 M)>>=fun t=>some t)=_
    rw [hnewv]
    unfold rowM
    simp
   rw [hsl,hw1,if_pos hi1,hg1]
   cases rv with
   | nil =>
    have hl0:(((rowM [] (e::stk) e.1.1 (some N)).f_l).length:Int)=0:=rfl
    rw [hl0,if_neg (by decide)]
    exact hnew
   | cons q rest =>
    have hl:(rowM (q::rest) (e::stk) e.1.1 (some N)).f_l=rest.reverse.map sN++[sN q]:=by rw [hrl];simp
    have hll:(((rowM (q::rest) (e::stk) e.1.1 (some N)).f_l).length:Int)=((rest.length+1:Nat):Int):=by rw [hl];simp
    have hq:=hrv q (List.mem_cons_self ..)
    have hrn:rest.length+1≤100000:=by simpa using hn.1
    have hw2:wr .i64 (((rest.length+1:Nat):Int)-1)=(rest.length:Int):=by rw [wr_i64 (by omega) (by omega)];omega
    have hi2:(0:Int)≤(rest.length:Int)∧(rest.length:Int)<((rest.length+1:Nat):Int):=by omega
    have hg2:lget ((rowM (q::rest) (e::stk) e.1.1 (some N)).f_l) (rest.length:Int)=sN q:=by
     rw [hl]
     have:=lget_mid (rest.reverse.map sN) (sN q) []
     rwa [List.length_map,List.length_reverse] at this
    have hpos:decide (((rest.length+1:Nat):Int)>0)=true:=decide_eq_true (by omega)
    rw [hll,hpos,if_pos rfl,hw2,if_pos hi2,hg2]
    have ho1:(sN q).f_Owner=q.2:=rfl
    have ho2:(sN q).f_Range.f_To=adr q.1.1 q.1.2.2:=rfl
    rw [ho1,ho2,(next_adr hq.fam hq.lt).1]
    have hyes:(q.2=e.2∧q.1.1=e.1.1∧q.1.2.2+1=N)→addS (q::rest) ((e.1.1,N,M),e.2)=((q.1.1,q.1.2.1,M),q.2)::rest:=fun h=>by rw [addS_cons,if_pos h]
    have hno:¬ (q.2=e.2∧q.1.1=e.1.1∧q.1.2.2+1=N)→addS (q::rest) ((e.1.1,N,M),e.2)=((e.1.1,N,M),e.2)::q::rest:=fun h=>by rw [addS_cons,if_neg h]
    by_cases h1:q.2=e.2
    ·have:(q.2==(en e).f_Owner)=true:=by rw [beq_iff_eq];exact h1
     rw [this,if_pos rfl,if_pos hi2,bindM_some,nx_pair.1]
     by_cases h2:q.1.2.2+1<2 ^ wd q.1.1
     ·rw [decide_eq_true h2,if_pos rfl,nx_pair.2 h2]
      have hat:(rowM (q::rest) (e::stk) e.1.1 (some N)).f_at=adr e.1.1 N:=rfl
      rw [hat]
      by_cases h3:q.1.1=e.1.1∧q.1.2.2+1=N
      ·rw [decide_eq_true ((adr_inj h2 hN).2 h3),if_pos rfl,if_pos hi2,hyes ⟨h1,h3⟩]
       have hset:lset ((rowM (q::rest) (e::stk) e.1.1 (some N)).f_l) (rest.length:Int) ({ sN q with f_Range:={ (sN q).f_Range with f_To:=adr e.1.1 M } })=rest.reverse.map sN++[sN ((q.1.1,q.1.2.1,M),q.2)]:=by
        rw [hl]
        have:({ sN q with f_Range:={ (sN q).f_Range with f_To:=adr e.1.1 M } }:S_flat_Span)=sN ((q.1.1,q.1.2.1,M),q.2):=by rw [←h3.1];rfl
        rw [this]
        have e1:(rest.length:Int)=((rest.reverse.map sN).length:Int):=by simp
        rw [e1]
        simp [lset]
       rw [hset]
       show (flat_row_move { f_l:=rest.reverse.map sN++[sN ((q.1.1,q.1.2.1,M),q.2)],f_stack:=(e::stk).reverse.map en,f_at:=adr e.1.1 N,f_done:=false } (adr e.1.1 M)>>=fun t=>some t)=_
       rw [hnewv]
       unfold rowM
       simp
      ·rw [decide_eq_false (mt (adr_inj h2 hN).1 h3),if_neg Bool.false_ne_true,hno (fun h=>h3 h.2)]
       rw [hat] at hnew
       exact hnew
     ·rw [decide_eq_false h2,if_neg Bool.false_ne_true,hno (fun h=>by
       obtain ⟨_,h4,h5⟩:=h
       have h4:q.1.1=e.1.1:=h4
       have h5:q.1.2.2+1=N:=h5
       rw [h4] at h2
       omega)]
      exact hnew
    ·have:(q.2==(en e).f_Owner)=false:=by rw [beq_eq_false_iff_ne];exact h1
     rw [this,if_neg Bool.false_ne_true,hno (fun h=>h1 h.1)]
     exact hnew
end Go.Proofs.Ytahlbjmafceoeaa.Agg
namespace Go.Proofs.Ytahlbjmafceoeaa.Agg
open E Go.RowKit Adr Cid
def closeM(p:En→Bool):List Sn→List En→Option Nat→List Sn×List En×Option Nat
 | rv,[],a=>(rv,[],a)
 | rv,e::stk,a=>if p e=true then (rv,e::stk,a) else closeM p (putM rv e a (endT e.1)).1 stk (putM rv e a (endT e.1)).2
theorem closeM_cons(p:En→Bool)(rv:List Sn)(e:En)(stk:List En)(a:Option Nat):closeM p rv (e::stk) a=if p e=true then (rv,e::stk,a) else closeM p (putM rv e a (endT e.1)).1 stk (putM rv e a (endT e.1)).2:=rfl
structure Way (V:Int) (rv:List Sn) (stk:List En) (a:Option Nat):Prop where
 rv:okS rv
 st:∀ t∈stk,Good t.1∧t.1.1=V
 at_:okAt V a
theorem addS_ok{rv:List Sn}{s:Sn}(h:okS rv)(hs:GoodR s.1):okS (addS rv s):=by
 cases rv with
 | nil=>intro x hx;rw [List.mem_singleton.1 hx];exact hs
 | cons q rest =>
  have hq:=h q (List.mem_cons_self ..)
  rw [addS_cons]
  split
  ·next hc =>
   intro x hx
   rcases List.mem_cons.1 hx with rfl | hx
   ·refine ⟨hq.fam,?_,?_⟩
    ·have h1:=hq.le
     have h2:=hs.le
     show q.1.2.1≤s.1.2.2
     omega
    ·show s.1.2.2<2 ^ wd q.1.1
     rw [hc.2.1];exact hs.lt
   ·exact h x (List.mem_cons_of_mem _ hx)
  ·intro x hx
   rcases List.mem_cons.1 hx with rfl | hx
   ·exact hs
   ·exact h x hx
theorem putM_ok{V:Int}{rv:List Sn}{e:En}{a:Option Nat}{M:Nat}(h:okS rv)(he:Good e.1)(hV:e.1.1=V)(ha:okAt V a)(hM:M<2 ^ wd V):okS (putM rv e a M).1∧okAt V (putM rv e a M).2∧(putM rv e a M).1.length≤rv.length+1:=by
 subst hV
 cases a with
 | none=>exact ⟨h,fun N hN=>(by cases hN),Nat.le_succ _⟩
 | some N =>
  rw [putM_some]
  split
  ·exact ⟨h,ha,Nat.le_succ _⟩
  ·next hlt=>exact ⟨addS_ok h ⟨he.fam,by show N≤M;omega,hM⟩,nxO_ok _ _,addS_len _ _⟩
theorem end_code{e:En}(he:Good e.1):flat_end (en e)=some (adr e.1.1 (endT e.1)):=by
 unfold flat_end aggregate_Of
 have hr:cidr_Right (en e).f_P=some true:=(prf_right he.fam he.le he.dvd).1
 have hl:aggregate_last (en e).f_P=some (adr e.1.1 (endT e.1)):=(last_pf he).1
 rw [hr,bindM_some,if_neg (by decide),hl];rfl
theorem stack_top(rv:List Sn)(e:En)(stk:List En)(V:Int)(a:Option Nat)(hn:stk.length≤100000):(rowM rv (e::stk) V a).f_stack=stk.reverse.map en++[en e]∧(((rowM rv (e::stk) V a).f_stack).length:Int)=((stk.length+1:Nat):Int)∧wr .i64 (((stk.length+1:Nat):Int)-1)=(stk.length:Int)∧lget ((rowM rv (e::stk) V a).f_stack) (stk.length:Int)=en e:=by
 have hst:(rowM rv (e::stk) V a).f_stack=stk.reverse.map en++[en e]:=by show ((e::stk).reverse.map en)=_;simp
 refine ⟨hst,by rw [hst];simp,by rw [wr_i64 (by omega) (by omega)];omega,?_⟩
 rw [hst]
 have:=lget_mid (stk.reverse.map en) (en e) []
 rwa [List.length_map,List.length_reverse] at this
def ctlV{α:Type}:Ctl α α→α
 | .ret r=>r
 | .nx r=>r
theorem close_loop(x:En)(hx:Good x.1)(V:Int):∀ (stk:List En) (rv:List Sn) (a:Option Nat),Way V rv stk a→rv.length+stk.length≤50000 →
  ∃ c,flat_row_close.l0 (en x) (rowM rv stk V a)=some c∧ctlV c=rowM (closeM (fun e=>decide (cont e.1 x.1)) rv stk a).1 (closeM (fun e=>decide (cont e.1 x.1)) rv stk a).2.1 V (closeM (fun e=>decide (cont e.1 x.1)) rv stk a).2.2
 | [],rv,a,hw,hn=>by
  refine ⟨.nx (rowM rv [] V a),?_,rfl⟩
  rw [flat_row_close.l0.eq_def,if_neg (by show ¬ decide ((([]:List S_api_Entry).length:Int)>0)=true;decide)]
 | e::stk,rv,a,hw,hn=>by
  obtain ⟨he,hV⟩:=hw.st e (List.mem_cons_self ..)
  have hn':rv.length+(stk.length+1)≤50000:=hn
  obtain ⟨s1,s2,s3,s4⟩:=stack_top rv e stk V a (by omega)
  have hin:(0:Int)≤(stk.length:Int)∧(stk.length:Int)<((stk.length+1:Nat):Int):=by omega
  have hc:cidr_Covers (en e).f_P (en x).f_P=some (decide (cont e.1 x.1)):=(cov_pf he hx).1
  rw [flat_row_close.l0.eq_def,s2,decide_eq_true (by omega),if_pos rfl,s3,if_pos hin,s4,hc,bindM_some,closeM_cons]
  cases hd:decide (cont e.1 x.1) with
  | true=>exact ⟨_,rfl,rfl⟩
  | false =>
   rw [if_neg Bool.false_ne_true,end_code he,bindM_some]
   have hE:endT e.1<2 ^ wd e.1.1:=he.end_lt
   have hput:=put_code2 rv hw.rv e he stk a (by rw [hV];exact hw.at_) (endT e.1) hE (by omega)
   rw [hV] at hput
   obtain ⟨p1,p2,p3⟩:=putM_ok (M:=endT e.1) hw.rv he hV hw.at_ (by rw [←hV];exact hE)
   obtain ⟨t1,t2,t3,t4⟩:=stack_top (putM rv e a (endT e.1)).1 e stk V (putM rv e a (endT e.1)).2 (by omega)
   rw [hV,hput,bindM_some,t2,t3,if_pos ⟨Int.le_refl _,hin.1,by omega⟩,t1]
   have hcut:({ { rowM (putM rv e a (endT e.1)).1 (e::stk) V (putM rv e a (endT e.1)).2 with f_stack:=lsub (stk.reverse.map en++[en e]) 0 (stk.length:Int) } with f_stack:=List.take (Int.toNat (stk.length:Int)) (stk.reverse.map en++[en e]) }:S_flat_row)=rowM (putM rv e a (endT e.1)).1 stk V (putM rv e a (endT e.1)).2:=by
    have:List.take (Int.toNat (stk.length:Int)) (stk.reverse.map en++[en e])=stk.reverse.map en:=by
     rw [Int.toNat_natCast]
     have hl:stk.length=(stk.reverse.map en).length:=by simp
     conv=>lhs;lhs;rw [hl]
     rw [List.take_left]
    rw [this];rfl
   rw [hcut]
   exact close_loop x hx V stk _ _ ⟨p1,fun t ht=>hw.st t (List.mem_cons_of_mem _ ht),p2⟩ (by omega)
theorem close_code(x:En)(hx:Good x.1)(V:Int)(stk:List En)(rv:List Sn)(a:Option Nat)(hw:Way V rv stk a)(hn:rv.length+stk.length≤50000):flat_row_close (rowM rv stk V a) (en x)=some (rowM (closeM (fun e=>decide (cont e.1 x.1)) rv stk a).1 (closeM (fun e=>decide (cont e.1 x.1)) rv stk a).2.1 V (closeM (fun e=>decide (cont e.1 x.1)) rv stk a).2.2):=by
 obtain ⟨c,h1,h2⟩:=close_loop x hx V stk rv a hw hn
 unfold flat_row_close
 rw [h1,bindM_some,←h2]
 cases c<;>rfl
theorem closeN_loop(V:Int):∀ (stk:List En) (rv:List Sn) (a:Option Nat),Way V rv stk a→rv.length+stk.length≤50000 →
  ∃ c,flat_row_close__nil1.l0 (rowM rv stk V a)=some c∧ctlV c=rowM (closeM (fun _=>false) rv stk a).1 (closeM (fun _=>false) rv stk a).2.1 V (closeM (fun _=>false) rv stk a).2.2
 | [],rv,a,hw,hn=>by
  refine ⟨.nx (rowM rv [] V a),?_,rfl⟩
  rw [flat_row_close__nil1.l0.eq_def,if_neg (by show ¬ decide ((([]:List S_api_Entry).length:Int)>0)=true;decide)]
 | e::stk,rv,a,hw,hn=>by
  obtain ⟨he,hV⟩:=hw.st e (List.mem_cons_self ..)
  have hn':rv.length+(stk.length+1)≤50000:=hn
  obtain ⟨s1,s2,s3,s4⟩:=stack_top rv e stk V a (by omega)
  have hin:(0:Int)≤(stk.length:Int)∧(stk.length:Int)<((stk.length+1:Nat):Int):=by omega
  have hE:endT e.1<2 ^ wd e.1.1:=he.end_lt
  have hput:=put_code2 rv hw.rv e he stk a (by rw [hV];exact hw.at_) (endT e.1) hE (by omega)
  rw [hV] at hput
  obtain ⟨p1,p2,p3⟩:=putM_ok (M:=endT e.1) hw.rv he hV hw.at_ (by rw [←hV];exact hE)
  obtain ⟨t1,t2,t3,t4⟩:=stack_top (putM rv e a (endT e.1)).1 e stk V (putM rv e a (endT e.1)).2 (by omega)
  rw [flat_row_close__nil1.l0.eq_def,s2,decide_eq_true (by omega),if_pos rfl,s3,if_pos hin,s4,closeM_cons,if_neg Bool.false_ne_true,end_code he,bindM_some,hV,hput,bindM_some,t2,t3,if_pos ⟨Int.le_refl _,hin.1,by omega⟩,t1]
  have hcut:({ { rowM (putM rv e a (endT e.1)).1 (e::stk) V (putM rv e a (endT e.1)).2 with f_stack:=lsub (stk.reverse.map en++[en e]) 0 (stk.length:Int) } with f_stack:=List.take (Int.toNat (stk.length:Int)) (stk.reverse.map en++[en e]) }:S_flat_row)=rowM (putM rv e a (endT e.1)).1 stk V (putM rv e a (endT e.1)).2:=by
   have:List.take (Int.toNat (stk.length:Int)) (stk.reverse.map en++[en e])=stk.reverse.map en:=by
    rw [Int.toNat_natCast]
    have hl:stk.length=(stk.reverse.map en).length:=by simp
    conv=>lhs;lhs;rw [hl]
    rw [List.take_left]
   rw [this];rfl
  rw [hcut]
  exact closeN_loop V stk _ _ ⟨p1,fun t ht=>hw.st t (List.mem_cons_of_mem _ ht),p2⟩ (by omega)
theorem closeN_code(V:Int)(stk:List En)(rv:List Sn)(a:Option Nat)(hw:Way V rv stk a)(hn:rv.length+stk.length≤50000):flat_row_close__nil1 (rowM rv stk V a)=some (rowM (closeM (fun _=>false) rv stk a).1 (closeM (fun _=>false) rv stk a).2.1 V (closeM (fun _=>false) rv stk a).2.2):=by
 obtain ⟨c,h1,h2⟩:=closeN_loop V stk rv a hw hn
 unfold flat_row_close__nil1
 rw [h1,bindM_some,←h2]
 cases c<;>rfl
theorem closeM_way{V:Int}(p:En→Bool):∀ (stk:List En) (rv:List Sn) (a:Option Nat),Way V rv stk a→Way V (closeM p rv stk a).1 (closeM p rv stk a).2.1 (closeM p rv stk a).2.2∧(closeM p rv stk a).1.length+(closeM p rv stk a).2.1.length≤rv.length+stk.length∧∀ t,(closeM p rv stk a).2.1.head? = some t→p t=true
 | [],rv,a,hw=>⟨hw,Nat.le_refl _,fun t ht=>by cases ht⟩
 | e::stk,rv,a,hw=>by
  obtain ⟨he,hV⟩:=hw.st e (List.mem_cons_self ..)
  rw [closeM_cons]
  cases hp:p e with
  | true =>
   rw [if_pos rfl]
   exact ⟨hw,Nat.le_refl _,fun t ht=>by cases ht;exact hp⟩
  | false =>
   rw [if_neg Bool.false_ne_true]
   obtain ⟨p1,p2,p3⟩:=putM_ok (M:=endT e.1) hw.rv he hV hw.at_ (by rw [←hV];exact he.end_lt)
   obtain ⟨h1,h2,h3⟩:=closeM_way p stk _ _ ⟨p1,fun t ht=>hw.st t (List.mem_cons_of_mem _ ht),p2⟩
   exact ⟨h1,by simp;omega,h3⟩
def midO(rv:List Sn)(a:Option Nat)(N:Nat):List En→List Sn
 | []=>rv
 | t::_=>if 0<N then (putM rv t a (N-1)).1 else rv
theorem midO_cons(rv:List Sn)(a:Option Nat)(N:Nat)(t:En)(stk:List En):midO rv a N (t::stk)=if 0<N then (putM rv t a (N-1)).1 else rv:=rfl
def stepO(s:List Sn×List En×Option Nat)(e:En):List Sn×List En×Option Nat :=
 let c:=closeM (fun t=>decide (cont t.1 e.1)) s.1 s.2.1 s.2.2
 (midO c.1 c.2.2 e.1.2.1 c.2.1,e::c.2.1,some e.1.2.1)
theorem stepO_eq{rv:List Sn}{stk:List En}{a:Option Nat}{e:En}{rv1:List Sn}{stk1:List En}{a1:Option Nat}(h:closeM (fun t=>decide (cont t.1 e.1)) rv stk a=(rv1,stk1,a1)):stepO (rv,stk,a) e=(midO rv1 a1 e.1.2.1 stk1,e::stk1,some e.1.2.1):=by
 unfold stepO
 simp only [h]
def ofM(T:List En):List Sn :=
 let s:=T.foldl stepO ([],[],some 0)
 (closeM (fun _=>false) s.1 s.2.1 s.2.2).1
theorem of_loop(T:List En)(hT:∀ e∈T,Good e.1)(hn:T.length≤10000):∀ (B A:List En) (s:List Sn×List En×Option Nat) (V:Int),T=A++B→Way V s.1 s.2.1 s.2.2→s.1.length+s.2.1.length≤2*A.length →
  ∃ V',flat_Of.l0 (T.map en) (A.length:Int) (rowM s.1 s.2.1 V s.2.2)=some (rowM (B.foldl stepO s).1 (B.foldl stepO s).2.1 V' (B.foldl stepO s).2.2)∧Way V' (B.foldl stepO s).1 (B.foldl stepO s).2.1 (B.foldl stepO s).2.2∧(B.foldl stepO s).1.length+(B.foldl stepO s).2.1.length≤2*T.length
 | [],A,s,V,hx,hw,hl=>by
  have hd:decide ((A.length:Int)<((T.map en).length:Int))=false:=decide_eq_false (by rw [hx];simp)
  refine ⟨V,?_,hw,by rw [hx];simpa using hl⟩
  rw [flat_Of.l0.eq_def,hd,if_neg Bool.false_ne_true];rfl
 | e::B,A,s,V,hx,hw,hl=>by
  obtain ⟨rv,stk,a⟩:=s
  have hTl:T.length=A.length+(B.length+1):=by rw [hx];simp
  have hin:(0:Int)≤(A.length:Int)∧(A.length:Int)<((T.map en).length:Int):=by rw [List.length_map];omega
  have hg:lget (T.map en) (A.length:Int)=en e:=by
   rw [hx,List.map_append,List.map_cons]
   have:=lget_mid (A.map en) (en e) (B.map en)
   rwa [List.length_map] at this
  have hwi:wr .i64 ((A.length:Int)+1)=((A++[e]).length:Int):=wr_mid A e (by omega)
  have hA1:(A++[e]).length=A.length+1:=by simp
  have he:=hT e (by rw [hx];simp)
  simp only at hw hl
  have hcl:=close_code e he V stk rv a hw (by omega)
  obtain ⟨c1,c2,c3⟩:=closeM_way (V:=V) (fun t=>decide (cont t.1 e.1)) stk rv a hw
  rw [List.foldl_cons]
  rw [flat_Of.l0.eq_def,decide_eq_true hin.2,if_pos rfl,if_pos hin,hg,hwi]
  show ∃ V',(flat_row_close (rowM rv stk V a) (en e)>>=fun t28=>_)=_∧_
  rw [hcl,bindM_some]
  generalize hc:closeM (fun t=>decide (cont t.1 e.1)) rv stk a=c at c1 c2 c3
  obtain ⟨rv1,stk1,a1⟩:=c
  simp only at c1 c2 c3 ⊢
  rw [stepO_eq hc]
  have fin:∀ (rv2:List Sn) (x:S_flat_row),okS rv2→rv2.length≤rv1.length+1→(∀ t∈stk1,t.1.1=e.1.1)→x.f_l=rv2.reverse.map sN→x.f_stack=stk1.reverse.map en →
    ∃ V',(if (x.f_stack.length+1)*40≤140737488355328 then flat_Of.l0 (T.map en) ((A++[e]).length:Int) ({ { { x with f_stack:=x.f_stack++[en e] } with f_at:=((en e).f_P).f_A } with f_done:=false }) else none)=some (rowM (B.foldl stepO (rv2,e::stk1,some e.1.2.1)).1 (B.foldl stepO (rv2,e::stk1,some e.1.2.1)).2.1 V' (B.foldl stepO (rv2,e::stk1,some e.1.2.1)).2.2)∧Way V' (B.foldl stepO (rv2,e::stk1,some e.1.2.1)).1 (B.foldl stepO (rv2,e::stk1,some e.1.2.1)).2.1 (B.foldl stepO (rv2,e::stk1,some e.1.2.1)).2.2∧(B.foldl stepO (rv2,e::stk1,some e.1.2.1)).1.length+(B.foldl stepO (rv2,e::stk1,some e.1.2.1)).2.1.length≤2*T.length:=by
   intro rv2 x h1 h2 h3 h4 h5
   have hsm:(x.f_stack.length+1)*40≤140737488355328:=by rw [h5,List.length_map,List.length_reverse];omega
   rw [if_pos hsm]
   have hrow:({ { { x with f_stack:=x.f_stack++[en e] } with f_at:=((en e).f_P).f_A } with f_done:=false }:S_flat_row)=rowM rv2 (e::stk1) e.1.1 (some e.1.2.1):=by
    rw [h5]
    unfold rowM
    have:(e::stk1).reverse.map en=stk1.reverse.map en++[en e]:=by simp
    rw [this,←h4];rfl
   rw [hrow]
   refine of_loop T hT hn B (A++[e]) (rv2,e::stk1,some e.1.2.1) e.1.1 (by rw [hx];simp) ⟨h1,fun t ht=>?_,fun N hN=>?_⟩ ?_
   ·rcases List.mem_cons.1 ht with rfl | ht
    ·exact ⟨he,rfl⟩
    ·exact ⟨(c1.st t ht).1,h3 t ht⟩
   ·cases hN;exact he.lt
   ·show rv2.length+(stk1.length+1)≤2*(A++[e]).length
    omega
  cases stk1 with
  | nil =>
   rw [if_neg (by show ¬ decide ((([]:List S_api_Entry).length:Int)>0)=true;decide)]
   exact fin rv1 (rowM rv1 [] V a1) c1.rv (by omega) (fun t ht=>by cases ht) rfl rfl
  | cons t stk2 =>
   have hct:cont t.1 e.1:=of_decide_eq_true (c3 t rfl)
   obtain ⟨ht,htV⟩:=c1.st t (List.mem_cons_self ..)
   have hVe:V=e.1.1:=by rw [←htV];exact hct.1.symm
   have hall:∀ u∈t::stk2,u.1.1=e.1.1:=fun u hu=>by rw [(c1.st u hu).2];exact hVe
   have hslen:(((rowM rv1 (t::stk2) V a1).f_stack).length:Int)>0:=by
    show ((((t::stk2).reverse.map en).length:Nat):Int)>0
    rw [List.length_map,List.length_reverse,List.length_cons];omega
   obtain ⟨z,hz⟩:=prev_adr he.fam he.lt
   have hz':flat_previous ((en e).f_P.f_A)=some (if 0<e.1.2.1 then (adr e.1.1 (e.1.2.1-1),true) else (z,false)):=hz
   have hn3:rv1.length+(stk2.length+1)≤rv.length+stk.length:=by simpa using c2
   rw [decide_eq_true hslen,if_pos rfl,hz',bindM_some]
   by_cases h0:0<e.1.2.1
   ·rw [if_pos h0,if_pos rfl]
    have hM:e.1.2.1-1<2 ^ wd t.1.1:=by have:=he.lt;rw [htV,hVe];omega
    have hput:=put_code2 rv1 c1.rv t ht stk2 a1 (by rw [htV];exact c1.at_) (e.1.2.1-1) hM (by omega)
    obtain ⟨p1,p2,p3⟩:=putM_ok (M:=e.1.2.1-1) c1.rv ht htV c1.at_ (by rw [←htV];exact hM)
    rw [htV] at hput
    rw [midO_cons,if_pos h0,←hVe,hput,bindM_some]
    exact fin _ (rowM (putM rv1 t a1 (e.1.2.1-1)).1 (t::stk2) V (putM rv1 t a1 (e.1.2.1-1)).2) p1 p3 hall rfl rfl
   ·rw [if_neg h0,if_neg Bool.false_ne_true,midO_cons,if_neg h0]
    exact fin rv1 (rowM rv1 (t::stk2) V a1) c1.rv (by omega) hall rfl rfl
theorem flatOf_code(l:List S_api_Entry)(T:List En)(hT:∀ e∈T,Good e.1)(hn:T.length≤10000)(h:flat_Own l=some (T.map en)):flat_Of l=some ((ofM T).reverse.map sN)∧okS (ofM T)∧(ofM T).length≤2*T.length:=by
 obtain ⟨V',h1,h2,h3⟩:=of_loop T hT hn T [] ([],[],some 0) 0 rfl ⟨fun s hs=>(by cases hs),fun t ht=>(by cases ht),fun N hN=>(by cases hN;decide)⟩ (Nat.le_refl _)
 have hc:=closeN_code V' _ _ _ h2 (by omega)
 obtain ⟨c1,c2,_⟩:=closeM_way (V:=V') (fun _=>false) _ _ _ h2
 refine ⟨?_,c1.rv,?_⟩
 ·unfold flat_Of
  rw [h,bindM_some]
  have hz:({ f_l:=([]:List S_flat_Span),f_stack:=([]:List S_api_Entry),f_at:=({ f_V:=(0:Int),f_B:=(Vector.replicate 16 (0:Int):(Vector Int 16)) }:S_api_Addr),f_done:=false }:S_flat_row)=rowM [] [] 0 (some 0):=by
   have:(adr 0 0)=({ f_V:=(0:Int),f_B:=(Vector.replicate 16 (0:Int):(Vector Int 16)) }:S_api_Addr):=by decide +kernel
   rw [←this];rfl
  rw [hz]
  show (flat_Of.l0 (T.map en) (([]:List En).length:Int) (rowM [] [] 0 (some 0))>>=_)=_
  rw [h1,bindM_some,hc];rfl
 ·have:(closeM (fun _=>false) (T.foldl stepO ([],[],some 0)).1 (T.foldl stepO ([],[],some 0)).2.1 (T.foldl stepO ([],[],some 0)).2.2).1.length≤2*T.length:=by omega
  exact this
end Go.Proofs.Ytahlbjmafceoeaa.Agg
namespace Go.Proofs.Ytahlbjmafceoeaa
open E Go.RowKit _root_.Go.Proofs.Try
def flat_Find_1(x0:Int)(x1:S_api_Addr)(x2:List S_flat_Span):Option (Bool) :=
 if (0:Int)≤x0∧x0<(x2.length:Int) then addr_Less x1 (((lget x2 x0).f_Range).f_From)>>=fun t5=>some t5 else none
theorem flat_Find_1_ok(x0:Int)(b1_:Nat)(x1:S_api_Addr)(b2_:Nat)(x2:List S_flat_Span)(pb2_:Option Addr)(cb2_:Nat)(r:Bool)(hF:flat_Find_1 x0 x1 x2=some r)(w:World)(hc1:Row c_api_Addr w (some ⟨b1_,0,none⟩) 1 [x1])(hc2:w.cell? ⟨b2_,0,none⟩=some (.slice pb2_ x2.length cb2_))(hc2r:Row c_flat_Span w pb2_ cb2_ x2) :
    Calls Try.prog 61 #[.int .i64 x0,.pointer (some ⟨b1_,0,none⟩),.pointer (some ⟨b2_,0,none⟩)] w (fun e w'=>e=.returned (.bool r)∧Below w.heap.size w w'):=by
 unfold flat_Find_1 at hF
 refine ce (l:=[.int .i64 x0,.pointer (some ⟨b1_,0,none⟩),.pointer (some ⟨b2_,0,none⟩)]) func61 rfl rfl ?_
 refine at_start ?_
 refine sr (aa (nwq [2,1,0] ?_))
 refine qs ?_
 refine at_draw (by kernel_rfl) (by kernel_rfl) (fun _ h=>h.drew) ?_
 refine atq_val rfl rfl rfl (r_load_aggc (c:=c_api_Addr) (z:=x1) isAgg24 sizeOf24 rfl (row_cell (fun _ h=>h.below) hc1 one_in rfl)) ?_
 refine atq_val rfl rfl rfl (r_load_cell isAgg55 rfl (fun w1 hw=>cap_cell hc2 hw.below)) ?_
 refine atq_val rfl rfl rfl (r_move rfl) ?_
 obtain ⟨h1,hF⟩:=gd hF
 obtain ⟨b3,o4,hp2⟩:=row_ptr hc2r h1
 refine atq_val rfl rfl rfl (r_idx underlying55 sizeOf60 rfl rfl h1 hp2) ?_
 refine atq_val rfl rfl rfl (r_fieldAddr (fo:=0) underlying60 rfl rfl (fun w=>⟨_,sizeOf26 w⟩) rfl) ?_
 refine atq_val rfl rfl rfl (r_fieldAddr (fo:=0) underlying26 rfl rfl (fun w=>⟨_,sizeOf24 w⟩) rfl) ?_
 refine atq_val rfl rfl rfl (r_load_aggc (c:=c_api_Addr) (z:=((lget x2 x0).f_Range).f_From) isAgg24 sizeOf24 rfl (row_lens (y:=((lget x2 x0).f_Range).f_From) (fun _ h=>h.below) hc2r h1 hp2 (Lens.comp (Lens.comp lw (fun z=>{ (lget x2 x0) with f_Range:=z }) (c_flat_Span_f_Range (lget x2 x0))) (fun z=>{ (lget x2 x0).f_Range with f_From:=z }) (c_aggregate_Range_f_From ((lget x2 x0).f_Range))))) ?_
 obtain ⟨t5,ht5,hF⟩:=bM hF
 refine atq_call func39 rfl (by kernel_rfl) rfl rfl (fun w hw=>(addr_Less_ok _ _ _ ht5 w).mono fun _ _ h=>⟨h.1,hw.call h.2⟩) ?_
 refine atq_val rfl rfl rfl (r_assign rfl) ?_
 refine atq_nil ?_
 refine wq [4] ?_
 refine tn (qt ?_)
 have K:=os hF
 subst K
 exact r1 wb
def sort_Search__flat_Find_1.l0(x1_0:S_api_Addr)(x1_1:List S_flat_Span)(i2:Int)(i3:Int):Option (Int) :=
 if (decide (i2<i3))=true then (flat_Find_1 (wr .i64 (ishr .u64 (wr .u64 (wr .i64 (i2+i3))) 1)) x1_0 x1_1>>=fun t5=>if (!t5)=true then (sort_Search__flat_Find_1.l0 x1_0 x1_1 (wr .i64 ((wr .i64 (ishr .u64 (wr .u64 (wr .i64 (i2+i3))) 1))+1)) i3) else (sort_Search__flat_Find_1.l0 x1_0 x1_1 i2 (wr .i64 (ishr .u64 (wr .u64 (wr .i64 (i2+i3))) 1)))) else (some i2)
 partial_fixpoint
def sort_Search__flat_Find_1(x0:Int)(x1_0:S_api_Addr)(x1_1:List S_flat_Span):Option (Int) :=
 sort_Search__flat_Find_1.l0 x1_0 x1_1 0 x0>>=fun q1=>some q1
theorem sort_Search__flat_Find_1_ok(x0:Int)(b1_0:Nat)(x1_0:S_api_Addr)(b1_1:Nat)(x1_1:List S_flat_Span)(pb1_1:Option Addr)(cb1_1:Nat)(r:Int)(hF:sort_Search__flat_Find_1 x0 x1_0 x1_1=some r)(w:World)(hc1_0:Row c_api_Addr w (some ⟨b1_0,0,none⟩) 1 [x1_0])(hc1_1:w.cell? ⟨b1_1,0,none⟩=some (.slice pb1_1 x1_1.length cb1_1))(hc1_1r:Row c_flat_Span w pb1_1 cb1_1 x1_1) :
    Calls Try.prog 60 #[.int .i64 x0,.func (.func 61) #[] #[.pointer (some ⟨b1_0,0,none⟩),.pointer (some ⟨b1_1,0,none⟩)]] w (fun e w'=>e=.returned (.int .i64 r)∧Below w.heap.size w w'):=by
 unfold sort_Search__flat_Find_1 at hF
 refine ce (l:=[.int .i64 x0,.func (.func 61) #[] #[.pointer (some ⟨b1_0,0,none⟩),.pointer (some ⟨b1_1,0,none⟩)]]) func60 rfl rfl ?_
 refine at_start ?_
 refine sr (aa (ns (am (aa (aa (nwq [6,5,1] ?_))))))
 refine qs ?_
 refine qb ?_
 obtain ⟨q1,hq1,hF⟩:=bM hF
 refine wq [6,5,1] ?_
 refine at_loop_n (B:=0) (A:=fun Y=>At 26 [(5,.int .i64 q1)] (Wd w []) Y) ?_ ?_
 ·intro K
  refine sort_Search__flat_Find_1.l0.partial_correctness x1_0 x1_1 (motive:=fun i2 i3 x=>KN (fun Y=>At 26 [(5,.int .i64 x)] (Wd w []) Y) _ 0→Round (fun Y=>At 26 [(1,.func (.func 61) #[] #[.pointer (some ⟨b1_0,0,none⟩),.pointer (some ⟨b1_1,0,none⟩)]),(5,.int .i64 i2),(6,.int .i64 i3)] (Wd w []) Y) _ _ _) ?_ _ _ _ hq1 K
  ·clear K hF
   intro g ih i2 i3 x hF K
   refine at_round ?_
   refine qs (sr (am (am (aw xl (nwq [11,6,5,1] ?_)))))
   obtain ⟨h4,hF⟩|⟨h4,hF⟩:=oi hF
   ·refine ct h4 ?_
    refine sn ?_
    refine qb ?_
    refine sr (am (am (aw xa ?_)))
    refine aw (r_conv underlying3 underlying81 rfl) ?_
    refine aw (r_ishr rfl rfl (by decide)) ?_
    refine aw (r_conv underlying81 underlying3 rfl) ?_
    refine aa (nwx [7,6,5,1] ?_)
    refine am (am ?_)
    refine at_calleeC (caps:=[.pointer (some ⟨b1_0,0,none⟩),.pointer (some ⟨b1_1,0,none⟩)]) rfl ?_
    obtain ⟨t5,ht5,hF⟩:=bM hF
    refine cB func61 rfl (fun w hw=>flat_Find_1_ok _ _ _ _ _ _ _ _ ht5 w (hc1_0.below hw.below) (cap_cell hc1_1 hw.below) (hc1_1r.below hw.below)) ?_
    refine aw (r_not rfl) ?_
    refine nwq [21,7,6,5,1] ?_
    obtain ⟨h6,hF⟩|⟨h6,hF⟩:=oi hF
    ·refine ct h6 ?_
     refine qr (am (aw xa (aa (qn (wq [6,5,1] ?_)))))
     refine bm ?_
     exact at_weak_k (ih _ _ _ hF K) ⟨rfl,rfl,rfl,trivial⟩
    refine cf h6 ?_
    refine qr (am (aa (qn (wq [6,5,1] ?_))))
    refine bm ?_
    exact at_weak_k (ih _ _ _ hF K) ⟨rfl,rfl,rfl,trivial⟩
   refine cf h4 ?_
   refine at_exit ?_
   refine te (te ?_)
   obtain rfl:=os hF
   exact at_weak_k K ⟨rfl,trivial⟩
 skip
 skip
 refine at_blk_same ?_
 refine tn (sr (am (aa (nwq [4] ?_))))
 refine qt ?_
 have K:=os hF
 subst K
 exact r1 wb
def flat_Find(x0:List S_flat_Span)(x1:S_api_Addr):Option (Int×Bool) :=
 addr_Right x1>>=fun t3=>if (!t3)=true then (some (0,false)) else (sort_Search__flat_Find_1 (x0.length:Int) x1 x0>>=fun t5=>if (decide (wr .i64 (t5-1)<0))=true then (some (0,false)) else (if (0:Int)≤wr .i64 (t5-1)∧wr .i64 (t5-1)<(x0.length:Int) then if ((((lget x0 (wr .i64 (t5-1))).f_Range).f_From).f_V != x1.f_V)=true then (some (0,false)) else (if (0:Int)≤wr .i64 (t5-1)∧wr .i64 (t5-1)<(x0.length:Int) then addr_Less (((lget x0 (wr .i64 (t5-1))).f_Range).f_To) x1>>=fun t16=>if t16=true then (some (0,false)) else (if (0:Int)≤wr .i64 (t5-1)∧wr .i64 (t5-1)<(x0.length:Int) then some ((lget x0 (wr .i64 (t5-1))).f_Owner,true) else none) else none) else none))
theorem flat_Find_ok(x0:List S_flat_Span)(p0_:Option Addr)(c0_:Nat)(x1:S_api_Addr)(r:Int×Bool)(hF:flat_Find x0 x1=some r)(w:World)(hr0:Row c_flat_Span w p0_ c0_ x0) :
    Calls Try.prog 30 #[.slice p0_ x0.length c0_,.agg (Cd.cs c_api_Addr x1).toArray] w (fun e w'=>e=.returned (.tuple #[.int .i64 r.1,.bool r.2])∧Below w.heap.size w w'):=by
 unfold flat_Find at hF
 refine ce (l:=[.slice p0_ x0.length c0_,.agg (Cd.cs c_api_Addr x1).toArray]) func30 rfl rfl ?_
 refine at_start ?_
 refine sr ?_
 refine at_box (cs:=[.slice p0_ x0.length c0_]) rfl rfl rfl ?_
 intro b1
 refine at_box (cs:=Cd.cs c_api_Addr x1) rfl rfl rfl ?_
 intro b2
 refine aa (aa (nt (qs (sr ?_))))
 refine aw (r_load_aggc (c:=c_api_Addr) (z:=x1) isAgg24 sizeOf24 rfl (lens_cell .z lw)) ?_
 obtain ⟨t3,ht3,hF⟩:=bM hF
 refine cB func40 rfl (fun w hw=>addr_Right_ok _ _ ht3 w) ?_
 refine aw (r_not rfl) ?_
 refine nwq [9,3,2] ?_
 obtain ⟨h4,hF⟩|⟨h4,hF⟩:=oi hF
 ·refine ct h4 ?_
  refine sr (aa (aa (qn (dz (dz (wq [5,4] ?_))))))
  refine tn (rt ?_)
  have K:=os hF
  subst K
  exact at_return2 rfl rfl rfl wb
 refine cf h4 ?_
 refine sns ?_
 refine aw (r_load_cell isAgg55 rfl (fun w1 hw=>cells_get (hw.ok (Upd.mem (.s .z))) 0 _ rfl)) ?_
 refine aw (r_len_sl underlying55 rfl) ?_
 refine aw (r_makeFunc rfl) ?_
 obtain ⟨t5,ht5,hF⟩:=bM hF
 refine cB func60 rfl (fun w hw=>sort_Search__flat_Find_1_ok _ _ _ _ _ _ _ _ ht5 w (cells_row1 (hw.ok (Upd.mem .z))) (cells_get (hw.ok (Upd.mem (.s .z))) 0 _ rfl) (hr0.below hw.below)) ?_
 refine aw (r_isub rfl rfl) ?_
 refine aa (nwq [6,3,2] ?_)
 refine qs (qs ?_)
 refine at_draw (by kernel_rfl) (by kernel_rfl) (fun _ h=>h.drew) ?_
 refine atq_val rfl rfl rfl (r_move rfl) ?_
 refine atq_val rfl rfl rfl (r_ilss rfl rfl) ?_
 refine atq_val rfl rfl rfl (r_move rfl) ?_
 obtain ⟨h6,hF⟩|⟨h6,hF⟩:=oi hF
 ·refine atq_fix (g:=17) rfl h6 ?_
  refine atq_guard_no rfl rfl rfl rfl rfl ?_
  refine atq_guard_no rfl rfl rfl rfl rfl ?_
  refine atq_guard_no rfl rfl rfl rfl rfl ?_
  refine atq_guard_no rfl rfl rfl rfl rfl ?_
  refine atq_guard_no rfl rfl rfl rfl rfl ?_
  refine atq_guard_no rfl rfl rfl rfl rfl ?_
  refine atq_guard_no rfl rfl rfl rfl rfl ?_
  refine atq_guard_no rfl rfl rfl rfl rfl ?_
  refine atq_guard_no rfl rfl rfl rfl rfl ?_
  refine atq_guard_no rfl rfl rfl rfl rfl ?_
  refine atq_val rfl rfl rfl (r_pick rfl rfl rfl) ?_
  refine atq_val rfl rfl rfl (r_move rfl) ?_
  refine atq_guard_no rfl rfl rfl rfl rfl ?_
  refine atq_guard_no rfl rfl rfl rfl rfl ?_
  refine atq_guard_no rfl rfl rfl rfl rfl ?_
  refine atq_guard_no rfl rfl rfl rfl rfl ?_
  refine atq_guard_no rfl rfl rfl rfl rfl ?_
  refine atq_guard_no rfl rfl rfl rfl rfl ?_
  refine atq_guard_no rfl rfl rfl rfl rfl ?_
  refine atq_guard_no rfl rfl rfl rfl rfl ?_
  refine atq_val rfl rfl rfl (r_pick rfl rfl rfl) ?_
  refine atq_nil ?_
  refine dz (wq [38,6,2] ?_)
  refine tn ?_
  refine ct rfl ?_
  refine sr (aa (aa (qn (dz (wq [5,4] ?_)))))
  refine tn (rt ?_)
  have K:=os hF
  subst K
  exact at_return2 rfl rfl rfl wb
 refine atq_fix (g:=17) rfl h6 ?_
 refine atq_guard_yes rfl rfl rfl ?_
 refine atq_val rfl rfl rfl (r_load_cell isAgg55 rfl (fun w1 hw=>cells_get (hw.ok (Upd.mem (.s .z))) 0 _ rfl)) ?_
 refine atq_guard_yes rfl rfl rfl ?_
 refine atq_val rfl rfl rfl (r_move rfl) ?_
 refine atq_guard_yes rfl rfl rfl ?_
 obtain ⟨h7,hF⟩:=gd hF
 obtain ⟨b9,o10,hp8⟩:=row_ptr hr0 h7
 refine atq_val rfl rfl rfl (r_idx underlying55 sizeOf60 rfl rfl h7 hp8) ?_
 refine atq_guard_yes rfl rfl rfl ?_
 refine atq_val rfl rfl rfl (r_fieldAddr (fo:=0) underlying60 rfl rfl (fun w=>⟨_,sizeOf26 w⟩) rfl) ?_
 refine atq_guard_yes rfl rfl rfl ?_
 refine atq_val rfl rfl rfl (r_fieldAddr (fo:=0) underlying26 rfl rfl (fun w=>⟨_,sizeOf24 w⟩) rfl) ?_
 refine atq_guard_yes rfl rfl rfl ?_
 refine atq_val rfl rfl rfl (r_fieldAddr (fo:=0) underlying24 rfl rfl (fun w=>⟨_,sizeOf3 w⟩) rfl) ?_
 refine atq_guard_yes rfl rfl rfl ?_
 refine atq_val rfl rfl rfl (r_load_cell isAgg3 rfl (row_lens0 (y:=(((lget x0 (wr .i64 (t5-1))).f_Range).f_From).f_V) (fun _ h=>h.below) hr0 h7 hp8 (Lens.comp (Lens.comp (Lens.comp lw (fun z=>{ (lget x0 (wr .i64 (t5-1))) with f_Range:=z }) (c_flat_Span_f_Range (lget x0 (wr .i64 (t5-1))))) (fun z=>{ (lget x0 (wr .i64 (t5-1))).f_Range with f_From:=z }) (c_aggregate_Range_f_From ((lget x0 (wr .i64 (t5-1))).f_Range))) (fun z=>{ ((lget x0 (wr .i64 (t5-1))).f_Range).f_From with f_V:=z }) (c_api_Addr_f_V (((lget x0 (wr .i64 (t5-1))).f_Range).f_From))) rfl)) ?_
 refine atq_guard_yes rfl rfl rfl ?_
 refine atq_val rfl rfl rfl (r_fieldAddr (fo:=0) underlying24 rfl rfl (fun w=>⟨_,sizeOf3 w⟩) rfl) ?_
 refine atq_guard_yes rfl rfl rfl ?_
 refine atq_val rfl rfl rfl (r_load_cell isAgg3 rfl (lens_cell0 (c:=(cInt .i64)) (y:=x1.f_V) .z (Lens.comp lw (fun z=>{ x1 with f_V:=z }) (c_api_Addr_f_V x1)) rfl)) ?_
 refine atq_guard_yes rfl rfl rfl ?_
 refine atq_val rfl rfl rfl (r_ineq rfl rfl) ?_
 refine atq_val rfl rfl rfl (r_pick rfl rfl rfl) ?_
 refine atq_val rfl rfl rfl (r_move rfl) ?_
 obtain ⟨h11,hF⟩|⟨h11,hF⟩:=oi hF
 ·refine atq_fix (g:=29) rfl h11 ?_
  refine atq_guard_no rfl rfl rfl rfl rfl ?_
  refine atq_guard_no rfl rfl rfl rfl rfl ?_
  refine atq_guard_no rfl rfl rfl rfl rfl ?_
  refine atq_guard_no rfl rfl rfl rfl rfl ?_
  refine atq_guard_no rfl rfl rfl rfl rfl ?_
  refine atq_guard_no rfl rfl rfl rfl rfl ?_
  refine atq_guard_no rfl rfl rfl rfl rfl ?_
  refine atq_guard_no rfl rfl rfl rfl rfl ?_
  refine atq_val rfl rfl rfl (r_pick rfl rfl rfl) ?_
  refine atq_nil ?_
  refine dz (wq [38,6,2] ?_)
  refine tn ?_
  refine ct rfl ?_
  refine sr (aa (aa (qn (dz (wq [5,4] ?_)))))
  refine tn (rt ?_)
  have K:=os hF
  subst K
  exact at_return2 rfl rfl rfl wb
 refine atq_fix (g:=29) rfl h11 ?_
 refine atq_guard_yes rfl rfl rfl ?_
 refine atq_val rfl rfl rfl (r_load_cell isAgg55 rfl (fun w1 hw=>cells_get (hw.ok (Upd.mem (.s .z))) 0 _ rfl)) ?_
 refine atq_guard_yes rfl rfl rfl ?_
 refine atq_val rfl rfl rfl (r_move rfl) ?_
 refine atq_guard_yes rfl rfl rfl ?_
 obtain ⟨h12,hF⟩:=gd hF
 obtain ⟨b14,o15,hp13⟩:=row_ptr hr0 h12
 refine atq_val rfl rfl rfl (r_idx underlying55 sizeOf60 rfl rfl h12 hp13) ?_
 refine atq_guard_yes rfl rfl rfl ?_
 refine atq_val rfl rfl rfl (r_fieldAddr (fo:=0) underlying60 rfl rfl (fun w=>⟨_,sizeOf26 w⟩) rfl) ?_
 refine atq_guard_yes rfl rfl rfl ?_
 refine atq_val rfl rfl rfl (r_fieldAddr (fo:=17) underlying26 rfl rfl (fun w=>⟨_,sizeOf24 w⟩) rfl) ?_
 refine atq_guard_yes rfl rfl rfl ?_
 refine atq_val rfl rfl rfl (r_load_aggc (c:=c_api_Addr) (z:=((lget x0 (wr .i64 (t5-1))).f_Range).f_To) isAgg24 sizeOf24 rfl (row_lens (y:=((lget x0 (wr .i64 (t5-1))).f_Range).f_To) (fun _ h=>h.below) hr0 h12 hp13 (Lens.comp (Lens.comp lw (fun z=>{ (lget x0 (wr .i64 (t5-1))) with f_Range:=z }) (c_flat_Span_f_Range (lget x0 (wr .i64 (t5-1))))) (fun z=>{ (lget x0 (wr .i64 (t5-1))).f_Range with f_To:=z }) (c_aggregate_Range_f_To ((lget x0 (wr .i64 (t5-1))).f_Range))))) ?_
 refine atq_guard_yes rfl rfl rfl ?_
 refine atq_val rfl rfl rfl (r_load_aggc (c:=c_api_Addr) (z:=x1) isAgg24 sizeOf24 rfl (lens_cell .z lw)) ?_
 refine atq_guard_yes rfl rfl rfl ?_
 obtain ⟨t16,ht16,hF⟩:=bM hF
 refine atq_call func39 rfl (by kernel_rfl) rfl rfl (fun w hw=>(addr_Less_ok _ _ _ ht16 w).mono fun _ _ h=>⟨h.1,hw.call h.2⟩) ?_
 refine atq_val rfl rfl rfl (r_pick rfl rfl rfl) ?_
 refine atq_nil ?_
 refine dz (wq [38,6,2] ?_)
 refine tn ?_
 obtain ⟨h17,hF⟩|⟨h17,hF⟩:=oi hF
 ·refine ct h17 ?_
  refine sr (aa (aa (qn (dz (wq [5,4] ?_)))))
  refine tn (rt ?_)
  have K:=os hF
  subst K
  exact at_return2 rfl rfl rfl wb
 refine cf h17 ?_
 refine sns ?_
 refine aw (r_load_cell isAgg55 rfl (fun w1 hw=>cells_get (hw.ok (Upd.mem .z)) 0 _ rfl)) ?_
 refine am ?_
 obtain ⟨h18,hF⟩:=gd hF
 obtain ⟨b20,o21,hp19⟩:=row_ptr hr0 h18
 refine aw (r_idx underlying55 sizeOf60 rfl rfl h18 hp19) ?_
 refine fa 34 underlying60 rfl sizeOf3 ?_
 refine aw (r_load_cell isAgg3 rfl (row_lens0 (y:=(lget x0 (wr .i64 (t5-1))).f_Owner) (fun _ h=>h.below) hr0 h18 hp19 (Lens.comp lw (fun z=>{ (lget x0 (wr .i64 (t5-1))) with f_Owner:=z }) (c_flat_Span_f_Owner (lget x0 (wr .i64 (t5-1))))) rfl)) ?_
 refine aa (aa (qn (dz (wq [5,4] ?_))))
 refine tn (qt ?_)
 have K:=os hF
 subst K
 exact at_return2 rfl rfl rfl wb
end Go.Proofs.Ytahlbjmafceoeaa
namespace Go.Proofs.Ytahlbjmafceoeaa
open E Go.RowKit _root_.Go.Proofs.Try
abbrev crawlwaylaw59_alive.e0:S_api_Entry:={ { ({ f_P:=({ f_A:=({ f_V:=(0:Int),f_B:=(Vector.replicate 16 (0:Int):(Vector Int 16)) }:S_api_Addr),f_Bits:=(0:Int) }:S_api_Prefix),f_Owner:=(0:Int) }:S_api_Entry) with f_P:={ { ({ f_A:=({ f_V:=(0:Int),f_B:=(Vector.replicate 16 (0:Int):(Vector Int 16)) }:S_api_Addr),f_Bits:=(0:Int) }:S_api_Prefix) with f_A:={ { ({ f_V:=(0:Int),f_B:=(Vector.replicate 16 (0:Int):(Vector Int 16)) }:S_api_Addr) with f_V:=4 } with f_B:=vset (Vector.replicate 16 (0:Int):(Vector Int 16)) 0 10 } } with f_Bits:=8 } } with f_Owner:=1 }
abbrev crawlwaylaw59_alive.e1:S_api_Entry:={ { ({ f_P:=({ f_A:=({ f_V:=(0:Int),f_B:=(Vector.replicate 16 (0:Int):(Vector Int 16)) }:S_api_Addr),f_Bits:=(0:Int) }:S_api_Prefix),f_Owner:=(0:Int) }:S_api_Entry) with f_P:={ { ({ f_A:=({ f_V:=(0:Int),f_B:=(Vector.replicate 16 (0:Int):(Vector Int 16)) }:S_api_Addr),f_Bits:=(0:Int) }:S_api_Prefix) with f_A:={ { ({ f_V:=(0:Int),f_B:=(Vector.replicate 16 (0:Int):(Vector Int 16)) }:S_api_Addr) with f_V:=4 } with f_B:=vset (Vector.replicate 16 (0:Int):(Vector Int 16)) 0 10 } } with f_Bits:=9 } } with f_Owner:=2 }
def crawlwaylaw59_alive:Option (Bool) :=
 flat_Of ([crawlwaylaw59_alive.e0,crawlwaylaw59_alive.e1])>>=fun t3=>flat_Find t3 ({ { ({ f_V:=(0:Int),f_B:=(Vector.replicate 16 (0:Int):(Vector Int 16)) }:S_api_Addr) with f_V:=4 } with f_B:=vset (Vector.replicate 16 (0:Int):(Vector Int 16)) 0 10 })>>=fun t6=>if ((t3.length:Int)==2)=true then (if (0:Int)≤0∧0<(t3.length:Int) then if ((lget t3 0).f_Owner==2)=true then (if (t6.1==2)=true then (some t6.2) else (some false)) else (some false) else none) else (some false)
theorem crawlwaylaw59_alive_ok(r:Bool)(hF:crawlwaylaw59_alive =some r)(w:World) :
    Calls Try.prog 27 #[] w (fun e w'=>e=.returned (.bool r)∧Below w.heap.size w w'):=by
 unfold crawlwaylaw59_alive at hF
 refine ce (l:=[]) func27 rfl rfl ?_
 refine at_start ?_
 refine at_weak [] trivial ?_
 refine sr (aa ?_)
 refine nws [] trivial ?_
 refine aw (r_build_array (zs:=Cd.cs (cVec (cInt .u8) 16 (by decide)) zv1) (cs:=Cd.cs (cVec (cInt .u8) 16 (by decide)) (vset zv1 0 10)) underlying22 zeroValue22 rfl sizeOf5 rfl (fill_step (c:=(cInt .u8)) (z:=10) rfl (Lens.vec (cInt .u8) (by decide) zv1 0 (by decide)) rfl rfl)) ?_
 refine aw (r_build_struct (zs:=Cd.cs c_api_Addr zv0) (cs:=Cd.cs c_api_Addr ({ { zv0 with f_V:=4 } with f_B:=vset zv1 0 10 })) underlying24 zeroValue24 rfl (places_api_Addr_24) rfl (fill_step (c:=(cInt .i64)) (z:=4) rfl (c_api_Addr_f_V zv0) rfl (fill_step (c:=(cVec (cInt .u8) 16 (by decide))) (z:=vset zv1 0 10) rfl (c_api_Addr_f_B ({ zv0 with f_V:=4 })) rfl rfl))) ?_
 refine al (cs:=Cd.cs c_api_Addr zv0) zeroValue24 ?_
 intro b1
 refine at_store (c:=c_api_Addr) (z:={ { zv0 with f_V:=4 } with f_B:=vset zv1 0 10 }) .z lw sizeOf24 rfl rfl rfl ?_
 refine ns ?_
 refine aw (r_load_aggc (c:=c_api_Addr) (z:={ { zv0 with f_V:=4 } with f_B:=vset zv1 0 10 }) isAgg24 sizeOf24 rfl (lens_cell .z lw)) ?_
 refine aw (r_build_struct (zs:=Cd.cs c_api_Prefix zv4) (cs:=Cd.cs c_api_Prefix ({ { zv4 with f_A:={ { zv0 with f_V:=4 } with f_B:=vset zv1 0 10 } } with f_Bits:=8 })) underlying37 zeroValue37 rfl (places_api_Prefix_37) rfl (fill_step (c:=c_api_Addr) (z:={ { zv0 with f_V:=4 } with f_B:=vset zv1 0 10 }) rfl (c_api_Prefix_f_A zv4) rfl (fill_step (c:=(cInt .i64)) (z:=8) rfl (c_api_Prefix_f_Bits ({ zv4 with f_A:={ { zv0 with f_V:=4 } with f_B:=vset zv1 0 10 } })) rfl rfl))) ?_
 refine aw (r_build_struct (zs:=Cd.cs c_api_Entry zv7) (cs:=Cd.cs c_api_Entry ({ { zv7 with f_P:={ { zv4 with f_A:={ { zv0 with f_V:=4 } with f_B:=vset zv1 0 10 } } with f_Bits:=8 } } with f_Owner:=1 })) underlying66 zeroValue66 rfl (places_api_Entry_66) rfl (fill_step (c:=c_api_Prefix) (z:={ { zv4 with f_A:={ { zv0 with f_V:=4 } with f_B:=vset zv1 0 10 } } with f_Bits:=8 }) rfl (c_api_Entry_f_P zv7) rfl (fill_step (c:=(cInt .i64)) (z:=1) rfl (c_api_Entry_f_Owner ({ zv7 with f_P:={ { zv4 with f_A:={ { zv0 with f_V:=4 } with f_B:=vset zv1 0 10 } } with f_Bits:=8 } })) rfl rfl))) ?_
 refine aw (r_load_aggc (c:=c_api_Addr) (z:={ { zv0 with f_V:=4 } with f_B:=vset zv1 0 10 }) isAgg24 sizeOf24 rfl (lens_cell .z lw)) ?_
 refine aw (r_build_struct (zs:=Cd.cs c_api_Prefix zv4) (cs:=Cd.cs c_api_Prefix ({ { zv4 with f_A:={ { zv0 with f_V:=4 } with f_B:=vset zv1 0 10 } } with f_Bits:=9 })) underlying37 zeroValue37 rfl (places_api_Prefix_37) rfl (fill_step (c:=c_api_Addr) (z:={ { zv0 with f_V:=4 } with f_B:=vset zv1 0 10 }) rfl (c_api_Prefix_f_A zv4) rfl (fill_step (c:=(cInt .i64)) (z:=9) rfl (c_api_Prefix_f_Bits ({ zv4 with f_A:={ { zv0 with f_V:=4 } with f_B:=vset zv1 0 10 } })) rfl rfl))) ?_
 refine aw (r_build_struct (zs:=Cd.cs c_api_Entry zv7) (cs:=Cd.cs c_api_Entry ({ { zv7 with f_P:={ { zv4 with f_A:={ { zv0 with f_V:=4 } with f_B:=vset zv1 0 10 } } with f_Bits:=9 } } with f_Owner:=2 })) underlying66 zeroValue66 rfl (places_api_Entry_66) rfl (fill_step (c:=c_api_Prefix) (z:={ { zv4 with f_A:={ { zv0 with f_V:=4 } with f_B:=vset zv1 0 10 } } with f_Bits:=9 }) rfl (c_api_Entry_f_P zv7) rfl (fill_step (c:=(cInt .i64)) (z:=2) rfl (c_api_Entry_f_Owner ({ zv7 with f_P:={ { zv4 with f_A:={ { zv0 with f_V:=4 } with f_B:=vset zv1 0 10 } } with f_Bits:=9 } })) rfl rfl))) ?_
 refine at_litL (c:=c_api_Entry) ([zv7,zv7]:List S_api_Entry) ([crawlwaylaw59_alive.e0,crawlwaylaw59_alive.e1]:List S_api_Entry) underlying54 sizeOf66 zeroValue66 rfl rfl rfl (by kernel_rfl) (fill_step (c:=c_api_Entry) (z:=crawlwaylaw59_alive.e0) rfl (Lens.all c_api_Entry ([zv7,zv7]:List S_api_Entry) 0 (by first | decide | exact Nat.le_of_ble_eq_true rfl)) rfl (fill_step (c:=c_api_Entry) (z:=crawlwaylaw59_alive.e1) rfl (Lens.all c_api_Entry ([crawlwaylaw59_alive.e0,zv7]:List S_api_Entry) 1 (by first | decide | exact Nat.le_of_ble_eq_true rfl)) rfl rfl)) rfl ?_
 intro b2
 obtain ⟨t3,ht3,hF⟩:=bM hF
 refine at_callO (c:=c_flat_Span) (e:=60) (ys:=t3) (V:=fun p cap=>.slice p t3.length cap) func28 rfl (by kernel_rfl) rfl rfl (fun w hw=>flat_Of_ok _ _ _ _ ht3 w (cells_row (hw.ok (Upd.mem .z)))) ?_
 intro p4 c5
 refine aa (qn ?_)
 refine at_drop (H:=_) (.s .z) ?_
 refine tn (sr (am ?_))
 refine aw (r_load_aggc (c:=c_api_Addr) (z:={ { zv0 with f_V:=4 } with f_B:=vset zv1 0 10 }) isAgg24 sizeOf24 rfl (lens_cell (.s .z) lw)) ?_
 obtain ⟨t6,ht6,hF⟩:=bM hF
 refine cB func30 rfl (fun w hw=>flat_Find_ok _ _ _ _ _ ht6 w (hw.own .z).row) ?_
 refine am ?_
 refine aw xe (aw xe (aa (aa (qn ?_))))
 refine at_drop (H:=_) (.s .z) ?_
 refine wq [4,3,2] ?_
 refine tn (sr (am ?_))
 refine aw (r_len_sl underlying55 rfl) ?_
 refine aw xq (am ?_)
 obtain ⟨h7,hF⟩|⟨h7,hF⟩:=oi hF
 ·refine fx 24 h7 ?_
  refine gy ?_
  refine am ?_
  refine gy ?_
  obtain ⟨h8,hF⟩:=gd hF
  refine at_pure (φ:=∃ b o,p4=some ⟨b,o,none⟩) (fun _ hw=>row_ptr (hw.own .z).row h8) ?_
  rintro ⟨b10,o11,hp9⟩
  refine aw (r_idx underlying55 sizeOf60 rfl rfl h8 hp9) ?_
  refine gy ?_
  refine fa 34 underlying60 rfl sizeOf3 ?_
  refine gy ?_
  refine aw (r_load_cell isAgg3 rfl (fun w1 hw=>row_lens0 (y:=(lget t3 0).f_Owner) (W:=fun w1=>w1=_) (fun w1 h=>by subst h;exact Below.refl _ _) (hw.own .z).row h8 hp9 (Lens.comp lw (fun z=>{ (lget t3 0) with f_Owner:=z }) (c_flat_Span_f_Owner (lget t3 0))) rfl _ rfl)) ?_
  refine gy ?_
  refine aw xq (aw xp (am ?_))
  obtain ⟨h12,hF⟩|⟨h12,hF⟩:=oi hF
  ·refine fx 31 h12 ?_
   refine gy ?_
   refine am ?_
   refine gy ?_
   refine aw xq (aw xp (am ?_))
   obtain ⟨h13,hF⟩|⟨h13,hF⟩:=oi hF
   ·refine fx 35 h13 ?_
    refine gy ?_
    refine am (aw xp (aa (qn (dz (wq [0] ?_)))))
    refine tn (qt ?_)
    have K:=os hF
    subst K
    exact r1 wb
   refine fx 35 h13 ?_
   refine gn ?_
   refine aw xp (aa (qn (dz (wq [0] ?_))))
   refine tn (qt ?_)
   have K:=os hF
   subst K
   exact r1 wb
  refine fx 31 h12 ?_
  refine gn ?_
  refine gn ?_
  refine aw xp (am ?_)
  refine gn ?_
  refine aw xp (aa (qn (dz (wq [0] ?_))))
  refine tn (qt ?_)
  have K:=os hF
  subst K
  exact r1 wb
 refine fx 24 h7 ?_
 refine gn ?_
 refine gn ?_
 refine gn ?_
 refine gn ?_
 refine gn ?_
 refine aw xp (am ?_)
 refine gn ?_
 refine gn ?_
 refine aw xp (am ?_)
 refine gn ?_
 refine aw xp (aa (qn (dz (wq [0] ?_))))
 refine tn (qt ?_)
 have K:=os hF
 subst K
 exact r1 wb
end Go.Proofs.Ytahlbjmafceoeaa
namespace Go.Proofs.Ytahlbjmafceoeaa.Agg
open E Go.RowKit Adr Cid
def bf(a b:Sn):Prop:=a.1.1<b.1.1∨(a.1.1=b.1.1∧a.1.2.2<b.1.2.1)
def ltS(V:Int)(x:Nat)(s:Sn):Bool:=ltA V x s.1.1 s.1.2.1
theorem mid_nat{i j:Nat}(h:i+j≤1000000):wr .i64 (ishr .u64 (wr .u64 (wr .i64 ((i:Int)+(j:Int)))) 1)=(((i+j)/2:Nat):Int):=by
 have e:(i:Int)+(j:Int)=((i+j:Nat):Int):=by omega
 rw [e,wr_i64 (x:=((i+j:Nat):Int)) (by omega) (by omega),wr_u64 (by omega) (by omega)]
 have:=ishr_nat .u64 (i+j) 1 (by decide)
 rw [show ((1:Nat):Int)=1 from rfl] at this
 rw [this]
 exact wr_i64 (by omega) (by omega)
theorem get_sN(S:List Sn)(k:Nat)(s:Sn)(h:S[k]? = some s):lget (S.map sN) (k:Int)=sN s:=by
 unfold lget
 rw [Int.toNat_natCast,List.getD_eq_getElem?_getD,List.getElem?_map,h];rfl
theorem search_loop(V:Int)(x:Nat)(hx:x<2 ^ wd V)(S:List Sn)(hS:okS S)(hb:S.Pairwise bf)(hn:S.length≤100000):∀ (f i j:Nat),j-i≤f→i≤j→j≤S.length→(∀ k s,k<i→S[k]? = some s→ltS V x s=false)→(∀ k s,j≤k→S[k]? = some s→ltS V x s=true) →
  ∃ r:Nat,sort_Search__flat_Find_1.l0 (adr V x) (S.map sN) (i:Int) (j:Int)=some (r:Int)∧r≤S.length∧(∀ k s,k<r→S[k]? = some s→ltS V x s=false)∧(∀ k s,r≤k→S[k]? = some s→ltS V x s=true)
 | f,i,j,hf,hij,hj,h1,h2=>by
  rw [sort_Search__flat_Find_1.l0.eq_def]
  by_cases hlt:i<j
  ·rw [decide_eq_true (show (i:Int)<(j:Int) by omega),if_pos rfl,mid_nat (by omega)]
   have hm1:i≤(i+j)/2:=by omega
   have hm2:(i+j)/2<j:=by omega
   generalize (i+j)/2=m at hm1 hm2
   obtain ⟨s,hs⟩:∃ s,S[m]? = some s:=⟨_,List.getElem?_eq_getElem (by omega)⟩
   have hsr:=hS s (List.mem_of_getElem? hs)
   have hle:=hsr.le
   have hlt2:=hsr.lt
   have hin:(0:Int)≤(m:Int)∧(m:Int)<((S.map sN).length:Int):=by rw [List.length_map];omega
   have hcall:flat_Find_1 (m:Int) (adr V x) (S.map sN)=some (ltS V x s):=by
    unfold flat_Find_1
    rw [if_pos hin,get_sN S m s hs]
    have:((sN s).f_Range).f_From=adr s.1.1 s.1.2.1:=rfl
    rw [this,(adr_less hx (show s.1.2.1<2 ^ wd s.1.1 by omega)).1];rfl
   rw [hcall,bindM_some]
   have mono:∀ (k k':Nat) (t t':Sn),k<k'→S[k]? = some t→S[k']? = some t'→ltS V x t=true→ltS V x t'=true:=by
    intro k k' t t' hk ht ht' hlt
    have hbf:bf t t':=by
     have hkl:=(List.getElem?_eq_some_iff.1 ht)
     have hkl':=(List.getElem?_eq_some_iff.1 ht')
     obtain ⟨a1,a2⟩:=hkl
     obtain ⟨b1,b2⟩:=hkl'
     have:=List.pairwise_iff_getElem.1 hb k k' a1 b1 hk
     rw [a2,b2] at this;exact this
    have h9:=(hS t (List.mem_of_getElem? ht)).le
    unfold ltS ltA at hlt ⊢
    unfold bf at hbf
    split at hlt
    ·have:=of_decide_eq_true hlt
     split
     ·exact decide_eq_true (by omega)
     ·exact decide_eq_true (by omega)
    ·have:=of_decide_eq_true hlt
     split
     ·omega
     ·exact decide_eq_true (by omega)
   cases hc:ltS V x s with
   | false =>
    have hw:wr .i64 ((m:Int)+1)=((m+1:Nat):Int):=by rw [wr_i64 (by omega) (by omega)];omega
    rw [if_pos (by decide),hw]
    cases f with
    | zero=>omega
    | succ f =>
     refine search_loop V x hx S hS hb hn f (m+1) j (by omega) (by omega) hj (fun k t hk ht=>?_) h2
     rcases Nat.lt_or_ge k m with h | h
     ·cases ht2:ltS V x t with
      | false=>rfl
      | true=>rw [mono k m t s h ht hs ht2] at hc;cases hc
     ·have:k=m:=by omega
      subst this
      rw [hs] at ht;cases ht;exact hc
   | true =>
    rw [if_neg (by decide)]
    cases f with
    | zero=>omega
    | succ f =>
     refine search_loop V x hx S hS hb hn f i m (by omega) hm1 (by omega) h1 (fun k t hk ht=>?_)
     rcases Nat.lt_or_ge m k with h | h
     ·exact mono m k s t h hs ht hc
     ·have:k=m:=by omega
      subst this
      rw [hs] at ht;cases ht;exact hc
  ·have:i=j:=by omega
   subst this
   rw [decide_eq_false (by omega),if_neg Bool.false_ne_true]
   exact ⟨i,rfl,hj,h1,h2⟩
theorem findS_code{V:Int}(hf:fam V){x:Nat}(hx:x<2 ^ wd V)(S:List Sn)(hS:okS S)(hb:S.Pairwise bf)(hn:S.length≤100000) :
  (∃ s∈S,inR V x s.1∧flat_Find (S.map sN) (adr V x)=some (s.2,true))∨((∀ s∈S,¬ inR V x s.1)∧flat_Find (S.map sN) (adr V x)=some (0,false)):=by
 obtain ⟨r,h1,h2,h3,h4⟩:=search_loop V x hx S hS hb hn S.length 0 S.length (by omega) (Nat.zero_le _) (Nat.le_refl _) (fun k s hk=>by omega) (fun k s hk hs=>by
  have:=(List.getElem?_eq_some_iff.1 hs).1
  omega)
 have hml:(S.map sN).length=S.length:=List.length_map ..
 unfold flat_Find sort_Search__flat_Find_1
 rw [(adr_right hf x).1,bindM_some,if_neg (by decide),hml]
 have h1:sort_Search__flat_Find_1.l0 (adr V x) (S.map sN) 0 (S.length:Int)=some (r:Int):=h1
 rw [h1,bindM_some,bindM_some]
 have hw:wr .i64 ((r:Int)-1)=(r:Int)-1:=wr_i64 (by omega) (by omega)
 rw [hw]
 have hno:∀ k s,r≤k→S[k]? = some s→¬ inR V x s.1:=fun k s hk hs hin=>by
  have:=h4 k s hk hs
  unfold ltS ltA at this
  unfold inR at hin
  split at this
  ·have:=of_decide_eq_true this;omega
  ·omega
 cases r with
 | zero =>
  right
  refine ⟨fun s hs=>?_,?_⟩
  ·obtain ⟨k,hk⟩:=List.mem_iff_getElem?.1 hs
   exact hno k s (Nat.zero_le _) hk
  ·rw [decide_eq_true (by omega),if_pos rfl]
 | succ m =>
  obtain ⟨s,hs⟩:∃ s,S[m]? = some s:=⟨_,List.getElem?_eq_getElem (by omega)⟩
  have hsm:=List.mem_of_getElem? hs
  have hsr:=hS s hsm
  have hle:=hsr.le
  have hf3:=h3 m s (by omega) hs
  have e1:((m+1:Nat):Int)-1=(m:Int):=by omega
  have hin:(0:Int)≤(m:Int)∧(m:Int)<(S.length:Int):=by omega
  rw [e1,decide_eq_false (by omega),if_neg Bool.false_ne_true,if_pos hin,get_sN S m s hs,if_pos hin,if_pos hin]
  have hV:(((sN s).f_Range).f_From).f_V=s.1.1:=rfl
  have hV2:(adr V x).f_V=V:=rfl
  have hto:((sN s).f_Range).f_To=adr s.1.1 s.1.2.2:=rfl
  rw [hV,hV2,hto,(adr_less hsr.lt hx).1,bindM_some]
  have hearlier:∀ k t,k<m→S[k]? = some t→bf t s:=fun k t hk ht=>by
   obtain ⟨a1,a2⟩:=List.getElem?_eq_some_iff.1 ht
   obtain ⟨b1,b2⟩:=List.getElem?_eq_some_iff.1 hs
   have:=List.pairwise_iff_getElem.1 hb k m a1 b1 hk
   rw [a2,b2] at this;exact this
  have hall:¬ inR V x s.1→∀ t∈S,¬ inR V x t.1:=fun hns t ht=>by
   obtain ⟨k,hk⟩:=List.mem_iff_getElem?.1 ht
   rcases Nat.lt_trichotomy k m with h | h | h
   ·have h5:=hearlier k t h hk
    intro hin2
    unfold ltS ltA at hf3
    unfold bf at h5
    unfold inR at hin2 hns
    split at hf3
    ·have:=of_decide_eq_false hf3;omega
    ·have:=of_decide_eq_false hf3;omega
   ·subst h
    rw [hs] at hk;cases hk;exact hns
   ·exact hno k t (by omega) hk
  by_cases hVV:s.1.1=V
  ·have:(s.1.1 != V)=false:=by simpa using hVV
   rw [this,if_neg Bool.false_ne_true]
   unfold ltA
   rw [if_pos hVV]
   have hge:s.1.2.1≤x:=by
    unfold ltS ltA at hf3
    rw [if_pos hVV.symm] at hf3
    have:=of_decide_eq_false hf3
    omega
   by_cases hend:s.1.2.2<x
   ·right
    rw [decide_eq_true hend,if_pos rfl]
    exact ⟨hall (fun h=>by unfold inR at h;omega),rfl⟩
   ·left
    rw [decide_eq_false hend,if_neg Bool.false_ne_true]
    exact ⟨s,hsm,⟨hVV.symm,hge,by omega⟩,rfl⟩
  ·have:(s.1.1 != V)=true:=by simpa using hVV
   right
   rw [this,if_pos rfl]
   exact ⟨hall (fun h=>hVV h.1.symm),rfl⟩
theorem t0:Good (4,167772160,24):=⟨.inl rfl,by decide,by decide,by decide⟩
def exT:List En:=[((4,167772160,24),1),((4,167772160,23),2)]
theorem ex_good:∀ e∈exT,Good e.1:=fun e he=>by
 rcases List.mem_cons.1 he with rfl | he
 ·exact t0
 ·rw [List.mem_singleton.1 he];exact g0
theorem ex_eq:[crawlwaylaw59_alive.e0,crawlwaylaw59_alive.e1]=exT.map en:=by decide +kernel
theorem ex_sorted:Sorted (exT.map en):=by
 refine ⟨fun x hx=>?_,?_,?_⟩
 ·obtain ⟨e,he,rfl⟩:=List.mem_map.1 hx
  exact ⟨e.1,ex_good e he,rfl⟩
 ·refine List.pairwise_cons.2 ⟨fun y hy=>?_,List.pairwise_singleton _ _⟩
  rw [List.mem_singleton.1 hy]
  show lessP (prf 4 167772160 23) (prf 4 167772160 24)=false
  rw [lessP_prf g0.lt t0.lt];decide
 ·show (List.map S_api_Entry.f_P (exT.map en)).Nodup
  refine List.nodup_cons.2 ⟨fun h=>?_,List.nodup_cons.2 ⟨by simp,List.nodup_nil⟩⟩
  have:=pf_inj t0 g0 (List.mem_singleton.1 h)
  cases this
theorem ex_of:ofM exT=[((4,176160768,184549375),1),((4,167772160,176160767),2)]:=by decide +kernel
theorem alive59:crawlwaylaw59_alive=some true:=by
 have hc:=counts_self ex_sorted (by decide) ex_sorted.okL
 obtain ⟨h1,h2,h3⟩:=flatOf_code (exT.map en) exT ex_good (by decide) hc.code
 unfold crawlwaylaw59_alive
 rw [ex_eq,h1,bindM_some]
 have ha:({ { ({ f_V:=(0:Int),f_B:=(Vector.replicate 16 (0:Int):(Vector Int 16)) }:S_api_Addr) with f_V:=4 } with f_B:=vset (Vector.replicate 16 (0:Int):(Vector Int 16)) 0 10 }:S_api_Addr)=adr 4 167772160:=by decide +kernel
 rw [ha]
 rw [ex_of] at h2 ⊢
 have hS:okS ([((4,176160768,184549375),1),((4,167772160,176160767),2)]:List Sn).reverse:=fun s hs=>h2 s (List.mem_reverse.1 hs)
 have hb:(([((4,176160768,184549375),1),((4,167772160,176160767),2)]:List Sn).reverse).Pairwise bf:=by
  refine List.pairwise_cons.2 ⟨fun y hy=>?_,List.pairwise_singleton _ _⟩
  rw [List.mem_singleton.1 hy]
  right;decide
 rcases findS_code (.inl rfl:fam 4) (x:=167772160) (by decide) _ hS hb (by decide) with ⟨s,hs,hin,hr⟩ | ⟨hno,_⟩
 ·rw [hr,bindM_some]
  have hs2:s.2=2:=by
   rcases List.mem_cons.1 hs with rfl | hs
   ·rfl
   ·rw [List.mem_singleton.1 hs] at hin
    unfold inR at hin
    simp at hin
  rw [hs2]
  rfl
 ·exact absurd (show inR 4 167772160 ((4,167772160,176160767):Rg) from ⟨rfl,by decide,by decide⟩) (hno ((4,167772160,176160767),2) (by simp))
theorem alive_then59:(crawlwaylaw59_alive>>=fun t=>some t)=some true:=by rw [alive59];rfl
theorem same25_loop(L:List S_api_Entry)(hn:L.length≤1000000):∀ (k i:Nat),i+k=L.length→crawlwayref25_Same.l0 L L (i:Int)=some (.nx ())
 | 0,i,h=>by rw [crawlwayref25_Same.l0.eq_def,decide_eq_false (by omega),if_neg Bool.false_ne_true]
 | k+1,i,h=>by
  rw [crawlwayref25_Same.l0.eq_def,decide_eq_true (by omega),if_pos rfl,if_pos (by omega),if_pos (by omega),if_neg (by simp),wr_i64 (by omega) (by omega)]
  exact same25_loop L hn k (i+1) (by omega)
theorem same25(L:List S_api_Entry)(hn:L.length≤1000000):crawlwayref25_Same L L=some true:=by
 unfold crawlwayref25_Same
 rw [if_neg (by simp),show (0:Int)=((0:Nat):Int) from rfl,same25_loop L hn L.length 0 (by omega)];rfl
end Go.Proofs.Ytahlbjmafceoeaa.Agg
namespace Go.Proofs.Ytahlbjmafceoeaa
open E Go.RowKit _root_.Go.Proofs.Try
def crawlwaylaw59_FlatThins(x0:List S_api_Entry)(x1:S_api_Addr):Option (Bool) :=
 if (decide ((x0.length:Int)>24))=true then (crawlwaylaw59_alive>>=fun t3=>some t3) else (flat_Own x0>>=fun t4=>flat_Thin x0>>=fun t7=>crawlwayref59_Own x0>>=fun t10=>crawlwayref25_Same t4 t10>>=fun t13=>if (!t13)=true then (some false) else (crawlwayref59_Thin x0>>=fun t15=>crawlwayref25_Same t7 t15>>=fun t18=>if (!t18)=true then (some false) else (flat_Thin t7>>=fun t20=>crawlwayref25_Same t20 t7>>=fun t23=>if (!t23)=true then (some false) else (crawlwayref25_Find t4 x1>>=fun t25=>crawlwayref25_Find t7 x1>>=fun t27=>if (t25.1.f_Owner==t27.1.f_Owner)=true then (if (t25.2==t27.2)=true then (crawlwaylaw59_alive>>=fun t31=>some t31) else (some false)) else (some false)))))
theorem crawlwaylaw59_FlatThins_ok(x0:List S_api_Entry)(p0_:Option Addr)(c0_:Nat)(x1:S_api_Addr)(r:Bool)(hF:crawlwaylaw59_FlatThins x0 x1=some r)(w:World)(hr0:Row c_api_Entry w p0_ c0_ x0) :
    Calls Try.prog 7 #[.slice p0_ x0.length c0_,.agg (Cd.cs c_api_Addr x1).toArray] w (fun e w'=>e=.returned (.bool r)∧Below w.heap.size w w'):=by
 unfold crawlwaylaw59_FlatThins at hF
 refine ce (l:=[.slice p0_ x0.length c0_,.agg (Cd.cs c_api_Addr x1).toArray]) func7 rfl rfl ?_
 refine at_start ?_
 refine sr ?_
 refine at_box (cs:=Cd.cs c_api_Addr x1) rfl rfl rfl ?_
 intro b1
 refine aa (nt (qs (sr (am ?_))))
 refine aw (r_len_sl underlying54 rfl) ?_
 refine aw (r_igtr rfl rfl) ?_
 refine nwq [13,3,0] ?_
 obtain ⟨h2,hF⟩|⟨h2,hF⟩:=oi hF
 ·refine ct h2 ?_
  refine sr ?_
  obtain ⟨t3,ht3,hF⟩:=bM hF
  refine cB func27 rfl (fun w hw=>crawlwaylaw59_alive_ok  _ ht3 w) ?_
  refine aa (qn (dz (wq [4] ?_)))
  refine tn (rt ?_)
  have K:=os hF
  subst K
  exact r1 wb
 refine cf h2 ?_
 refine sns (am ?_)
 obtain ⟨t4,ht4,hF⟩:=bM hF
 refine at_callO (c:=c_api_Entry) (e:=66) (ys:=t4) (V:=fun p cap=>.slice p t4.length cap) func33 rfl (by kernel_rfl) rfl rfl (fun w hw=>flat_Own_ok _ _ _ _ ht4 w (hr0.below hw.below)) ?_
 intro p5 c6
 refine aa (ns (am ?_))
 obtain ⟨t7,ht7,hF⟩:=bM hF
 refine at_callO (c:=c_api_Entry) (e:=66) (ys:=t7) (V:=fun p cap=>.slice p t7.length cap) func34 rfl (by kernel_rfl) rfl rfl (fun w hw=>flat_Thin_ok _ _ _ _ ht7 w (hr0.below hw.below)) ?_
 intro p8 c9
 refine aa (nwq [6,5,3,0] ?_)
 refine qs (sr (am (am ?_)))
 obtain ⟨t10,ht10,hF⟩:=bM hF
 refine at_callO (c:=c_api_Entry) (e:=66) (ys:=t10) (V:=fun p cap=>.slice p t10.length cap) func32 rfl (by kernel_rfl) rfl rfl (fun w hw=>crawlwayref59_Own_ok _ _ _ _ ht10 w (hr0.below hw.below)) ?_
 intro p11 c12
 obtain ⟨t13,ht13,hF⟩:=bM hF
 refine cB func35 rfl (fun w hw=>crawlwayref25_Same_ok _ _ _ _ _ _ _ ht13 w (hw.own (.s (.s .z))).row (hw.own .z).row) ?_
 refine aw (r_not rfl) ?_
 refine am ?_
 obtain ⟨h14,hF⟩|⟨h14,hF⟩:=oi hF
 ·refine fx 24 h14 ?_
  refine gn ?_
  refine gn ?_
  refine gn ?_
  refine gn ?_
  refine gn ?_
  refine aw xp (am ?_)
  refine gn ?_
  refine gn ?_
  refine gn ?_
  refine gn ?_
  refine gn ?_
  refine aw xp (qn (dz (wq [37,6,5,3] ?_)))
  refine tn ?_
  refine ct rfl ?_
  refine sr (aa (qn (dz (dz (dz (wq [4] ?_))))))
  refine tn (rt ?_)
  have K:=os hF
  subst K
  exact r1 wb
 refine fx 24 h14 ?_
 refine gy ?_
 refine am ?_
 refine gy ?_
 refine am ?_
 refine gy ?_
 obtain ⟨t15,ht15,hF⟩:=bM hF
 refine at_callO (c:=c_api_Entry) (e:=66) (ys:=t15) (V:=fun p cap=>.slice p t15.length cap) func36 rfl (by kernel_rfl) rfl rfl (fun w hw=>crawlwayref59_Thin_ok _ _ _ _ ht15 w (hr0.below hw.below)) ?_
 intro p16 c17
 refine gy ?_
 obtain ⟨t18,ht18,hF⟩:=bM hF
 refine cB func35 rfl (fun w hw=>crawlwayref25_Same_ok _ _ _ _ _ _ _ ht18 w (hw.own (.s (.s .z))).row (hw.own .z).row) ?_
 refine gy ?_
 refine aw (r_not rfl) ?_
 refine aw xp (am ?_)
 obtain ⟨h19,hF⟩|⟨h19,hF⟩:=oi hF
 ·refine fx 31 h19 ?_
  refine gn ?_
  refine gn ?_
  refine gn ?_
  refine gn ?_
  refine gn ?_
  refine aw xp (qn (dz (dz (wq [37,6,5,3] ?_))))
  refine tn ?_
  refine ct rfl ?_
  refine sr (aa (qn (dz (dz (dz (wq [4] ?_))))))
  refine tn (rt ?_)
  have K:=os hF
  subst K
  exact r1 wb
 refine fx 31 h19 ?_
 refine gy ?_
 refine am ?_
 refine gy ?_
 obtain ⟨t20,ht20,hF⟩:=bM hF
 refine at_callO (c:=c_api_Entry) (e:=66) (ys:=t20) (V:=fun p cap=>.slice p t20.length cap) func34 rfl (by kernel_rfl) rfl rfl (fun w hw=>flat_Thin_ok _ _ _ _ ht20 w (hw.own (.s (.s .z))).row) ?_
 intro p21 c22
 refine gy ?_
 refine am ?_
 refine gy ?_
 obtain ⟨t23,ht23,hF⟩:=bM hF
 refine cB func35 rfl (fun w hw=>crawlwayref25_Same_ok _ _ _ _ _ _ _ ht23 w (hw.own .z).row (hw.own (.s (.s (.s .z)))).row) ?_
 refine gy ?_
 refine aw (r_not rfl) ?_
 refine aw xp (qn (dz (dz (dz (wq [37,6,5,3] ?_)))))
 refine tn ?_
 obtain ⟨h24,hF⟩|⟨h24,hF⟩:=oi hF
 ·refine ct h24 ?_
  refine sr (aa (qn (dz (dz (dz (wq [4] ?_))))))
  refine tn (rt ?_)
  have K:=os hF
  subst K
  exact r1 wb
 refine cf h24 ?_
 refine sns (am ?_)
 refine aw (r_load_aggc (c:=c_api_Addr) (z:=x1) isAgg24 sizeOf24 rfl (lens_cell (.s (.s .z)) lw)) ?_
 obtain ⟨t25,ht25,hF⟩:=bM hF
 refine cB func31 rfl (fun w hw=>crawlwayref25_Find_ok _ _ _ _ _ ht25 w (hw.own (.s .z)).row) ?_
 refine am ?_
 refine aw xe (aw xe ?_)
 refine al (cs:=Cd.cs c_api_Entry zv7) zeroValue66 ?_
 intro b26
 refine at_store (c:=c_api_Entry) (z:=t25.1) .z lw sizeOf66 rfl rfl rfl ?_
 refine aa (qn ?_)
 refine at_drop (H:=_) (.s (.s .z)) ?_
 refine tn (sr (am ?_))
 refine aw (r_load_aggc (c:=c_api_Addr) (z:=x1) isAgg24 sizeOf24 rfl (lens_cell (.s (.s .z)) lw)) ?_
 obtain ⟨t27,ht27,hF⟩:=bM hF
 refine cB func31 rfl (fun w hw=>crawlwayref25_Find_ok _ _ _ _ _ ht27 w (hw.own (.s .z)).row) ?_
 refine am ?_
 refine aw xe (aw xe ?_)
 refine al (cs:=Cd.cs c_api_Entry zv7) zeroValue66 ?_
 intro b28
 refine at_store (c:=c_api_Entry) (z:=t27.1) .z lw sizeOf66 rfl rfl rfl ?_
 refine aa (qn ?_)
 refine at_drop (H:=_) (.s (.s .z)) ?_
 refine at_drop (H:=_) (.s (.s .z)) ?_
 refine wq [10,9,8,7] ?_
 refine tn (sr (fa 18 underlying66 rfl sizeOf3 ?_))
 refine aw (r_load_cell isAgg3 rfl (lens_cell0 (c:=(cInt .i64)) (y:=t25.1.f_Owner) (.s .z) (Lens.comp lw (fun z=>{ t25.1 with f_Owner:=z }) (c_api_Entry_f_Owner t25.1)) rfl)) ?_
 refine fa 18 underlying66 rfl sizeOf3 ?_
 refine aw (r_load_cell isAgg3 rfl (lens_cell0 (c:=(cInt .i64)) (y:=t27.1.f_Owner) .z (Lens.comp lw (fun z=>{ t27.1 with f_Owner:=z }) (c_api_Entry_f_Owner t27.1)) rfl)) ?_
 refine aw xq (am ?_)
 obtain ⟨h29,hF⟩|⟨h29,hF⟩:=oi hF
 ·refine fx 55 h29 ?_
  refine gy ?_
  refine am ?_
  refine gy ?_
  refine am ?_
  refine gy ?_
  refine aw (r_bool underlying4 rfl rfl (.inl rfl) rfl) ?_
  refine aw xp (am ?_)
  obtain ⟨h30,hF⟩|⟨h30,hF⟩:=oi hF
  ·refine fx 60 h30 ?_
   refine gy ?_
   obtain ⟨t31,ht31,hF⟩:=bM hF
   refine cB func27 rfl (fun w hw=>crawlwaylaw59_alive_ok  _ ht31 w) ?_
   refine aw xp (aa (qn (dz (dz (wq [4] ?_)))))
   refine tn (qt ?_)
   have K:=os hF
   subst K
   exact r1 wb
  refine fx 60 h30 ?_
  refine gn ?_
  refine aw xp (aa (qn (dz (dz (wq [4] ?_)))))
  refine tn (qt ?_)
  have K:=os hF
  subst K
  exact r1 wb
 refine fx 55 h29 ?_
 refine gn ?_
 refine gn ?_
 refine gn ?_
 refine aw xp (am ?_)
 refine gn ?_
 refine aw xp (aa (qn (dz (dz (wq [4] ?_)))))
 refine tn (qt ?_)
 have K:=os hF
 subst K
 exact r1 wb
end Go.Proofs.Ytahlbjmafceoeaa
namespace Go.Proofs.Ytahlbjmafceoeaa.Agg
open E Go.RowKit Adr Cid
theorem best_false(T:List En):best (fun _=>false) T=none:=best_none.2 fun _ _=>rfl
theorem FlatThins_pure(xs0:List S_api_Entry)(hw0:∀ x∈xs0,ok_api_Entry x)(a1:S_api_Addr)(w1:ok_api_Addr a1):crawlwaylaw59_FlatThins xs0 a1=some true:=by
 unfold crawlwaylaw59_FlatThins
 by_cases h24:(xs0.length:Int)>24
 ·rw [decide_eq_true h24,if_pos rfl];exact alive_then59
 ·rw [decide_eq_false h24,if_neg Bool.false_ne_true]
  obtain ⟨O,hO⟩:=counts xs0 (fun x hx=>(hw0 x hx).1) (by omega)
  obtain ⟨T,hT,rfl,hnd⟩:=allE hO.sorted
  have hTl:T.length≤24:=by have:=hO.len;rw [List.length_map] at this;omega
  have hthl:(thinT T).length≤24:=Nat.le_trans (List.length_filter_le ..) hTl
  have hsT:Sorted ((thinT T).map en):=by
   have hsub:((thinT T).map en).Sublist (T.map en):=List.filter_sublist.map _
   exact ⟨fun x hx=>hO.sorted.is x (hsub.subset hx),hO.sorted.up.sublist hsub,hO.sorted.nd.sublist (hsub.map _)⟩
  have hc2:=counts_self hsT (by rw [List.length_map];omega) hsT.okL
  have k1:=flatThin_code xs0 T (by omega) hT hO.code
  have k2:=refThin_code xs0 T (by omega) hT hnd hO.doc
  have k3:=flatThin_code ((thinT T).map en) (thinT T) (by omega) (thin_good hT) hc2.code
  rw [thin_thin hT hnd] at k3
  rw [hO.code,bindM_some,k1,bindM_some,hO.doc,bindM_some,same25 _ (by rw [List.length_map];omega),bindM_some,if_neg (by decide),k2,bindM_some,same25 _ (by rw [List.length_map];omega),bindM_some,if_neg (by decide),k3,bindM_some,same25 _ (by rw [List.length_map];omega),bindM_some,if_neg (by decide)]
  have fin:∀ p:En→Bool,(∀ e∈T,crawlwayref11_Has (pf e.1) a1=some (p e))→(best p (thinT T)).isSome=(best p T).isSome∧(outE (best p (thinT T))).f_Owner=(outE (best p T)).f_Owner →
    (crawlwayref25_Find (T.map en) a1>>=fun t25=>crawlwayref25_Find ((thinT T).map en) a1>>=fun t27=>if (t25.1.f_Owner==t27.1.f_Owner)=true then (if (t25.2==t27.2)=true then (crawlwaylaw59_alive>>=fun t31=>some t31) else (some false)) else (some false))=some true:=by
   intro p hp h
   rw [find_code a1 p T (by omega) hp,bindM_some,find_code a1 p (thinT T) (by omega) (fun e he=>hp e (mem_thin.1 he).1),bindM_some]
   show (if ((outE (best p T)).f_Owner==(outE (best p (thinT T))).f_Owner)=true then (if ((best p T).isSome==(best p (thinT T)).isSome)=true then _ else _) else _)=_
   rw [h.1,h.2,if_pos (by simp),if_pos (by simp)]
   exact alive_then59
  obtain ⟨W,k,rfl,hk,_⟩:=exists_mkA a1 w1
  cases hra:rightL W k with
  | false=>exact fin (fun _=>false) (fun e he=>has_wrong2 (ok_pf (hT e he)) hk hra) (by rw [best_false,best_false];exact ⟨rfl,rfl⟩)
  | true =>
   obtain ⟨hf,x,hx,rfl⟩:=right_is hk hra
   exact fin (fun e=>decide (inP W x e.1)) (fun e he=>has_pf (hT e he) hf x hx) (find_thin hT hnd fun e he=>rfl)
end Go.Proofs.Ytahlbjmafceoeaa.Agg
