/- Texts of this claim, those in one that belong together; printed by a program of this project. -/
import Derived.Test.YtahlbjmafceoeaaProg
import Derived.Test.YtahlbjmafceoeaaKFlatSpans2
set_option linter.unusedVariables false
set_option linter.unusedSimpArgs false
set_option maxRecDepth 20000
namespace Go.Proofs.Ytahlbjmafceoeaa
open E Go.RowKit _root_.Go.Proofs.Try
def flat_Find_1(x0:Int)(x1:S_api_Addr)(x2:List S_flat_Span):Option (Bool) :=
 if (0:Int)≤x0∧x0<(x2.length:Int) then addr_Less x1 (((lget x2 x0).f_Range).f_From)>>=fun t5=>some t5 else none
theorem flat_Find_1_ok(x0:Int)(b1_:Nat)(x1:S_api_Addr)(b2_:Nat)(x2:List S_flat_Span)(pb2_:Option Addr)(cb2_:Nat)(r:Bool)(hF:flat_Find_1 x0 x1 x2=some r)(w:World)(hc1:Row c_api_Addr w (some ⟨b1_,0,none⟩) 1 [x1])(hc2:w.cell? ⟨b2_,0,none⟩=some (.slice pb2_ x2.length cb2_))(hc2r:Row c_flat_Span w pb2_ cb2_ x2) :
    Calls Try.prog 61 #[.int .i64 x0,.pointer (some ⟨b1_,0,none⟩),.pointer (some ⟨b2_,0,none⟩)] w (fun e w'=>e=.returned (.bool r)∧Below w.heap.size w w'):=by
 unfold flat_Find_1 at hF
 refine ce (l:=[.int .i64 x0,.pointer (some ⟨b1_,0,none⟩),.pointer (some ⟨b2_,0,none⟩)]) func61 rfl rfl ?_
 refine at_start ?_
 refine sr (aa (nwq [2,1,0] ?_))
 refine qs ?_
 refine at_draw (by kernel_rfl) (by kernel_rfl) (fun _ h=>h.drew) ?_
 refine atq_val rfl rfl rfl (r_load_aggc (c:=c_api_Addr) (z:=x1) isAgg24 sizeOf24 rfl (row_cell (fun _ h=>h.below) hc1 one_in rfl)) ?_
 refine atq_val rfl rfl rfl (r_load_cell isAgg55 rfl (fun w1 hw=>cap_cell hc2 hw.below)) ?_
 refine atq_val rfl rfl rfl (r_move rfl) ?_
 obtain ⟨h1,hF⟩:=gd hF
 obtain ⟨b3,o4,hp2⟩:=row_ptr hc2r h1
 refine atq_val rfl rfl rfl (r_idx underlying55 sizeOf60 rfl rfl h1 hp2) ?_
 refine atq_val rfl rfl rfl (r_fieldAddr (fo:=0) underlying60 rfl rfl (fun w=>⟨_,sizeOf26 w⟩) rfl) ?_
 refine atq_val rfl rfl rfl (r_fieldAddr (fo:=0) underlying26 rfl rfl (fun w=>⟨_,sizeOf24 w⟩) rfl) ?_
 refine atq_val rfl rfl rfl (r_load_aggc (c:=c_api_Addr) (z:=((lget x2 x0).f_Range).f_From) isAgg24 sizeOf24 rfl (row_lens (y:=((lget x2 x0).f_Range).f_From) (fun _ h=>h.below) hc2r h1 hp2 (Lens.comp (Lens.comp lw (fun z=>{ (lget x2 x0) with f_Range:=z }) (c_flat_Span_f_Range (lget x2 x0))) (fun z=>{ (lget x2 x0).f_Range with f_From:=z }) (c_aggregate_Range_f_From ((lget x2 x0).f_Range))))) ?_
 obtain ⟨t5,ht5,hF⟩:=bM hF
 refine atq_call func39 rfl (by kernel_rfl) rfl rfl (fun w hw=>(addr_Less_ok _ _ _ ht5 w).mono fun _ _ h=>⟨h.1,hw.call h.2⟩) ?_
 refine atq_val rfl rfl rfl (r_assign rfl) ?_
 refine atq_nil ?_
 refine wq [4] ?_
 refine tn (qt ?_)
 have K:=os hF
 subst K
 exact r1 wb
def sort_Search__flat_Find_1.l0(x1_0:S_api_Addr)(x1_1:List S_flat_Span)(i2:Int)(i3:Int):Option (Int) :=
 if (decide (i2<i3))=true then (flat_Find_1 (wr .i64 (ishr .u64 (wr .u64 (wr .i64 (i2+i3))) 1)) x1_0 x1_1>>=fun t5=>if (!t5)=true then (sort_Search__flat_Find_1.l0 x1_0 x1_1 (wr .i64 ((wr .i64 (ishr .u64 (wr .u64 (wr .i64 (i2+i3))) 1))+1)) i3) else (sort_Search__flat_Find_1.l0 x1_0 x1_1 i2 (wr .i64 (ishr .u64 (wr .u64 (wr .i64 (i2+i3))) 1)))) else (some i2)
 partial_fixpoint
def sort_Search__flat_Find_1(x0:Int)(x1_0:S_api_Addr)(x1_1:List S_flat_Span):Option (Int) :=
 sort_Search__flat_Find_1.l0 x1_0 x1_1 0 x0>>=fun q1=>some q1
theorem sort_Search__flat_Find_1_ok(x0:Int)(b1_0:Nat)(x1_0:S_api_Addr)(b1_1:Nat)(x1_1:List S_flat_Span)(pb1_1:Option Addr)(cb1_1:Nat)(r:Int)(hF:sort_Search__flat_Find_1 x0 x1_0 x1_1=some r)(w:World)(hc1_0:Row c_api_Addr w (some ⟨b1_0,0,none⟩) 1 [x1_0])(hc1_1:w.cell? ⟨b1_1,0,none⟩=some (.slice pb1_1 x1_1.length cb1_1))(hc1_1r:Row c_flat_Span w pb1_1 cb1_1 x1_1) :
    Calls Try.prog 60 #[.int .i64 x0,.func (.func 61) #[] #[.pointer (some ⟨b1_0,0,none⟩),.pointer (some ⟨b1_1,0,none⟩)]] w (fun e w'=>e=.returned (.int .i64 r)∧Below w.heap.size w w'):=by
 unfold sort_Search__flat_Find_1 at hF
 refine ce (l:=[.int .i64 x0,.func (.func 61) #[] #[.pointer (some ⟨b1_0,0,none⟩),.pointer (some ⟨b1_1,0,none⟩)]]) func60 rfl rfl ?_
 refine at_start ?_
 refine sr (aa (ns (am (aa (aa (nwq [6,5,1] ?_))))))
 refine qs ?_
 refine qb ?_
 obtain ⟨q1,hq1,hF⟩:=bM hF
 refine wq [6,5,1] ?_
 refine at_loop_n (B:=0) (A:=fun Y=>At 26 [(5,.int .i64 q1)] (Wd w []) Y) ?_ ?_
 ·intro K
  refine sort_Search__flat_Find_1.l0.partial_correctness x1_0 x1_1 (motive:=fun i2 i3 x=>KN (fun Y=>At 26 [(5,.int .i64 x)] (Wd w []) Y) _ 0→Round (fun Y=>At 26 [(1,.func (.func 61) #[] #[.pointer (some ⟨b1_0,0,none⟩),.pointer (some ⟨b1_1,0,none⟩)]),(5,.int .i64 i2),(6,.int .i64 i3)] (Wd w []) Y) _ _ _) ?_ _ _ _ hq1 K
  ·clear K hF
   intro g ih i2 i3 x hF K
   refine at_round ?_
   refine qs (sr (am (am (aw xl (nwq [11,6,5,1] ?_)))))
   obtain ⟨h4,hF⟩|⟨h4,hF⟩:=oi hF
   ·refine ct h4 ?_
    refine sn ?_
    refine qb ?_
    refine sr (am (am (aw xa ?_)))
    refine aw (r_conv underlying3 underlying81 rfl) ?_
    refine aw (r_ishr rfl rfl (by decide)) ?_
    refine aw (r_conv underlying81 underlying3 rfl) ?_
    refine aa (nwx [7,6,5,1] ?_)
    refine am (am ?_)
    refine at_calleeC (caps:=[.pointer (some ⟨b1_0,0,none⟩),.pointer (some ⟨b1_1,0,none⟩)]) rfl ?_
    obtain ⟨t5,ht5,hF⟩:=bM hF
    refine cB func61 rfl (fun w hw=>flat_Find_1_ok _ _ _ _ _ _ _ _ ht5 w (hc1_0.below hw.below) (cap_cell hc1_1 hw.below) (hc1_1r.below hw.below)) ?_
    refine aw (r_not rfl) ?_
    refine nwq [21,7,6,5,1] ?_
    obtain ⟨h6,hF⟩|⟨h6,hF⟩:=oi hF
    ·refine ct h6 ?_
     refine qr (am (aw xa (aa (qn (wq [6,5,1] ?_)))))
     refine bm ?_
     exact at_weak_k (ih _ _ _ hF K) ⟨rfl,rfl,rfl,trivial⟩
    refine cf h6 ?_
    refine qr (am (aa (qn (wq [6,5,1] ?_))))
    refine bm ?_
    exact at_weak_k (ih _ _ _ hF K) ⟨rfl,rfl,rfl,trivial⟩
   refine cf h4 ?_
   refine at_exit ?_
   refine te (te ?_)
   obtain rfl:=os hF
   exact at_weak_k K ⟨rfl,trivial⟩
 skip
 skip
 refine at_blk_same ?_
 refine tn (sr (am (aa (nwq [4] ?_))))
 refine qt ?_
 have K:=os hF
 subst K
 exact r1 wb
def flat_Find(x0:List S_flat_Span)(x1:S_api_Addr):Option (Int×Bool) :=
 addr_Right x1>>=fun t3=>if (!t3)=true then (some (0,false)) else (sort_Search__flat_Find_1 (x0.length:Int) x1 x0>>=fun t5=>if (decide (wr .i64 (t5-1)<0))=true then (some (0,false)) else (if (0:Int)≤wr .i64 (t5-1)∧wr .i64 (t5-1)<(x0.length:Int) then if ((((lget x0 (wr .i64 (t5-1))).f_Range).f_From).f_V != x1.f_V)=true then (some (0,false)) else (if (0:Int)≤wr .i64 (t5-1)∧wr .i64 (t5-1)<(x0.length:Int) then addr_Less (((lget x0 (wr .i64 (t5-1))).f_Range).f_To) x1>>=fun t16=>if t16=true then (some (0,false)) else (if (0:Int)≤wr .i64 (t5-1)∧wr .i64 (t5-1)<(x0.length:Int) then some ((lget x0 (wr .i64 (t5-1))).f_Owner,true) else none) else none) else none))
theorem flat_Find_ok(x0:List S_flat_Span)(p0_:Option Addr)(c0_:Nat)(x1:S_api_Addr)(r:Int×Bool)(hF:flat_Find x0 x1=some r)(w:World)(hr0:Row c_flat_Span w p0_ c0_ x0) :
    Calls Try.prog 30 #[.slice p0_ x0.length c0_,.agg (Cd.cs c_api_Addr x1).toArray] w (fun e w'=>e=.returned (.tuple #[.int .i64 r.1,.bool r.2])∧Below w.heap.size w w'):=by
 unfold flat_Find at hF
 refine ce (l:=[.slice p0_ x0.length c0_,.agg (Cd.cs c_api_Addr x1).toArray]) func30 rfl rfl ?_
 refine at_start ?_
 refine sr ?_
 refine at_box (cs:=[.slice p0_ x0.length c0_]) rfl rfl rfl ?_
 intro b1
 refine at_box (cs:=Cd.cs c_api_Addr x1) rfl rfl rfl ?_
 intro b2
 refine aa (aa (nt (qs (sr ?_))))
 refine aw (r_load_aggc (c:=c_api_Addr) (z:=x1) isAgg24 sizeOf24 rfl (lens_cell .z lw)) ?_
 obtain ⟨t3,ht3,hF⟩:=bM hF
 refine cB func40 rfl (fun w hw=>addr_Right_ok _ _ ht3 w) ?_
 refine aw (r_not rfl) ?_
 refine nwq [9,3,2] ?_
 obtain ⟨h4,hF⟩|⟨h4,hF⟩:=oi hF
 ·refine ct h4 ?_
  refine sr (aa (aa (qn (dz (dz (wq [5,4] ?_))))))
  refine tn (rt ?_)
  have K:=os hF
  subst K
  exact at_return2 rfl rfl rfl wb
 refine cf h4 ?_
 refine sns ?_
 refine aw (r_load_cell isAgg55 rfl (fun w1 hw=>cells_get (hw.ok (Upd.mem (.s .z))) 0 _ rfl)) ?_
 refine aw (r_len_sl underlying55 rfl) ?_
 refine aw (r_makeFunc rfl) ?_
 obtain ⟨t5,ht5,hF⟩:=bM hF
 refine cB func60 rfl (fun w hw=>sort_Search__flat_Find_1_ok _ _ _ _ _ _ _ _ ht5 w (cells_row1 (hw.ok (Upd.mem .z))) (cells_get (hw.ok (Upd.mem (.s .z))) 0 _ rfl) (hr0.below hw.below)) ?_
 refine aw (r_isub rfl rfl) ?_
 refine aa (nwq [6,3,2] ?_)
 refine qs (qs ?_)
 refine at_draw (by kernel_rfl) (by kernel_rfl) (fun _ h=>h.drew) ?_
 refine atq_val rfl rfl rfl (r_move rfl) ?_
 refine atq_val rfl rfl rfl (r_ilss rfl rfl) ?_
 refine atq_val rfl rfl rfl (r_move rfl) ?_
 obtain ⟨h6,hF⟩|⟨h6,hF⟩:=oi hF
 ·refine atq_fix (g:=17) rfl h6 ?_
  refine atq_guard_no rfl rfl rfl rfl rfl ?_
  refine atq_guard_no rfl rfl rfl rfl rfl ?_
  refine atq_guard_no rfl rfl rfl rfl rfl ?_
  refine atq_guard_no rfl rfl rfl rfl rfl ?_
  refine atq_guard_no rfl rfl rfl rfl rfl ?_
  refine atq_guard_no rfl rfl rfl rfl rfl ?_
  refine atq_guard_no rfl rfl rfl rfl rfl ?_
  refine atq_guard_no rfl rfl rfl rfl rfl ?_
  refine atq_guard_no rfl rfl rfl rfl rfl ?_
  refine atq_guard_no rfl rfl rfl rfl rfl ?_
  refine atq_val rfl rfl rfl (r_pick rfl rfl rfl) ?_
  refine atq_val rfl rfl rfl (r_move rfl) ?_
  refine atq_guard_no rfl rfl rfl rfl rfl ?_
  refine atq_guard_no rfl rfl rfl rfl rfl ?_
  refine atq_guard_no rfl rfl rfl rfl rfl ?_
  refine atq_guard_no rfl rfl rfl rfl rfl ?_
  refine atq_guard_no rfl rfl rfl rfl rfl ?_
  refine atq_guard_no rfl rfl rfl rfl rfl ?_
  refine atq_guard_no rfl rfl rfl rfl rfl ?_
  refine atq_guard_no rfl rfl rfl rfl rfl ?_
  refine atq_val rfl rfl rfl (r_pick rfl rfl rfl) ?_
  refine atq_nil ?_
  refine dz (wq [38,6,2] ?_)
  refine tn ?_
  refine ct rfl ?_
  refine sr (aa (aa (qn (dz (wq [5,4] ?_)))))
  refine tn (rt ?_)
  have K:=os hF
  subst K
  exact at_return2 rfl rfl rfl wb
 refine atq_fix (g:=17) rfl h6 ?_
 refine atq_guard_yes rfl rfl rfl ?_
 refine atq_val rfl rfl rfl (r_load_cell isAgg55 rfl (fun w1 hw=>cells_get (hw.ok (Upd.mem (.s .z))) 0 _ rfl)) ?_
 refine atq_guard_yes rfl rfl rfl ?_
 refine atq_val rfl rfl rfl (r_move rfl) ?_
 refine atq_guard_yes rfl rfl rfl ?_
 obtain ⟨h7,hF⟩:=gd hF
 obtain ⟨b9,o10,hp8⟩:=row_ptr hr0 h7
 refine atq_val rfl rfl rfl (r_idx underlying55 sizeOf60 rfl rfl h7 hp8) ?_
 refine atq_guard_yes rfl rfl rfl ?_
 refine atq_val rfl rfl rfl (r_fieldAddr (fo:=0) underlying60 rfl rfl (fun w=>⟨_,sizeOf26 w⟩) rfl) ?_
 refine atq_guard_yes rfl rfl rfl ?_
 refine atq_val rfl rfl rfl (r_fieldAddr (fo:=0) underlying26 rfl rfl (fun w=>⟨_,sizeOf24 w⟩) rfl) ?_
 refine atq_guard_yes rfl rfl rfl ?_
 refine atq_val rfl rfl rfl (r_fieldAddr (fo:=0) underlying24 rfl rfl (fun w=>⟨_,sizeOf3 w⟩) rfl) ?_
 refine atq_guard_yes rfl rfl rfl ?_
 refine atq_val rfl rfl rfl (r_load_cell isAgg3 rfl (row_lens0 (y:=(((lget x0 (wr .i64 (t5-1))).f_Range).f_From).f_V) (fun _ h=>h.below) hr0 h7 hp8 (Lens.comp (Lens.comp (Lens.comp lw (fun z=>{ (lget x0 (wr .i64 (t5-1))) with f_Range:=z }) (c_flat_Span_f_Range (lget x0 (wr .i64 (t5-1))))) (fun z=>{ (lget x0 (wr .i64 (t5-1))).f_Range with f_From:=z }) (c_aggregate_Range_f_From ((lget x0 (wr .i64 (t5-1))).f_Range))) (fun z=>{ ((lget x0 (wr .i64 (t5-1))).f_Range).f_From with f_V:=z }) (c_api_Addr_f_V (((lget x0 (wr .i64 (t5-1))).f_Range).f_From))) rfl)) ?_
 refine atq_guard_yes rfl rfl rfl ?_
 refine atq_val rfl rfl rfl (r_fieldAddr (fo:=0) underlying24 rfl rfl (fun w=>⟨_,sizeOf3 w⟩) rfl) ?_
 refine atq_guard_yes rfl rfl rfl ?_
 refine atq_val rfl rfl rfl (r_load_cell isAgg3 rfl (lens_cell0 (c:=(cInt .i64)) (y:=x1.f_V) .z (Lens.comp lw (fun z=>{ x1 with f_V:=z }) (c_api_Addr_f_V x1)) rfl)) ?_
 refine atq_guard_yes rfl rfl rfl ?_
 refine atq_val rfl rfl rfl (r_ineq rfl rfl) ?_
 refine atq_val rfl rfl rfl (r_pick rfl rfl rfl) ?_
 refine atq_val rfl rfl rfl (r_move rfl) ?_
 obtain ⟨h11,hF⟩|⟨h11,hF⟩:=oi hF
 ·refine atq_fix (g:=29) rfl h11 ?_
  refine atq_guard_no rfl rfl rfl rfl rfl ?_
  refine atq_guard_no rfl rfl rfl rfl rfl ?_
  refine atq_guard_no rfl rfl rfl rfl rfl ?_
  refine atq_guard_no rfl rfl rfl rfl rfl ?_
  refine atq_guard_no rfl rfl rfl rfl rfl ?_
  refine atq_guard_no rfl rfl rfl rfl rfl ?_
  refine atq_guard_no rfl rfl rfl rfl rfl ?_
  refine atq_guard_no rfl rfl rfl rfl rfl ?_
  refine atq_val rfl rfl rfl (r_pick rfl rfl rfl) ?_
  refine atq_nil ?_
  refine dz (wq [38,6,2] ?_)
  refine tn ?_
  refine ct rfl ?_
  refine sr (aa (aa (qn (dz (wq [5,4] ?_)))))
  refine tn (rt ?_)
  have K:=os hF
  subst K
  exact at_return2 rfl rfl rfl wb
 refine atq_fix (g:=29) rfl h11 ?_
 refine atq_guard_yes rfl rfl rfl ?_
 refine atq_val rfl rfl rfl (r_load_cell isAgg55 rfl (fun w1 hw=>cells_get (hw.ok (Upd.mem (.s .z))) 0 _ rfl)) ?_
 refine atq_guard_yes rfl rfl rfl ?_
 refine atq_val rfl rfl rfl (r_move rfl) ?_
 refine atq_guard_yes rfl rfl rfl ?_
 obtain ⟨h12,hF⟩:=gd hF
 obtain ⟨b14,o15,hp13⟩:=row_ptr hr0 h12
 refine atq_val rfl rfl rfl (r_idx underlying55 sizeOf60 rfl rfl h12 hp13) ?_
 refine atq_guard_yes rfl rfl rfl ?_
 refine atq_val rfl rfl rfl (r_fieldAddr (fo:=0) underlying60 rfl rfl (fun w=>⟨_,sizeOf26 w⟩) rfl) ?_
 refine atq_guard_yes rfl rfl rfl ?_
 refine atq_val rfl rfl rfl (r_fieldAddr (fo:=17) underlying26 rfl rfl (fun w=>⟨_,sizeOf24 w⟩) rfl) ?_
 refine atq_guard_yes rfl rfl rfl ?_
 refine atq_val rfl rfl rfl (r_load_aggc (c:=c_api_Addr) (z:=((lget x0 (wr .i64 (t5-1))).f_Range).f_To) isAgg24 sizeOf24 rfl (row_lens (y:=((lget x0 (wr .i64 (t5-1))).f_Range).f_To) (fun _ h=>h.below) hr0 h12 hp13 (Lens.comp (Lens.comp lw (fun z=>{ (lget x0 (wr .i64 (t5-1))) with f_Range:=z }) (c_flat_Span_f_Range (lget x0 (wr .i64 (t5-1))))) (fun z=>{ (lget x0 (wr .i64 (t5-1))).f_Range with f_To:=z }) (c_aggregate_Range_f_To ((lget x0 (wr .i64 (t5-1))).f_Range))))) ?_
 refine atq_guard_yes rfl rfl rfl ?_
 refine atq_val rfl rfl rfl (r_load_aggc (c:=c_api_Addr) (z:=x1) isAgg24 sizeOf24 rfl (lens_cell .z lw)) ?_
 refine atq_guard_yes rfl rfl rfl ?_
 obtain ⟨t16,ht16,hF⟩:=bM hF
 refine atq_call func39 rfl (by kernel_rfl) rfl rfl (fun w hw=>(addr_Less_ok _ _ _ ht16 w).mono fun _ _ h=>⟨h.1,hw.call h.2⟩) ?_
 refine atq_val rfl rfl rfl (r_pick rfl rfl rfl) ?_
 refine atq_nil ?_
 refine dz (wq [38,6,2] ?_)
 refine tn ?_
 obtain ⟨h17,hF⟩|⟨h17,hF⟩:=oi hF
 ·refine ct h17 ?_
  refine sr (aa (aa (qn (dz (wq [5,4] ?_)))))
  refine tn (rt ?_)
  have K:=os hF
  subst K
  exact at_return2 rfl rfl rfl wb
 refine cf h17 ?_
 refine sns ?_
 refine aw (r_load_cell isAgg55 rfl (fun w1 hw=>cells_get (hw.ok (Upd.mem .z)) 0 _ rfl)) ?_
 refine am ?_
 obtain ⟨h18,hF⟩:=gd hF
 obtain ⟨b20,o21,hp19⟩:=row_ptr hr0 h18
 refine aw (r_idx underlying55 sizeOf60 rfl rfl h18 hp19) ?_
 refine fa 34 underlying60 rfl sizeOf3 ?_
 refine aw (r_load_cell isAgg3 rfl (row_lens0 (y:=(lget x0 (wr .i64 (t5-1))).f_Owner) (fun _ h=>h.below) hr0 h18 hp19 (Lens.comp lw (fun z=>{ (lget x0 (wr .i64 (t5-1))) with f_Owner:=z }) (c_flat_Span_f_Owner (lget x0 (wr .i64 (t5-1))))) rfl)) ?_
 refine aa (aa (qn (dz (wq [5,4] ?_))))
 refine tn (qt ?_)
 have K:=os hF
 subst K
 exact at_return2 rfl rfl rfl wb
end Go.Proofs.Ytahlbjmafceoeaa
namespace Go.Proofs.Ytahlbjmafceoeaa
open E Go.RowKit _root_.Go.Proofs.Try
theorem infoF362_is:(Try.prog.info? 62).isSome=true:=by kernel_rfl
noncomputable def infoF362_v:TypeInfo:=(Try.prog.info? 62).get infoF362_is
theorem infoF362:Try.prog.info? 62=some infoF362_v:=(Option.some_get _).symm
def crawlwayref59_Of.l0(t1:List S_api_Entry)(i10:List S_api_Addr)(i11:Int):Option (List S_api_Addr) :=
 if (decide (i11<(t1.length:Int)))=true then (if (0:Int)≤i11∧i11<(t1.length:Int) then crawlwayref59_put i10 (((lget t1 i11).f_P).f_A)>>=fun t21=>crawlwayref59_Of.l0 t1 t21 (wr .i64 (i11+1)) else none) else (some i10)
 partial_fixpoint
def crawlwayref59_Of.l1(t4:List S_api_Addr)(i27:List S_api_Addr)(i28:Int):Option (List S_api_Addr) :=
 if (decide (i28<(t4.length:Int)))=true then (if (0:Int)≤i28∧i28<(t4.length:Int) then crawlwayref53_Next (lget t4 i28)>>=fun t38=>if t38.2=true then (crawlwayref59_put i27 t38.1>>=fun t41=>crawlwayref59_Of.l1 t4 t41 (wr .i64 (i28+1))) else (crawlwayref59_Of.l1 t4 i27 (wr .i64 (i28+1))) else none) else (some i27)
 partial_fixpoint
def crawlwayref59_Of.l3(i164:Int)(i165:S_api_Addr):Option (S_api_Addr) :=
 crawlwayref10_Width i165>>=fun t166=>if (decide (i164<wr .i64 (Int.tdiv t166 8)))=true then (if (0:Int)≤i164∧i164<16 then crawlwayref59_Of.l3 (wr .i64 (i164+1)) ({ i165 with f_B:=vset i165.f_B i164 255 }) else none) else (some i165)
 partial_fixpoint
def crawlwayref59_Of.l4(i252:Int)(i253:S_api_Addr):Option (S_api_Addr) :=
 crawlwayref10_Width i253>>=fun t254=>if (decide (i252<wr .i64 (Int.tdiv t254 8)))=true then (if (0:Int)≤i252∧i252<16 then crawlwayref59_Of.l4 (wr .i64 (i252+1)) ({ i253 with f_B:=vset i253.f_B i252 255 }) else none) else (some i253)
 partial_fixpoint
def crawlwayref59_Of.l2(t1:List S_api_Entry)(q26:List S_api_Addr)(i47:List S_crawlwayref59_Span)(i48:Int):Option (List S_crawlwayref59_Span) :=
 if (decide (i48<(q26.length:Int)))=true then (if (0:Int)≤i48∧i48<(q26.length:Int) then crawlwayref25_Find t1 (lget q26 i48)>>=fun t58=>if (!t58.2)=true then (crawlwayref59_Of.l2 t1 q26 i47 (wr .i64 (i48+1))) else (if (0:Int)≤i48∧i48<(q26.length:Int) then if (decide (wr .i64 (i48+1)<(q26.length:Int)))=true then (if (0:Int)≤wr .i64 (i48+1)∧wr .i64 (i48+1)<(q26.length:Int) then if (0:Int)≤i48∧i48<(q26.length:Int) then if ((lget q26 (wr .i64 (i48+1))).f_V==(lget q26 i48).f_V)=true then (if (0:Int)≤wr .i64 (i48+1)∧wr .i64 (i48+1)<(q26.length:Int) then crawlwayref59_previous (lget q26 (wr .i64 (i48+1)))>>=fun t81=>if (decide ((i47.length:Int)>0))=true then (if (0:Int)≤wr .i64 ((i47.length:Int)-1)∧wr .i64 ((i47.length:Int)-1)<(i47.length:Int) then if ((lget i47 (wr .i64 ((i47.length:Int)-1))).f_Owner==t58.1.f_Owner)=true then (if (0:Int)≤wr .i64 ((i47.length:Int)-1)∧wr .i64 ((i47.length:Int)-1)<(i47.length:Int) then if (0:Int)≤i48∧i48<(q26.length:Int) then if (((lget i47 (wr .i64 ((i47.length:Int)-1))).f_To).f_V==(lget q26 i48).f_V)=true then (if (0:Int)≤wr .i64 ((i47.length:Int)-1)∧wr .i64 ((i47.length:Int)-1)<(i47.length:Int) then crawlwayref53_Next ((lget i47 (wr .i64 ((i47.length:Int)-1))).f_To)>>=fun t102=>if t102.2=true then (if (0:Int)≤i48∧i48<(q26.length:Int) then if (decide (t102.1=lget q26 i48))=true then (if (0:Int)≤wr .i64 ((i47.length:Int)-1)∧wr .i64 ((i47.length:Int)-1)<(i47.length:Int) then crawlwayref59_Of.l2 t1 q26 (lset i47 (wr .i64 ((i47.length:Int)-1)) ({ (lget i47 (wr .i64 ((i47.length:Int)-1))) with f_To:=t81 })) (wr .i64 (i48+1)) else none) else (if (0:Int)≤i48∧i48<(q26.length:Int) then if (i47.length+1)*56≤140737488355328 then crawlwayref59_Of.l2 t1 q26 (i47++[{ { { ({ f_From:=({ f_V:=(0:Int),f_B:=(Vector.replicate 16 (0:Int):(Vector Int 16)) }:S_api_Addr),f_To:=({ f_V:=(0:Int),f_B:=(Vector.replicate 16 (0:Int):(Vector Int 16)) }:S_api_Addr),f_Owner:=(0:Int) }:S_crawlwayref59_Span) with f_From:=lget q26 i48 } with f_To:=t81 } with f_Owner:=t58.1.f_Owner }]) (wr .i64 (i48+1)) else none else none) else none) else (if (0:Int)≤i48∧i48<(q26.length:Int) then if (i47.length+1)*56≤140737488355328 then crawlwayref59_Of.l2 t1 q26 (i47++[{ { { ({ f_From:=({ f_V:=(0:Int),f_B:=(Vector.replicate 16 (0:Int):(Vector Int 16)) }:S_api_Addr),f_To:=({ f_V:=(0:Int),f_B:=(Vector.replicate 16 (0:Int):(Vector Int 16)) }:S_api_Addr),f_Owner:=(0:Int) }:S_crawlwayref59_Span) with f_From:=lget q26 i48 } with f_To:=t81 } with f_Owner:=t58.1.f_Owner }]) (wr .i64 (i48+1)) else none else none) else none) else (if (0:Int)≤i48∧i48<(q26.length:Int) then if (i47.length+1)*56≤140737488355328 then crawlwayref59_Of.l2 t1 q26 (i47++[{ { { ({ f_From:=({ f_V:=(0:Int),f_B:=(Vector.replicate 16 (0:Int):(Vector Int 16)) }:S_api_Addr),f_To:=({ f_V:=(0:Int),f_B:=(Vector.replicate 16 (0:Int):(Vector Int 16)) }:S_api_Addr),f_Owner:=(0:Int) }:S_crawlwayref59_Span) with f_From:=lget q26 i48 } with f_To:=t81 } with f_Owner:=t58.1.f_Owner }]) (wr .i64 (i48+1)) else none else none) else none else none) else (if (0:Int)≤i48∧i48<(q26.length:Int) then if (i47.length+1)*56≤140737488355328 then crawlwayref59_Of.l2 t1 q26 (i47++[{ { { ({ f_From:=({ f_V:=(0:Int),f_B:=(Vector.replicate 16 (0:Int):(Vector Int 16)) }:S_api_Addr),f_To:=({ f_V:=(0:Int),f_B:=(Vector.replicate 16 (0:Int):(Vector Int 16)) }:S_api_Addr),f_Owner:=(0:Int) }:S_crawlwayref59_Span) with f_From:=lget q26 i48 } with f_To:=t81 } with f_Owner:=t58.1.f_Owner }]) (wr .i64 (i48+1)) else none else none) else none) else (if (0:Int)≤i48∧i48<(q26.length:Int) then if (i47.length+1)*56≤140737488355328 then crawlwayref59_Of.l2 t1 q26 (i47++[{ { { ({ f_From:=({ f_V:=(0:Int),f_B:=(Vector.replicate 16 (0:Int):(Vector Int 16)) }:S_api_Addr),f_To:=({ f_V:=(0:Int),f_B:=(Vector.replicate 16 (0:Int):(Vector Int 16)) }:S_api_Addr),f_Owner:=(0:Int) }:S_crawlwayref59_Span) with f_From:=lget q26 i48 } with f_To:=t81 } with f_Owner:=t58.1.f_Owner }]) (wr .i64 (i48+1)) else none else none) else none) else (crawlwayref59_Of.l3 0 ({ ({ f_V:=(0:Int),f_B:=(Vector.replicate 16 (0:Int):(Vector Int 16)) }:S_api_Addr) with f_V:=(lget q26 i48).f_V })>>=fun q163=>if (decide ((i47.length:Int)>0))=true then (if (0:Int)≤wr .i64 ((i47.length:Int)-1)∧wr .i64 ((i47.length:Int)-1)<(i47.length:Int) then if ((lget i47 (wr .i64 ((i47.length:Int)-1))).f_Owner==t58.1.f_Owner)=true then (if (0:Int)≤wr .i64 ((i47.length:Int)-1)∧wr .i64 ((i47.length:Int)-1)<(i47.length:Int) then if (0:Int)≤i48∧i48<(q26.length:Int) then if (((lget i47 (wr .i64 ((i47.length:Int)-1))).f_To).f_V==(lget q26 i48).f_V)=true then (if (0:Int)≤wr .i64 ((i47.length:Int)-1)∧wr .i64 ((i47.length:Int)-1)<(i47.length:Int) then crawlwayref53_Next ((lget i47 (wr .i64 ((i47.length:Int)-1))).f_To)>>=fun t189=>if t189.2=true then (if (0:Int)≤i48∧i48<(q26.length:Int) then if (decide (t189.1=lget q26 i48))=true then (if (0:Int)≤wr .i64 ((i47.length:Int)-1)∧wr .i64 ((i47.length:Int)-1)<(i47.length:Int) then crawlwayref59_Of.l2 t1 q26 (lset i47 (wr .i64 ((i47.length:Int)-1)) ({ (lget i47 (wr .i64 ((i47.length:Int)-1))) with f_To:=q163 })) (wr .i64 (i48+1)) else none) else (if (0:Int)≤i48∧i48<(q26.length:Int) then if (i47.length+1)*56≤140737488355328 then crawlwayref59_Of.l2 t1 q26 (i47++[{ { { ({ f_From:=({ f_V:=(0:Int),f_B:=(Vector.replicate 16 (0:Int):(Vector Int 16)) }:S_api_Addr),f_To:=({ f_V:=(0:Int),f_B:=(Vector.replicate 16 (0:Int):(Vector Int 16)) }:S_api_Addr),f_Owner:=(0:Int) }:S_crawlwayref59_Span) with f_From:=lget q26 i48 } with f_To:=q163 } with f_Owner:=t58.1.f_Owner }]) (wr .i64 (i48+1)) else none else none) else none) else (if (0:Int)≤i48∧i48<(q26.length:Int) then if (i47.length+1)*56≤140737488355328 then crawlwayref59_Of.l2 t1 q26 (i47++[{ { { ({ f_From:=({ f_V:=(0:Int),f_B:=(Vector.replicate 16 (0:Int):(Vector Int 16)) }:S_api_Addr),f_To:=({ f_V:=(0:Int),f_B:=(Vector.replicate 16 (0:Int):(Vector Int 16)) }:S_api_Addr),f_Owner:=(0:Int) }:S_crawlwayref59_Span) with f_From:=lget q26 i48 } with f_To:=q163 } with f_Owner:=t58.1.f_Owner }]) (wr .i64 (i48+1)) else none else none) else none) else (if (0:Int)≤i48∧i48<(q26.length:Int) then if (i47.length+1)*56≤140737488355328 then crawlwayref59_Of.l2 t1 q26 (i47++[{ { { ({ f_From:=({ f_V:=(0:Int),f_B:=(Vector.replicate 16 (0:Int):(Vector Int 16)) }:S_api_Addr),f_To:=({ f_V:=(0:Int),f_B:=(Vector.replicate 16 (0:Int):(Vector Int 16)) }:S_api_Addr),f_Owner:=(0:Int) }:S_crawlwayref59_Span) with f_From:=lget q26 i48 } with f_To:=q163 } with f_Owner:=t58.1.f_Owner }]) (wr .i64 (i48+1)) else none else none) else none else none) else (if (0:Int)≤i48∧i48<(q26.length:Int) then if (i47.length+1)*56≤140737488355328 then crawlwayref59_Of.l2 t1 q26 (i47++[{ { { ({ f_From:=({ f_V:=(0:Int),f_B:=(Vector.replicate 16 (0:Int):(Vector Int 16)) }:S_api_Addr),f_To:=({ f_V:=(0:Int),f_B:=(Vector.replicate 16 (0:Int):(Vector Int 16)) }:S_api_Addr),f_Owner:=(0:Int) }:S_crawlwayref59_Span) with f_From:=lget q26 i48 } with f_To:=q163 } with f_Owner:=t58.1.f_Owner }]) (wr .i64 (i48+1)) else none else none) else none) else (if (0:Int)≤i48∧i48<(q26.length:Int) then if (i47.length+1)*56≤140737488355328 then crawlwayref59_Of.l2 t1 q26 (i47++[{ { { ({ f_From:=({ f_V:=(0:Int),f_B:=(Vector.replicate 16 (0:Int):(Vector Int 16)) }:S_api_Addr),f_To:=({ f_V:=(0:Int),f_B:=(Vector.replicate 16 (0:Int):(Vector Int 16)) }:S_api_Addr),f_Owner:=(0:Int) }:S_crawlwayref59_Span) with f_From:=lget q26 i48 } with f_To:=q163 } with f_Owner:=t58.1.f_Owner }]) (wr .i64 (i48+1)) else none else none)) else none else none) else (crawlwayref59_Of.l4 0 ({ ({ f_V:=(0:Int),f_B:=(Vector.replicate 16 (0:Int):(Vector Int 16)) }:S_api_Addr) with f_V:=(lget q26 i48).f_V })>>=fun q251=>if (decide ((i47.length:Int)>0))=true then (if (0:Int)≤wr .i64 ((i47.length:Int)-1)∧wr .i64 ((i47.length:Int)-1)<(i47.length:Int) then if ((lget i47 (wr .i64 ((i47.length:Int)-1))).f_Owner==t58.1.f_Owner)=true then (if (0:Int)≤wr .i64 ((i47.length:Int)-1)∧wr .i64 ((i47.length:Int)-1)<(i47.length:Int) then if (0:Int)≤i48∧i48<(q26.length:Int) then if (((lget i47 (wr .i64 ((i47.length:Int)-1))).f_To).f_V==(lget q26 i48).f_V)=true then (if (0:Int)≤wr .i64 ((i47.length:Int)-1)∧wr .i64 ((i47.length:Int)-1)<(i47.length:Int) then crawlwayref53_Next ((lget i47 (wr .i64 ((i47.length:Int)-1))).f_To)>>=fun t277=>if t277.2=true then (if (0:Int)≤i48∧i48<(q26.length:Int) then if (decide (t277.1=lget q26 i48))=true then (if (0:Int)≤wr .i64 ((i47.length:Int)-1)∧wr .i64 ((i47.length:Int)-1)<(i47.length:Int) then crawlwayref59_Of.l2 t1 q26 (lset i47 (wr .i64 ((i47.length:Int)-1)) ({ (lget i47 (wr .i64 ((i47.length:Int)-1))) with f_To:=q251 })) (wr .i64 (i48+1)) else none) else (if (0:Int)≤i48∧i48<(q26.length:Int) then if (i47.length+1)*56≤140737488355328 then crawlwayref59_Of.l2 t1 q26 (i47++[{ { { ({ f_From:=({ f_V:=(0:Int),f_B:=(Vector.replicate 16 (0:Int):(Vector Int 16)) }:S_api_Addr),f_To:=({ f_V:=(0:Int),f_B:=(Vector.replicate 16 (0:Int):(Vector Int 16)) }:S_api_Addr),f_Owner:=(0:Int) }:S_crawlwayref59_Span) with f_From:=lget q26 i48 } with f_To:=q251 } with f_Owner:=t58.1.f_Owner }]) (wr .i64 (i48+1)) else none else none) else none) else (if (0:Int)≤i48∧i48<(q26.length:Int) then if (i47.length+1)*56≤140737488355328 then crawlwayref59_Of.l2 t1 q26 (i47++[{ { { ({ f_From:=({ f_V:=(0:Int),f_B:=(Vector.replicate 16 (0:Int):(Vector Int 16)) }:S_api_Addr),f_To:=({ f_V:=(0:Int),f_B:=(Vector.replicate 16 (0:Int):(Vector Int 16)) }:S_api_Addr),f_Owner:=(0:Int) }:S_crawlwayref59_Span) with f_From:=lget q26 i48 } with f_To:=q251 } with f_Owner:=t58.1.f_Owner }]) (wr .i64 (i48+1)) else none else none) else none) else (if (0:Int)≤i48∧i48<(q26.length:Int) then if (i47.length+1)*56≤140737488355328 then crawlwayref59_Of.l2 t1 q26 (i47++[{ { { ({ f_From:=({ f_V:=(0:Int),f_B:=(Vector.replicate 16 (0:Int):(Vector Int 16)) }:S_api_Addr),f_To:=({ f_V:=(0:Int),f_B:=(Vector.replicate 16 (0:Int):(Vector Int 16)) }:S_api_Addr),f_Owner:=(0:Int) }:S_crawlwayref59_Span) with f_From:=lget q26 i48 } with f_To:=q251 } with f_Owner:=t58.1.f_Owner }]) (wr .i64 (i48+1)) else none else none) else none else none) else (if (0:Int)≤i48∧i48<(q26.length:Int) then if (i47.length+1)*56≤140737488355328 then crawlwayref59_Of.l2 t1 q26 (i47++[{ { { ({ f_From:=({ f_V:=(0:Int),f_B:=(Vector.replicate 16 (0:Int):(Vector Int 16)) }:S_api_Addr),f_To:=({ f_V:=(0:Int),f_B:=(Vector.replicate 16 (0:Int):(Vector Int 16)) }:S_api_Addr),f_Owner:=(0:Int) }:S_crawlwayref59_Span) with f_From:=lget q26 i48 } with f_To:=q251 } with f_Owner:=t58.1.f_Owner }]) (wr .i64 (i48+1)) else none else none) else none) else (if (0:Int)≤i48∧i48<(q26.length:Int) then if (i47.length+1)*56≤140737488355328 then crawlwayref59_Of.l2 t1 q26 (i47++[{ { { ({ f_From:=({ f_V:=(0:Int),f_B:=(Vector.replicate 16 (0:Int):(Vector Int 16)) }:S_api_Addr),f_To:=({ f_V:=(0:Int),f_B:=(Vector.replicate 16 (0:Int):(Vector Int 16)) }:S_api_Addr),f_Owner:=(0:Int) }:S_crawlwayref59_Span) with f_From:=lget q26 i48 } with f_To:=q251 } with f_Owner:=t58.1.f_Owner }]) (wr .i64 (i48+1)) else none else none)) else none) else none) else (some i47)
 partial_fixpoint
def crawlwayref59_Of(x0:List S_api_Entry):Option (List S_crawlwayref59_Span) :=
 crawlwayref59_Own x0>>=fun t1=>crawlwayref59_lasts t1>>=fun t4=>crawlwayref59_Of.l0 t1 ([]:List S_api_Addr) 0>>=fun q9=>crawlwayref59_Of.l1 t4 q9 0>>=fun q26=>crawlwayref59_Of.l2 t1 q26 ([]:List S_crawlwayref59_Span) 0>>=fun q46=>some q46
set_option maxRecDepth 20000 in
set_option maxHeartbeats 3200000 in
theorem crawlwayref59_Of_ok(x0:List S_api_Entry)(p0_:Option Addr)(c0_:Nat)(r:List S_crawlwayref59_Span)(hF:crawlwayref59_Of x0=some r)(w:World)(hr0:Row c_api_Entry w p0_ c0_ x0) :
    Calls Try.prog 29 #[.slice p0_ x0.length c0_] w (fun e w'=>∃ p cap,e=.returned (.slice p r.length cap)∧Own c_crawlwayref59_Span 62 w.heap.size w' p cap r∧Below w.heap.size w w'):=by
 unfold crawlwayref59_Of at hF
 refine ce (l:=[.slice p0_ x0.length c0_]) func29 rfl rfl ?_
 refine at_start ?_
 refine sr (aa (ns (am ?_)))
 obtain ⟨t1,ht1,hF⟩:=bM hF
 refine at_callO (c:=c_api_Entry) (e:=66) (ys:=t1) (V:=fun p cap=>.slice p t1.length cap) func32 rfl (by kernel_rfl) rfl rfl (fun w hw=>crawlwayref59_Own_ok _ _ _ _ ht1 w (hr0.below hw.below)) ?_
 intro p2 c3
 refine aa (ns (aa (ns (am ?_))))
 obtain ⟨t4,ht4,hF⟩:=bM hF
 refine at_callO (c:=c_api_Addr) (e:=24) (ys:=t4) (V:=fun p cap=>.slice p t4.length cap) func57 rfl (by kernel_rfl) rfl rfl (fun w hw=>crawlwayref59_lasts_ok _ _ _ _ ht4 w (hw.own .z).row) ?_
 intro p5 c6
 refine aa (nt (qs (sr (aa (nwq [6,5,4,3] ?_)))))
 refine qb ?_
 refine at_own_nil c_api_Addr 24 ?_
 obtain ⟨q9,hq9,hF⟩:=bM hF
 refine wq [6,5,4,3] ?_
 refine at_loop_n (B:=0) (A:=fun Y=>∀ (p14:Option Addr) (c15:Nat),At 180 [(3,.slice p2 t1.length c3),(4,.slice p14 q9.length c15),(5,.slice p5 t4.length c6)] (Wd w [rowE c_api_Addr 24 p14 c15 q9,rowE c_api_Addr 24 p5 c6 t4,rowE c_api_Entry 66 p2 c3 t1]) Y) ?_ ?_
 ·intro K
  refine crawlwayref59_Of.l0.partial_correctness t1 (motive:=fun i10 i11 x=>KN (fun Y=>∀ (p14:Option Addr) (c15:Nat),At 180 [(3,.slice p2 t1.length c3),(4,.slice p14 x.length c15),(5,.slice p5 t4.length c6)] (Wd w [rowE c_api_Addr 24 p14 c15 x,rowE c_api_Addr 24 p5 c6 t4,rowE c_api_Entry 66 p2 c3 t1]) Y) _ 0→Round (fun Y=>∀ (p12:Option Addr) (c13:Nat),At 180 [(3,.slice p2 t1.length c3),(4,.slice p12 i10.length c13),(5,.slice p5 t4.length c6),(6,.int .i64 i11)] (Wd w [rowE c_api_Addr 24 p12 c13 i10,rowE c_api_Addr 24 p5 c6 t4,rowE c_api_Entry 66 p2 c3 t1]) Y) _ _ _) ?_ _ _ _ hq9 K none 0
  ·clear K hF
   intro g ih i10 i11 x hF K p12 c13
   refine at_round ?_
   refine qs (sr (am (am ?_)))
   refine aw (r_len_sl underlying54 rfl) ?_
   refine aw xl (nwq [26,6,5,4,3] ?_)
   obtain ⟨h16,hF⟩|⟨h16,hF⟩:=oi hF
   ·refine ct h16 ?_
    refine sn (qs ?_)
    refine qb ?_
    refine qr (am (am (am ?_)))
    obtain ⟨h17,hF⟩:=gd hF
    refine at_pure (φ:=∃ b o,p2=some ⟨b,o,none⟩) (fun _ hw=>row_ptr (hw.own (.s (.s .z))).row h17) ?_
    rintro ⟨b19,o20,hp18⟩
    refine aw (r_idx underlying54 sizeOf66 rfl rfl h17 hp18) ?_
    refine fa 0 underlying66 rfl sizeOf37 (fa 0 underlying37 rfl sizeOf24 ?_)
    refine aw (r_load_aggc (c:=c_api_Addr) (z:=((lget t1 i11).f_P).f_A) isAgg24 sizeOf24 rfl (fun w1 hw=>row_lens (y:=((lget t1 i11).f_P).f_A) (W:=fun w1=>w1=_) (fun w1 h=>by subst h;exact Below.refl _ _) (hw.own (.s (.s .z))).row h17 hp18 (Lens.comp (Lens.comp lw (fun z=>{ (lget t1 i11) with f_P:=z }) (c_api_Entry_f_P (lget t1 i11))) (fun z=>{ (lget t1 i11).f_P with f_A:=z }) (c_api_Prefix_f_A ((lget t1 i11).f_P))) _ rfl)) ?_
    obtain ⟨t21,ht21,hF⟩:=bM hF
    refine at_callG (V:=fun p cap=>.slice p t21.length cap) (T:=fun p cap=>[rowE c_api_Addr 24 p cap t21,rowE c_api_Addr 24 p5 c6 t4,rowE c_api_Entry 66 p2 c3 t1]) func58 rfl (by kernel_rfl) rfl rfl (fun w hw=>crawlwayref59_put_ok ht21 hw) ?_
    intro p22 c23
    refine aa (qn (wq [6,5,4,3] ?_))
    refine bm ?_
    refine qr (am (aw xa (aa (nwq [6,5,4,3] ?_))))
    exact at_weak_k (ih _ _ _ hF K p22 c23) ⟨rfl,rfl,rfl,rfl,trivial⟩
   refine cf h16 ?_
   refine at_exit ?_
   refine te (te ?_)
   obtain rfl:=os hF
   exact at_weak_k (K p12 c13) ⟨rfl,rfl,rfl,trivial⟩
 skip
 intro p14 c15
 refine at_blk_same ?_
 refine tn (qs (sr (aa (nwq [7,5,4,3] ?_))))
 refine qb ?_
 obtain ⟨q26,hq26,hF⟩:=bM hF
 refine wq [7,5,4,3] ?_
 refine at_loop_n (B:=2) (A:=fun Y=>∀ (p31:Option Addr) (c32:Nat),At 180 [(3,.slice p2 t1.length c3),(4,.slice p31 q26.length c32)] (Wd w [rowE c_api_Addr 24 p31 c32 q26,rowE c_api_Entry 66 p2 c3 t1]) Y) ?_ ?_
 ·intro K
  refine crawlwayref59_Of.l1.partial_correctness t4 (motive:=fun i27 i28 x=>KN (fun Y=>∀ (p31:Option Addr) (c32:Nat),At 180 [(3,.slice p2 t1.length c3),(4,.slice p31 x.length c32)] (Wd w [rowE c_api_Addr 24 p31 c32 x,rowE c_api_Entry 66 p2 c3 t1]) Y) _ 2→Round (fun Y=>∀ (p29:Option Addr) (c30:Nat),At 180 [(3,.slice p2 t1.length c3),(4,.slice p29 i27.length c30),(5,.slice p5 t4.length c6),(7,.int .i64 i28)] (Wd w [rowE c_api_Addr 24 p29 c30 i27,rowE c_api_Addr 24 p5 c6 t4,rowE c_api_Entry 66 p2 c3 t1]) Y) _ _ _) ?_ _ _ _ hq26 K p14 c15
  ·clear K hF
   intro g ih i27 i28 x hF K p29 c30
   refine at_round ?_
   refine qs (sr (am (am ?_)))
   refine aw (r_len_sl underlying88 rfl) ?_
   refine aw xl (nwq [40,7,5,4,3] ?_)
   obtain ⟨h33,hF⟩|⟨h33,hF⟩:=oi hF
   ·refine ct h33 ?_
    refine sn (qs ?_)
    refine qb ?_
    refine sr (am (am ?_))
    obtain ⟨h34,hF⟩:=gd hF
    refine at_pure (φ:=∃ b o,p5=some ⟨b,o,none⟩) (fun _ hw=>row_ptr (hw.own (.s .z)).row h34) ?_
    rintro ⟨b36,o37,hp35⟩
    refine aw (r_idx underlying88 sizeOf24 rfl rfl h34 hp35) ?_
    refine aw (r_load_aggc (c:=c_api_Addr) (z:=lget t4 i28) isAgg24 sizeOf24 rfl (fun w1 hw=>row_cell (W:=fun w1=>w1=_) (fun w1 h=>by subst h;exact Below.refl _ _) (hw.own (.s .z)).row h34 hp35 _ rfl)) ?_
    obtain ⟨t38,ht38,hF⟩:=bM hF
    refine cB func17 rfl (fun w hw=>crawlwayref53_Next_ok _ _ ht38 w) ?_
    refine am ?_
    refine aw xe (aw xe ?_)
    refine al (cs:=Cd.cs c_api_Addr zv0) zeroValue24 ?_
    intro b39
    refine at_store (c:=c_api_Addr) (z:=t38.1) .z lw sizeOf24 rfl rfl rfl ?_
    refine aa (ns (am (nwq [51,8,7,5,4,3] ?_)))
    obtain ⟨h40,hF⟩|⟨h40,hF⟩:=oi hF
    ·refine ct h40 ?_
     refine qr (am ?_)
     refine aw (r_load_aggc (c:=c_api_Addr) (z:=t38.1) isAgg24 sizeOf24 rfl (lens_cell .z lw)) ?_
     obtain ⟨t41,ht41,hF⟩:=bM hF
     refine at_front (.s .z) ?_
     refine at_callG (V:=fun p cap=>.slice p t41.length cap) (T:=fun p cap=>[rowE c_api_Addr 24 p cap t41,cellsE b39 (Cd.cs c_api_Addr t38.1) 24,rowE c_api_Addr 24 p5 c6 t4,rowE c_api_Entry 66 p2 c3 t1]) func58 rfl (by kernel_rfl) rfl rfl (fun w hw=>crawlwayref59_put_ok ht41 hw) ?_
     intro p42 c43
     refine aa (qn ?_)
     refine at_drop (H:=_) (.s .z) ?_
     refine wq [7,5,4,3] ?_
     refine bm ?_
     refine qr (am (aw xa (aa (nwq [7,5,4,3] ?_))))
     exact at_weak_k (ih _ _ _ hF K p42 c43) ⟨rfl,rfl,rfl,rfl,trivial⟩
    refine cf h40 ?_
    refine at_skip ?_
    refine bm ?_
    refine qr (am (aw xa (aa (qn (dz (wq [7,5,4,3] ?_))))))
    refine tn ?_
    exact at_weak_k (ih _ _ _ hF K p29 c30) ⟨rfl,rfl,rfl,rfl,trivial⟩
   refine cf h33 ?_
   refine at_exit ?_
   refine te (te ?_)
   refine at_drop (H:=_) (.s .z) ?_
   obtain rfl:=os hF
   exact at_weak_k (K p29 c30) ⟨rfl,rfl,trivial⟩
 skip
 intro p31 c32
 refine at_blk_same ?_
 refine tn (sr (aa (nt (qs (sr (aa (nwq [11,10,4,3] ?_)))))))
 refine qb ?_
 refine at_own_nil c_crawlwayref59_Span 62 ?_
 obtain ⟨q46,hq46,hF⟩:=bM hF
 refine wq [11,10,4,3] ?_
 refine at_loop_n (B:=4) (A:=fun Y=>∀ (p51:Option Addr) (c52:Nat),At 180 [(10,.slice p51 q46.length c52)] (Wd w [rowE c_crawlwayref59_Span 62 p51 c52 q46]) Y) ?_ ?_
 ·intro K
  refine crawlwayref59_Of.l2.partial_correctness t1 q26 (motive:=fun i47 i48 x=>KN (fun Y=>∀ (p51:Option Addr) (c52:Nat),At 180 [(10,.slice p51 x.length c52)] (Wd w [rowE c_crawlwayref59_Span 62 p51 c52 x]) Y) _ 4→Round (fun Y=>∀ (p49:Option Addr) (c50:Nat),At 180 [(3,.slice p2 t1.length c3),(4,.slice p31 q26.length c32),(10,.slice p49 i47.length c50),(11,.int .i64 i48)] (Wd w [rowE c_crawlwayref59_Span 62 p49 c50 i47,rowE c_api_Addr 24 p31 c32 q26,rowE c_api_Entry 66 p2 c3 t1]) Y) _ _ _) ?_ _ _ _ hq46 K none 0
  ·clear K hF
   intro g ih i47 i48 x hF K p49 c50
   refine at_round ?_
   refine qs (sr (am (am ?_)))
   refine aw (r_len_sl underlying88 rfl) ?_
   refine aw xl (nwq [58,11,10,4,3] ?_)
   obtain ⟨h53,hF⟩|⟨h53,hF⟩:=oi hF
   ·refine ct h53 ?_
    refine sn (qs ?_)
    refine qb ?_
    refine sr (am (am (am ?_)))
    obtain ⟨h54,hF⟩:=gd hF
    refine at_pure (φ:=∃ b o,p31=some ⟨b,o,none⟩) (fun _ hw=>row_ptr (hw.own (.s .z)).row h54) ?_
    rintro ⟨b56,o57,hp55⟩
    refine aw (r_idx underlying88 sizeOf24 rfl rfl h54 hp55) ?_
    refine aw (r_load_aggc (c:=c_api_Addr) (z:=lget q26 i48) isAgg24 sizeOf24 rfl (fun w1 hw=>row_cell (W:=fun w1=>w1=_) (fun w1 h=>by subst h;exact Below.refl _ _) (hw.own (.s .z)).row h54 hp55 _ rfl)) ?_
    obtain ⟨t58,ht58,hF⟩:=bM hF
    refine cB func31 rfl (fun w hw=>crawlwayref25_Find_ok _ _ _ _ _ ht58 w (hw.own (.s (.s .z))).row) ?_
    refine am ?_
    refine aw xe (aw xe ?_)
    refine al (cs:=Cd.cs c_api_Entry zv8) zeroValue66 ?_
    intro b59
    refine at_store (c:=c_api_Entry) (z:=t58.1) .z lw sizeOf66 rfl rfl rfl ?_
    refine aa (nt (qs (sr (am ?_))))
    refine aw (r_not rfl) ?_
    refine nwq [71,12,11,10,4,3] ?_
    obtain ⟨h60,hF⟩|⟨h60,hF⟩:=oi hF
    ·refine ct h60 ?_
     refine at_exit ?_
     refine te (at_blk_same (tn ?_))
     refine qr (am (aw xa (aa (qn (dz (wq [11,10,4,3] ?_))))))
     refine tn ?_
     exact at_weak_k (ih _ _ _ hF K p49 c50) ⟨rfl,rfl,rfl,rfl,trivial⟩
    refine cf h60 ?_
    refine sns (am (am ?_))
    obtain ⟨h61,hF⟩:=gd hF
    refine at_pure (φ:=∃ b o,p31=some ⟨b,o,none⟩) (fun _ hw=>row_ptr (hw.own (.s (.s .z))).row h61) ?_
    rintro ⟨b63,o64,hp62⟩
    refine aw (r_idx underlying88 sizeOf24 rfl rfl h61 hp62) ?_
    refine fa 0 underlying24 rfl sizeOf3 ?_
    refine aw (r_load_cell isAgg3 rfl (fun w1 hw=>row_lens0 (y:=(lget q26 i48).f_V) (W:=fun w1=>w1=_) (fun w1 h=>by subst h;exact Below.refl _ _) (hw.own (.s (.s .z))).row h61 hp62 (Lens.comp lw (fun z=>{ (lget q26 i48) with f_V:=z }) (c_api_Addr_f_V (lget q26 i48))) rfl _ rfl)) ?_
    refine aw (r_build_struct (zs:=Cd.cs c_api_Addr zv0) (cs:=Cd.cs c_api_Addr ({ zv0 with f_V:=(lget q26 i48).f_V })) underlying24 zeroValue24 rfl (places_api_Addr_24) rfl (fill_step (c:=(cInt .i64)) (z:=(lget q26 i48).f_V) rfl (c_api_Addr_f_V zv0) rfl rfl)) ?_
    refine al (cs:=Cd.cs c_api_Addr zv0) zeroValue24 ?_
    intro b65
    refine at_store (c:=c_api_Addr) (z:={ zv0 with f_V:=(lget q26 i48).f_V }) .z lw sizeOf24 rfl rfl rfl ?_
    refine nt (qs (qs (wq [14,12,11,10,4,3] ?_)))
    obtain ⟨h66,hF⟩|⟨h66,hF⟩:=oi hF
    ·skip
     obtain ⟨h67,hF⟩:=gd hF
     refine at_pure (φ:=∃ b o,p31=some ⟨b,o,none⟩) (fun _ hw=>row_ptr (hw.own (.s (.s (.s .z)))).row h67) ?_
     rintro ⟨b69,o70,hp68⟩
     obtain ⟨h71,hF⟩:=gd hF
     refine at_pure (φ:=∃ b o,p31=some ⟨b,o,none⟩) (fun _ hw=>row_ptr (hw.own (.s (.s (.s .z)))).row h71) ?_
     rintro ⟨b73,o74,hp72⟩
     refine at_inv [.q 78 (fun g75=>.int .i64 i48) [] 0 0,.q 79 (fun g75=>.int .i64 (wr .i64 (i48+1))) [0] 0 0,.q 80 (fun g75=>.slice p31 q26.length c32) [] 0 0,.q 81 (fun g75=>.int .i64 (q26.length:Int)) [2] 0 0,.q 82 (fun g75=>.bool (decide (wr .i64 (i48+1)<(q26.length:Int)))) [1,3] 0 0,.q 83 (fun g75=>.bool true) [4] 0 0,.q 84 (fun g75=>.slice p31 q26.length c32) [5] 0 0,.q 85 (fun g75=>.int .i64 i48) [5] 0 0,.q 86 (fun g75=>.int .i64 (wr .i64 (i48+1))) [5,7] 0 0,.q 87 (fun g75=>.pointer (some ⟨b69,o70+Int.toNat (wr .i64 (i48+1))*17,none⟩)) [5,6,8] 0 0,.q 88 (fun g75=>.pointer (some ⟨b69,o70+Int.toNat (wr .i64 (i48+1))*17+0,none⟩)) [5,9] 0 0,.q 89 (fun g75=>.int .i64 ((lget q26 (wr .i64 (i48+1))).f_V)) [5,10] 0 0,.q 90 (fun g75=>.slice p31 q26.length c32) [5] 0 0,.q 91 (fun g75=>.int .i64 i48) [5] 0 0,.q 92 (fun g75=>.pointer (some ⟨b73,o74+Int.toNat i48*17,none⟩)) [5,12,13] 0 0,.q 93 (fun g75=>.pointer (some ⟨b73,o74+Int.toNat i48*17+0,none⟩)) [5,14] 0 0,.q 94 (fun g75=>.int .i64 ((lget q26 i48).f_V)) [5,15] 0 0,.q 95 (fun g75=>.bool ((lget q26 (wr .i64 (i48+1))).f_V==(lget q26 i48).f_V)) [5,11,16] 0 0,.q 96 (fun g75=>.bool ((lget q26 (wr .i64 (i48+1))).f_V==(lget q26 i48).f_V)) [5,17] 0 0] (fun g75 s=>match s with | _=>(Wd w [cellsE b65 (Cd.cs c_api_Addr ({ zv0 with f_V:=(lget q26 i48).f_V })) 24,cellsE b59 (Cd.cs c_api_Entry t58.1) 66,rowE c_crawlwayref59_Span 62 p49 c50 i47,rowE c_api_Addr 24 p31 c32 q26,rowE c_api_Entry 66 p2 c3 t1])) 0 (by kernel_rfl) (by kernel_rfl) (by kernel_rfl) (by kernel_rfl) (by kernel_rfl) ⟨fun _ _ _=>rfl,fun _ _ _=>rfl,fun _ _ _=>rfl,fun _ _ _=>rfl,fun _ _ _=>rfl,fun _ _ _=>rfl,fun _ _ _=>rfl,fun _ _ _=>rfl,fun _ _ _=>rfl,fun _ _ _=>rfl,fun _ _ _=>rfl,fun _ _ _=>rfl,fun _ _ _=>rfl,fun _ _ _=>rfl,fun _ _ _=>rfl,fun _ _ _=>rfl,fun _ _ _=>rfl,fun _ _ _=>rfl,fun _ _ _=>rfl,trivial⟩ (by kernel_rfl) (fun w_ h=>⟨fun _=>g3 0 none 0 none w_,h.drew⟩) ⟨?_,?_,?_,?_,?_,?_,?_,?_,?_,?_,?_,?_,?_,?_,?_,?_,?_,?_,?_,trivial⟩ ?_
     ·intro Lx g75 s K hl hh k
      show At 180 ((3,_)::(4,_)::(10,_)::(11,_)::(12,_)::(14,_)::Lx) _ _
      refine am ?_
      exact at_nil k
     ·intro Lx g75 s K hl hh k
      show At 180 ((78,_)::(3,_)::(4,_)::(10,_)::(11,_)::(12,_)::(14,_)::Lx) _ _
      refine aw xa ?_
      exact at_nil k
     ·intro Lx g75 s K hl hh k
      show At 180 ((3,_)::(4,_)::(10,_)::(11,_)::(12,_)::(14,_)::Lx) _ _
      refine am ?_
      exact at_nil k
     ·intro Lx g75 s K hl hh k
      show At 180 ((80,_)::(3,_)::(4,_)::(10,_)::(11,_)::(12,_)::(14,_)::Lx) _ _
      obtain rfl:s=0:=by omega
      refine aw (r_len_sl underlying88 rfl) ?_
      exact at_nil k
     ·intro Lx g75 s K hl hh k
      show At 180 ((79,_)::(81,_)::(3,_)::(4,_)::(10,_)::(11,_)::(12,_)::(14,_)::Lx) _ _
      refine aw xl ?_
      exact at_nil k
     ·intro Lx g75 s K hl hh k
      show At 180 ((82,_)::(3,_)::(4,_)::(10,_)::(11,_)::(12,_)::(14,_)::Lx) _ _
      refine am ?_
      exact at_nil (at_cast h66 k)
     ·intro Lx g75 s K hl hh k
      show At 180 ((83,_)::(3,_)::(4,_)::(10,_)::(11,_)::(12,_)::(14,_)::Lx) _ _
      refine gy ?_
      refine am ?_
      exact at_nil k
     ·intro Lx g75 s K hl hh k
      show At 180 ((83,_)::(3,_)::(4,_)::(10,_)::(11,_)::(12,_)::(14,_)::Lx) _ _
      refine gy ?_
      refine am ?_
      exact at_nil k
     ·intro Lx g75 s K hl hh k
      show At 180 ((83,_)::(85,_)::(3,_)::(4,_)::(10,_)::(11,_)::(12,_)::(14,_)::Lx) _ _
      refine gy ?_
      refine aw xa ?_
      exact at_nil k
     ·intro Lx g75 s K hl hh k
      show At 180 ((83,_)::(84,_)::(86,_)::(3,_)::(4,_)::(10,_)::(11,_)::(12,_)::(14,_)::Lx) _ _
      refine gy ?_
      refine aw (r_idx underlying88 sizeOf24 rfl rfl h67 hp68) ?_
      exact at_nil k
     ·intro Lx g75 s K hl hh k
      show At 180 ((83,_)::(87,_)::(3,_)::(4,_)::(10,_)::(11,_)::(12,_)::(14,_)::Lx) _ _
      refine gy ?_
      refine fa 0 underlying24 rfl sizeOf3 ?_
      exact at_nil k
     ·intro Lx g75 s K hl hh k
      show At 180 ((83,_)::(88,_)::(3,_)::(4,_)::(10,_)::(11,_)::(12,_)::(14,_)::Lx) _ _
      refine gy ?_
      obtain rfl:s=0:=by omega
      refine aw (r_load_cell isAgg3 rfl (fun w1 hw=>row_lens0 (y:=(lget q26 (wr .i64 (i48+1))).f_V) (W:=fun w1=>w1=_) (fun w1 h=>by subst h;exact Below.refl _ _) (hw.own (.s (.s (.s .z)))).row h67 hp68 (Lens.comp lw (fun z=>{ (lget q26 (wr .i64 (i48+1))) with f_V:=z }) (c_api_Addr_f_V (lget q26 (wr .i64 (i48+1))))) rfl _ rfl)) ?_
      exact at_nil k
     ·intro Lx g75 s K hl hh k
      show At 180 ((83,_)::(3,_)::(4,_)::(10,_)::(11,_)::(12,_)::(14,_)::Lx) _ _
      refine gy ?_
      refine am ?_
      exact at_nil k
     ·intro Lx g75 s K hl hh k
      show At 180 ((83,_)::(3,_)::(4,_)::(10,_)::(11,_)::(12,_)::(14,_)::Lx) _ _
      refine gy ?_
      refine am ?_
      exact at_nil k
     ·intro Lx g75 s K hl hh k
      show At 180 ((83,_)::(90,_)::(91,_)::(3,_)::(4,_)::(10,_)::(11,_)::(12,_)::(14,_)::Lx) _ _
      refine gy ?_
      refine aw (r_idx underlying88 sizeOf24 rfl rfl h71 hp72) ?_
      exact at_nil k
     ·intro Lx g75 s K hl hh k
      show At 180 ((83,_)::(92,_)::(3,_)::(4,_)::(10,_)::(11,_)::(12,_)::(14,_)::Lx) _ _
      refine gy ?_
      refine fa 0 underlying24 rfl sizeOf3 ?_
      exact at_nil k
     ·intro Lx g75 s K hl hh k
      show At 180 ((83,_)::(93,_)::(3,_)::(4,_)::(10,_)::(11,_)::(12,_)::(14,_)::Lx) _ _
      refine gy ?_
      obtain rfl:s=0:=by omega
      refine aw (r_load_cell isAgg3 rfl (fun w1 hw=>row_lens0 (y:=(lget q26 i48).f_V) (W:=fun w1=>w1=_) (fun w1 h=>by subst h;exact Below.refl _ _) (hw.own (.s (.s (.s .z)))).row h71 hp72 (Lens.comp lw (fun z=>{ (lget q26 i48) with f_V:=z }) (c_api_Addr_f_V (lget q26 i48))) rfl _ rfl)) ?_
      exact at_nil k
     ·intro Lx g75 s K hl hh k
      show At 180 ((83,_)::(89,_)::(94,_)::(3,_)::(4,_)::(10,_)::(11,_)::(12,_)::(14,_)::Lx) _ _
      refine gy ?_
      refine aw xq ?_
      exact at_nil k
     ·intro Lx g75 s K hl hh k
      show At 180 ((83,_)::(95,_)::(3,_)::(4,_)::(10,_)::(11,_)::(12,_)::(14,_)::Lx) _ _
      refine aw xp ?_
      exact at_nil k
     intro g75
     show At 180 [(78,_),(79,_),(80,_),(81,_),(82,_),(83,_),(84,_),(85,_),(86,_),(87,_),(88,_),(89,_),(90,_),(91,_),(92,_),(93,_),(94,_),(95,_),(96,_),(3,_),(4,_),(10,_),(11,_),(12,_),(14,_)] _ _
     refine wq [96,14,12,11,10,4,3] ?_
     refine tn ?_
     obtain ⟨h76,hF⟩|⟨h76,hF⟩:=oi hF
     ·refine ct h76 ?_
      refine qr (am (am (aw xa ?_)))
      obtain ⟨h77,hF⟩:=gd hF
      refine at_pure (φ:=∃ b o,p31=some ⟨b,o,none⟩) (fun _ hw=>row_ptr (hw.own (.s (.s (.s .z)))).row h77) ?_
      rintro ⟨b79,o80,hp78⟩
      refine aw (r_idx underlying88 sizeOf24 rfl rfl h77 hp78) ?_
      refine aw (r_load_aggc (c:=c_api_Addr) (z:=lget q26 (wr .i64 (i48+1))) isAgg24 sizeOf24 rfl (fun w1 hw=>row_cell (W:=fun w1=>w1=_) (fun w1 h=>by subst h;exact Below.refl _ _) (hw.own (.s (.s (.s .z)))).row h77 hp78 _ rfl)) ?_
      obtain ⟨t81,ht81,hF⟩:=bM hF
      refine cB func59 rfl (fun w hw=>crawlwayref59_previous_ok _ _ ht81 w) ?_
      refine at_store (c:=c_api_Addr) (z:=t81) .z lw sizeOf24 rfl rfl rfl ?_
      refine ns (am ?_)
      refine aw (r_len_sl underlying57 rfl) ?_
      refine aa (nt (qs (qs (wq [16,14,12,11,10,4,3] ?_))))
      obtain ⟨h82,hF⟩|⟨h82,hF⟩:=oi hF
      ·skip
       obtain ⟨h83,hF⟩:=gd hF
       refine at_pure (φ:=∃ b o,p49=some ⟨b,o,none⟩) (fun _ hw=>row_ptr (hw.own (.s (.s .z))).row h83) ?_
       rintro ⟨b85,o86,hp84⟩
       obtain ⟨h87,hF⟩|⟨h87,hF⟩:=oi hF
       ·skip
        obtain ⟨h88,hF⟩:=gd hF
        refine at_pure (φ:=∃ b o,p49=some ⟨b,o,none⟩) (fun _ hw=>row_ptr (hw.own (.s (.s .z))).row h88) ?_
        rintro ⟨b90,o91,hp89⟩
        obtain ⟨h92,hF⟩:=gd hF
        refine at_pure (φ:=∃ b o,p31=some ⟨b,o,none⟩) (fun _ hw=>row_ptr (hw.own (.s (.s (.s .z)))).row h92) ?_
        rintro ⟨b94,o95,hp93⟩
        refine at_inv [.q 115 (fun g96=>.int .i64 (i47.length:Int)) [] 0 0,.q 116 (fun g96=>.bool (decide ((i47.length:Int)>0))) [0] 0 0,.q 117 (fun g96=>.bool true) [1] 0 0,.q 118 (fun g96=>.slice p49 i47.length c50) [2] 0 0,.q 119 (fun g96=>.int .i64 (i47.length:Int)) [2] 0 0,.q 120 (fun g96=>.int .i64 (wr .i64 ((i47.length:Int)-1))) [2,4] 0 0,.q 121 (fun g96=>.pointer (some ⟨b85,o86+Int.toNat (wr .i64 ((i47.length:Int)-1))*35,none⟩)) [2,3,5] 0 0,.q 122 (fun g96=>.pointer (some ⟨b85,o86+Int.toNat (wr .i64 ((i47.length:Int)-1))*35+34,none⟩)) [2,6] 0 0,.q 123 (fun g96=>.int .i64 ((lget i47 (wr .i64 ((i47.length:Int)-1))).f_Owner)) [2,7] 0 0,.q 124 (fun g96=>.pointer (some ⟨b59,0+18,none⟩)) [2] 0 0,.q 125 (fun g96=>.int .i64 t58.1.f_Owner) [2,9] 0 0,.q 126 (fun g96=>.bool ((lget i47 (wr .i64 ((i47.length:Int)-1))).f_Owner==t58.1.f_Owner)) [2,8,10] 0 0,.q 127 (fun g96=>.bool ((lget i47 (wr .i64 ((i47.length:Int)-1))).f_Owner==t58.1.f_Owner)) [2,11] 0 0,.q 128 (fun g96=>.bool true) [12] 0 0,.q 129 (fun g96=>.slice p49 i47.length c50) [13] 0 0,.q 130 (fun g96=>.int .i64 (i47.length:Int)) [13] 0 0,.q 131 (fun g96=>.int .i64 (wr .i64 ((i47.length:Int)-1))) [13,15] 0 0,.q 132 (fun g96=>.pointer (some ⟨b90,o91+Int.toNat (wr .i64 ((i47.length:Int)-1))*35,none⟩)) [13,14,16] 0 0,.q 133 (fun g96=>.pointer (some ⟨b90,o91+Int.toNat (wr .i64 ((i47.length:Int)-1))*35+17,none⟩)) [13,17] 0 0,.q 134 (fun g96=>.pointer (some ⟨b90,o91+Int.toNat (wr .i64 ((i47.length:Int)-1))*35+17+0,none⟩)) [13,18] 0 0,.q 135 (fun g96=>.int .i64 (((lget i47 (wr .i64 ((i47.length:Int)-1))).f_To).f_V)) [13,19] 0 0,.q 136 (fun g96=>.slice p31 q26.length c32) [13] 0 0,.q 137 (fun g96=>.int .i64 i48) [13] 0 0,.q 138 (fun g96=>.pointer (some ⟨b94,o95+Int.toNat i48*17,none⟩)) [13,21,22] 0 0,.q 139 (fun g96=>.pointer (some ⟨b94,o95+Int.toNat i48*17+0,none⟩)) [13,23] 0 0,.q 140 (fun g96=>.int .i64 ((lget q26 i48).f_V)) [13,24] 0 0,.q 141 (fun g96=>.bool (((lget i47 (wr .i64 ((i47.length:Int)-1))).f_To).f_V==(lget q26 i48).f_V)) [13,20,25] 0 0,.q 142 (fun g96=>.bool (((lget i47 (wr .i64 ((i47.length:Int)-1))).f_To).f_V==(lget q26 i48).f_V)) [13,26] 0 0] (fun g96 s=>match s with | _=>(Wd w [cellsE b65 (Cd.cs c_api_Addr t81) 24,cellsE b59 (Cd.cs c_api_Entry t58.1) 66,rowE c_crawlwayref59_Span 62 p49 c50 i47,rowE c_api_Addr 24 p31 c32 q26,rowE c_api_Entry 66 p2 c3 t1])) 0 (by kernel_rfl) (by kernel_rfl) (by kernel_rfl) (by kernel_rfl) (by kernel_rfl) ⟨fun _ _ _=>rfl,fun _ _ _=>rfl,fun _ _ _=>rfl,fun _ _ _=>rfl,fun _ _ _=>rfl,fun _ _ _=>rfl,fun _ _ _=>rfl,fun _ _ _=>rfl,fun _ _ _=>rfl,fun _ _ _=>rfl,fun _ _ _=>rfl,fun _ _ _=>rfl,fun _ _ _=>rfl,fun _ _ _=>rfl,fun _ _ _=>rfl,fun _ _ _=>rfl,fun _ _ _=>rfl,fun _ _ _=>rfl,fun _ _ _=>rfl,fun _ _ _=>rfl,fun _ _ _=>rfl,fun _ _ _=>rfl,fun _ _ _=>rfl,fun _ _ _=>rfl,fun _ _ _=>rfl,fun _ _ _=>rfl,fun _ _ _=>rfl,fun _ _ _=>rfl,trivial⟩ (by kernel_rfl) (fun w_ h=>⟨fun _=>g3 0 none 0 none w_,h.drew⟩) ⟨?_,?_,?_,?_,?_,?_,?_,?_,?_,?_,?_,?_,?_,?_,?_,?_,?_,?_,?_,?_,?_,?_,?_,?_,?_,?_,?_,?_,trivial⟩ ?_
        ·intro Lx g96 s K hl hh k
         show At 180 ((3,_)::(4,_)::(10,_)::(11,_)::(12,_)::(14,_)::(16,_)::Lx) _ _
         refine am ?_
         exact at_nil k
        ·intro Lx g96 s K hl hh k
         show At 180 ((115,_)::(3,_)::(4,_)::(10,_)::(11,_)::(12,_)::(14,_)::(16,_)::Lx) _ _
         refine aw (r_igtr rfl rfl) ?_
         exact at_nil k
        ·intro Lx g96 s K hl hh k
         show At 180 ((116,_)::(3,_)::(4,_)::(10,_)::(11,_)::(12,_)::(14,_)::(16,_)::Lx) _ _
         refine am ?_
         exact at_nil (at_cast h82 k)
        ·intro Lx g96 s K hl hh k
         show At 180 ((117,_)::(3,_)::(4,_)::(10,_)::(11,_)::(12,_)::(14,_)::(16,_)::Lx) _ _
         refine gy ?_
         refine am ?_
         exact at_nil k
        ·intro Lx g96 s K hl hh k
         show At 180 ((117,_)::(3,_)::(4,_)::(10,_)::(11,_)::(12,_)::(14,_)::(16,_)::Lx) _ _
         refine gy ?_
         refine am ?_
         exact at_nil k
        ·intro Lx g96 s K hl hh k
         show At 180 ((117,_)::(119,_)::(3,_)::(4,_)::(10,_)::(11,_)::(12,_)::(14,_)::(16,_)::Lx) _ _
         refine gy ?_
         refine aw (r_isub rfl rfl) ?_
         exact at_nil k
        ·intro Lx g96 s K hl hh k
         show At 180 ((117,_)::(118,_)::(120,_)::(3,_)::(4,_)::(10,_)::(11,_)::(12,_)::(14,_)::(16,_)::Lx) _ _
         refine gy ?_
         refine aw (r_idx underlying57 sizeOf62 rfl rfl h83 hp84) ?_
         exact at_nil k
        ·intro Lx g96 s K hl hh k
         show At 180 ((117,_)::(121,_)::(3,_)::(4,_)::(10,_)::(11,_)::(12,_)::(14,_)::(16,_)::Lx) _ _
         refine gy ?_
         refine fa 34 underlying62 rfl sizeOf3 ?_
         exact at_nil k
        ·intro Lx g96 s K hl hh k
         show At 180 ((117,_)::(122,_)::(3,_)::(4,_)::(10,_)::(11,_)::(12,_)::(14,_)::(16,_)::Lx) _ _
         refine gy ?_
         obtain rfl:s=0:=by omega
         refine aw (r_load_cell isAgg3 rfl (fun w1 hw=>row_lens0 (y:=(lget i47 (wr .i64 ((i47.length:Int)-1))).f_Owner) (W:=fun w1=>w1=_) (fun w1 h=>by subst h;exact Below.refl _ _) (hw.own (.s (.s .z))).row h83 hp84 (Lens.comp lw (fun z=>{ (lget i47 (wr .i64 ((i47.length:Int)-1))) with f_Owner:=z }) (c_crawlwayref59_Span_f_Owner (lget i47 (wr .i64 ((i47.length:Int)-1))))) rfl _ rfl)) ?_
         exact at_nil k
        ·intro Lx g96 s K hl hh k
         show At 180 ((117,_)::(3,_)::(4,_)::(10,_)::(11,_)::(12,_)::(14,_)::(16,_)::Lx) _ _
         refine gy ?_
         refine fa 18 underlying66 rfl sizeOf3 ?_
         exact at_nil k
        ·intro Lx g96 s K hl hh k
         show At 180 ((117,_)::(124,_)::(3,_)::(4,_)::(10,_)::(11,_)::(12,_)::(14,_)::(16,_)::Lx) _ _
         refine gy ?_
         obtain rfl:s=0:=by omega
         refine aw (r_load_cell isAgg3 rfl (lens_cell0 (c:=(cInt .i64)) (y:=t58.1.f_Owner) (.s .z) (Lens.comp lw (fun z=>{ t58.1 with f_Owner:=z }) (c_api_Entry_f_Owner t58.1)) rfl)) ?_
         exact at_nil k
        ·intro Lx g96 s K hl hh k
         show At 180 ((117,_)::(123,_)::(125,_)::(3,_)::(4,_)::(10,_)::(11,_)::(12,_)::(14,_)::(16,_)::Lx) _ _
         refine gy ?_
         refine aw xq ?_
         exact at_nil k
        ·intro Lx g96 s K hl hh k
         show At 180 ((117,_)::(126,_)::(3,_)::(4,_)::(10,_)::(11,_)::(12,_)::(14,_)::(16,_)::Lx) _ _
         refine aw xp ?_
         exact at_nil k
        ·intro Lx g96 s K hl hh k
         show At 180 ((127,_)::(3,_)::(4,_)::(10,_)::(11,_)::(12,_)::(14,_)::(16,_)::Lx) _ _
         refine am ?_
         exact at_nil (at_cast h87 k)
        ·intro Lx g96 s K hl hh k
         show At 180 ((128,_)::(3,_)::(4,_)::(10,_)::(11,_)::(12,_)::(14,_)::(16,_)::Lx) _ _
         refine gy ?_
         refine am ?_
         exact at_nil k
        ·intro Lx g96 s K hl hh k
         show At 180 ((128,_)::(3,_)::(4,_)::(10,_)::(11,_)::(12,_)::(14,_)::(16,_)::Lx) _ _
         refine gy ?_
         refine am ?_
         exact at_nil k
        ·intro Lx g96 s K hl hh k
         show At 180 ((128,_)::(130,_)::(3,_)::(4,_)::(10,_)::(11,_)::(12,_)::(14,_)::(16,_)::Lx) _ _
         refine gy ?_
         refine aw (r_isub rfl rfl) ?_
         exact at_nil k
        ·intro Lx g96 s K hl hh k
         show At 180 ((128,_)::(129,_)::(131,_)::(3,_)::(4,_)::(10,_)::(11,_)::(12,_)::(14,_)::(16,_)::Lx) _ _
         refine gy ?_
         refine aw (r_idx underlying57 sizeOf62 rfl rfl h88 hp89) ?_
         exact at_nil k
        ·intro Lx g96 s K hl hh k
         show At 180 ((128,_)::(132,_)::(3,_)::(4,_)::(10,_)::(11,_)::(12,_)::(14,_)::(16,_)::Lx) _ _
         refine gy ?_
         refine fa 17 underlying62 rfl sizeOf24 ?_
         exact at_nil k
        ·intro Lx g96 s K hl hh k
         show At 180 ((128,_)::(133,_)::(3,_)::(4,_)::(10,_)::(11,_)::(12,_)::(14,_)::(16,_)::Lx) _ _
         refine gy ?_
         refine fa 0 underlying24 rfl sizeOf3 ?_
         exact at_nil k
        ·intro Lx g96 s K hl hh k
         show At 180 ((128,_)::(134,_)::(3,_)::(4,_)::(10,_)::(11,_)::(12,_)::(14,_)::(16,_)::Lx) _ _
         refine gy ?_
         obtain rfl:s=0:=by omega
         refine aw (r_load_cell isAgg3 rfl (fun w1 hw=>row_lens0 (y:=((lget i47 (wr .i64 ((i47.length:Int)-1))).f_To).f_V) (W:=fun w1=>w1=_) (fun w1 h=>by subst h;exact Below.refl _ _) (hw.own (.s (.s .z))).row h88 hp89 (Lens.comp (Lens.comp lw (fun z=>{ (lget i47 (wr .i64 ((i47.length:Int)-1))) with f_To:=z }) (c_crawlwayref59_Span_f_To (lget i47 (wr .i64 ((i47.length:Int)-1))))) (fun z=>{ (lget i47 (wr .i64 ((i47.length:Int)-1))).f_To with f_V:=z }) (c_api_Addr_f_V ((lget i47 (wr .i64 ((i47.length:Int)-1))).f_To))) rfl _ rfl)) ?_
         exact at_nil k
        ·intro Lx g96 s K hl hh k
         show At 180 ((128,_)::(3,_)::(4,_)::(10,_)::(11,_)::(12,_)::(14,_)::(16,_)::Lx) _ _
         refine gy ?_
         refine am ?_
         exact at_nil k
        ·intro Lx g96 s K hl hh k
         show At 180 ((128,_)::(3,_)::(4,_)::(10,_)::(11,_)::(12,_)::(14,_)::(16,_)::Lx) _ _
         refine gy ?_
         refine am ?_
         exact at_nil k
        ·intro Lx g96 s K hl hh k
         show At 180 ((128,_)::(136,_)::(137,_)::(3,_)::(4,_)::(10,_)::(11,_)::(12,_)::(14,_)::(16,_)::Lx) _ _
         refine gy ?_
         refine aw (r_idx underlying88 sizeOf24 rfl rfl h92 hp93) ?_
         exact at_nil k
        ·intro Lx g96 s K hl hh k
         show At 180 ((128,_)::(138,_)::(3,_)::(4,_)::(10,_)::(11,_)::(12,_)::(14,_)::(16,_)::Lx) _ _
         refine gy ?_
         refine fa 0 underlying24 rfl sizeOf3 ?_
         exact at_nil k
        ·intro Lx g96 s K hl hh k
         show At 180 ((128,_)::(139,_)::(3,_)::(4,_)::(10,_)::(11,_)::(12,_)::(14,_)::(16,_)::Lx) _ _
         refine gy ?_
         obtain rfl:s=0:=by omega
         refine aw (r_load_cell isAgg3 rfl (fun w1 hw=>row_lens0 (y:=(lget q26 i48).f_V) (W:=fun w1=>w1=_) (fun w1 h=>by subst h;exact Below.refl _ _) (hw.own (.s (.s (.s .z)))).row h92 hp93 (Lens.comp lw (fun z=>{ (lget q26 i48) with f_V:=z }) (c_api_Addr_f_V (lget q26 i48))) rfl _ rfl)) ?_
         exact at_nil k
        ·intro Lx g96 s K hl hh k
         show At 180 ((128,_)::(135,_)::(140,_)::(3,_)::(4,_)::(10,_)::(11,_)::(12,_)::(14,_)::(16,_)::Lx) _ _
         refine gy ?_
         refine aw xq ?_
         exact at_nil k
        ·intro Lx g96 s K hl hh k
         show At 180 ((128,_)::(141,_)::(3,_)::(4,_)::(10,_)::(11,_)::(12,_)::(14,_)::(16,_)::Lx) _ _
         refine aw xp ?_
         exact at_nil k
        intro g96
        show At 180 [(115,_),(116,_),(117,_),(118,_),(119,_),(120,_),(121,_),(122,_),(123,_),(124,_),(125,_),(126,_),(127,_),(128,_),(129,_),(130,_),(131,_),(132,_),(133,_),(134,_),(135,_),(136,_),(137,_),(138,_),(139,_),(140,_),(141,_),(142,_),(3,_),(4,_),(10,_),(11,_),(12,_),(14,_),(16,_)] _ _
        refine wq [142,16,14,12,11,10,4,3] ?_
        refine tn ?_
        obtain ⟨h97,hF⟩|⟨h97,hF⟩:=oi hF
        ·refine ct h97 ?_
         refine sr (am (am ?_))
         refine aw (r_isub rfl rfl) ?_
         obtain ⟨h98,hF⟩:=gd hF
         refine at_pure (φ:=∃ b o,p49=some ⟨b,o,none⟩) (fun _ hw=>row_ptr (hw.own (.s (.s .z))).row h98) ?_
         rintro ⟨b100,o101,hp99⟩
         refine aw (r_idx underlying57 sizeOf62 rfl rfl h98 hp99) ?_
         refine fa 17 underlying62 rfl sizeOf24 ?_
         refine aw (r_load_aggc (c:=c_api_Addr) (z:=(lget i47 (wr .i64 ((i47.length:Int)-1))).f_To) isAgg24 sizeOf24 rfl (fun w1 hw=>row_lens (y:=(lget i47 (wr .i64 ((i47.length:Int)-1))).f_To) (W:=fun w1=>w1=_) (fun w1 h=>by subst h;exact Below.refl _ _) (hw.own (.s (.s .z))).row h98 hp99 (Lens.comp lw (fun z=>{ (lget i47 (wr .i64 ((i47.length:Int)-1))) with f_To:=z }) (c_crawlwayref59_Span_f_To (lget i47 (wr .i64 ((i47.length:Int)-1))))) _ rfl)) ?_
         obtain ⟨t102,ht102,hF⟩:=bM hF
         refine cB func17 rfl (fun w hw=>crawlwayref53_Next_ok _ _ ht102 w) ?_
         refine am ?_
         refine aw xe (aw xe ?_)
         refine al (cs:=Cd.cs c_api_Addr zv0) zeroValue24 ?_
         intro b103
         refine at_store (c:=c_api_Addr) (z:=t102.1) .z lw sizeOf24 rfl rfl rfl ?_
         refine aa (nt (qs (wq [18,17,16,14,12,11,10,4,3] ?_)))
         obtain ⟨h104,hF⟩|⟨h104,hF⟩:=oi hF
         ·skip
          obtain ⟨h105,hF⟩:=gd hF
          refine at_pure (φ:=∃ b o,p31=some ⟨b,o,none⟩) (fun _ hw=>row_ptr (hw.own (.s (.s (.s (.s .z))))).row h105) ?_
          rintro ⟨b107,o108,hp106⟩
          refine at_inv [.q 153 (fun g109=>.bool t102.2) [] 0 0,.q 154 (fun g109=>.bool true) [0] 0 0,.q 155 (fun g109=>.agg (Cd.cs c_api_Addr t102.1).toArray) [1] 0 0,.q 156 (fun g109=>.slice p31 q26.length c32) [1] 0 0,.q 157 (fun g109=>.int .i64 i48) [1] 0 0,.q 158 (fun g109=>.pointer (some ⟨b107,o108+Int.toNat i48*17,none⟩)) [1,3,4] 0 0,.q 159 (fun g109=>.agg (Cd.cs c_api_Addr (lget q26 i48)).toArray) [1,5] 0 0,.q 160 (fun g109=>.bool (decide (t102.1=lget q26 i48))) [1,2,6] 0 0,.q 161 (fun g109=>.bool (decide (t102.1=lget q26 i48))) [1,7] 0 0] (fun g109 s=>match s with | _=>(Wd w [cellsE b103 (Cd.cs c_api_Addr t102.1) 24,cellsE b65 (Cd.cs c_api_Addr t81) 24,cellsE b59 (Cd.cs c_api_Entry t58.1) 66,rowE c_crawlwayref59_Span 62 p49 c50 i47,rowE c_api_Addr 24 p31 c32 q26,rowE c_api_Entry 66 p2 c3 t1])) 0 (by kernel_rfl) (by kernel_rfl) (by kernel_rfl) (by kernel_rfl) (by kernel_rfl) ⟨fun _ _ _=>rfl,fun _ _ _=>rfl,fun _ _ _=>rfl,fun _ _ _=>rfl,fun _ _ _=>rfl,fun _ _ _=>rfl,fun _ _ _=>rfl,fun _ _ _=>rfl,fun _ _ _=>rfl,trivial⟩ (by kernel_rfl) (fun w_ h=>⟨fun _=>g3 0 none 0 none w_,h.drew⟩) ⟨?_,?_,?_,?_,?_,?_,?_,?_,?_,trivial⟩ ?_
          ·intro Lx g109 s K hl hh k
           show At 180 ((3,_)::(4,_)::(10,_)::(11,_)::(12,_)::(14,_)::(16,_)::(17,_)::(18,_)::Lx) _ _
           refine am ?_
           exact at_nil k
          ·intro Lx g109 s K hl hh k
           show At 180 ((153,_)::(3,_)::(4,_)::(10,_)::(11,_)::(12,_)::(14,_)::(16,_)::(17,_)::(18,_)::Lx) _ _
           refine am ?_
           exact at_nil (at_cast h104 k)
          ·intro Lx g109 s K hl hh k
           show At 180 ((154,_)::(3,_)::(4,_)::(10,_)::(11,_)::(12,_)::(14,_)::(16,_)::(17,_)::(18,_)::Lx) _ _
           refine gy ?_
           obtain rfl:s=0:=by omega
           refine aw (r_load_aggc (c:=c_api_Addr) (z:=t102.1) isAgg24 sizeOf24 rfl (lens_cell .z lw)) ?_
           exact at_nil k
          ·intro Lx g109 s K hl hh k
           show At 180 ((154,_)::(3,_)::(4,_)::(10,_)::(11,_)::(12,_)::(14,_)::(16,_)::(17,_)::(18,_)::Lx) _ _
           refine gy ?_
           refine am ?_
           exact at_nil k
          ·intro Lx g109 s K hl hh k
           show At 180 ((154,_)::(3,_)::(4,_)::(10,_)::(11,_)::(12,_)::(14,_)::(16,_)::(17,_)::(18,_)::Lx) _ _
           refine gy ?_
           refine am ?_
           exact at_nil k
          ·intro Lx g109 s K hl hh k
           show At 180 ((154,_)::(156,_)::(157,_)::(3,_)::(4,_)::(10,_)::(11,_)::(12,_)::(14,_)::(16,_)::(17,_)::(18,_)::Lx) _ _
           refine gy ?_
           refine aw (r_idx underlying88 sizeOf24 rfl rfl h105 hp106) ?_
           exact at_nil k
          ·intro Lx g109 s K hl hh k
           show At 180 ((154,_)::(158,_)::(3,_)::(4,_)::(10,_)::(11,_)::(12,_)::(14,_)::(16,_)::(17,_)::(18,_)::Lx) _ _
           refine gy ?_
           obtain rfl:s=0:=by omega
           refine aw (r_load_aggc (c:=c_api_Addr) (z:=lget q26 i48) isAgg24 sizeOf24 rfl (fun w1 hw=>row_cell (W:=fun w1=>w1=_) (fun w1 h=>by subst h;exact Below.refl _ _) (hw.own (.s (.s (.s (.s .z))))).row h105 hp106 _ rfl)) ?_
           exact at_nil k
          ·intro Lx g109 s K hl hh k
           show At 180 ((154,_)::(155,_)::(159,_)::(3,_)::(4,_)::(10,_)::(11,_)::(12,_)::(14,_)::(16,_)::(17,_)::(18,_)::Lx) _ _
           refine gy ?_
           refine aw (r_eqagg (c:=c_api_Addr) (a:=t102.1) (b:=lget q26 i48) (eq_api_Addr_24) rfl Try.eqGuardType24 rfl rfl (.inl rfl) rfl) ?_
           exact at_nil k
          ·intro Lx g109 s K hl hh k
           show At 180 ((154,_)::(160,_)::(3,_)::(4,_)::(10,_)::(11,_)::(12,_)::(14,_)::(16,_)::(17,_)::(18,_)::Lx) _ _
           refine aw xp ?_
           exact at_nil k
          intro g109
          show At 180 [(153,_),(154,_),(155,_),(156,_),(157,_),(158,_),(159,_),(160,_),(161,_),(3,_),(4,_),(10,_),(11,_),(12,_),(14,_),(16,_),(17,_),(18,_)] _ _
          refine dz (wq [161,16,14,12,11,10,4,3] ?_)
          refine tn ?_
          obtain ⟨h110,hF⟩|⟨h110,hF⟩:=oi hF
          ·refine ct h110 ?_
           refine sr (am (am ?_))
           refine aw (r_isub rfl rfl) ?_
           refine aw (r_load_aggc (c:=c_api_Addr) (z:=t81) isAgg24 sizeOf24 rfl (lens_cell .z lw)) ?_
           obtain ⟨h111,hF⟩:=gd hF
           refine at_pure (φ:=∃ b o,p49=some ⟨b,o,none⟩) (fun _ hw=>row_ptr (hw.own (.s (.s .z))).row h111) ?_
           rintro ⟨b113,o114,hp112⟩
           refine aw (r_idx underlying57 sizeOf62 rfl rfl h111 hp112) ?_
           refine fa 17 underlying62 rfl sizeOf24 ?_
           refine at_storeRow (c:=c_crawlwayref59_Span) (c':=c_api_Addr) (i:=wr .i64 ((i47.length:Int)-1)) (z:=t81) (y:={ (lget i47 (wr .i64 ((i47.length:Int)-1))) with f_To:=t81 }) (.s (.s .z)) h111 hp112 (Lens.comp lw (fun z=>{ (lget i47 (wr .i64 ((i47.length:Int)-1))) with f_To:=z }) (c_crawlwayref59_Span_f_To (lget i47 (wr .i64 ((i47.length:Int)-1))))) (by rfl) sizeOf24 rfl rfl rfl ?_
           refine at_ov (t:=10) rfl (show Value.slice p49 (List.length i47) c50=.slice p49 (List.length (lset i47 (wr .i64 ((i47.length:Int)-1)) ({ (lget i47 (wr .i64 ((i47.length:Int)-1))) with f_To:=t81 }))) c50 from congrArg (fun n_=>Value.slice p49 n_ c50) ((lset_length _ _ _).symm)) ?_
           refine at_ov (t:=162) rfl (show Value.slice p49 (List.length i47) c50=.slice p49 (List.length (lset i47 (wr .i64 ((i47.length:Int)-1)) ({ (lget i47 (wr .i64 ((i47.length:Int)-1))) with f_To:=t81 }))) c50 from congrArg (fun n_=>Value.slice p49 n_ c50) ((lset_length _ _ _).symm)) ?_
           refine qn (dz (dz (wq [11,10,4,3] ?_)))
           refine tn ?_
           refine at_exit ?_
           refine te (at_blk_same (tn ?_))
           refine qr (am (aw xa (aa (nwq [11,10,4,3] ?_))))
           exact at_weak_k (ih _ _ _ hF K p49 c50) ⟨rfl,rfl,rfl,rfl,trivial⟩
          refine cf h110 ?_
          refine sn (wq [14,12,11,10,4,3] ?_)
          obtain ⟨h115,hF⟩:=gd hF
          refine at_pure (φ:=∃ b o,p31=some ⟨b,o,none⟩) (fun _ hw=>row_ptr (hw.own (.s (.s (.s .z)))).row h115) ?_
          rintro ⟨b117,o118,hp116⟩
          refine at_invT [.q 168 (fun g120=>.slice p49 i47.length c50) [] 0 1,.q 169 (fun g120=>.slice p31 q26.length c32) [] 0 0,.q 170 (fun g120=>.int .i64 i48) [] 0 0,.q 171 (fun g120=>.pointer (some ⟨b117,o118+Int.toNat i48*17,none⟩)) [1,2] 0 0,.q 172 (fun g120=>.agg (Cd.cs c_api_Addr (lget q26 i48)).toArray) [3] 0 0,.q 173 (fun g120=>.agg (Cd.cs c_api_Addr t81).toArray) [] 0 0,.q 174 (fun g120=>.pointer (some ⟨b59,0+18,none⟩)) [] 0 0,.q 175 (fun g120=>.int .i64 t58.1.f_Owner) [6] 0 0,.q 176 (fun g120=>.agg (Cd.cs c_crawlwayref59_Span ({ { { zv4 with f_From:=lget q26 i48 } with f_To:=t81 } with f_Owner:=t58.1.f_Owner })).toArray) [4,5,7] 0 0,.al 0 177 (fun g120=>.slice (some ⟨((g120 0).1),0,none⟩) ([{ { { zv4 with f_From:=lget q26 i48 } with f_To:=t81 } with f_Owner:=t58.1.f_Owner }]:List S_crawlwayref59_Span).length 1) [8]] (fun g120 s=>match s with | 0=>(Wd w [cellsE b65 (Cd.cs c_api_Addr t81) 24,cellsE b59 (Cd.cs c_api_Entry t58.1) 66,rowE c_crawlwayref59_Span 62 p49 c50 i47,rowE c_api_Addr 24 p31 c32 q26,rowE c_api_Entry 66 p2 c3 t1]) | _=>(Wd w [cellsE ((g120 0).1) (c_crawlwayref59_Span.all ([{ { { zv4 with f_From:=lget q26 i48 } with f_To:=t81 } with f_Owner:=t58.1.f_Owner }]:List S_crawlwayref59_Span)) 62,cellsE b65 (Cd.cs c_api_Addr t81) 24,cellsE b59 (Cd.cs c_api_Entry t58.1) 66,rowE c_crawlwayref59_Span 62 p49 c50 i47,rowE c_api_Addr 24 p31 c32 q26,rowE c_api_Entry 66 p2 c3 t1])) 1 10 (by kernel_rfl) (by kernel_rfl) (by kernel_rfl) (by kernel_rfl) (by kernel_rfl) (by kernel_rfl) ⟨fun _ _ _=>rfl,fun _ _ _=>rfl,fun _ _ _=>rfl,fun _ _ _=>rfl,fun _ _ _=>rfl,fun _ _ _=>rfl,fun _ _ _=>rfl,fun _ _ _=>rfl,fun _ _ _=>rfl,fun g120 g2 h=>by show (.slice (some ⟨((g120 0).1),0,none⟩) ([{ { { zv4 with f_From:=lget q26 i48 } with f_To:=t81 } with f_Owner:=t58.1.f_Owner }]:List S_crawlwayref59_Span).length 1:Value)=.slice (some ⟨((g2 0).1),0,none⟩) ([{ { { zv4 with f_From:=lget q26 i48 } with f_To:=t81 } with f_Owner:=t58.1.f_Owner }]:List S_crawlwayref59_Span).length 1;rw [h 0 (show 0<1 by decide)],trivial⟩ (by kernel_rfl) (fun w_ h=>⟨fun _=>g3 0 none 0 none w_,h.drew⟩) ⟨?_,?_,?_,?_,?_,?_,?_,?_,?_,?_,trivial⟩ ?_
          ·intro Lx g120 s K hl hh k
           show At 180 ((3,_)::(4,_)::(10,_)::(11,_)::(12,_)::(14,_)::Lx) _ _
           refine am ?_
           exact at_nil k
          ·intro Lx g120 s K hl hh k
           show At 180 ((3,_)::(4,_)::(10,_)::(11,_)::(12,_)::(14,_)::Lx) _ _
           refine am ?_
           exact at_nil k
          ·intro Lx g120 s K hl hh k
           show At 180 ((3,_)::(4,_)::(10,_)::(11,_)::(12,_)::(14,_)::Lx) _ _
           refine am ?_
           exact at_nil k
          ·intro Lx g120 s K hl hh k
           show At 180 ((169,_)::(170,_)::(3,_)::(4,_)::(10,_)::(11,_)::(12,_)::(14,_)::Lx) _ _
           refine aw (r_idx underlying88 sizeOf24 rfl rfl h115 hp116) ?_
           exact at_nil k
          ·intro Lx g120 s K hl hh k
           show At 180 ((171,_)::(3,_)::(4,_)::(10,_)::(11,_)::(12,_)::(14,_)::Lx) _ _
           obtain rfl:s=0:=by omega
           refine aw (r_load_aggc (c:=c_api_Addr) (z:=lget q26 i48) isAgg24 sizeOf24 rfl (fun w1 hw=>row_cell (W:=fun w1=>w1=_) (fun w1 h=>by subst h;exact Below.refl _ _) (hw.own (.s (.s (.s .z)))).row h115 hp116 _ rfl)) ?_
           exact at_nil k
          ·intro Lx g120 s K hl hh k
           show At 180 ((3,_)::(4,_)::(10,_)::(11,_)::(12,_)::(14,_)::Lx) _ _
           obtain rfl:s=0:=by omega
           refine aw (r_load_aggc (c:=c_api_Addr) (z:=t81) isAgg24 sizeOf24 rfl (lens_cell .z lw)) ?_
           exact at_nil k
          ·intro Lx g120 s K hl hh k
           show At 180 ((3,_)::(4,_)::(10,_)::(11,_)::(12,_)::(14,_)::Lx) _ _
           refine fa 18 underlying66 rfl sizeOf3 ?_
           exact at_nil k
          ·intro Lx g120 s K hl hh k
           show At 180 ((174,_)::(3,_)::(4,_)::(10,_)::(11,_)::(12,_)::(14,_)::Lx) _ _
           obtain rfl:s=0:=by omega
           refine aw (r_load_cell isAgg3 rfl (lens_cell0 (c:=(cInt .i64)) (y:=t58.1.f_Owner) (.s .z) (Lens.comp lw (fun z=>{ t58.1 with f_Owner:=z }) (c_api_Entry_f_Owner t58.1)) rfl)) ?_
           exact at_nil k
          ·intro Lx g120 s K hl hh k
           show At 180 ((172,_)::(173,_)::(175,_)::(3,_)::(4,_)::(10,_)::(11,_)::(12,_)::(14,_)::Lx) _ _
           obtain rfl:s=0:=by omega
           refine aw (r_build_struct (zs:=Cd.cs c_crawlwayref59_Span zv4) (cs:=Cd.cs c_crawlwayref59_Span ({ { { zv4 with f_From:=lget q26 i48 } with f_To:=t81 } with f_Owner:=t58.1.f_Owner })) underlying62 zeroValue62 rfl (places_crawlwayref59_Span_62) rfl (fill_step (c:=c_api_Addr) (z:=lget q26 i48) rfl (c_crawlwayref59_Span_f_From zv4) rfl (fill_step (c:=c_api_Addr) (z:=t81) rfl (c_crawlwayref59_Span_f_To ({ zv4 with f_From:=lget q26 i48 })) rfl (fill_step (c:=(cInt .i64)) (z:=t58.1.f_Owner) rfl (c_crawlwayref59_Span_f_Owner ({ { zv4 with f_From:=lget q26 i48 } with f_To:=t81 })) rfl rfl)))) ?_
           exact at_nil k
          ·intro Lx g120 K k
           show At 180 ((176,_)::(3,_)::(4,_)::(10,_)::(11,_)::(12,_)::(14,_)::Lx) _ _
           refine at_litL (c:=c_crawlwayref59_Span) ([zv4]:List S_crawlwayref59_Span) ([{ { { zv4 with f_From:=lget q26 i48 } with f_To:=t81 } with f_Owner:=t58.1.f_Owner }]:List S_crawlwayref59_Span) underlying57 sizeOf62 zeroValue62 rfl rfl rfl (by kernel_rfl) (fill_step (c:=c_crawlwayref59_Span) (z:={ { { zv4 with f_From:=lget q26 i48 } with f_To:=t81 } with f_Owner:=t58.1.f_Owner }) rfl (Lens.all c_crawlwayref59_Span ([zv4]:List S_crawlwayref59_Span) 0 (by first | decide | exact Nat.le_of_ble_eq_true rfl)) rfl rfl) rfl ?_
           intro b119
           exact at_nil (k (g3 b119 none 0 none w))
          intro g120
          show At 180 [(168,_),(169,_),(170,_),(171,_),(172,_),(173,_),(174,_),(175,_),(176,_),(177,_),(3,_),(4,_),(10,_),(11,_),(12,_),(14,_)] _ _
          obtain ⟨h121,hF⟩:=gd hF
          refine at_append (z:=.agg (Cd.cs c_crawlwayref59_Span zv4).toArray) (c:=c_crawlwayref59_Span) (ys:=([{ { { zv4 with f_From:=lget q26 i48 } with f_To:=t81 } with f_Owner:=t58.1.f_Owner }]:List S_crawlwayref59_Span)) (.s (.s (.s .z))) underlying57 infoF362 (by kernel_rfl) (by kernel_rfl) rfl rfl rfl rfl (fun _ hw=>cells_src (hw.ok (Upd.mem .z))) (by kernel_rfl) h121 (app_small h121) rfl ?_
          intro p122 c123
          refine aa (qn (dz (dz (dz (wq [11,10,4,3] ?_)))))
          refine bm ?_
          refine qr (am (aw xa (aa (nwq [11,10,4,3] ?_))))
          exact at_weak_k (ih _ _ _ hF K p122 c123) ⟨rfl,rfl,rfl,rfl,trivial⟩
         skip
         refine at_inv [.q 153 (fun g124=>.bool t102.2) [] 0 0,.q 154 (fun g124=>.bool false) [0] 0 0,.q 155 (fun g124=>undef) [1] 0 0,.q 156 (fun g124=>undef) [1] 0 0,.q 157 (fun g124=>undef) [1] 0 0,.q 158 (fun g124=>undef) [1,3,4] 0 0,.q 159 (fun g124=>undef) [1,5] 0 0,.q 160 (fun g124=>undef) [1,2,6] 0 0,.q 161 (fun g124=>.bool false) [1,7] 0 0] (fun g124 s=>match s with | _=>(Wd w [cellsE b103 (Cd.cs c_api_Addr t102.1) 24,cellsE b65 (Cd.cs c_api_Addr t81) 24,cellsE b59 (Cd.cs c_api_Entry t58.1) 66,rowE c_crawlwayref59_Span 62 p49 c50 i47,rowE c_api_Addr 24 p31 c32 q26,rowE c_api_Entry 66 p2 c3 t1])) 0 (by kernel_rfl) (by kernel_rfl) (by kernel_rfl) (by kernel_rfl) (by kernel_rfl) ⟨fun _ _ _=>rfl,fun _ _ _=>rfl,fun _ _ _=>rfl,fun _ _ _=>rfl,fun _ _ _=>rfl,fun _ _ _=>rfl,fun _ _ _=>rfl,fun _ _ _=>rfl,fun _ _ _=>rfl,trivial⟩ (by kernel_rfl) (fun w_ h=>⟨fun _=>g3 0 none 0 none w_,h.drew⟩) ⟨?_,?_,?_,?_,?_,?_,?_,?_,?_,trivial⟩ ?_
         ·intro Lx g124 s K hl hh k
          show At 180 ((3,_)::(4,_)::(10,_)::(11,_)::(12,_)::(14,_)::(16,_)::(17,_)::(18,_)::Lx) _ _
          refine am ?_
          exact at_nil k
         ·intro Lx g124 s K hl hh k
          show At 180 ((153,_)::(3,_)::(4,_)::(10,_)::(11,_)::(12,_)::(14,_)::(16,_)::(17,_)::(18,_)::Lx) _ _
          refine am ?_
          exact at_nil (at_cast h104 k)
         ·intro Lx g124 s K hl hh k
          show At 180 ((154,_)::(3,_)::(4,_)::(10,_)::(11,_)::(12,_)::(14,_)::(16,_)::(17,_)::(18,_)::Lx) _ _
          obtain rfl:s=0:=by omega
          refine gn ?_
          exact at_nil k
         ·intro Lx g124 s K hl hh k
          show At 180 ((154,_)::(3,_)::(4,_)::(10,_)::(11,_)::(12,_)::(14,_)::(16,_)::(17,_)::(18,_)::Lx) _ _
          refine gn ?_
          exact at_nil k
         ·intro Lx g124 s K hl hh k
          show At 180 ((154,_)::(3,_)::(4,_)::(10,_)::(11,_)::(12,_)::(14,_)::(16,_)::(17,_)::(18,_)::Lx) _ _
          refine gn ?_
          exact at_nil k
         ·intro Lx g124 s K hl hh k
          show At 180 ((154,_)::(156,_)::(157,_)::(3,_)::(4,_)::(10,_)::(11,_)::(12,_)::(14,_)::(16,_)::(17,_)::(18,_)::Lx) _ _
          refine gn ?_
          exact at_nil k
         ·intro Lx g124 s K hl hh k
          show At 180 ((154,_)::(158,_)::(3,_)::(4,_)::(10,_)::(11,_)::(12,_)::(14,_)::(16,_)::(17,_)::(18,_)::Lx) _ _
          obtain rfl:s=0:=by omega
          refine gn ?_
          exact at_nil k
         ·intro Lx g124 s K hl hh k
          show At 180 ((154,_)::(155,_)::(159,_)::(3,_)::(4,_)::(10,_)::(11,_)::(12,_)::(14,_)::(16,_)::(17,_)::(18,_)::Lx) _ _
          refine gn ?_
          exact at_nil k
         ·intro Lx g124 s K hl hh k
          show At 180 ((154,_)::(160,_)::(3,_)::(4,_)::(10,_)::(11,_)::(12,_)::(14,_)::(16,_)::(17,_)::(18,_)::Lx) _ _
          refine aw xp ?_
          exact at_nil k
         intro g124
         show At 180 [(153,_),(154,_),(155,_),(156,_),(157,_),(158,_),(159,_),(160,_),(161,_),(3,_),(4,_),(10,_),(11,_),(12,_),(14,_),(16,_),(17,_),(18,_)] _ _
         refine dz (wq [161,16,14,12,11,10,4,3] ?_)
         refine tn ?_
         refine cf rfl ?_
         refine sn (wq [14,12,11,10,4,3] ?_)
         obtain ⟨h125,hF⟩:=gd hF
         refine at_pure (φ:=∃ b o,p31=some ⟨b,o,none⟩) (fun _ hw=>row_ptr (hw.own (.s (.s (.s .z)))).row h125) ?_
         rintro ⟨b127,o128,hp126⟩
         refine at_invT [.q 168 (fun g130=>.slice p49 i47.length c50) [] 0 1,.q 169 (fun g130=>.slice p31 q26.length c32) [] 0 0,.q 170 (fun g130=>.int .i64 i48) [] 0 0,.q 171 (fun g130=>.pointer (some ⟨b127,o128+Int.toNat i48*17,none⟩)) [1,2] 0 0,.q 172 (fun g130=>.agg (Cd.cs c_api_Addr (lget q26 i48)).toArray) [3] 0 0,.q 173 (fun g130=>.agg (Cd.cs c_api_Addr t81).toArray) [] 0 0,.q 174 (fun g130=>.pointer (some ⟨b59,0+18,none⟩)) [] 0 0,.q 175 (fun g130=>.int .i64 t58.1.f_Owner) [6] 0 0,.q 176 (fun g130=>.agg (Cd.cs c_crawlwayref59_Span ({ { { zv4 with f_From:=lget q26 i48 } with f_To:=t81 } with f_Owner:=t58.1.f_Owner })).toArray) [4,5,7] 0 0,.al 0 177 (fun g130=>.slice (some ⟨((g130 0).1),0,none⟩) ([{ { { zv4 with f_From:=lget q26 i48 } with f_To:=t81 } with f_Owner:=t58.1.f_Owner }]:List S_crawlwayref59_Span).length 1) [8]] (fun g130 s=>match s with | 0=>(Wd w [cellsE b65 (Cd.cs c_api_Addr t81) 24,cellsE b59 (Cd.cs c_api_Entry t58.1) 66,rowE c_crawlwayref59_Span 62 p49 c50 i47,rowE c_api_Addr 24 p31 c32 q26,rowE c_api_Entry 66 p2 c3 t1]) | _=>(Wd w [cellsE ((g130 0).1) (c_crawlwayref59_Span.all ([{ { { zv4 with f_From:=lget q26 i48 } with f_To:=t81 } with f_Owner:=t58.1.f_Owner }]:List S_crawlwayref59_Span)) 62,cellsE b65 (Cd.cs c_api_Addr t81) 24,cellsE b59 (Cd.cs c_api_Entry t58.1) 66,rowE c_crawlwayref59_Span 62 p49 c50 i47,rowE c_api_Addr 24 p31 c32 q26,rowE c_api_Entry 66 p2 c3 t1])) 1 10 (by kernel_rfl) (by kernel_rfl) (by kernel_rfl) (by kernel_rfl) (by kernel_rfl) (by kernel_rfl) ⟨fun _ _ _=>rfl,fun _ _ _=>rfl,fun _ _ _=>rfl,fun _ _ _=>rfl,fun _ _ _=>rfl,fun _ _ _=>rfl,fun _ _ _=>rfl,fun _ _ _=>rfl,fun _ _ _=>rfl,fun g130 g2 h=>by show (.slice (some ⟨((g130 0).1),0,none⟩) ([{ { { zv4 with f_From:=lget q26 i48 } with f_To:=t81 } with f_Owner:=t58.1.f_Owner }]:List S_crawlwayref59_Span).length 1:Value)=.slice (some ⟨((g2 0).1),0,none⟩) ([{ { { zv4 with f_From:=lget q26 i48 } with f_To:=t81 } with f_Owner:=t58.1.f_Owner }]:List S_crawlwayref59_Span).length 1;rw [h 0 (show 0<1 by decide)],trivial⟩ (by kernel_rfl) (fun w_ h=>⟨fun _=>g3 0 none 0 none w_,h.drew⟩) ⟨?_,?_,?_,?_,?_,?_,?_,?_,?_,?_,trivial⟩ ?_
         ·intro Lx g130 s K hl hh k
          show At 180 ((3,_)::(4,_)::(10,_)::(11,_)::(12,_)::(14,_)::Lx) _ _
          refine am ?_
          exact at_nil k
         ·intro Lx g130 s K hl hh k
          show At 180 ((3,_)::(4,_)::(10,_)::(11,_)::(12,_)::(14,_)::Lx) _ _
          refine am ?_
          exact at_nil k
         ·intro Lx g130 s K hl hh k
          show At 180 ((3,_)::(4,_)::(10,_)::(11,_)::(12,_)::(14,_)::Lx) _ _
          refine am ?_
          exact at_nil k
         ·intro Lx g130 s K hl hh k
          show At 180 ((169,_)::(170,_)::(3,_)::(4,_)::(10,_)::(11,_)::(12,_)::(14,_)::Lx) _ _
          refine aw (r_idx underlying88 sizeOf24 rfl rfl h125 hp126) ?_
          exact at_nil k
         ·intro Lx g130 s K hl hh k
          show At 180 ((171,_)::(3,_)::(4,_)::(10,_)::(11,_)::(12,_)::(14,_)::Lx) _ _
          obtain rfl:s=0:=by omega
          refine aw (r_load_aggc (c:=c_api_Addr) (z:=lget q26 i48) isAgg24 sizeOf24 rfl (fun w1 hw=>row_cell (W:=fun w1=>w1=_) (fun w1 h=>by subst h;exact Below.refl _ _) (hw.own (.s (.s (.s .z)))).row h125 hp126 _ rfl)) ?_
          exact at_nil k
         ·intro Lx g130 s K hl hh k
          show At 180 ((3,_)::(4,_)::(10,_)::(11,_)::(12,_)::(14,_)::Lx) _ _
          obtain rfl:s=0:=by omega
          refine aw (r_load_aggc (c:=c_api_Addr) (z:=t81) isAgg24 sizeOf24 rfl (lens_cell .z lw)) ?_
          exact at_nil k
         ·intro Lx g130 s K hl hh k
          show At 180 ((3,_)::(4,_)::(10,_)::(11,_)::(12,_)::(14,_)::Lx) _ _
          refine fa 18 underlying66 rfl sizeOf3 ?_
          exact at_nil k
         ·intro Lx g130 s K hl hh k
          show At 180 ((174,_)::(3,_)::(4,_)::(10,_)::(11,_)::(12,_)::(14,_)::Lx) _ _
          obtain rfl:s=0:=by omega
          refine aw (r_load_cell isAgg3 rfl (lens_cell0 (c:=(cInt .i64)) (y:=t58.1.f_Owner) (.s .z) (Lens.comp lw (fun z=>{ t58.1 with f_Owner:=z }) (c_api_Entry_f_Owner t58.1)) rfl)) ?_
          exact at_nil k
         ·intro Lx g130 s K hl hh k
          show At 180 ((172,_)::(173,_)::(175,_)::(3,_)::(4,_)::(10,_)::(11,_)::(12,_)::(14,_)::Lx) _ _
          obtain rfl:s=0:=by omega
          refine aw (r_build_struct (zs:=Cd.cs c_crawlwayref59_Span zv4) (cs:=Cd.cs c_crawlwayref59_Span ({ { { zv4 with f_From:=lget q26 i48 } with f_To:=t81 } with f_Owner:=t58.1.f_Owner })) underlying62 zeroValue62 rfl (places_crawlwayref59_Span_62) rfl (fill_step (c:=c_api_Addr) (z:=lget q26 i48) rfl (c_crawlwayref59_Span_f_From zv4) rfl (fill_step (c:=c_api_Addr) (z:=t81) rfl (c_crawlwayref59_Span_f_To ({ zv4 with f_From:=lget q26 i48 })) rfl (fill_step (c:=(cInt .i64)) (z:=t58.1.f_Owner) rfl (c_crawlwayref59_Span_f_Owner ({ { zv4 with f_From:=lget q26 i48 } with f_To:=t81 })) rfl rfl)))) ?_
          exact at_nil k
         ·intro Lx g130 K k
          show At 180 ((176,_)::(3,_)::(4,_)::(10,_)::(11,_)::(12,_)::(14,_)::Lx) _ _
          refine at_litL (c:=c_crawlwayref59_Span) ([zv4]:List S_crawlwayref59_Span) ([{ { { zv4 with f_From:=lget q26 i48 } with f_To:=t81 } with f_Owner:=t58.1.f_Owner }]:List S_crawlwayref59_Span) underlying57 sizeOf62 zeroValue62 rfl rfl rfl (by kernel_rfl) (fill_step (c:=c_crawlwayref59_Span) (z:={ { { zv4 with f_From:=lget q26 i48 } with f_To:=t81 } with f_Owner:=t58.1.f_Owner }) rfl (Lens.all c_crawlwayref59_Span ([zv4]:List S_crawlwayref59_Span) 0 (by first | decide | exact Nat.le_of_ble_eq_true rfl)) rfl rfl) rfl ?_
          intro b129
          exact at_nil (k (g3 b129 none 0 none w))
         intro g130
         show At 180 [(168,_),(169,_),(170,_),(171,_),(172,_),(173,_),(174,_),(175,_),(176,_),(177,_),(3,_),(4,_),(10,_),(11,_),(12,_),(14,_)] _ _
         obtain ⟨h131,hF⟩:=gd hF
         refine at_append (z:=.agg (Cd.cs c_crawlwayref59_Span zv4).toArray) (c:=c_crawlwayref59_Span) (ys:=([{ { { zv4 with f_From:=lget q26 i48 } with f_To:=t81 } with f_Owner:=t58.1.f_Owner }]:List S_crawlwayref59_Span)) (.s (.s (.s .z))) underlying57 infoF362 (by kernel_rfl) (by kernel_rfl) rfl rfl rfl rfl (fun _ hw=>cells_src (hw.ok (Upd.mem .z))) (by kernel_rfl) h131 (app_small h131) rfl ?_
         intro p132 c133
         refine aa (qn (dz (dz (dz (wq [11,10,4,3] ?_)))))
         refine bm ?_
         refine qr (am (aw xa (aa (nwq [11,10,4,3] ?_))))
         exact at_weak_k (ih _ _ _ hF K p132 c133) ⟨rfl,rfl,rfl,rfl,trivial⟩
        refine cf h97 ?_
        refine sn (wq [14,12,11,10,4,3] ?_)
        obtain ⟨h134,hF⟩:=gd hF
        refine at_pure (φ:=∃ b o,p31=some ⟨b,o,none⟩) (fun _ hw=>row_ptr (hw.own (.s (.s (.s .z)))).row h134) ?_
        rintro ⟨b136,o137,hp135⟩
        refine at_invT [.q 168 (fun g139=>.slice p49 i47.length c50) [] 0 1,.q 169 (fun g139=>.slice p31 q26.length c32) [] 0 0,.q 170 (fun g139=>.int .i64 i48) [] 0 0,.q 171 (fun g139=>.pointer (some ⟨b136,o137+Int.toNat i48*17,none⟩)) [1,2] 0 0,.q 172 (fun g139=>.agg (Cd.cs c_api_Addr (lget q26 i48)).toArray) [3] 0 0,.q 173 (fun g139=>.agg (Cd.cs c_api_Addr t81).toArray) [] 0 0,.q 174 (fun g139=>.pointer (some ⟨b59,0+18,none⟩)) [] 0 0,.q 175 (fun g139=>.int .i64 t58.1.f_Owner) [6] 0 0,.q 176 (fun g139=>.agg (Cd.cs c_crawlwayref59_Span ({ { { zv4 with f_From:=lget q26 i48 } with f_To:=t81 } with f_Owner:=t58.1.f_Owner })).toArray) [4,5,7] 0 0,.al 0 177 (fun g139=>.slice (some ⟨((g139 0).1),0,none⟩) ([{ { { zv4 with f_From:=lget q26 i48 } with f_To:=t81 } with f_Owner:=t58.1.f_Owner }]:List S_crawlwayref59_Span).length 1) [8]] (fun g139 s=>match s with | 0=>(Wd w [cellsE b65 (Cd.cs c_api_Addr t81) 24,cellsE b59 (Cd.cs c_api_Entry t58.1) 66,rowE c_crawlwayref59_Span 62 p49 c50 i47,rowE c_api_Addr 24 p31 c32 q26,rowE c_api_Entry 66 p2 c3 t1]) | _=>(Wd w [cellsE ((g139 0).1) (c_crawlwayref59_Span.all ([{ { { zv4 with f_From:=lget q26 i48 } with f_To:=t81 } with f_Owner:=t58.1.f_Owner }]:List S_crawlwayref59_Span)) 62,cellsE b65 (Cd.cs c_api_Addr t81) 24,cellsE b59 (Cd.cs c_api_Entry t58.1) 66,rowE c_crawlwayref59_Span 62 p49 c50 i47,rowE c_api_Addr 24 p31 c32 q26,rowE c_api_Entry 66 p2 c3 t1])) 1 10 (by kernel_rfl) (by kernel_rfl) (by kernel_rfl) (by kernel_rfl) (by kernel_rfl) (by kernel_rfl) ⟨fun _ _ _=>rfl,fun _ _ _=>rfl,fun _ _ _=>rfl,fun _ _ _=>rfl,fun _ _ _=>rfl,fun _ _ _=>rfl,fun _ _ _=>rfl,fun _ _ _=>rfl,fun _ _ _=>rfl,fun g139 g2 h=>by show (.slice (some ⟨((g139 0).1),0,none⟩) ([{ { { zv4 with f_From:=lget q26 i48 } with f_To:=t81 } with f_Owner:=t58.1.f_Owner }]:List S_crawlwayref59_Span).length 1:Value)=.slice (some ⟨((g2 0).1),0,none⟩) ([{ { { zv4 with f_From:=lget q26 i48 } with f_To:=t81 } with f_Owner:=t58.1.f_Owner }]:List S_crawlwayref59_Span).length 1;rw [h 0 (show 0<1 by decide)],trivial⟩ (by kernel_rfl) (fun w_ h=>⟨fun _=>g3 0 none 0 none w_,h.drew⟩) ⟨?_,?_,?_,?_,?_,?_,?_,?_,?_,?_,trivial⟩ ?_
        ·intro Lx g139 s K hl hh k
         show At 180 ((3,_)::(4,_)::(10,_)::(11,_)::(12,_)::(14,_)::Lx) _ _
         refine am ?_
         exact at_nil k
        ·intro Lx g139 s K hl hh k
         show At 180 ((3,_)::(4,_)::(10,_)::(11,_)::(12,_)::(14,_)::Lx) _ _
         refine am ?_
         exact at_nil k
        ·intro Lx g139 s K hl hh k
         show At 180 ((3,_)::(4,_)::(10,_)::(11,_)::(12,_)::(14,_)::Lx) _ _
         refine am ?_
         exact at_nil k
        ·intro Lx g139 s K hl hh k
         show At 180 ((169,_)::(170,_)::(3,_)::(4,_)::(10,_)::(11,_)::(12,_)::(14,_)::Lx) _ _
         refine aw (r_idx underlying88 sizeOf24 rfl rfl h134 hp135) ?_
         exact at_nil k
        ·intro Lx g139 s K hl hh k
         show At 180 ((171,_)::(3,_)::(4,_)::(10,_)::(11,_)::(12,_)::(14,_)::Lx) _ _
         obtain rfl:s=0:=by omega
         refine aw (r_load_aggc (c:=c_api_Addr) (z:=lget q26 i48) isAgg24 sizeOf24 rfl (fun w1 hw=>row_cell (W:=fun w1=>w1=_) (fun w1 h=>by subst h;exact Below.refl _ _) (hw.own (.s (.s (.s .z)))).row h134 hp135 _ rfl)) ?_
         exact at_nil k
        ·intro Lx g139 s K hl hh k
         show At 180 ((3,_)::(4,_)::(10,_)::(11,_)::(12,_)::(14,_)::Lx) _ _
         obtain rfl:s=0:=by omega
         refine aw (r_load_aggc (c:=c_api_Addr) (z:=t81) isAgg24 sizeOf24 rfl (lens_cell .z lw)) ?_
         exact at_nil k
        ·intro Lx g139 s K hl hh k
         show At 180 ((3,_)::(4,_)::(10,_)::(11,_)::(12,_)::(14,_)::Lx) _ _
         refine fa 18 underlying66 rfl sizeOf3 ?_
         exact at_nil k
        ·intro Lx g139 s K hl hh k
         show At 180 ((174,_)::(3,_)::(4,_)::(10,_)::(11,_)::(12,_)::(14,_)::Lx) _ _
         obtain rfl:s=0:=by omega
         refine aw (r_load_cell isAgg3 rfl (lens_cell0 (c:=(cInt .i64)) (y:=t58.1.f_Owner) (.s .z) (Lens.comp lw (fun z=>{ t58.1 with f_Owner:=z }) (c_api_Entry_f_Owner t58.1)) rfl)) ?_
         exact at_nil k
        ·intro Lx g139 s K hl hh k
         show At 180 ((172,_)::(173,_)::(175,_)::(3,_)::(4,_)::(10,_)::(11,_)::(12,_)::(14,_)::Lx) _ _
         obtain rfl:s=0:=by omega
         refine aw (r_build_struct (zs:=Cd.cs c_crawlwayref59_Span zv4) (cs:=Cd.cs c_crawlwayref59_Span ({ { { zv4 with f_From:=lget q26 i48 } with f_To:=t81 } with f_Owner:=t58.1.f_Owner })) underlying62 zeroValue62 rfl (places_crawlwayref59_Span_62) rfl (fill_step (c:=c_api_Addr) (z:=lget q26 i48) rfl (c_crawlwayref59_Span_f_From zv4) rfl (fill_step (c:=c_api_Addr) (z:=t81) rfl (c_crawlwayref59_Span_f_To ({ zv4 with f_From:=lget q26 i48 })) rfl (fill_step (c:=(cInt .i64)) (z:=t58.1.f_Owner) rfl (c_crawlwayref59_Span_f_Owner ({ { zv4 with f_From:=lget q26 i48 } with f_To:=t81 })) rfl rfl)))) ?_
         exact at_nil k
        ·intro Lx g139 K k
         show At 180 ((176,_)::(3,_)::(4,_)::(10,_)::(11,_)::(12,_)::(14,_)::Lx) _ _
         refine at_litL (c:=c_crawlwayref59_Span) ([zv4]:List S_crawlwayref59_Span) ([{ { { zv4 with f_From:=lget q26 i48 } with f_To:=t81 } with f_Owner:=t58.1.f_Owner }]:List S_crawlwayref59_Span) underlying57 sizeOf62 zeroValue62 rfl rfl rfl (by kernel_rfl) (fill_step (c:=c_crawlwayref59_Span) (z:={ { { zv4 with f_From:=lget q26 i48 } with f_To:=t81 } with f_Owner:=t58.1.f_Owner }) rfl (Lens.all c_crawlwayref59_Span ([zv4]:List S_crawlwayref59_Span) 0 (by first | decide | exact Nat.le_of_ble_eq_true rfl)) rfl rfl) rfl ?_
         intro b138
         exact at_nil (k (g3 b138 none 0 none w))
        intro g139
        show At 180 [(168,_),(169,_),(170,_),(171,_),(172,_),(173,_),(174,_),(175,_),(176,_),(177,_),(3,_),(4,_),(10,_),(11,_),(12,_),(14,_)] _ _
        obtain ⟨h140,hF⟩:=gd hF
        refine at_append (z:=.agg (Cd.cs c_crawlwayref59_Span zv4).toArray) (c:=c_crawlwayref59_Span) (ys:=([{ { { zv4 with f_From:=lget q26 i48 } with f_To:=t81 } with f_Owner:=t58.1.f_Owner }]:List S_crawlwayref59_Span)) (.s (.s (.s .z))) underlying57 infoF362 (by kernel_rfl) (by kernel_rfl) rfl rfl rfl rfl (fun _ hw=>cells_src (hw.ok (Upd.mem .z))) (by kernel_rfl) h140 (app_small h140) rfl ?_
        intro p141 c142
        refine aa (qn (dz (dz (dz (wq [11,10,4,3] ?_)))))
        refine bm ?_
        refine qr (am (aw xa (aa (nwq [11,10,4,3] ?_))))
        exact at_weak_k (ih _ _ _ hF K p141 c142) ⟨rfl,rfl,rfl,rfl,trivial⟩
       skip
       refine at_inv [.q 115 (fun g143=>.int .i64 (i47.length:Int)) [] 0 0,.q 116 (fun g143=>.bool (decide ((i47.length:Int)>0))) [0] 0 0,.q 117 (fun g143=>.bool true) [1] 0 0,.q 118 (fun g143=>.slice p49 i47.length c50) [2] 0 0,.q 119 (fun g143=>.int .i64 (i47.length:Int)) [2] 0 0,.q 120 (fun g143=>.int .i64 (wr .i64 ((i47.length:Int)-1))) [2,4] 0 0,.q 121 (fun g143=>.pointer (some ⟨b85,o86+Int.toNat (wr .i64 ((i47.length:Int)-1))*35,none⟩)) [2,3,5] 0 0,.q 122 (fun g143=>.pointer (some ⟨b85,o86+Int.toNat (wr .i64 ((i47.length:Int)-1))*35+34,none⟩)) [2,6] 0 0,.q 123 (fun g143=>.int .i64 ((lget i47 (wr .i64 ((i47.length:Int)-1))).f_Owner)) [2,7] 0 0,.q 124 (fun g143=>.pointer (some ⟨b59,0+18,none⟩)) [2] 0 0,.q 125 (fun g143=>.int .i64 t58.1.f_Owner) [2,9] 0 0,.q 126 (fun g143=>.bool ((lget i47 (wr .i64 ((i47.length:Int)-1))).f_Owner==t58.1.f_Owner)) [2,8,10] 0 0,.q 127 (fun g143=>.bool ((lget i47 (wr .i64 ((i47.length:Int)-1))).f_Owner==t58.1.f_Owner)) [2,11] 0 0,.q 128 (fun g143=>.bool false) [12] 0 0,.q 129 (fun g143=>undef) [13] 0 0,.q 130 (fun g143=>undef) [13] 0 0,.q 131 (fun g143=>undef) [13,15] 0 0,.q 132 (fun g143=>undef) [13,14,16] 0 0,.q 133 (fun g143=>undef) [13,17] 0 0,.q 134 (fun g143=>undef) [13,18] 0 0,.q 135 (fun g143=>undef) [13,19] 0 0,.q 136 (fun g143=>undef) [13] 0 0,.q 137 (fun g143=>undef) [13] 0 0,.q 138 (fun g143=>undef) [13,21,22] 0 0,.q 139 (fun g143=>undef) [13,23] 0 0,.q 140 (fun g143=>undef) [13,24] 0 0,.q 141 (fun g143=>undef) [13,20,25] 0 0,.q 142 (fun g143=>.bool false) [13,26] 0 0] (fun g143 s=>match s with | _=>(Wd w [cellsE b65 (Cd.cs c_api_Addr t81) 24,cellsE b59 (Cd.cs c_api_Entry t58.1) 66,rowE c_crawlwayref59_Span 62 p49 c50 i47,rowE c_api_Addr 24 p31 c32 q26,rowE c_api_Entry 66 p2 c3 t1])) 0 (by kernel_rfl) (by kernel_rfl) (by kernel_rfl) (by kernel_rfl) (by kernel_rfl) ⟨fun _ _ _=>rfl,fun _ _ _=>rfl,fun _ _ _=>rfl,fun _ _ _=>rfl,fun _ _ _=>rfl,fun _ _ _=>rfl,fun _ _ _=>rfl,fun _ _ _=>rfl,fun _ _ _=>rfl,fun _ _ _=>rfl,fun _ _ _=>rfl,fun _ _ _=>rfl,fun _ _ _=>rfl,fun _ _ _=>rfl,fun _ _ _=>rfl,fun _ _ _=>rfl,fun _ _ _=>rfl,fun _ _ _=>rfl,fun _ _ _=>rfl,fun _ _ _=>rfl,fun _ _ _=>rfl,fun _ _ _=>rfl,fun _ _ _=>rfl,fun _ _ _=>rfl,fun _ _ _=>rfl,fun _ _ _=>rfl,fun _ _ _=>rfl,fun _ _ _=>rfl,trivial⟩ (by kernel_rfl) (fun w_ h=>⟨fun _=>g3 0 none 0 none w_,h.drew⟩) ⟨?_,?_,?_,?_,?_,?_,?_,?_,?_,?_,?_,?_,?_,?_,?_,?_,?_,?_,?_,?_,?_,?_,?_,?_,?_,?_,?_,?_,trivial⟩ ?_
       ·intro Lx g143 s K hl hh k
        show At 180 ((3,_)::(4,_)::(10,_)::(11,_)::(12,_)::(14,_)::(16,_)::Lx) _ _
        refine am ?_
        exact at_nil k
       ·intro Lx g143 s K hl hh k
        show At 180 ((115,_)::(3,_)::(4,_)::(10,_)::(11,_)::(12,_)::(14,_)::(16,_)::Lx) _ _
        refine aw (r_igtr rfl rfl) ?_
        exact at_nil k
       ·intro Lx g143 s K hl hh k
        show At 180 ((116,_)::(3,_)::(4,_)::(10,_)::(11,_)::(12,_)::(14,_)::(16,_)::Lx) _ _
        refine am ?_
        exact at_nil (at_cast h82 k)
       ·intro Lx g143 s K hl hh k
        show At 180 ((117,_)::(3,_)::(4,_)::(10,_)::(11,_)::(12,_)::(14,_)::(16,_)::Lx) _ _
        refine gy ?_
        refine am ?_
        exact at_nil k
       ·intro Lx g143 s K hl hh k
        show At 180 ((117,_)::(3,_)::(4,_)::(10,_)::(11,_)::(12,_)::(14,_)::(16,_)::Lx) _ _
        refine gy ?_
        refine am ?_
        exact at_nil k
       ·intro Lx g143 s K hl hh k
        show At 180 ((117,_)::(119,_)::(3,_)::(4,_)::(10,_)::(11,_)::(12,_)::(14,_)::(16,_)::Lx) _ _
        refine gy ?_
        refine aw (r_isub rfl rfl) ?_
        exact at_nil k
       ·intro Lx g143 s K hl hh k
        show At 180 ((117,_)::(118,_)::(120,_)::(3,_)::(4,_)::(10,_)::(11,_)::(12,_)::(14,_)::(16,_)::Lx) _ _
        refine gy ?_
        refine aw (r_idx underlying57 sizeOf62 rfl rfl h83 hp84) ?_
        exact at_nil k
       ·intro Lx g143 s K hl hh k
        show At 180 ((117,_)::(121,_)::(3,_)::(4,_)::(10,_)::(11,_)::(12,_)::(14,_)::(16,_)::Lx) _ _
        refine gy ?_
        refine fa 34 underlying62 rfl sizeOf3 ?_
        exact at_nil k
       ·intro Lx g143 s K hl hh k
        show At 180 ((117,_)::(122,_)::(3,_)::(4,_)::(10,_)::(11,_)::(12,_)::(14,_)::(16,_)::Lx) _ _
        refine gy ?_
        obtain rfl:s=0:=by omega
        refine aw (r_load_cell isAgg3 rfl (fun w1 hw=>row_lens0 (y:=(lget i47 (wr .i64 ((i47.length:Int)-1))).f_Owner) (W:=fun w1=>w1=_) (fun w1 h=>by subst h;exact Below.refl _ _) (hw.own (.s (.s .z))).row h83 hp84 (Lens.comp lw (fun z=>{ (lget i47 (wr .i64 ((i47.length:Int)-1))) with f_Owner:=z }) (c_crawlwayref59_Span_f_Owner (lget i47 (wr .i64 ((i47.length:Int)-1))))) rfl _ rfl)) ?_
        exact at_nil k
       ·intro Lx g143 s K hl hh k
        show At 180 ((117,_)::(3,_)::(4,_)::(10,_)::(11,_)::(12,_)::(14,_)::(16,_)::Lx) _ _
        refine gy ?_
        refine fa 18 underlying66 rfl sizeOf3 ?_
        exact at_nil k
       ·intro Lx g143 s K hl hh k
        show At 180 ((117,_)::(124,_)::(3,_)::(4,_)::(10,_)::(11,_)::(12,_)::(14,_)::(16,_)::Lx) _ _
        refine gy ?_
        obtain rfl:s=0:=by omega
        refine aw (r_load_cell isAgg3 rfl (lens_cell0 (c:=(cInt .i64)) (y:=t58.1.f_Owner) (.s .z) (Lens.comp lw (fun z=>{ t58.1 with f_Owner:=z }) (c_api_Entry_f_Owner t58.1)) rfl)) ?_
        exact at_nil k
       ·intro Lx g143 s K hl hh k
        show At 180 ((117,_)::(123,_)::(125,_)::(3,_)::(4,_)::(10,_)::(11,_)::(12,_)::(14,_)::(16,_)::Lx) _ _
        refine gy ?_
        refine aw xq ?_
        exact at_nil k
       ·intro Lx g143 s K hl hh k
        show At 180 ((117,_)::(126,_)::(3,_)::(4,_)::(10,_)::(11,_)::(12,_)::(14,_)::(16,_)::Lx) _ _
        refine aw xp ?_
        exact at_nil k
       ·intro Lx g143 s K hl hh k
        show At 180 ((127,_)::(3,_)::(4,_)::(10,_)::(11,_)::(12,_)::(14,_)::(16,_)::Lx) _ _
        refine am ?_
        exact at_nil (at_cast h87 k)
       ·intro Lx g143 s K hl hh k
        show At 180 ((128,_)::(3,_)::(4,_)::(10,_)::(11,_)::(12,_)::(14,_)::(16,_)::Lx) _ _
        refine gn ?_
        exact at_nil k
       ·intro Lx g143 s K hl hh k
        show At 180 ((128,_)::(3,_)::(4,_)::(10,_)::(11,_)::(12,_)::(14,_)::(16,_)::Lx) _ _
        refine gn ?_
        exact at_nil k
       ·intro Lx g143 s K hl hh k
        show At 180 ((128,_)::(130,_)::(3,_)::(4,_)::(10,_)::(11,_)::(12,_)::(14,_)::(16,_)::Lx) _ _
        refine gn ?_
        exact at_nil k
       ·intro Lx g143 s K hl hh k
        show At 180 ((128,_)::(129,_)::(131,_)::(3,_)::(4,_)::(10,_)::(11,_)::(12,_)::(14,_)::(16,_)::Lx) _ _
        refine gn ?_
        exact at_nil k
       ·intro Lx g143 s K hl hh k
        show At 180 ((128,_)::(132,_)::(3,_)::(4,_)::(10,_)::(11,_)::(12,_)::(14,_)::(16,_)::Lx) _ _
        refine gn ?_
        exact at_nil k
       ·intro Lx g143 s K hl hh k
        show At 180 ((128,_)::(133,_)::(3,_)::(4,_)::(10,_)::(11,_)::(12,_)::(14,_)::(16,_)::Lx) _ _
        refine gn ?_
        exact at_nil k
       ·intro Lx g143 s K hl hh k
        show At 180 ((128,_)::(134,_)::(3,_)::(4,_)::(10,_)::(11,_)::(12,_)::(14,_)::(16,_)::Lx) _ _
        obtain rfl:s=0:=by omega
        refine gn ?_
        exact at_nil k
       ·intro Lx g143 s K hl hh k
        show At 180 ((128,_)::(3,_)::(4,_)::(10,_)::(11,_)::(12,_)::(14,_)::(16,_)::Lx) _ _
        refine gn ?_
        exact at_nil k
       ·intro Lx g143 s K hl hh k
        show At 180 ((128,_)::(3,_)::(4,_)::(10,_)::(11,_)::(12,_)::(14,_)::(16,_)::Lx) _ _
        refine gn ?_
        exact at_nil k
       ·intro Lx g143 s K hl hh k
        show At 180 ((128,_)::(136,_)::(137,_)::(3,_)::(4,_)::(10,_)::(11,_)::(12,_)::(14,_)::(16,_)::Lx) _ _
        refine gn ?_
        exact at_nil k
       ·intro Lx g143 s K hl hh k
        show At 180 ((128,_)::(138,_)::(3,_)::(4,_)::(10,_)::(11,_)::(12,_)::(14,_)::(16,_)::Lx) _ _
        refine gn ?_
        exact at_nil k
       ·intro Lx g143 s K hl hh k
        show At 180 ((128,_)::(139,_)::(3,_)::(4,_)::(10,_)::(11,_)::(12,_)::(14,_)::(16,_)::Lx) _ _
        obtain rfl:s=0:=by omega
        refine gn ?_
        exact at_nil k
       ·intro Lx g143 s K hl hh k
        show At 180 ((128,_)::(135,_)::(140,_)::(3,_)::(4,_)::(10,_)::(11,_)::(12,_)::(14,_)::(16,_)::Lx) _ _
        refine gn ?_
        exact at_nil k
       ·intro Lx g143 s K hl hh k
        show At 180 ((128,_)::(141,_)::(3,_)::(4,_)::(10,_)::(11,_)::(12,_)::(14,_)::(16,_)::Lx) _ _
        refine aw xp ?_
        exact at_nil k
       intro g143
       show At 180 [(115,_),(116,_),(117,_),(118,_),(119,_),(120,_),(121,_),(122,_),(123,_),(124,_),(125,_),(126,_),(127,_),(128,_),(129,_),(130,_),(131,_),(132,_),(133,_),(134,_),(135,_),(136,_),(137,_),(138,_),(139,_),(140,_),(141,_),(142,_),(3,_),(4,_),(10,_),(11,_),(12,_),(14,_),(16,_)] _ _
       refine wq [142,16,14,12,11,10,4,3] ?_
       refine tn ?_
       refine cf rfl ?_
       refine sn (wq [14,12,11,10,4,3] ?_)
       obtain ⟨h144,hF⟩:=gd hF
       refine at_pure (φ:=∃ b o,p31=some ⟨b,o,none⟩) (fun _ hw=>row_ptr (hw.own (.s (.s (.s .z)))).row h144) ?_
       rintro ⟨b146,o147,hp145⟩
       refine at_invT [.q 168 (fun g149=>.slice p49 i47.length c50) [] 0 1,.q 169 (fun g149=>.slice p31 q26.length c32) [] 0 0,.q 170 (fun g149=>.int .i64 i48) [] 0 0,.q 171 (fun g149=>.pointer (some ⟨b146,o147+Int.toNat i48*17,none⟩)) [1,2] 0 0,.q 172 (fun g149=>.agg (Cd.cs c_api_Addr (lget q26 i48)).toArray) [3] 0 0,.q 173 (fun g149=>.agg (Cd.cs c_api_Addr t81).toArray) [] 0 0,.q 174 (fun g149=>.pointer (some ⟨b59,0+18,none⟩)) [] 0 0,.q 175 (fun g149=>.int .i64 t58.1.f_Owner) [6] 0 0,.q 176 (fun g149=>.agg (Cd.cs c_crawlwayref59_Span ({ { { zv4 with f_From:=lget q26 i48 } with f_To:=t81 } with f_Owner:=t58.1.f_Owner })).toArray) [4,5,7] 0 0,.al 0 177 (fun g149=>.slice (some ⟨((g149 0).1),0,none⟩) ([{ { { zv4 with f_From:=lget q26 i48 } with f_To:=t81 } with f_Owner:=t58.1.f_Owner }]:List S_crawlwayref59_Span).length 1) [8]] (fun g149 s=>match s with | 0=>(Wd w [cellsE b65 (Cd.cs c_api_Addr t81) 24,cellsE b59 (Cd.cs c_api_Entry t58.1) 66,rowE c_crawlwayref59_Span 62 p49 c50 i47,rowE c_api_Addr 24 p31 c32 q26,rowE c_api_Entry 66 p2 c3 t1]) | _=>(Wd w [cellsE ((g149 0).1) (c_crawlwayref59_Span.all ([{ { { zv4 with f_From:=lget q26 i48 } with f_To:=t81 } with f_Owner:=t58.1.f_Owner }]:List S_crawlwayref59_Span)) 62,cellsE b65 (Cd.cs c_api_Addr t81) 24,cellsE b59 (Cd.cs c_api_Entry t58.1) 66,rowE c_crawlwayref59_Span 62 p49 c50 i47,rowE c_api_Addr 24 p31 c32 q26,rowE c_api_Entry 66 p2 c3 t1])) 1 10 (by kernel_rfl) (by kernel_rfl) (by kernel_rfl) (by kernel_rfl) (by kernel_rfl) (by kernel_rfl) ⟨fun _ _ _=>rfl,fun _ _ _=>rfl,fun _ _ _=>rfl,fun _ _ _=>rfl,fun _ _ _=>rfl,fun _ _ _=>rfl,fun _ _ _=>rfl,fun _ _ _=>rfl,fun _ _ _=>rfl,fun g149 g2 h=>by show (.slice (some ⟨((g149 0).1),0,none⟩) ([{ { { zv4 with f_From:=lget q26 i48 } with f_To:=t81 } with f_Owner:=t58.1.f_Owner }]:List S_crawlwayref59_Span).length 1:Value)=.slice (some ⟨((g2 0).1),0,none⟩) ([{ { { zv4 with f_From:=lget q26 i48 } with f_To:=t81 } with f_Owner:=t58.1.f_Owner }]:List S_crawlwayref59_Span).length 1;rw [h 0 (show 0<1 by decide)],trivial⟩ (by kernel_rfl) (fun w_ h=>⟨fun _=>g3 0 none 0 none w_,h.drew⟩) ⟨?_,?_,?_,?_,?_,?_,?_,?_,?_,?_,trivial⟩ ?_
       ·intro Lx g149 s K hl hh k
        show At 180 ((3,_)::(4,_)::(10,_)::(11,_)::(12,_)::(14,_)::Lx) _ _
        refine am ?_
        exact at_nil k
       ·intro Lx g149 s K hl hh k
        show At 180 ((3,_)::(4,_)::(10,_)::(11,_)::(12,_)::(14,_)::Lx) _ _
        refine am ?_
        exact at_nil k
       ·intro Lx g149 s K hl hh k
        show At 180 ((3,_)::(4,_)::(10,_)::(11,_)::(12,_)::(14,_)::Lx) _ _
        refine am ?_
        exact at_nil k
       ·intro Lx g149 s K hl hh k
        show At 180 ((169,_)::(170,_)::(3,_)::(4,_)::(10,_)::(11,_)::(12,_)::(14,_)::Lx) _ _
        refine aw (r_idx underlying88 sizeOf24 rfl rfl h144 hp145) ?_
        exact at_nil k
       ·intro Lx g149 s K hl hh k
        show At 180 ((171,_)::(3,_)::(4,_)::(10,_)::(11,_)::(12,_)::(14,_)::Lx) _ _
        obtain rfl:s=0:=by omega
        refine aw (r_load_aggc (c:=c_api_Addr) (z:=lget q26 i48) isAgg24 sizeOf24 rfl (fun w1 hw=>row_cell (W:=fun w1=>w1=_) (fun w1 h=>by subst h;exact Below.refl _ _) (hw.own (.s (.s (.s .z)))).row h144 hp145 _ rfl)) ?_
        exact at_nil k
       ·intro Lx g149 s K hl hh k
        show At 180 ((3,_)::(4,_)::(10,_)::(11,_)::(12,_)::(14,_)::Lx) _ _
        obtain rfl:s=0:=by omega
        refine aw (r_load_aggc (c:=c_api_Addr) (z:=t81) isAgg24 sizeOf24 rfl (lens_cell .z lw)) ?_
        exact at_nil k
       ·intro Lx g149 s K hl hh k
        show At 180 ((3,_)::(4,_)::(10,_)::(11,_)::(12,_)::(14,_)::Lx) _ _
        refine fa 18 underlying66 rfl sizeOf3 ?_
        exact at_nil k
       ·intro Lx g149 s K hl hh k
        show At 180 ((174,_)::(3,_)::(4,_)::(10,_)::(11,_)::(12,_)::(14,_)::Lx) _ _
        obtain rfl:s=0:=by omega
        refine aw (r_load_cell isAgg3 rfl (lens_cell0 (c:=(cInt .i64)) (y:=t58.1.f_Owner) (.s .z) (Lens.comp lw (fun z=>{ t58.1 with f_Owner:=z }) (c_api_Entry_f_Owner t58.1)) rfl)) ?_
        exact at_nil k
       ·intro Lx g149 s K hl hh k
        show At 180 ((172,_)::(173,_)::(175,_)::(3,_)::(4,_)::(10,_)::(11,_)::(12,_)::(14,_)::Lx) _ _
        obtain rfl:s=0:=by omega
        refine aw (r_build_struct (zs:=Cd.cs c_crawlwayref59_Span zv4) (cs:=Cd.cs c_crawlwayref59_Span ({ { { zv4 with f_From:=lget q26 i48 } with f_To:=t81 } with f_Owner:=t58.1.f_Owner })) underlying62 zeroValue62 rfl (places_crawlwayref59_Span_62) rfl (fill_step (c:=c_api_Addr) (z:=lget q26 i48) rfl (c_crawlwayref59_Span_f_From zv4) rfl (fill_step (c:=c_api_Addr) (z:=t81) rfl (c_crawlwayref59_Span_f_To ({ zv4 with f_From:=lget q26 i48 })) rfl (fill_step (c:=(cInt .i64)) (z:=t58.1.f_Owner) rfl (c_crawlwayref59_Span_f_Owner ({ { zv4 with f_From:=lget q26 i48 } with f_To:=t81 })) rfl rfl)))) ?_
        exact at_nil k
       ·intro Lx g149 K k
        show At 180 ((176,_)::(3,_)::(4,_)::(10,_)::(11,_)::(12,_)::(14,_)::Lx) _ _
        refine at_litL (c:=c_crawlwayref59_Span) ([zv4]:List S_crawlwayref59_Span) ([{ { { zv4 with f_From:=lget q26 i48 } with f_To:=t81 } with f_Owner:=t58.1.f_Owner }]:List S_crawlwayref59_Span) underlying57 sizeOf62 zeroValue62 rfl rfl rfl (by kernel_rfl) (fill_step (c:=c_crawlwayref59_Span) (z:={ { { zv4 with f_From:=lget q26 i48 } with f_To:=t81 } with f_Owner:=t58.1.f_Owner }) rfl (Lens.all c_crawlwayref59_Span ([zv4]:List S_crawlwayref59_Span) 0 (by first | decide | exact Nat.le_of_ble_eq_true rfl)) rfl rfl) rfl ?_
        intro b148
        exact at_nil (k (g3 b148 none 0 none w))
       intro g149
       show At 180 [(168,_),(169,_),(170,_),(171,_),(172,_),(173,_),(174,_),(175,_),(176,_),(177,_),(3,_),(4,_),(10,_),(11,_),(12,_),(14,_)] _ _
       obtain ⟨h150,hF⟩:=gd hF
       refine at_append (z:=.agg (Cd.cs c_crawlwayref59_Span zv4).toArray) (c:=c_crawlwayref59_Span) (ys:=([{ { { zv4 with f_From:=lget q26 i48 } with f_To:=t81 } with f_Owner:=t58.1.f_Owner }]:List S_crawlwayref59_Span)) (.s (.s (.s .z))) underlying57 infoF362 (by kernel_rfl) (by kernel_rfl) rfl rfl rfl rfl (fun _ hw=>cells_src (hw.ok (Upd.mem .z))) (by kernel_rfl) h150 (app_small h150) rfl ?_
       intro p151 c152
       refine aa (qn (dz (dz (dz (wq [11,10,4,3] ?_)))))
       refine bm ?_
       refine qr (am (aw xa (aa (nwq [11,10,4,3] ?_))))
       exact at_weak_k (ih _ _ _ hF K p151 c152) ⟨rfl,rfl,rfl,rfl,trivial⟩
      skip
      refine at_inv [.q 115 (fun g153=>.int .i64 (i47.length:Int)) [] 0 0,.q 116 (fun g153=>.bool (decide ((i47.length:Int)>0))) [0] 0 0,.q 117 (fun g153=>.bool false) [1] 0 0,.q 118 (fun g153=>undef) [2] 0 0,.q 119 (fun g153=>undef) [2] 0 0,.q 120 (fun g153=>undef) [2,4] 0 0,.q 121 (fun g153=>undef) [2,3,5] 0 0,.q 122 (fun g153=>undef) [2,6] 0 0,.q 123 (fun g153=>undef) [2,7] 0 0,.q 124 (fun g153=>undef) [2] 0 0,.q 125 (fun g153=>undef) [2,9] 0 0,.q 126 (fun g153=>undef) [2,8,10] 0 0,.q 127 (fun g153=>.bool false) [2,11] 0 0,.q 128 (fun g153=>.bool false) [12] 0 0,.q 129 (fun g153=>undef) [13] 0 0,.q 130 (fun g153=>undef) [13] 0 0,.q 131 (fun g153=>undef) [13,15] 0 0,.q 132 (fun g153=>undef) [13,14,16] 0 0,.q 133 (fun g153=>undef) [13,17] 0 0,.q 134 (fun g153=>undef) [13,18] 0 0,.q 135 (fun g153=>undef) [13,19] 0 0,.q 136 (fun g153=>undef) [13] 0 0,.q 137 (fun g153=>undef) [13] 0 0,.q 138 (fun g153=>undef) [13,21,22] 0 0,.q 139 (fun g153=>undef) [13,23] 0 0,.q 140 (fun g153=>undef) [13,24] 0 0,.q 141 (fun g153=>undef) [13,20,25] 0 0,.q 142 (fun g153=>.bool false) [13,26] 0 0] (fun g153 s=>match s with | _=>(Wd w [cellsE b65 (Cd.cs c_api_Addr t81) 24,cellsE b59 (Cd.cs c_api_Entry t58.1) 66,rowE c_crawlwayref59_Span 62 p49 c50 i47,rowE c_api_Addr 24 p31 c32 q26,rowE c_api_Entry 66 p2 c3 t1])) 0 (by kernel_rfl) (by kernel_rfl) (by kernel_rfl) (by kernel_rfl) (by kernel_rfl) ⟨fun _ _ _=>rfl,fun _ _ _=>rfl,fun _ _ _=>rfl,fun _ _ _=>rfl,fun _ _ _=>rfl,fun _ _ _=>rfl,fun _ _ _=>rfl,fun _ _ _=>rfl,fun _ _ _=>rfl,fun _ _ _=>rfl,fun _ _ _=>rfl,fun _ _ _=>rfl,fun _ _ _=>rfl,fun _ _ _=>rfl,fun _ _ _=>rfl,fun _ _ _=>rfl,fun _ _ _=>rfl,fun _ _ _=>rfl,fun _ _ _=>rfl,fun _ _ _=>rfl,fun _ _ _=>rfl,fun _ _ _=>rfl,fun _ _ _=>rfl,fun _ _ _=>rfl,fun _ _ _=>rfl,fun _ _ _=>rfl,fun _ _ _=>rfl,fun _ _ _=>rfl,trivial⟩ (by kernel_rfl) (fun w_ h=>⟨fun _=>g3 0 none 0 none w_,h.drew⟩) ⟨?_,?_,?_,?_,?_,?_,?_,?_,?_,?_,?_,?_,?_,?_,?_,?_,?_,?_,?_,?_,?_,?_,?_,?_,?_,?_,?_,?_,trivial⟩ ?_
      ·intro Lx g153 s K hl hh k
       show At 180 ((3,_)::(4,_)::(10,_)::(11,_)::(12,_)::(14,_)::(16,_)::Lx) _ _
       refine am ?_
       exact at_nil k
      ·intro Lx g153 s K hl hh k
       show At 180 ((115,_)::(3,_)::(4,_)::(10,_)::(11,_)::(12,_)::(14,_)::(16,_)::Lx) _ _
       refine aw (r_igtr rfl rfl) ?_
       exact at_nil k
      ·intro Lx g153 s K hl hh k
       show At 180 ((116,_)::(3,_)::(4,_)::(10,_)::(11,_)::(12,_)::(14,_)::(16,_)::Lx) _ _
       refine am ?_
       exact at_nil (at_cast h82 k)
      ·intro Lx g153 s K hl hh k
       show At 180 ((117,_)::(3,_)::(4,_)::(10,_)::(11,_)::(12,_)::(14,_)::(16,_)::Lx) _ _
       refine gn ?_
       exact at_nil k
      ·intro Lx g153 s K hl hh k
       show At 180 ((117,_)::(3,_)::(4,_)::(10,_)::(11,_)::(12,_)::(14,_)::(16,_)::Lx) _ _
       refine gn ?_
       exact at_nil k
      ·intro Lx g153 s K hl hh k
       show At 180 ((117,_)::(119,_)::(3,_)::(4,_)::(10,_)::(11,_)::(12,_)::(14,_)::(16,_)::Lx) _ _
       refine gn ?_
       exact at_nil k
      ·intro Lx g153 s K hl hh k
       show At 180 ((117,_)::(118,_)::(120,_)::(3,_)::(4,_)::(10,_)::(11,_)::(12,_)::(14,_)::(16,_)::Lx) _ _
       refine gn ?_
       exact at_nil k
      ·intro Lx g153 s K hl hh k
       show At 180 ((117,_)::(121,_)::(3,_)::(4,_)::(10,_)::(11,_)::(12,_)::(14,_)::(16,_)::Lx) _ _
       refine gn ?_
       exact at_nil k
      ·intro Lx g153 s K hl hh k
       show At 180 ((117,_)::(122,_)::(3,_)::(4,_)::(10,_)::(11,_)::(12,_)::(14,_)::(16,_)::Lx) _ _
       obtain rfl:s=0:=by omega
       refine gn ?_
       exact at_nil k
      ·intro Lx g153 s K hl hh k
       show At 180 ((117,_)::(3,_)::(4,_)::(10,_)::(11,_)::(12,_)::(14,_)::(16,_)::Lx) _ _
       refine gn ?_
       exact at_nil k
      ·intro Lx g153 s K hl hh k
       show At 180 ((117,_)::(124,_)::(3,_)::(4,_)::(10,_)::(11,_)::(12,_)::(14,_)::(16,_)::Lx) _ _
       obtain rfl:s=0:=by omega
       refine gn ?_
       exact at_nil k
      ·intro Lx g153 s K hl hh k
       show At 180 ((117,_)::(123,_)::(125,_)::(3,_)::(4,_)::(10,_)::(11,_)::(12,_)::(14,_)::(16,_)::Lx) _ _
       refine gn ?_
       exact at_nil k
      ·intro Lx g153 s K hl hh k
       show At 180 ((117,_)::(126,_)::(3,_)::(4,_)::(10,_)::(11,_)::(12,_)::(14,_)::(16,_)::Lx) _ _
       refine aw xp ?_
       exact at_nil k
      ·intro Lx g153 s K hl hh k
       show At 180 ((127,_)::(3,_)::(4,_)::(10,_)::(11,_)::(12,_)::(14,_)::(16,_)::Lx) _ _
       refine am ?_
       exact at_nil k
      ·intro Lx g153 s K hl hh k
       show At 180 ((128,_)::(3,_)::(4,_)::(10,_)::(11,_)::(12,_)::(14,_)::(16,_)::Lx) _ _
       refine gn ?_
       exact at_nil k
      ·intro Lx g153 s K hl hh k
       show At 180 ((128,_)::(3,_)::(4,_)::(10,_)::(11,_)::(12,_)::(14,_)::(16,_)::Lx) _ _
       refine gn ?_
       exact at_nil k
      ·intro Lx g153 s K hl hh k
       show At 180 ((128,_)::(130,_)::(3,_)::(4,_)::(10,_)::(11,_)::(12,_)::(14,_)::(16,_)::Lx) _ _
       refine gn ?_
       exact at_nil k
      ·intro Lx g153 s K hl hh k
       show At 180 ((128,_)::(129,_)::(131,_)::(3,_)::(4,_)::(10,_)::(11,_)::(12,_)::(14,_)::(16,_)::Lx) _ _
       refine gn ?_
       exact at_nil k
      ·intro Lx g153 s K hl hh k
       show At 180 ((128,_)::(132,_)::(3,_)::(4,_)::(10,_)::(11,_)::(12,_)::(14,_)::(16,_)::Lx) _ _
       refine gn ?_
       exact at_nil k
      ·intro Lx g153 s K hl hh k
       show At 180 ((128,_)::(133,_)::(3,_)::(4,_)::(10,_)::(11,_)::(12,_)::(14,_)::(16,_)::Lx) _ _
       refine gn ?_
       exact at_nil k
      ·intro Lx g153 s K hl hh k
       show At 180 ((128,_)::(134,_)::(3,_)::(4,_)::(10,_)::(11,_)::(12,_)::(14,_)::(16,_)::Lx) _ _
       obtain rfl:s=0:=by omega
       refine gn ?_
       exact at_nil k
      ·intro Lx g153 s K hl hh k
       show At 180 ((128,_)::(3,_)::(4,_)::(10,_)::(11,_)::(12,_)::(14,_)::(16,_)::Lx) _ _
       refine gn ?_
       exact at_nil k
      ·intro Lx g153 s K hl hh k
       show At 180 ((128,_)::(3,_)::(4,_)::(10,_)::(11,_)::(12,_)::(14,_)::(16,_)::Lx) _ _
       refine gn ?_
       exact at_nil k
      ·intro Lx g153 s K hl hh k
       show At 180 ((128,_)::(136,_)::(137,_)::(3,_)::(4,_)::(10,_)::(11,_)::(12,_)::(14,_)::(16,_)::Lx) _ _
       refine gn ?_
       exact at_nil k
      ·intro Lx g153 s K hl hh k
       show At 180 ((128,_)::(138,_)::(3,_)::(4,_)::(10,_)::(11,_)::(12,_)::(14,_)::(16,_)::Lx) _ _
       refine gn ?_
       exact at_nil k
      ·intro Lx g153 s K hl hh k
       show At 180 ((128,_)::(139,_)::(3,_)::(4,_)::(10,_)::(11,_)::(12,_)::(14,_)::(16,_)::Lx) _ _
       obtain rfl:s=0:=by omega
       refine gn ?_
       exact at_nil k
      ·intro Lx g153 s K hl hh k
       show At 180 ((128,_)::(135,_)::(140,_)::(3,_)::(4,_)::(10,_)::(11,_)::(12,_)::(14,_)::(16,_)::Lx) _ _
       refine gn ?_
       exact at_nil k
      ·intro Lx g153 s K hl hh k
       show At 180 ((128,_)::(141,_)::(3,_)::(4,_)::(10,_)::(11,_)::(12,_)::(14,_)::(16,_)::Lx) _ _
       refine aw xp ?_
       exact at_nil k
      intro g153
      show At 180 [(115,_),(116,_),(117,_),(118,_),(119,_),(120,_),(121,_),(122,_),(123,_),(124,_),(125,_),(126,_),(127,_),(128,_),(129,_),(130,_),(131,_),(132,_),(133,_),(134,_),(135,_),(136,_),(137,_),(138,_),(139,_),(140,_),(141,_),(142,_),(3,_),(4,_),(10,_),(11,_),(12,_),(14,_),(16,_)] _ _
      refine wq [142,16,14,12,11,10,4,3] ?_
      refine tn ?_
      refine cf rfl ?_
      refine sn (wq [14,12,11,10,4,3] ?_)
      obtain ⟨h154,hF⟩:=gd hF
      refine at_pure (φ:=∃ b o,p31=some ⟨b,o,none⟩) (fun _ hw=>row_ptr (hw.own (.s (.s (.s .z)))).row h154) ?_
      rintro ⟨b156,o157,hp155⟩
      refine at_invT [.q 168 (fun g159=>.slice p49 i47.length c50) [] 0 1,.q 169 (fun g159=>.slice p31 q26.length c32) [] 0 0,.q 170 (fun g159=>.int .i64 i48) [] 0 0,.q 171 (fun g159=>.pointer (some ⟨b156,o157+Int.toNat i48*17,none⟩)) [1,2] 0 0,.q 172 (fun g159=>.agg (Cd.cs c_api_Addr (lget q26 i48)).toArray) [3] 0 0,.q 173 (fun g159=>.agg (Cd.cs c_api_Addr t81).toArray) [] 0 0,.q 174 (fun g159=>.pointer (some ⟨b59,0+18,none⟩)) [] 0 0,.q 175 (fun g159=>.int .i64 t58.1.f_Owner) [6] 0 0,.q 176 (fun g159=>.agg (Cd.cs c_crawlwayref59_Span ({ { { zv4 with f_From:=lget q26 i48 } with f_To:=t81 } with f_Owner:=t58.1.f_Owner })).toArray) [4,5,7] 0 0,.al 0 177 (fun g159=>.slice (some ⟨((g159 0).1),0,none⟩) ([{ { { zv4 with f_From:=lget q26 i48 } with f_To:=t81 } with f_Owner:=t58.1.f_Owner }]:List S_crawlwayref59_Span).length 1) [8]] (fun g159 s=>match s with | 0=>(Wd w [cellsE b65 (Cd.cs c_api_Addr t81) 24,cellsE b59 (Cd.cs c_api_Entry t58.1) 66,rowE c_crawlwayref59_Span 62 p49 c50 i47,rowE c_api_Addr 24 p31 c32 q26,rowE c_api_Entry 66 p2 c3 t1]) | _=>(Wd w [cellsE ((g159 0).1) (c_crawlwayref59_Span.all ([{ { { zv4 with f_From:=lget q26 i48 } with f_To:=t81 } with f_Owner:=t58.1.f_Owner }]:List S_crawlwayref59_Span)) 62,cellsE b65 (Cd.cs c_api_Addr t81) 24,cellsE b59 (Cd.cs c_api_Entry t58.1) 66,rowE c_crawlwayref59_Span 62 p49 c50 i47,rowE c_api_Addr 24 p31 c32 q26,rowE c_api_Entry 66 p2 c3 t1])) 1 10 (by kernel_rfl) (by kernel_rfl) (by kernel_rfl) (by kernel_rfl) (by kernel_rfl) (by kernel_rfl) ⟨fun _ _ _=>rfl,fun _ _ _=>rfl,fun _ _ _=>rfl,fun _ _ _=>rfl,fun _ _ _=>rfl,fun _ _ _=>rfl,fun _ _ _=>rfl,fun _ _ _=>rfl,fun _ _ _=>rfl,fun g159 g2 h=>by show (.slice (some ⟨((g159 0).1),0,none⟩) ([{ { { zv4 with f_From:=lget q26 i48 } with f_To:=t81 } with f_Owner:=t58.1.f_Owner }]:List S_crawlwayref59_Span).length 1:Value)=.slice (some ⟨((g2 0).1),0,none⟩) ([{ { { zv4 with f_From:=lget q26 i48 } with f_To:=t81 } with f_Owner:=t58.1.f_Owner }]:List S_crawlwayref59_Span).length 1;rw [h 0 (show 0<1 by decide)],trivial⟩ (by kernel_rfl) (fun w_ h=>⟨fun _=>g3 0 none 0 none w_,h.drew⟩) ⟨?_,?_,?_,?_,?_,?_,?_,?_,?_,?_,trivial⟩ ?_
      ·intro Lx g159 s K hl hh k
       show At 180 ((3,_)::(4,_)::(10,_)::(11,_)::(12,_)::(14,_)::Lx) _ _
       refine am ?_
       exact at_nil k
      ·intro Lx g159 s K hl hh k
       show At 180 ((3,_)::(4,_)::(10,_)::(11,_)::(12,_)::(14,_)::Lx) _ _
       refine am ?_
       exact at_nil k
      ·intro Lx g159 s K hl hh k
       show At 180 ((3,_)::(4,_)::(10,_)::(11,_)::(12,_)::(14,_)::Lx) _ _
       refine am ?_
       exact at_nil k
      ·intro Lx g159 s K hl hh k
       show At 180 ((169,_)::(170,_)::(3,_)::(4,_)::(10,_)::(11,_)::(12,_)::(14,_)::Lx) _ _
       refine aw (r_idx underlying88 sizeOf24 rfl rfl h154 hp155) ?_
       exact at_nil k
      ·intro Lx g159 s K hl hh k
       show At 180 ((171,_)::(3,_)::(4,_)::(10,_)::(11,_)::(12,_)::(14,_)::Lx) _ _
       obtain rfl:s=0:=by omega
       refine aw (r_load_aggc (c:=c_api_Addr) (z:=lget q26 i48) isAgg24 sizeOf24 rfl (fun w1 hw=>row_cell (W:=fun w1=>w1=_) (fun w1 h=>by subst h;exact Below.refl _ _) (hw.own (.s (.s (.s .z)))).row h154 hp155 _ rfl)) ?_
       exact at_nil k
      ·intro Lx g159 s K hl hh k
       show At 180 ((3,_)::(4,_)::(10,_)::(11,_)::(12,_)::(14,_)::Lx) _ _
       obtain rfl:s=0:=by omega
       refine aw (r_load_aggc (c:=c_api_Addr) (z:=t81) isAgg24 sizeOf24 rfl (lens_cell .z lw)) ?_
       exact at_nil k
      ·intro Lx g159 s K hl hh k
       show At 180 ((3,_)::(4,_)::(10,_)::(11,_)::(12,_)::(14,_)::Lx) _ _
       refine fa 18 underlying66 rfl sizeOf3 ?_
       exact at_nil k
      ·intro Lx g159 s K hl hh k
       show At 180 ((174,_)::(3,_)::(4,_)::(10,_)::(11,_)::(12,_)::(14,_)::Lx) _ _
       obtain rfl:s=0:=by omega
       refine aw (r_load_cell isAgg3 rfl (lens_cell0 (c:=(cInt .i64)) (y:=t58.1.f_Owner) (.s .z) (Lens.comp lw (fun z=>{ t58.1 with f_Owner:=z }) (c_api_Entry_f_Owner t58.1)) rfl)) ?_
       exact at_nil k
      ·intro Lx g159 s K hl hh k
       show At 180 ((172,_)::(173,_)::(175,_)::(3,_)::(4,_)::(10,_)::(11,_)::(12,_)::(14,_)::Lx) _ _
       obtain rfl:s=0:=by omega
       refine aw (r_build_struct (zs:=Cd.cs c_crawlwayref59_Span zv4) (cs:=Cd.cs c_crawlwayref59_Span ({ { { zv4 with f_From:=lget q26 i48 } with f_To:=t81 } with f_Owner:=t58.1.f_Owner })) underlying62 zeroValue62 rfl (places_crawlwayref59_Span_62) rfl (fill_step (c:=c_api_Addr) (z:=lget q26 i48) rfl (c_crawlwayref59_Span_f_From zv4) rfl (fill_step (c:=c_api_Addr) (z:=t81) rfl (c_crawlwayref59_Span_f_To ({ zv4 with f_From:=lget q26 i48 })) rfl (fill_step (c:=(cInt .i64)) (z:=t58.1.f_Owner) rfl (c_crawlwayref59_Span_f_Owner ({ { zv4 with f_From:=lget q26 i48 } with f_To:=t81 })) rfl rfl)))) ?_
       exact at_nil k
      ·intro Lx g159 K k
       show At 180 ((176,_)::(3,_)::(4,_)::(10,_)::(11,_)::(12,_)::(14,_)::Lx) _ _
       refine at_litL (c:=c_crawlwayref59_Span) ([zv4]:List S_crawlwayref59_Span) ([{ { { zv4 with f_From:=lget q26 i48 } with f_To:=t81 } with f_Owner:=t58.1.f_Owner }]:List S_crawlwayref59_Span) underlying57 sizeOf62 zeroValue62 rfl rfl rfl (by kernel_rfl) (fill_step (c:=c_crawlwayref59_Span) (z:={ { { zv4 with f_From:=lget q26 i48 } with f_To:=t81 } with f_Owner:=t58.1.f_Owner }) rfl (Lens.all c_crawlwayref59_Span ([zv4]:List S_crawlwayref59_Span) 0 (by first | decide | exact Nat.le_of_ble_eq_true rfl)) rfl rfl) rfl ?_
       intro b158
       exact at_nil (k (g3 b158 none 0 none w))
      intro g159
      show At 180 [(168,_),(169,_),(170,_),(171,_),(172,_),(173,_),(174,_),(175,_),(176,_),(177,_),(3,_),(4,_),(10,_),(11,_),(12,_),(14,_)] _ _
      obtain ⟨h160,hF⟩:=gd hF
      refine at_append (z:=.agg (Cd.cs c_crawlwayref59_Span zv4).toArray) (c:=c_crawlwayref59_Span) (ys:=([{ { { zv4 with f_From:=lget q26 i48 } with f_To:=t81 } with f_Owner:=t58.1.f_Owner }]:List S_crawlwayref59_Span)) (.s (.s (.s .z))) underlying57 infoF362 (by kernel_rfl) (by kernel_rfl) rfl rfl rfl rfl (fun _ hw=>cells_src (hw.ok (Upd.mem .z))) (by kernel_rfl) h160 (app_small h160) rfl ?_
      intro p161 c162
      refine aa (qn (dz (dz (dz (wq [11,10,4,3] ?_)))))
      refine bm ?_
      refine qr (am (aw xa (aa (nwq [11,10,4,3] ?_))))
      exact at_weak_k (ih _ _ _ hF K p161 c162) ⟨rfl,rfl,rfl,rfl,trivial⟩
     refine cf h76 ?_
     refine sr (aa (nwq [15,14,12,11,10,4,3] ?_))
     refine qb ?_
     obtain ⟨q163,hq163,hF⟩:=bM hF
     refine wq [15,14,12,11,10,4,3] ?_
     refine at_loop_n (B:=6) (A:=fun Y=>At 180 [(3,.slice p2 t1.length c3),(4,.slice p31 q26.length c32),(10,.slice p49 i47.length c50),(11,.int .i64 i48),(12,.pointer (some ⟨b59,0,none⟩)),(14,.pointer (some ⟨b65,0,none⟩))] (Wd w [cellsE b65 (Cd.cs c_api_Addr q163) 24,cellsE b59 (Cd.cs c_api_Entry t58.1) 66,rowE c_crawlwayref59_Span 62 p49 c50 i47,rowE c_api_Addr 24 p31 c32 q26,rowE c_api_Entry 66 p2 c3 t1]) Y) ?_ ?_
     ·intro K
      refine crawlwayref59_Of.l3.partial_correctness  (motive:=fun i164 i165 x=>KN (fun Y=>At 180 [(3,.slice p2 t1.length c3),(4,.slice p31 q26.length c32),(10,.slice p49 i47.length c50),(11,.int .i64 i48),(12,.pointer (some ⟨b59,0,none⟩)),(14,.pointer (some ⟨b65,0,none⟩))] (Wd w [cellsE b65 (Cd.cs c_api_Addr x) 24,cellsE b59 (Cd.cs c_api_Entry t58.1) 66,rowE c_crawlwayref59_Span 62 p49 c50 i47,rowE c_api_Addr 24 p31 c32 q26,rowE c_api_Entry 66 p2 c3 t1]) Y) _ 6→Round (fun Y=>At 180 [(3,.slice p2 t1.length c3),(4,.slice p31 q26.length c32),(10,.slice p49 i47.length c50),(11,.int .i64 i48),(12,.pointer (some ⟨b59,0,none⟩)),(14,.pointer (some ⟨b65,0,none⟩)),(15,.int .i64 i164)] (Wd w [cellsE b65 (Cd.cs c_api_Addr i165) 24,cellsE b59 (Cd.cs c_api_Entry t58.1) 66,rowE c_crawlwayref59_Span 62 p49 c50 i47,rowE c_api_Addr 24 p31 c32 q26,rowE c_api_Entry 66 p2 c3 t1]) Y) _ _ _) ?_ _ _ _ hq163 K
      ·clear K hF
       intro g ih i164 i165 x hF K
       refine at_round ?_
       refine qs (sr (am ?_))
       refine aw (r_load_aggc (c:=c_api_Addr) (z:=i165) isAgg24 sizeOf24 rfl (lens_cell .z lw)) ?_
       obtain ⟨t166,ht166,hF⟩:=bM hF
       refine cB func42 rfl (fun w hw=>crawlwayref10_Width_ok _ _ ht166 w) ?_
       refine aw (r_iquo rfl rfl (by decide)) ?_
       refine aw xl (nwq [107,15,14,12,11,10,4,3] ?_)
       obtain ⟨h167,hF⟩|⟨h167,hF⟩:=oi hF
       ·refine ct h167 ?_
        refine sn (qs ?_)
        refine qb ?_
        refine qr (am (fa 1 underlying24 rfl sizeOf22 ?_))
        obtain ⟨h168,hF⟩:=gd hF
        refine aw (r_idxArr underlying22 sizeOf5 rfl rfl h168) ?_
        refine at_store (c:=(cInt .u8)) (z:=255) .z (Lens.comp (Lens.comp lw (fun z=>{ i165 with f_B:=z }) (c_api_Addr_f_B i165)) (fun z=>vset i165.f_B i164 z) (Lens.vec (cInt .u8) (by decide) i165.f_B i164 h168)) sizeOf5 rfl rfl rfl ?_
        refine qn (wq [15,14,12,11,10,4,3] ?_)
        refine bm ?_
        refine qr (am (aw xa (aa (nwq [15,14,12,11,10,4,3] ?_))))
        exact at_weak_k (ih _ _ _ hF K) ⟨rfl,rfl,rfl,rfl,rfl,rfl,rfl,trivial⟩
       refine cf h167 ?_
       refine at_exit ?_
       refine te (te ?_)
       obtain rfl:=os hF
       exact at_weak_k K ⟨rfl,rfl,rfl,rfl,rfl,rfl,trivial⟩
     skip
     skip
     refine at_blk_same ?_
     refine tn (sr (am ?_))
     refine aw (r_len_sl underlying57 rfl) ?_
     refine aa (nt (qs (qs (wq [16,14,12,11,10,4,3] ?_))))
     obtain ⟨h169,hF⟩|⟨h169,hF⟩:=oi hF
     ·skip
      obtain ⟨h170,hF⟩:=gd hF
      refine at_pure (φ:=∃ b o,p49=some ⟨b,o,none⟩) (fun _ hw=>row_ptr (hw.own (.s (.s .z))).row h170) ?_
      rintro ⟨b172,o173,hp171⟩
      obtain ⟨h174,hF⟩|⟨h174,hF⟩:=oi hF
      ·skip
       obtain ⟨h175,hF⟩:=gd hF
       refine at_pure (φ:=∃ b o,p49=some ⟨b,o,none⟩) (fun _ hw=>row_ptr (hw.own (.s (.s .z))).row h175) ?_
       rintro ⟨b177,o178,hp176⟩
       obtain ⟨h179,hF⟩:=gd hF
       refine at_pure (φ:=∃ b o,p31=some ⟨b,o,none⟩) (fun _ hw=>row_ptr (hw.own (.s (.s (.s .z)))).row h179) ?_
       rintro ⟨b181,o182,hp180⟩
       refine at_inv [.q 115 (fun g183=>.int .i64 (i47.length:Int)) [] 0 0,.q 116 (fun g183=>.bool (decide ((i47.length:Int)>0))) [0] 0 0,.q 117 (fun g183=>.bool true) [1] 0 0,.q 118 (fun g183=>.slice p49 i47.length c50) [2] 0 0,.q 119 (fun g183=>.int .i64 (i47.length:Int)) [2] 0 0,.q 120 (fun g183=>.int .i64 (wr .i64 ((i47.length:Int)-1))) [2,4] 0 0,.q 121 (fun g183=>.pointer (some ⟨b172,o173+Int.toNat (wr .i64 ((i47.length:Int)-1))*35,none⟩)) [2,3,5] 0 0,.q 122 (fun g183=>.pointer (some ⟨b172,o173+Int.toNat (wr .i64 ((i47.length:Int)-1))*35+34,none⟩)) [2,6] 0 0,.q 123 (fun g183=>.int .i64 ((lget i47 (wr .i64 ((i47.length:Int)-1))).f_Owner)) [2,7] 0 0,.q 124 (fun g183=>.pointer (some ⟨b59,0+18,none⟩)) [2] 0 0,.q 125 (fun g183=>.int .i64 t58.1.f_Owner) [2,9] 0 0,.q 126 (fun g183=>.bool ((lget i47 (wr .i64 ((i47.length:Int)-1))).f_Owner==t58.1.f_Owner)) [2,8,10] 0 0,.q 127 (fun g183=>.bool ((lget i47 (wr .i64 ((i47.length:Int)-1))).f_Owner==t58.1.f_Owner)) [2,11] 0 0,.q 128 (fun g183=>.bool true) [12] 0 0,.q 129 (fun g183=>.slice p49 i47.length c50) [13] 0 0,.q 130 (fun g183=>.int .i64 (i47.length:Int)) [13] 0 0,.q 131 (fun g183=>.int .i64 (wr .i64 ((i47.length:Int)-1))) [13,15] 0 0,.q 132 (fun g183=>.pointer (some ⟨b177,o178+Int.toNat (wr .i64 ((i47.length:Int)-1))*35,none⟩)) [13,14,16] 0 0,.q 133 (fun g183=>.pointer (some ⟨b177,o178+Int.toNat (wr .i64 ((i47.length:Int)-1))*35+17,none⟩)) [13,17] 0 0,.q 134 (fun g183=>.pointer (some ⟨b177,o178+Int.toNat (wr .i64 ((i47.length:Int)-1))*35+17+0,none⟩)) [13,18] 0 0,.q 135 (fun g183=>.int .i64 (((lget i47 (wr .i64 ((i47.length:Int)-1))).f_To).f_V)) [13,19] 0 0,.q 136 (fun g183=>.slice p31 q26.length c32) [13] 0 0,.q 137 (fun g183=>.int .i64 i48) [13] 0 0,.q 138 (fun g183=>.pointer (some ⟨b181,o182+Int.toNat i48*17,none⟩)) [13,21,22] 0 0,.q 139 (fun g183=>.pointer (some ⟨b181,o182+Int.toNat i48*17+0,none⟩)) [13,23] 0 0,.q 140 (fun g183=>.int .i64 ((lget q26 i48).f_V)) [13,24] 0 0,.q 141 (fun g183=>.bool (((lget i47 (wr .i64 ((i47.length:Int)-1))).f_To).f_V==(lget q26 i48).f_V)) [13,20,25] 0 0,.q 142 (fun g183=>.bool (((lget i47 (wr .i64 ((i47.length:Int)-1))).f_To).f_V==(lget q26 i48).f_V)) [13,26] 0 0] (fun g183 s=>match s with | _=>(Wd w [cellsE b65 (Cd.cs c_api_Addr q163) 24,cellsE b59 (Cd.cs c_api_Entry t58.1) 66,rowE c_crawlwayref59_Span 62 p49 c50 i47,rowE c_api_Addr 24 p31 c32 q26,rowE c_api_Entry 66 p2 c3 t1])) 0 (by kernel_rfl) (by kernel_rfl) (by kernel_rfl) (by kernel_rfl) (by kernel_rfl) ⟨fun _ _ _=>rfl,fun _ _ _=>rfl,fun _ _ _=>rfl,fun _ _ _=>rfl,fun _ _ _=>rfl,fun _ _ _=>rfl,fun _ _ _=>rfl,fun _ _ _=>rfl,fun _ _ _=>rfl,fun _ _ _=>rfl,fun _ _ _=>rfl,fun _ _ _=>rfl,fun _ _ _=>rfl,fun _ _ _=>rfl,fun _ _ _=>rfl,fun _ _ _=>rfl,fun _ _ _=>rfl,fun _ _ _=>rfl,fun _ _ _=>rfl,fun _ _ _=>rfl,fun _ _ _=>rfl,fun _ _ _=>rfl,fun _ _ _=>rfl,fun _ _ _=>rfl,fun _ _ _=>rfl,fun _ _ _=>rfl,fun _ _ _=>rfl,fun _ _ _=>rfl,trivial⟩ (by kernel_rfl) (fun w_ h=>⟨fun _=>g3 0 none 0 none w_,h.drew⟩) ⟨?_,?_,?_,?_,?_,?_,?_,?_,?_,?_,?_,?_,?_,?_,?_,?_,?_,?_,?_,?_,?_,?_,?_,?_,?_,?_,?_,?_,trivial⟩ ?_
       ·intro Lx g183 s K hl hh k
        show At 180 ((3,_)::(4,_)::(10,_)::(11,_)::(12,_)::(14,_)::(16,_)::Lx) _ _
        refine am ?_
        exact at_nil k
       ·intro Lx g183 s K hl hh k
        show At 180 ((115,_)::(3,_)::(4,_)::(10,_)::(11,_)::(12,_)::(14,_)::(16,_)::Lx) _ _
        refine aw (r_igtr rfl rfl) ?_
        exact at_nil k
       ·intro Lx g183 s K hl hh k
        show At 180 ((116,_)::(3,_)::(4,_)::(10,_)::(11,_)::(12,_)::(14,_)::(16,_)::Lx) _ _
        refine am ?_
        exact at_nil (at_cast h169 k)
       ·intro Lx g183 s K hl hh k
        show At 180 ((117,_)::(3,_)::(4,_)::(10,_)::(11,_)::(12,_)::(14,_)::(16,_)::Lx) _ _
        refine gy ?_
        refine am ?_
        exact at_nil k
       ·intro Lx g183 s K hl hh k
        show At 180 ((117,_)::(3,_)::(4,_)::(10,_)::(11,_)::(12,_)::(14,_)::(16,_)::Lx) _ _
        refine gy ?_
        refine am ?_
        exact at_nil k
       ·intro Lx g183 s K hl hh k
        show At 180 ((117,_)::(119,_)::(3,_)::(4,_)::(10,_)::(11,_)::(12,_)::(14,_)::(16,_)::Lx) _ _
        refine gy ?_
        refine aw (r_isub rfl rfl) ?_
        exact at_nil k
       ·intro Lx g183 s K hl hh k
        show At 180 ((117,_)::(118,_)::(120,_)::(3,_)::(4,_)::(10,_)::(11,_)::(12,_)::(14,_)::(16,_)::Lx) _ _
        refine gy ?_
        refine aw (r_idx underlying57 sizeOf62 rfl rfl h170 hp171) ?_
        exact at_nil k
       ·intro Lx g183 s K hl hh k
        show At 180 ((117,_)::(121,_)::(3,_)::(4,_)::(10,_)::(11,_)::(12,_)::(14,_)::(16,_)::Lx) _ _
        refine gy ?_
        refine fa 34 underlying62 rfl sizeOf3 ?_
        exact at_nil k
       ·intro Lx g183 s K hl hh k
        show At 180 ((117,_)::(122,_)::(3,_)::(4,_)::(10,_)::(11,_)::(12,_)::(14,_)::(16,_)::Lx) _ _
        refine gy ?_
        obtain rfl:s=0:=by omega
        refine aw (r_load_cell isAgg3 rfl (fun w1 hw=>row_lens0 (y:=(lget i47 (wr .i64 ((i47.length:Int)-1))).f_Owner) (W:=fun w1=>w1=_) (fun w1 h=>by subst h;exact Below.refl _ _) (hw.own (.s (.s .z))).row h170 hp171 (Lens.comp lw (fun z=>{ (lget i47 (wr .i64 ((i47.length:Int)-1))) with f_Owner:=z }) (c_crawlwayref59_Span_f_Owner (lget i47 (wr .i64 ((i47.length:Int)-1))))) rfl _ rfl)) ?_
        exact at_nil k
       ·intro Lx g183 s K hl hh k
        show At 180 ((117,_)::(3,_)::(4,_)::(10,_)::(11,_)::(12,_)::(14,_)::(16,_)::Lx) _ _
        refine gy ?_
        refine fa 18 underlying66 rfl sizeOf3 ?_
        exact at_nil k
       ·intro Lx g183 s K hl hh k
        show At 180 ((117,_)::(124,_)::(3,_)::(4,_)::(10,_)::(11,_)::(12,_)::(14,_)::(16,_)::Lx) _ _
        refine gy ?_
        obtain rfl:s=0:=by omega
        refine aw (r_load_cell isAgg3 rfl (lens_cell0 (c:=(cInt .i64)) (y:=t58.1.f_Owner) (.s .z) (Lens.comp lw (fun z=>{ t58.1 with f_Owner:=z }) (c_api_Entry_f_Owner t58.1)) rfl)) ?_
        exact at_nil k
       ·intro Lx g183 s K hl hh k
        show At 180 ((117,_)::(123,_)::(125,_)::(3,_)::(4,_)::(10,_)::(11,_)::(12,_)::(14,_)::(16,_)::Lx) _ _
        refine gy ?_
        refine aw xq ?_
        exact at_nil k
       ·intro Lx g183 s K hl hh k
        show At 180 ((117,_)::(126,_)::(3,_)::(4,_)::(10,_)::(11,_)::(12,_)::(14,_)::(16,_)::Lx) _ _
        refine aw xp ?_
        exact at_nil k
       ·intro Lx g183 s K hl hh k
        show At 180 ((127,_)::(3,_)::(4,_)::(10,_)::(11,_)::(12,_)::(14,_)::(16,_)::Lx) _ _
        refine am ?_
        exact at_nil (at_cast h174 k)
       ·intro Lx g183 s K hl hh k
        show At 180 ((128,_)::(3,_)::(4,_)::(10,_)::(11,_)::(12,_)::(14,_)::(16,_)::Lx) _ _
        refine gy ?_
        refine am ?_
        exact at_nil k
       ·intro Lx g183 s K hl hh k
        show At 180 ((128,_)::(3,_)::(4,_)::(10,_)::(11,_)::(12,_)::(14,_)::(16,_)::Lx) _ _
        refine gy ?_
        refine am ?_
        exact at_nil k
       ·intro Lx g183 s K hl hh k
        show At 180 ((128,_)::(130,_)::(3,_)::(4,_)::(10,_)::(11,_)::(12,_)::(14,_)::(16,_)::Lx) _ _
        refine gy ?_
        refine aw (r_isub rfl rfl) ?_
        exact at_nil k
       ·intro Lx g183 s K hl hh k
        show At 180 ((128,_)::(129,_)::(131,_)::(3,_)::(4,_)::(10,_)::(11,_)::(12,_)::(14,_)::(16,_)::Lx) _ _
        refine gy ?_
        refine aw (r_idx underlying57 sizeOf62 rfl rfl h175 hp176) ?_
        exact at_nil k
       ·intro Lx g183 s K hl hh k
        show At 180 ((128,_)::(132,_)::(3,_)::(4,_)::(10,_)::(11,_)::(12,_)::(14,_)::(16,_)::Lx) _ _
        refine gy ?_
        refine fa 17 underlying62 rfl sizeOf24 ?_
        exact at_nil k
       ·intro Lx g183 s K hl hh k
        show At 180 ((128,_)::(133,_)::(3,_)::(4,_)::(10,_)::(11,_)::(12,_)::(14,_)::(16,_)::Lx) _ _
        refine gy ?_
        refine fa 0 underlying24 rfl sizeOf3 ?_
        exact at_nil k
       ·intro Lx g183 s K hl hh k
        show At 180 ((128,_)::(134,_)::(3,_)::(4,_)::(10,_)::(11,_)::(12,_)::(14,_)::(16,_)::Lx) _ _
        refine gy ?_
        obtain rfl:s=0:=by omega
        refine aw (r_load_cell isAgg3 rfl (fun w1 hw=>row_lens0 (y:=((lget i47 (wr .i64 ((i47.length:Int)-1))).f_To).f_V) (W:=fun w1=>w1=_) (fun w1 h=>by subst h;exact Below.refl _ _) (hw.own (.s (.s .z))).row h175 hp176 (Lens.comp (Lens.comp lw (fun z=>{ (lget i47 (wr .i64 ((i47.length:Int)-1))) with f_To:=z }) (c_crawlwayref59_Span_f_To (lget i47 (wr .i64 ((i47.length:Int)-1))))) (fun z=>{ (lget i47 (wr .i64 ((i47.length:Int)-1))).f_To with f_V:=z }) (c_api_Addr_f_V ((lget i47 (wr .i64 ((i47.length:Int)-1))).f_To))) rfl _ rfl)) ?_
        exact at_nil k
       ·intro Lx g183 s K hl hh k
        show At 180 ((128,_)::(3,_)::(4,_)::(10,_)::(11,_)::(12,_)::(14,_)::(16,_)::Lx) _ _
        refine gy ?_
        refine am ?_
        exact at_nil k
       ·intro Lx g183 s K hl hh k
        show At 180 ((128,_)::(3,_)::(4,_)::(10,_)::(11,_)::(12,_)::(14,_)::(16,_)::Lx) _ _
        refine gy ?_
        refine am ?_
        exact at_nil k
       ·intro Lx g183 s K hl hh k
        show At 180 ((128,_)::(136,_)::(137,_)::(3,_)::(4,_)::(10,_)::(11,_)::(12,_)::(14,_)::(16,_)::Lx) _ _
        refine gy ?_
        refine aw (r_idx underlying88 sizeOf24 rfl rfl h179 hp180) ?_
        exact at_nil k
       ·intro Lx g183 s K hl hh k
        show At 180 ((128,_)::(138,_)::(3,_)::(4,_)::(10,_)::(11,_)::(12,_)::(14,_)::(16,_)::Lx) _ _
        refine gy ?_
        refine fa 0 underlying24 rfl sizeOf3 ?_
        exact at_nil k
       ·intro Lx g183 s K hl hh k
        show At 180 ((128,_)::(139,_)::(3,_)::(4,_)::(10,_)::(11,_)::(12,_)::(14,_)::(16,_)::Lx) _ _
        refine gy ?_
        obtain rfl:s=0:=by omega
        refine aw (r_load_cell isAgg3 rfl (fun w1 hw=>row_lens0 (y:=(lget q26 i48).f_V) (W:=fun w1=>w1=_) (fun w1 h=>by subst h;exact Below.refl _ _) (hw.own (.s (.s (.s .z)))).row h179 hp180 (Lens.comp lw (fun z=>{ (lget q26 i48) with f_V:=z }) (c_api_Addr_f_V (lget q26 i48))) rfl _ rfl)) ?_
        exact at_nil k
       ·intro Lx g183 s K hl hh k
        show At 180 ((128,_)::(135,_)::(140,_)::(3,_)::(4,_)::(10,_)::(11,_)::(12,_)::(14,_)::(16,_)::Lx) _ _
        refine gy ?_
        refine aw xq ?_
        exact at_nil k
       ·intro Lx g183 s K hl hh k
        show At 180 ((128,_)::(141,_)::(3,_)::(4,_)::(10,_)::(11,_)::(12,_)::(14,_)::(16,_)::Lx) _ _
        refine aw xp ?_
        exact at_nil k
       intro g183
       show At 180 [(115,_),(116,_),(117,_),(118,_),(119,_),(120,_),(121,_),(122,_),(123,_),(124,_),(125,_),(126,_),(127,_),(128,_),(129,_),(130,_),(131,_),(132,_),(133,_),(134,_),(135,_),(136,_),(137,_),(138,_),(139,_),(140,_),(141,_),(142,_),(3,_),(4,_),(10,_),(11,_),(12,_),(14,_),(16,_)] _ _
       refine wq [142,16,14,12,11,10,4,3] ?_
       refine tn ?_
       obtain ⟨h184,hF⟩|⟨h184,hF⟩:=oi hF
       ·refine ct h184 ?_
        refine sr (am (am ?_))
        refine aw (r_isub rfl rfl) ?_
        obtain ⟨h185,hF⟩:=gd hF
        refine at_pure (φ:=∃ b o,p49=some ⟨b,o,none⟩) (fun _ hw=>row_ptr (hw.own (.s (.s .z))).row h185) ?_
        rintro ⟨b187,o188,hp186⟩
        refine aw (r_idx underlying57 sizeOf62 rfl rfl h185 hp186) ?_
        refine fa 17 underlying62 rfl sizeOf24 ?_
        refine aw (r_load_aggc (c:=c_api_Addr) (z:=(lget i47 (wr .i64 ((i47.length:Int)-1))).f_To) isAgg24 sizeOf24 rfl (fun w1 hw=>row_lens (y:=(lget i47 (wr .i64 ((i47.length:Int)-1))).f_To) (W:=fun w1=>w1=_) (fun w1 h=>by subst h;exact Below.refl _ _) (hw.own (.s (.s .z))).row h185 hp186 (Lens.comp lw (fun z=>{ (lget i47 (wr .i64 ((i47.length:Int)-1))) with f_To:=z }) (c_crawlwayref59_Span_f_To (lget i47 (wr .i64 ((i47.length:Int)-1))))) _ rfl)) ?_
        obtain ⟨t189,ht189,hF⟩:=bM hF
        refine cB func17 rfl (fun w hw=>crawlwayref53_Next_ok _ _ ht189 w) ?_
        refine am ?_
        refine aw xe (aw xe ?_)
        refine al (cs:=Cd.cs c_api_Addr zv0) zeroValue24 ?_
        intro b190
        refine at_store (c:=c_api_Addr) (z:=t189.1) .z lw sizeOf24 rfl rfl rfl ?_
        refine aa (nt (qs (wq [18,17,16,14,12,11,10,4,3] ?_)))
        obtain ⟨h191,hF⟩|⟨h191,hF⟩:=oi hF
        ·skip
         obtain ⟨h192,hF⟩:=gd hF
         refine at_pure (φ:=∃ b o,p31=some ⟨b,o,none⟩) (fun _ hw=>row_ptr (hw.own (.s (.s (.s (.s .z))))).row h192) ?_
         rintro ⟨b194,o195,hp193⟩
         refine at_inv [.q 153 (fun g196=>.bool t189.2) [] 0 0,.q 154 (fun g196=>.bool true) [0] 0 0,.q 155 (fun g196=>.agg (Cd.cs c_api_Addr t189.1).toArray) [1] 0 0,.q 156 (fun g196=>.slice p31 q26.length c32) [1] 0 0,.q 157 (fun g196=>.int .i64 i48) [1] 0 0,.q 158 (fun g196=>.pointer (some ⟨b194,o195+Int.toNat i48*17,none⟩)) [1,3,4] 0 0,.q 159 (fun g196=>.agg (Cd.cs c_api_Addr (lget q26 i48)).toArray) [1,5] 0 0,.q 160 (fun g196=>.bool (decide (t189.1=lget q26 i48))) [1,2,6] 0 0,.q 161 (fun g196=>.bool (decide (t189.1=lget q26 i48))) [1,7] 0 0] (fun g196 s=>match s with | _=>(Wd w [cellsE b190 (Cd.cs c_api_Addr t189.1) 24,cellsE b65 (Cd.cs c_api_Addr q163) 24,cellsE b59 (Cd.cs c_api_Entry t58.1) 66,rowE c_crawlwayref59_Span 62 p49 c50 i47,rowE c_api_Addr 24 p31 c32 q26,rowE c_api_Entry 66 p2 c3 t1])) 0 (by kernel_rfl) (by kernel_rfl) (by kernel_rfl) (by kernel_rfl) (by kernel_rfl) ⟨fun _ _ _=>rfl,fun _ _ _=>rfl,fun _ _ _=>rfl,fun _ _ _=>rfl,fun _ _ _=>rfl,fun _ _ _=>rfl,fun _ _ _=>rfl,fun _ _ _=>rfl,fun _ _ _=>rfl,trivial⟩ (by kernel_rfl) (fun w_ h=>⟨fun _=>g3 0 none 0 none w_,h.drew⟩) ⟨?_,?_,?_,?_,?_,?_,?_,?_,?_,trivial⟩ ?_
         ·intro Lx g196 s K hl hh k
          show At 180 ((3,_)::(4,_)::(10,_)::(11,_)::(12,_)::(14,_)::(16,_)::(17,_)::(18,_)::Lx) _ _
          refine am ?_
          exact at_nil k
         ·intro Lx g196 s K hl hh k
          show At 180 ((153,_)::(3,_)::(4,_)::(10,_)::(11,_)::(12,_)::(14,_)::(16,_)::(17,_)::(18,_)::Lx) _ _
          refine am ?_
          exact at_nil (at_cast h191 k)
         ·intro Lx g196 s K hl hh k
          show At 180 ((154,_)::(3,_)::(4,_)::(10,_)::(11,_)::(12,_)::(14,_)::(16,_)::(17,_)::(18,_)::Lx) _ _
          refine gy ?_
          obtain rfl:s=0:=by omega
          refine aw (r_load_aggc (c:=c_api_Addr) (z:=t189.1) isAgg24 sizeOf24 rfl (lens_cell .z lw)) ?_
          exact at_nil k
         ·intro Lx g196 s K hl hh k
          show At 180 ((154,_)::(3,_)::(4,_)::(10,_)::(11,_)::(12,_)::(14,_)::(16,_)::(17,_)::(18,_)::Lx) _ _
          refine gy ?_
          refine am ?_
          exact at_nil k
         ·intro Lx g196 s K hl hh k
          show At 180 ((154,_)::(3,_)::(4,_)::(10,_)::(11,_)::(12,_)::(14,_)::(16,_)::(17,_)::(18,_)::Lx) _ _
          refine gy ?_
          refine am ?_
          exact at_nil k
         ·intro Lx g196 s K hl hh k
          show At 180 ((154,_)::(156,_)::(157,_)::(3,_)::(4,_)::(10,_)::(11,_)::(12,_)::(14,_)::(16,_)::(17,_)::(18,_)::Lx) _ _
          refine gy ?_
          refine aw (r_idx underlying88 sizeOf24 rfl rfl h192 hp193) ?_
          exact at_nil k
         ·intro Lx g196 s K hl hh k
          show At 180 ((154,_)::(158,_)::(3,_)::(4,_)::(10,_)::(11,_)::(12,_)::(14,_)::(16,_)::(17,_)::(18,_)::Lx) _ _
          refine gy ?_
          obtain rfl:s=0:=by omega
          refine aw (r_load_aggc (c:=c_api_Addr) (z:=lget q26 i48) isAgg24 sizeOf24 rfl (fun w1 hw=>row_cell (W:=fun w1=>w1=_) (fun w1 h=>by subst h;exact Below.refl _ _) (hw.own (.s (.s (.s (.s .z))))).row h192 hp193 _ rfl)) ?_
          exact at_nil k
         ·intro Lx g196 s K hl hh k
          show At 180 ((154,_)::(155,_)::(159,_)::(3,_)::(4,_)::(10,_)::(11,_)::(12,_)::(14,_)::(16,_)::(17,_)::(18,_)::Lx) _ _
          refine gy ?_
          refine aw (r_eqagg (c:=c_api_Addr) (a:=t189.1) (b:=lget q26 i48) (eq_api_Addr_24) rfl Try.eqGuardType24 rfl rfl (.inl rfl) rfl) ?_
          exact at_nil k
         ·intro Lx g196 s K hl hh k
          show At 180 ((154,_)::(160,_)::(3,_)::(4,_)::(10,_)::(11,_)::(12,_)::(14,_)::(16,_)::(17,_)::(18,_)::Lx) _ _
          refine aw xp ?_
          exact at_nil k
         intro g196
         show At 180 [(153,_),(154,_),(155,_),(156,_),(157,_),(158,_),(159,_),(160,_),(161,_),(3,_),(4,_),(10,_),(11,_),(12,_),(14,_),(16,_),(17,_),(18,_)] _ _
         refine dz (wq [161,16,14,12,11,10,4,3] ?_)
         refine tn ?_
         obtain ⟨h197,hF⟩|⟨h197,hF⟩:=oi hF
         ·refine ct h197 ?_
          refine sr (am (am ?_))
          refine aw (r_isub rfl rfl) ?_
          refine aw (r_load_aggc (c:=c_api_Addr) (z:=q163) isAgg24 sizeOf24 rfl (lens_cell .z lw)) ?_
          obtain ⟨h198,hF⟩:=gd hF
          refine at_pure (φ:=∃ b o,p49=some ⟨b,o,none⟩) (fun _ hw=>row_ptr (hw.own (.s (.s .z))).row h198) ?_
          rintro ⟨b200,o201,hp199⟩
          refine aw (r_idx underlying57 sizeOf62 rfl rfl h198 hp199) ?_
          refine fa 17 underlying62 rfl sizeOf24 ?_
          refine at_storeRow (c:=c_crawlwayref59_Span) (c':=c_api_Addr) (i:=wr .i64 ((i47.length:Int)-1)) (z:=q163) (y:={ (lget i47 (wr .i64 ((i47.length:Int)-1))) with f_To:=q163 }) (.s (.s .z)) h198 hp199 (Lens.comp lw (fun z=>{ (lget i47 (wr .i64 ((i47.length:Int)-1))) with f_To:=z }) (c_crawlwayref59_Span_f_To (lget i47 (wr .i64 ((i47.length:Int)-1))))) (by rfl) sizeOf24 rfl rfl rfl ?_
          refine at_ov (t:=10) rfl (show Value.slice p49 (List.length i47) c50=.slice p49 (List.length (lset i47 (wr .i64 ((i47.length:Int)-1)) ({ (lget i47 (wr .i64 ((i47.length:Int)-1))) with f_To:=q163 }))) c50 from congrArg (fun n_=>Value.slice p49 n_ c50) ((lset_length _ _ _).symm)) ?_
          refine at_ov (t:=162) rfl (show Value.slice p49 (List.length i47) c50=.slice p49 (List.length (lset i47 (wr .i64 ((i47.length:Int)-1)) ({ (lget i47 (wr .i64 ((i47.length:Int)-1))) with f_To:=q163 }))) c50 from congrArg (fun n_=>Value.slice p49 n_ c50) ((lset_length _ _ _).symm)) ?_
          refine qn (dz (dz (wq [11,10,4,3] ?_)))
          refine tn ?_
          refine at_exit ?_
          refine te (at_blk_same (tn ?_))
          refine qr (am (aw xa (aa (nwq [11,10,4,3] ?_))))
          exact at_weak_k (ih _ _ _ hF K p49 c50) ⟨rfl,rfl,rfl,rfl,trivial⟩
         refine cf h197 ?_
         refine sn (wq [14,12,11,10,4,3] ?_)
         obtain ⟨h202,hF⟩:=gd hF
         refine at_pure (φ:=∃ b o,p31=some ⟨b,o,none⟩) (fun _ hw=>row_ptr (hw.own (.s (.s (.s .z)))).row h202) ?_
         rintro ⟨b204,o205,hp203⟩
         refine at_invT [.q 168 (fun g207=>.slice p49 i47.length c50) [] 0 1,.q 169 (fun g207=>.slice p31 q26.length c32) [] 0 0,.q 170 (fun g207=>.int .i64 i48) [] 0 0,.q 171 (fun g207=>.pointer (some ⟨b204,o205+Int.toNat i48*17,none⟩)) [1,2] 0 0,.q 172 (fun g207=>.agg (Cd.cs c_api_Addr (lget q26 i48)).toArray) [3] 0 0,.q 173 (fun g207=>.agg (Cd.cs c_api_Addr q163).toArray) [] 0 0,.q 174 (fun g207=>.pointer (some ⟨b59,0+18,none⟩)) [] 0 0,.q 175 (fun g207=>.int .i64 t58.1.f_Owner) [6] 0 0,.q 176 (fun g207=>.agg (Cd.cs c_crawlwayref59_Span ({ { { zv4 with f_From:=lget q26 i48 } with f_To:=q163 } with f_Owner:=t58.1.f_Owner })).toArray) [4,5,7] 0 0,.al 0 177 (fun g207=>.slice (some ⟨((g207 0).1),0,none⟩) ([{ { { zv4 with f_From:=lget q26 i48 } with f_To:=q163 } with f_Owner:=t58.1.f_Owner }]:List S_crawlwayref59_Span).length 1) [8]] (fun g207 s=>match s with | 0=>(Wd w [cellsE b65 (Cd.cs c_api_Addr q163) 24,cellsE b59 (Cd.cs c_api_Entry t58.1) 66,rowE c_crawlwayref59_Span 62 p49 c50 i47,rowE c_api_Addr 24 p31 c32 q26,rowE c_api_Entry 66 p2 c3 t1]) | _=>(Wd w [cellsE ((g207 0).1) (c_crawlwayref59_Span.all ([{ { { zv4 with f_From:=lget q26 i48 } with f_To:=q163 } with f_Owner:=t58.1.f_Owner }]:List S_crawlwayref59_Span)) 62,cellsE b65 (Cd.cs c_api_Addr q163) 24,cellsE b59 (Cd.cs c_api_Entry t58.1) 66,rowE c_crawlwayref59_Span 62 p49 c50 i47,rowE c_api_Addr 24 p31 c32 q26,rowE c_api_Entry 66 p2 c3 t1])) 1 10 (by kernel_rfl) (by kernel_rfl) (by kernel_rfl) (by kernel_rfl) (by kernel_rfl) (by kernel_rfl) ⟨fun _ _ _=>rfl,fun _ _ _=>rfl,fun _ _ _=>rfl,fun _ _ _=>rfl,fun _ _ _=>rfl,fun _ _ _=>rfl,fun _ _ _=>rfl,fun _ _ _=>rfl,fun _ _ _=>rfl,fun g207 g2 h=>by show (.slice (some ⟨((g207 0).1),0,none⟩) ([{ { { zv4 with f_From:=lget q26 i48 } with f_To:=q163 } with f_Owner:=t58.1.f_Owner }]:List S_crawlwayref59_Span).length 1:Value)=.slice (some ⟨((g2 0).1),0,none⟩) ([{ { { zv4 with f_From:=lget q26 i48 } with f_To:=q163 } with f_Owner:=t58.1.f_Owner }]:List S_crawlwayref59_Span).length 1;rw [h 0 (show 0<1 by decide)],trivial⟩ (by kernel_rfl) (fun w_ h=>⟨fun _=>g3 0 none 0 none w_,h.drew⟩) ⟨?_,?_,?_,?_,?_,?_,?_,?_,?_,?_,trivial⟩ ?_
         ·intro Lx g207 s K hl hh k
          show At 180 ((3,_)::(4,_)::(10,_)::(11,_)::(12,_)::(14,_)::Lx) _ _
          refine am ?_
          exact at_nil k
         ·intro Lx g207 s K hl hh k
          show At 180 ((3,_)::(4,_)::(10,_)::(11,_)::(12,_)::(14,_)::Lx) _ _
          refine am ?_
          exact at_nil k
         ·intro Lx g207 s K hl hh k
          show At 180 ((3,_)::(4,_)::(10,_)::(11,_)::(12,_)::(14,_)::Lx) _ _
          refine am ?_
          exact at_nil k
         ·intro Lx g207 s K hl hh k
          show At 180 ((169,_)::(170,_)::(3,_)::(4,_)::(10,_)::(11,_)::(12,_)::(14,_)::Lx) _ _
          refine aw (r_idx underlying88 sizeOf24 rfl rfl h202 hp203) ?_
          exact at_nil k
         ·intro Lx g207 s K hl hh k
          show At 180 ((171,_)::(3,_)::(4,_)::(10,_)::(11,_)::(12,_)::(14,_)::Lx) _ _
          obtain rfl:s=0:=by omega
          refine aw (r_load_aggc (c:=c_api_Addr) (z:=lget q26 i48) isAgg24 sizeOf24 rfl (fun w1 hw=>row_cell (W:=fun w1=>w1=_) (fun w1 h=>by subst h;exact Below.refl _ _) (hw.own (.s (.s (.s .z)))).row h202 hp203 _ rfl)) ?_
          exact at_nil k
         ·intro Lx g207 s K hl hh k
          show At 180 ((3,_)::(4,_)::(10,_)::(11,_)::(12,_)::(14,_)::Lx) _ _
          obtain rfl:s=0:=by omega
          refine aw (r_load_aggc (c:=c_api_Addr) (z:=q163) isAgg24 sizeOf24 rfl (lens_cell .z lw)) ?_
          exact at_nil k
         ·intro Lx g207 s K hl hh k
          show At 180 ((3,_)::(4,_)::(10,_)::(11,_)::(12,_)::(14,_)::Lx) _ _
          refine fa 18 underlying66 rfl sizeOf3 ?_
          exact at_nil k
         ·intro Lx g207 s K hl hh k
          show At 180 ((174,_)::(3,_)::(4,_)::(10,_)::(11,_)::(12,_)::(14,_)::Lx) _ _
          obtain rfl:s=0:=by omega
          refine aw (r_load_cell isAgg3 rfl (lens_cell0 (c:=(cInt .i64)) (y:=t58.1.f_Owner) (.s .z) (Lens.comp lw (fun z=>{ t58.1 with f_Owner:=z }) (c_api_Entry_f_Owner t58.1)) rfl)) ?_
          exact at_nil k
         ·intro Lx g207 s K hl hh k
          show At 180 ((172,_)::(173,_)::(175,_)::(3,_)::(4,_)::(10,_)::(11,_)::(12,_)::(14,_)::Lx) _ _
          obtain rfl:s=0:=by omega
          refine aw (r_build_struct (zs:=Cd.cs c_crawlwayref59_Span zv4) (cs:=Cd.cs c_crawlwayref59_Span ({ { { zv4 with f_From:=lget q26 i48 } with f_To:=q163 } with f_Owner:=t58.1.f_Owner })) underlying62 zeroValue62 rfl (places_crawlwayref59_Span_62) rfl (fill_step (c:=c_api_Addr) (z:=lget q26 i48) rfl (c_crawlwayref59_Span_f_From zv4) rfl (fill_step (c:=c_api_Addr) (z:=q163) rfl (c_crawlwayref59_Span_f_To ({ zv4 with f_From:=lget q26 i48 })) rfl (fill_step (c:=(cInt .i64)) (z:=t58.1.f_Owner) rfl (c_crawlwayref59_Span_f_Owner ({ { zv4 with f_From:=lget q26 i48 } with f_To:=q163 })) rfl rfl)))) ?_
          exact at_nil k
         ·intro Lx g207 K k
          show At 180 ((176,_)::(3,_)::(4,_)::(10,_)::(11,_)::(12,_)::(14,_)::Lx) _ _
          refine at_litL (c:=c_crawlwayref59_Span) ([zv4]:List S_crawlwayref59_Span) ([{ { { zv4 with f_From:=lget q26 i48 } with f_To:=q163 } with f_Owner:=t58.1.f_Owner }]:List S_crawlwayref59_Span) underlying57 sizeOf62 zeroValue62 rfl rfl rfl (by kernel_rfl) (fill_step (c:=c_crawlwayref59_Span) (z:={ { { zv4 with f_From:=lget q26 i48 } with f_To:=q163 } with f_Owner:=t58.1.f_Owner }) rfl (Lens.all c_crawlwayref59_Span ([zv4]:List S_crawlwayref59_Span) 0 (by first | decide | exact Nat.le_of_ble_eq_true rfl)) rfl rfl) rfl ?_
          intro b206
          exact at_nil (k (g3 b206 none 0 none w))
         intro g207
         show At 180 [(168,_),(169,_),(170,_),(171,_),(172,_),(173,_),(174,_),(175,_),(176,_),(177,_),(3,_),(4,_),(10,_),(11,_),(12,_),(14,_)] _ _
         obtain ⟨h208,hF⟩:=gd hF
         refine at_append (z:=.agg (Cd.cs c_crawlwayref59_Span zv4).toArray) (c:=c_crawlwayref59_Span) (ys:=([{ { { zv4 with f_From:=lget q26 i48 } with f_To:=q163 } with f_Owner:=t58.1.f_Owner }]:List S_crawlwayref59_Span)) (.s (.s (.s .z))) underlying57 infoF362 (by kernel_rfl) (by kernel_rfl) rfl rfl rfl rfl (fun _ hw=>cells_src (hw.ok (Upd.mem .z))) (by kernel_rfl) h208 (app_small h208) rfl ?_
         intro p209 c210
         refine aa (qn (dz (dz (dz (wq [11,10,4,3] ?_)))))
         refine bm ?_
         refine qr (am (aw xa (aa (nwq [11,10,4,3] ?_))))
         exact at_weak_k (ih _ _ _ hF K p209 c210) ⟨rfl,rfl,rfl,rfl,trivial⟩
        skip
        refine at_inv [.q 153 (fun g211=>.bool t189.2) [] 0 0,.q 154 (fun g211=>.bool false) [0] 0 0,.q 155 (fun g211=>undef) [1] 0 0,.q 156 (fun g211=>undef) [1] 0 0,.q 157 (fun g211=>undef) [1] 0 0,.q 158 (fun g211=>undef) [1,3,4] 0 0,.q 159 (fun g211=>undef) [1,5] 0 0,.q 160 (fun g211=>undef) [1,2,6] 0 0,.q 161 (fun g211=>.bool false) [1,7] 0 0] (fun g211 s=>match s with | _=>(Wd w [cellsE b190 (Cd.cs c_api_Addr t189.1) 24,cellsE b65 (Cd.cs c_api_Addr q163) 24,cellsE b59 (Cd.cs c_api_Entry t58.1) 66,rowE c_crawlwayref59_Span 62 p49 c50 i47,rowE c_api_Addr 24 p31 c32 q26,rowE c_api_Entry 66 p2 c3 t1])) 0 (by kernel_rfl) (by kernel_rfl) (by kernel_rfl) (by kernel_rfl) (by kernel_rfl) ⟨fun _ _ _=>rfl,fun _ _ _=>rfl,fun _ _ _=>rfl,fun _ _ _=>rfl,fun _ _ _=>rfl,fun _ _ _=>rfl,fun _ _ _=>rfl,fun _ _ _=>rfl,fun _ _ _=>rfl,trivial⟩ (by kernel_rfl) (fun w_ h=>⟨fun _=>g3 0 none 0 none w_,h.drew⟩) ⟨?_,?_,?_,?_,?_,?_,?_,?_,?_,trivial⟩ ?_
        ·intro Lx g211 s K hl hh k
         show At 180 ((3,_)::(4,_)::(10,_)::(11,_)::(12,_)::(14,_)::(16,_)::(17,_)::(18,_)::Lx) _ _
         refine am ?_
         exact at_nil k
        ·intro Lx g211 s K hl hh k
         show At 180 ((153,_)::(3,_)::(4,_)::(10,_)::(11,_)::(12,_)::(14,_)::(16,_)::(17,_)::(18,_)::Lx) _ _
         refine am ?_
         exact at_nil (at_cast h191 k)
        ·intro Lx g211 s K hl hh k
         show At 180 ((154,_)::(3,_)::(4,_)::(10,_)::(11,_)::(12,_)::(14,_)::(16,_)::(17,_)::(18,_)::Lx) _ _
         obtain rfl:s=0:=by omega
         refine gn ?_
         exact at_nil k
        ·intro Lx g211 s K hl hh k
         show At 180 ((154,_)::(3,_)::(4,_)::(10,_)::(11,_)::(12,_)::(14,_)::(16,_)::(17,_)::(18,_)::Lx) _ _
         refine gn ?_
         exact at_nil k
        ·intro Lx g211 s K hl hh k
         show At 180 ((154,_)::(3,_)::(4,_)::(10,_)::(11,_)::(12,_)::(14,_)::(16,_)::(17,_)::(18,_)::Lx) _ _
         refine gn ?_
         exact at_nil k
        ·intro Lx g211 s K hl hh k
         show At 180 ((154,_)::(156,_)::(157,_)::(3,_)::(4,_)::(10,_)::(11,_)::(12,_)::(14,_)::(16,_)::(17,_)::(18,_)::Lx) _ _
         refine gn ?_
         exact at_nil k
        ·intro Lx g211 s K hl hh k
         show At 180 ((154,_)::(158,_)::(3,_)::(4,_)::(10,_)::(11,_)::(12,_)::(14,_)::(16,_)::(17,_)::(18,_)::Lx) _ _
         obtain rfl:s=0:=by omega
         refine gn ?_
         exact at_nil k
        ·intro Lx g211 s K hl hh k
         show At 180 ((154,_)::(155,_)::(159,_)::(3,_)::(4,_)::(10,_)::(11,_)::(12,_)::(14,_)::(16,_)::(17,_)::(18,_)::Lx) _ _
         refine gn ?_
         exact at_nil k
        ·intro Lx g211 s K hl hh k
         show At 180 ((154,_)::(160,_)::(3,_)::(4,_)::(10,_)::(11,_)::(12,_)::(14,_)::(16,_)::(17,_)::(18,_)::Lx) _ _
         refine aw xp ?_
         exact at_nil k
        intro g211
        show At 180 [(153,_),(154,_),(155,_),(156,_),(157,_),(158,_),(159,_),(160,_),(161,_),(3,_),(4,_),(10,_),(11,_),(12,_),(14,_),(16,_),(17,_),(18,_)] _ _
        refine dz (wq [161,16,14,12,11,10,4,3] ?_)
        refine tn ?_
        refine cf rfl ?_
        refine sn (wq [14,12,11,10,4,3] ?_)
        obtain ⟨h212,hF⟩:=gd hF
        refine at_pure (φ:=∃ b o,p31=some ⟨b,o,none⟩) (fun _ hw=>row_ptr (hw.own (.s (.s (.s .z)))).row h212) ?_
        rintro ⟨b214,o215,hp213⟩
        refine at_invT [.q 168 (fun g217=>.slice p49 i47.length c50) [] 0 1,.q 169 (fun g217=>.slice p31 q26.length c32) [] 0 0,.q 170 (fun g217=>.int .i64 i48) [] 0 0,.q 171 (fun g217=>.pointer (some ⟨b214,o215+Int.toNat i48*17,none⟩)) [1,2] 0 0,.q 172 (fun g217=>.agg (Cd.cs c_api_Addr (lget q26 i48)).toArray) [3] 0 0,.q 173 (fun g217=>.agg (Cd.cs c_api_Addr q163).toArray) [] 0 0,.q 174 (fun g217=>.pointer (some ⟨b59,0+18,none⟩)) [] 0 0,.q 175 (fun g217=>.int .i64 t58.1.f_Owner) [6] 0 0,.q 176 (fun g217=>.agg (Cd.cs c_crawlwayref59_Span ({ { { zv4 with f_From:=lget q26 i48 } with f_To:=q163 } with f_Owner:=t58.1.f_Owner })).toArray) [4,5,7] 0 0,.al 0 177 (fun g217=>.slice (some ⟨((g217 0).1),0,none⟩) ([{ { { zv4 with f_From:=lget q26 i48 } with f_To:=q163 } with f_Owner:=t58.1.f_Owner }]:List S_crawlwayref59_Span).length 1) [8]] (fun g217 s=>match s with | 0=>(Wd w [cellsE b65 (Cd.cs c_api_Addr q163) 24,cellsE b59 (Cd.cs c_api_Entry t58.1) 66,rowE c_crawlwayref59_Span 62 p49 c50 i47,rowE c_api_Addr 24 p31 c32 q26,rowE c_api_Entry 66 p2 c3 t1]) | _=>(Wd w [cellsE ((g217 0).1) (c_crawlwayref59_Span.all ([{ { { zv4 with f_From:=lget q26 i48 } with f_To:=q163 } with f_Owner:=t58.1.f_Owner }]:List S_crawlwayref59_Span)) 62,cellsE b65 (Cd.cs c_api_Addr q163) 24,cellsE b59 (Cd.cs c_api_Entry t58.1) 66,rowE c_crawlwayref59_Span 62 p49 c50 i47,rowE c_api_Addr 24 p31 c32 q26,rowE c_api_Entry 66 p2 c3 t1])) 1 10 (by kernel_rfl) (by kernel_rfl) (by kernel_rfl) (by kernel_rfl) (by kernel_rfl) (by kernel_rfl) ⟨fun _ _ _=>rfl,fun _ _ _=>rfl,fun _ _ _=>rfl,fun _ _ _=>rfl,fun _ _ _=>rfl,fun _ _ _=>rfl,fun _ _ _=>rfl,fun _ _ _=>rfl,fun _ _ _=>rfl,fun g217 g2 h=>by show (.slice (some ⟨((g217 0).1),0,none⟩) ([{ { { zv4 with f_From:=lget q26 i48 } with f_To:=q163 } with f_Owner:=t58.1.f_Owner }]:List S_crawlwayref59_Span).length 1:Value)=.slice (some ⟨((g2 0).1),0,none⟩) ([{ { { zv4 with f_From:=lget q26 i48 } with f_To:=q163 } with f_Owner:=t58.1.f_Owner }]:List S_crawlwayref59_Span).length 1;rw [h 0 (show 0<1 by decide)],trivial⟩ (by kernel_rfl) (fun w_ h=>⟨fun _=>g3 0 none 0 none w_,h.drew⟩) ⟨?_,?_,?_,?_,?_,?_,?_,?_,?_,?_,trivial⟩ ?_
        ·intro Lx g217 s K hl hh k
         show At 180 ((3,_)::(4,_)::(10,_)::(11,_)::(12,_)::(14,_)::Lx) _ _
         refine am ?_
         exact at_nil k
        ·intro Lx g217 s K hl hh k
         show At 180 ((3,_)::(4,_)::(10,_)::(11,_)::(12,_)::(14,_)::Lx) _ _
         refine am ?_
         exact at_nil k
        ·intro Lx g217 s K hl hh k
         show At 180 ((3,_)::(4,_)::(10,_)::(11,_)::(12,_)::(14,_)::Lx) _ _
         refine am ?_
         exact at_nil k
        ·intro Lx g217 s K hl hh k
         show At 180 ((169,_)::(170,_)::(3,_)::(4,_)::(10,_)::(11,_)::(12,_)::(14,_)::Lx) _ _
         refine aw (r_idx underlying88 sizeOf24 rfl rfl h212 hp213) ?_
         exact at_nil k
        ·intro Lx g217 s K hl hh k
         show At 180 ((171,_)::(3,_)::(4,_)::(10,_)::(11,_)::(12,_)::(14,_)::Lx) _ _
         obtain rfl:s=0:=by omega
         refine aw (r_load_aggc (c:=c_api_Addr) (z:=lget q26 i48) isAgg24 sizeOf24 rfl (fun w1 hw=>row_cell (W:=fun w1=>w1=_) (fun w1 h=>by subst h;exact Below.refl _ _) (hw.own (.s (.s (.s .z)))).row h212 hp213 _ rfl)) ?_
         exact at_nil k
        ·intro Lx g217 s K hl hh k
         show At 180 ((3,_)::(4,_)::(10,_)::(11,_)::(12,_)::(14,_)::Lx) _ _
         obtain rfl:s=0:=by omega
         refine aw (r_load_aggc (c:=c_api_Addr) (z:=q163) isAgg24 sizeOf24 rfl (lens_cell .z lw)) ?_
         exact at_nil k
        ·intro Lx g217 s K hl hh k
         show At 180 ((3,_)::(4,_)::(10,_)::(11,_)::(12,_)::(14,_)::Lx) _ _
         refine fa 18 underlying66 rfl sizeOf3 ?_
         exact at_nil k
        ·intro Lx g217 s K hl hh k
         show At 180 ((174,_)::(3,_)::(4,_)::(10,_)::(11,_)::(12,_)::(14,_)::Lx) _ _
         obtain rfl:s=0:=by omega
         refine aw (r_load_cell isAgg3 rfl (lens_cell0 (c:=(cInt .i64)) (y:=t58.1.f_Owner) (.s .z) (Lens.comp lw (fun z=>{ t58.1 with f_Owner:=z }) (c_api_Entry_f_Owner t58.1)) rfl)) ?_
         exact at_nil k
        ·intro Lx g217 s K hl hh k
         show At 180 ((172,_)::(173,_)::(175,_)::(3,_)::(4,_)::(10,_)::(11,_)::(12,_)::(14,_)::Lx) _ _
         obtain rfl:s=0:=by omega
         refine aw (r_build_struct (zs:=Cd.cs c_crawlwayref59_Span zv4) (cs:=Cd.cs c_crawlwayref59_Span ({ { { zv4 with f_From:=lget q26 i48 } with f_To:=q163 } with f_Owner:=t58.1.f_Owner })) underlying62 zeroValue62 rfl (places_crawlwayref59_Span_62) rfl (fill_step (c:=c_api_Addr) (z:=lget q26 i48) rfl (c_crawlwayref59_Span_f_From zv4) rfl (fill_step (c:=c_api_Addr) (z:=q163) rfl (c_crawlwayref59_Span_f_To ({ zv4 with f_From:=lget q26 i48 })) rfl (fill_step (c:=(cInt .i64)) (z:=t58.1.f_Owner) rfl (c_crawlwayref59_Span_f_Owner ({ { zv4 with f_From:=lget q26 i48 } with f_To:=q163 })) rfl rfl)))) ?_
         exact at_nil k
        ·intro Lx g217 K k
         show At 180 ((176,_)::(3,_)::(4,_)::(10,_)::(11,_)::(12,_)::(14,_)::Lx) _ _
         refine at_litL (c:=c_crawlwayref59_Span) ([zv4]:List S_crawlwayref59_Span) ([{ { { zv4 with f_From:=lget q26 i48 } with f_To:=q163 } with f_Owner:=t58.1.f_Owner }]:List S_crawlwayref59_Span) underlying57 sizeOf62 zeroValue62 rfl rfl rfl (by kernel_rfl) (fill_step (c:=c_crawlwayref59_Span) (z:={ { { zv4 with f_From:=lget q26 i48 } with f_To:=q163 } with f_Owner:=t58.1.f_Owner }) rfl (Lens.all c_crawlwayref59_Span ([zv4]:List S_crawlwayref59_Span) 0 (by first | decide | exact Nat.le_of_ble_eq_true rfl)) rfl rfl) rfl ?_
         intro b216
         exact at_nil (k (g3 b216 none 0 none w))
        intro g217
        show At 180 [(168,_),(169,_),(170,_),(171,_),(172,_),(173,_),(174,_),(175,_),(176,_),(177,_),(3,_),(4,_),(10,_),(11,_),(12,_),(14,_)] _ _
        obtain ⟨h218,hF⟩:=gd hF
        refine at_append (z:=.agg (Cd.cs c_crawlwayref59_Span zv4).toArray) (c:=c_crawlwayref59_Span) (ys:=([{ { { zv4 with f_From:=lget q26 i48 } with f_To:=q163 } with f_Owner:=t58.1.f_Owner }]:List S_crawlwayref59_Span)) (.s (.s (.s .z))) underlying57 infoF362 (by kernel_rfl) (by kernel_rfl) rfl rfl rfl rfl (fun _ hw=>cells_src (hw.ok (Upd.mem .z))) (by kernel_rfl) h218 (app_small h218) rfl ?_
        intro p219 c220
        refine aa (qn (dz (dz (dz (wq [11,10,4,3] ?_)))))
        refine bm ?_
        refine qr (am (aw xa (aa (nwq [11,10,4,3] ?_))))
        exact at_weak_k (ih _ _ _ hF K p219 c220) ⟨rfl,rfl,rfl,rfl,trivial⟩
       refine cf h184 ?_
       refine sn (wq [14,12,11,10,4,3] ?_)
       obtain ⟨h221,hF⟩:=gd hF
       refine at_pure (φ:=∃ b o,p31=some ⟨b,o,none⟩) (fun _ hw=>row_ptr (hw.own (.s (.s (.s .z)))).row h221) ?_
       rintro ⟨b223,o224,hp222⟩
       refine at_invT [.q 168 (fun g226=>.slice p49 i47.length c50) [] 0 1,.q 169 (fun g226=>.slice p31 q26.length c32) [] 0 0,.q 170 (fun g226=>.int .i64 i48) [] 0 0,.q 171 (fun g226=>.pointer (some ⟨b223,o224+Int.toNat i48*17,none⟩)) [1,2] 0 0,.q 172 (fun g226=>.agg (Cd.cs c_api_Addr (lget q26 i48)).toArray) [3] 0 0,.q 173 (fun g226=>.agg (Cd.cs c_api_Addr q163).toArray) [] 0 0,.q 174 (fun g226=>.pointer (some ⟨b59,0+18,none⟩)) [] 0 0,.q 175 (fun g226=>.int .i64 t58.1.f_Owner) [6] 0 0,.q 176 (fun g226=>.agg (Cd.cs c_crawlwayref59_Span ({ { { zv4 with f_From:=lget q26 i48 } with f_To:=q163 } with f_Owner:=t58.1.f_Owner })).toArray) [4,5,7] 0 0,.al 0 177 (fun g226=>.slice (some ⟨((g226 0).1),0,none⟩) ([{ { { zv4 with f_From:=lget q26 i48 } with f_To:=q163 } with f_Owner:=t58.1.f_Owner }]:List S_crawlwayref59_Span).length 1) [8]] (fun g226 s=>match s with | 0=>(Wd w [cellsE b65 (Cd.cs c_api_Addr q163) 24,cellsE b59 (Cd.cs c_api_Entry t58.1) 66,rowE c_crawlwayref59_Span 62 p49 c50 i47,rowE c_api_Addr 24 p31 c32 q26,rowE c_api_Entry 66 p2 c3 t1]) | _=>(Wd w [cellsE ((g226 0).1) (c_crawlwayref59_Span.all ([{ { { zv4 with f_From:=lget q26 i48 } with f_To:=q163 } with f_Owner:=t58.1.f_Owner }]:List S_crawlwayref59_Span)) 62,cellsE b65 (Cd.cs c_api_Addr q163) 24,cellsE b59 (Cd.cs c_api_Entry t58.1) 66,rowE c_crawlwayref59_Span 62 p49 c50 i47,rowE c_api_Addr 24 p31 c32 q26,rowE c_api_Entry 66 p2 c3 t1])) 1 10 (by kernel_rfl) (by kernel_rfl) (by kernel_rfl) (by kernel_rfl) (by kernel_rfl) (by kernel_rfl) ⟨fun _ _ _=>rfl,fun _ _ _=>rfl,fun _ _ _=>rfl,fun _ _ _=>rfl,fun _ _ _=>rfl,fun _ _ _=>rfl,fun _ _ _=>rfl,fun _ _ _=>rfl,fun _ _ _=>rfl,fun g226 g2 h=>by show (.slice (some ⟨((g226 0).1),0,none⟩) ([{ { { zv4 with f_From:=lget q26 i48 } with f_To:=q163 } with f_Owner:=t58.1.f_Owner }]:List S_crawlwayref59_Span).length 1:Value)=.slice (some ⟨((g2 0).1),0,none⟩) ([{ { { zv4 with f_From:=lget q26 i48 } with f_To:=q163 } with f_Owner:=t58.1.f_Owner }]:List S_crawlwayref59_Span).length 1;rw [h 0 (show 0<1 by decide)],trivial⟩ (by kernel_rfl) (fun w_ h=>⟨fun _=>g3 0 none 0 none w_,h.drew⟩) ⟨?_,?_,?_,?_,?_,?_,?_,?_,?_,?_,trivial⟩ ?_
       ·intro Lx g226 s K hl hh k
        show At 180 ((3,_)::(4,_)::(10,_)::(11,_)::(12,_)::(14,_)::Lx) _ _
        refine am ?_
        exact at_nil k
       ·intro Lx g226 s K hl hh k
        show At 180 ((3,_)::(4,_)::(10,_)::(11,_)::(12,_)::(14,_)::Lx) _ _
        refine am ?_
        exact at_nil k
       ·intro Lx g226 s K hl hh k
        show At 180 ((3,_)::(4,_)::(10,_)::(11,_)::(12,_)::(14,_)::Lx) _ _
        refine am ?_
        exact at_nil k
       ·intro Lx g226 s K hl hh k
        show At 180 ((169,_)::(170,_)::(3,_)::(4,_)::(10,_)::(11,_)::(12,_)::(14,_)::Lx) _ _
        refine aw (r_idx underlying88 sizeOf24 rfl rfl h221 hp222) ?_
        exact at_nil k
       ·intro Lx g226 s K hl hh k
        show At 180 ((171,_)::(3,_)::(4,_)::(10,_)::(11,_)::(12,_)::(14,_)::Lx) _ _
        obtain rfl:s=0:=by omega
        refine aw (r_load_aggc (c:=c_api_Addr) (z:=lget q26 i48) isAgg24 sizeOf24 rfl (fun w1 hw=>row_cell (W:=fun w1=>w1=_) (fun w1 h=>by subst h;exact Below.refl _ _) (hw.own (.s (.s (.s .z)))).row h221 hp222 _ rfl)) ?_
        exact at_nil k
       ·intro Lx g226 s K hl hh k
        show At 180 ((3,_)::(4,_)::(10,_)::(11,_)::(12,_)::(14,_)::Lx) _ _
        obtain rfl:s=0:=by omega
        refine aw (r_load_aggc (c:=c_api_Addr) (z:=q163) isAgg24 sizeOf24 rfl (lens_cell .z lw)) ?_
        exact at_nil k
       ·intro Lx g226 s K hl hh k
        show At 180 ((3,_)::(4,_)::(10,_)::(11,_)::(12,_)::(14,_)::Lx) _ _
        refine fa 18 underlying66 rfl sizeOf3 ?_
        exact at_nil k
       ·intro Lx g226 s K hl hh k
        show At 180 ((174,_)::(3,_)::(4,_)::(10,_)::(11,_)::(12,_)::(14,_)::Lx) _ _
        obtain rfl:s=0:=by omega
        refine aw (r_load_cell isAgg3 rfl (lens_cell0 (c:=(cInt .i64)) (y:=t58.1.f_Owner) (.s .z) (Lens.comp lw (fun z=>{ t58.1 with f_Owner:=z }) (c_api_Entry_f_Owner t58.1)) rfl)) ?_
        exact at_nil k
       ·intro Lx g226 s K hl hh k
        show At 180 ((172,_)::(173,_)::(175,_)::(3,_)::(4,_)::(10,_)::(11,_)::(12,_)::(14,_)::Lx) _ _
        obtain rfl:s=0:=by omega
        refine aw (r_build_struct (zs:=Cd.cs c_crawlwayref59_Span zv4) (cs:=Cd.cs c_crawlwayref59_Span ({ { { zv4 with f_From:=lget q26 i48 } with f_To:=q163 } with f_Owner:=t58.1.f_Owner })) underlying62 zeroValue62 rfl (places_crawlwayref59_Span_62) rfl (fill_step (c:=c_api_Addr) (z:=lget q26 i48) rfl (c_crawlwayref59_Span_f_From zv4) rfl (fill_step (c:=c_api_Addr) (z:=q163) rfl (c_crawlwayref59_Span_f_To ({ zv4 with f_From:=lget q26 i48 })) rfl (fill_step (c:=(cInt .i64)) (z:=t58.1.f_Owner) rfl (c_crawlwayref59_Span_f_Owner ({ { zv4 with f_From:=lget q26 i48 } with f_To:=q163 })) rfl rfl)))) ?_
        exact at_nil k
       ·intro Lx g226 K k
        show At 180 ((176,_)::(3,_)::(4,_)::(10,_)::(11,_)::(12,_)::(14,_)::Lx) _ _
        refine at_litL (c:=c_crawlwayref59_Span) ([zv4]:List S_crawlwayref59_Span) ([{ { { zv4 with f_From:=lget q26 i48 } with f_To:=q163 } with f_Owner:=t58.1.f_Owner }]:List S_crawlwayref59_Span) underlying57 sizeOf62 zeroValue62 rfl rfl rfl (by kernel_rfl) (fill_step (c:=c_crawlwayref59_Span) (z:={ { { zv4 with f_From:=lget q26 i48 } with f_To:=q163 } with f_Owner:=t58.1.f_Owner }) rfl (Lens.all c_crawlwayref59_Span ([zv4]:List S_crawlwayref59_Span) 0 (by first | decide | exact Nat.le_of_ble_eq_true rfl)) rfl rfl) rfl ?_
        intro b225
        exact at_nil (k (g3 b225 none 0 none w))
       intro g226
       show At 180 [(168,_),(169,_),(170,_),(171,_),(172,_),(173,_),(174,_),(175,_),(176,_),(177,_),(3,_),(4,_),(10,_),(11,_),(12,_),(14,_)] _ _
       obtain ⟨h227,hF⟩:=gd hF
       refine at_append (z:=.agg (Cd.cs c_crawlwayref59_Span zv4).toArray) (c:=c_crawlwayref59_Span) (ys:=([{ { { zv4 with f_From:=lget q26 i48 } with f_To:=q163 } with f_Owner:=t58.1.f_Owner }]:List S_crawlwayref59_Span)) (.s (.s (.s .z))) underlying57 infoF362 (by kernel_rfl) (by kernel_rfl) rfl rfl rfl rfl (fun _ hw=>cells_src (hw.ok (Upd.mem .z))) (by kernel_rfl) h227 (app_small h227) rfl ?_
       intro p228 c229
       refine aa (qn (dz (dz (dz (wq [11,10,4,3] ?_)))))
       refine bm ?_
       refine qr (am (aw xa (aa (nwq [11,10,4,3] ?_))))
       exact at_weak_k (ih _ _ _ hF K p228 c229) ⟨rfl,rfl,rfl,rfl,trivial⟩
      skip
      refine at_inv [.q 115 (fun g230=>.int .i64 (i47.length:Int)) [] 0 0,.q 116 (fun g230=>.bool (decide ((i47.length:Int)>0))) [0] 0 0,.q 117 (fun g230=>.bool true) [1] 0 0,.q 118 (fun g230=>.slice p49 i47.length c50) [2] 0 0,.q 119 (fun g230=>.int .i64 (i47.length:Int)) [2] 0 0,.q 120 (fun g230=>.int .i64 (wr .i64 ((i47.length:Int)-1))) [2,4] 0 0,.q 121 (fun g230=>.pointer (some ⟨b172,o173+Int.toNat (wr .i64 ((i47.length:Int)-1))*35,none⟩)) [2,3,5] 0 0,.q 122 (fun g230=>.pointer (some ⟨b172,o173+Int.toNat (wr .i64 ((i47.length:Int)-1))*35+34,none⟩)) [2,6] 0 0,.q 123 (fun g230=>.int .i64 ((lget i47 (wr .i64 ((i47.length:Int)-1))).f_Owner)) [2,7] 0 0,.q 124 (fun g230=>.pointer (some ⟨b59,0+18,none⟩)) [2] 0 0,.q 125 (fun g230=>.int .i64 t58.1.f_Owner) [2,9] 0 0,.q 126 (fun g230=>.bool ((lget i47 (wr .i64 ((i47.length:Int)-1))).f_Owner==t58.1.f_Owner)) [2,8,10] 0 0,.q 127 (fun g230=>.bool ((lget i47 (wr .i64 ((i47.length:Int)-1))).f_Owner==t58.1.f_Owner)) [2,11] 0 0,.q 128 (fun g230=>.bool false) [12] 0 0,.q 129 (fun g230=>undef) [13] 0 0,.q 130 (fun g230=>undef) [13] 0 0,.q 131 (fun g230=>undef) [13,15] 0 0,.q 132 (fun g230=>undef) [13,14,16] 0 0,.q 133 (fun g230=>undef) [13,17] 0 0,.q 134 (fun g230=>undef) [13,18] 0 0,.q 135 (fun g230=>undef) [13,19] 0 0,.q 136 (fun g230=>undef) [13] 0 0,.q 137 (fun g230=>undef) [13] 0 0,.q 138 (fun g230=>undef) [13,21,22] 0 0,.q 139 (fun g230=>undef) [13,23] 0 0,.q 140 (fun g230=>undef) [13,24] 0 0,.q 141 (fun g230=>undef) [13,20,25] 0 0,.q 142 (fun g230=>.bool false) [13,26] 0 0] (fun g230 s=>match s with | _=>(Wd w [cellsE b65 (Cd.cs c_api_Addr q163) 24,cellsE b59 (Cd.cs c_api_Entry t58.1) 66,rowE c_crawlwayref59_Span 62 p49 c50 i47,rowE c_api_Addr 24 p31 c32 q26,rowE c_api_Entry 66 p2 c3 t1])) 0 (by kernel_rfl) (by kernel_rfl) (by kernel_rfl) (by kernel_rfl) (by kernel_rfl) ⟨fun _ _ _=>rfl,fun _ _ _=>rfl,fun _ _ _=>rfl,fun _ _ _=>rfl,fun _ _ _=>rfl,fun _ _ _=>rfl,fun _ _ _=>rfl,fun _ _ _=>rfl,fun _ _ _=>rfl,fun _ _ _=>rfl,fun _ _ _=>rfl,fun _ _ _=>rfl,fun _ _ _=>rfl,fun _ _ _=>rfl,fun _ _ _=>rfl,fun _ _ _=>rfl,fun _ _ _=>rfl,fun _ _ _=>rfl,fun _ _ _=>rfl,fun _ _ _=>rfl,fun _ _ _=>rfl,fun _ _ _=>rfl,fun _ _ _=>rfl,fun _ _ _=>rfl,fun _ _ _=>rfl,fun _ _ _=>rfl,fun _ _ _=>rfl,fun _ _ _=>rfl,trivial⟩ (by kernel_rfl) (fun w_ h=>⟨fun _=>g3 0 none 0 none w_,h.drew⟩) ⟨?_,?_,?_,?_,?_,?_,?_,?_,?_,?_,?_,?_,?_,?_,?_,?_,?_,?_,?_,?_,?_,?_,?_,?_,?_,?_,?_,?_,trivial⟩ ?_
      ·intro Lx g230 s K hl hh k
       show At 180 ((3,_)::(4,_)::(10,_)::(11,_)::(12,_)::(14,_)::(16,_)::Lx) _ _
       refine am ?_
       exact at_nil k
      ·intro Lx g230 s K hl hh k
       show At 180 ((115,_)::(3,_)::(4,_)::(10,_)::(11,_)::(12,_)::(14,_)::(16,_)::Lx) _ _
       refine aw (r_igtr rfl rfl) ?_
       exact at_nil k
      ·intro Lx g230 s K hl hh k
       show At 180 ((116,_)::(3,_)::(4,_)::(10,_)::(11,_)::(12,_)::(14,_)::(16,_)::Lx) _ _
       refine am ?_
       exact at_nil (at_cast h169 k)
      ·intro Lx g230 s K hl hh k
       show At 180 ((117,_)::(3,_)::(4,_)::(10,_)::(11,_)::(12,_)::(14,_)::(16,_)::Lx) _ _
       refine gy ?_
       refine am ?_
       exact at_nil k
      ·intro Lx g230 s K hl hh k
       show At 180 ((117,_)::(3,_)::(4,_)::(10,_)::(11,_)::(12,_)::(14,_)::(16,_)::Lx) _ _
       refine gy ?_
       refine am ?_
       exact at_nil k
      ·intro Lx g230 s K hl hh k
       show At 180 ((117,_)::(119,_)::(3,_)::(4,_)::(10,_)::(11,_)::(12,_)::(14,_)::(16,_)::Lx) _ _
       refine gy ?_
       refine aw (r_isub rfl rfl) ?_
       exact at_nil k
      ·intro Lx g230 s K hl hh k
       show At 180 ((117,_)::(118,_)::(120,_)::(3,_)::(4,_)::(10,_)::(11,_)::(12,_)::(14,_)::(16,_)::Lx) _ _
       refine gy ?_
       refine aw (r_idx underlying57 sizeOf62 rfl rfl h170 hp171) ?_
       exact at_nil k
      ·intro Lx g230 s K hl hh k
       show At 180 ((117,_)::(121,_)::(3,_)::(4,_)::(10,_)::(11,_)::(12,_)::(14,_)::(16,_)::Lx) _ _
       refine gy ?_
       refine fa 34 underlying62 rfl sizeOf3 ?_
       exact at_nil k
      ·intro Lx g230 s K hl hh k
       show At 180 ((117,_)::(122,_)::(3,_)::(4,_)::(10,_)::(11,_)::(12,_)::(14,_)::(16,_)::Lx) _ _
       refine gy ?_
       obtain rfl:s=0:=by omega
       refine aw (r_load_cell isAgg3 rfl (fun w1 hw=>row_lens0 (y:=(lget i47 (wr .i64 ((i47.length:Int)-1))).f_Owner) (W:=fun w1=>w1=_) (fun w1 h=>by subst h;exact Below.refl _ _) (hw.own (.s (.s .z))).row h170 hp171 (Lens.comp lw (fun z=>{ (lget i47 (wr .i64 ((i47.length:Int)-1))) with f_Owner:=z }) (c_crawlwayref59_Span_f_Owner (lget i47 (wr .i64 ((i47.length:Int)-1))))) rfl _ rfl)) ?_
       exact at_nil k
      ·intro Lx g230 s K hl hh k
       show At 180 ((117,_)::(3,_)::(4,_)::(10,_)::(11,_)::(12,_)::(14,_)::(16,_)::Lx) _ _
       refine gy ?_
       refine fa 18 underlying66 rfl sizeOf3 ?_
       exact at_nil k
      ·intro Lx g230 s K hl hh k
       show At 180 ((117,_)::(124,_)::(3,_)::(4,_)::(10,_)::(11,_)::(12,_)::(14,_)::(16,_)::Lx) _ _
       refine gy ?_
       obtain rfl:s=0:=by omega
       refine aw (r_load_cell isAgg3 rfl (lens_cell0 (c:=(cInt .i64)) (y:=t58.1.f_Owner) (.s .z) (Lens.comp lw (fun z=>{ t58.1 with f_Owner:=z }) (c_api_Entry_f_Owner t58.1)) rfl)) ?_
       exact at_nil k
      ·intro Lx g230 s K hl hh k
       show At 180 ((117,_)::(123,_)::(125,_)::(3,_)::(4,_)::(10,_)::(11,_)::(12,_)::(14,_)::(16,_)::Lx) _ _
       refine gy ?_
       refine aw xq ?_
       exact at_nil k
      ·intro Lx g230 s K hl hh k
       show At 180 ((117,_)::(126,_)::(3,_)::(4,_)::(10,_)::(11,_)::(12,_)::(14,_)::(16,_)::Lx) _ _
       refine aw xp ?_
       exact at_nil k
      ·intro Lx g230 s K hl hh k
       show At 180 ((127,_)::(3,_)::(4,_)::(10,_)::(11,_)::(12,_)::(14,_)::(16,_)::Lx) _ _
       refine am ?_
       exact at_nil (at_cast h174 k)
      ·intro Lx g230 s K hl hh k
       show At 180 ((128,_)::(3,_)::(4,_)::(10,_)::(11,_)::(12,_)::(14,_)::(16,_)::Lx) _ _
       refine gn ?_
       exact at_nil k
      ·intro Lx g230 s K hl hh k
       show At 180 ((128,_)::(3,_)::(4,_)::(10,_)::(11,_)::(12,_)::(14,_)::(16,_)::Lx) _ _
       refine gn ?_
       exact at_nil k
      ·intro Lx g230 s K hl hh k
       show At 180 ((128,_)::(130,_)::(3,_)::(4,_)::(10,_)::(11,_)::(12,_)::(14,_)::(16,_)::Lx) _ _
       refine gn ?_
       exact at_nil k
      ·intro Lx g230 s K hl hh k
       show At 180 ((128,_)::(129,_)::(131,_)::(3,_)::(4,_)::(10,_)::(11,_)::(12,_)::(14,_)::(16,_)::Lx) _ _
       refine gn ?_
       exact at_nil k
      ·intro Lx g230 s K hl hh k
       show At 180 ((128,_)::(132,_)::(3,_)::(4,_)::(10,_)::(11,_)::(12,_)::(14,_)::(16,_)::Lx) _ _
       refine gn ?_
       exact at_nil k
      ·intro Lx g230 s K hl hh k
       show At 180 ((128,_)::(133,_)::(3,_)::(4,_)::(10,_)::(11,_)::(12,_)::(14,_)::(16,_)::Lx) _ _
       refine gn ?_
       exact at_nil k
      ·intro Lx g230 s K hl hh k
       show At 180 ((128,_)::(134,_)::(3,_)::(4,_)::(10,_)::(11,_)::(12,_)::(14,_)::(16,_)::Lx) _ _
       obtain rfl:s=0:=by omega
       refine gn ?_
       exact at_nil k
      ·intro Lx g230 s K hl hh k
       show At 180 ((128,_)::(3,_)::(4,_)::(10,_)::(11,_)::(12,_)::(14,_)::(16,_)::Lx) _ _
       refine gn ?_
       exact at_nil k
      ·intro Lx g230 s K hl hh k
       show At 180 ((128,_)::(3,_)::(4,_)::(10,_)::(11,_)::(12,_)::(14,_)::(16,_)::Lx) _ _
       refine gn ?_
       exact at_nil k
      ·intro Lx g230 s K hl hh k
       show At 180 ((128,_)::(136,_)::(137,_)::(3,_)::(4,_)::(10,_)::(11,_)::(12,_)::(14,_)::(16,_)::Lx) _ _
       refine gn ?_
       exact at_nil k
      ·intro Lx g230 s K hl hh k
       show At 180 ((128,_)::(138,_)::(3,_)::(4,_)::(10,_)::(11,_)::(12,_)::(14,_)::(16,_)::Lx) _ _
       refine gn ?_
       exact at_nil k
      ·intro Lx g230 s K hl hh k
       show At 180 ((128,_)::(139,_)::(3,_)::(4,_)::(10,_)::(11,_)::(12,_)::(14,_)::(16,_)::Lx) _ _
       obtain rfl:s=0:=by omega
       refine gn ?_
       exact at_nil k
      ·intro Lx g230 s K hl hh k
       show At 180 ((128,_)::(135,_)::(140,_)::(3,_)::(4,_)::(10,_)::(11,_)::(12,_)::(14,_)::(16,_)::Lx) _ _
       refine gn ?_
       exact at_nil k
      ·intro Lx g230 s K hl hh k
       show At 180 ((128,_)::(141,_)::(3,_)::(4,_)::(10,_)::(11,_)::(12,_)::(14,_)::(16,_)::Lx) _ _
       refine aw xp ?_
       exact at_nil k
      intro g230
      show At 180 [(115,_),(116,_),(117,_),(118,_),(119,_),(120,_),(121,_),(122,_),(123,_),(124,_),(125,_),(126,_),(127,_),(128,_),(129,_),(130,_),(131,_),(132,_),(133,_),(134,_),(135,_),(136,_),(137,_),(138,_),(139,_),(140,_),(141,_),(142,_),(3,_),(4,_),(10,_),(11,_),(12,_),(14,_),(16,_)] _ _
      refine wq [142,16,14,12,11,10,4,3] ?_
      refine tn ?_
      refine cf rfl ?_
      refine sn (wq [14,12,11,10,4,3] ?_)
      obtain ⟨h231,hF⟩:=gd hF
      refine at_pure (φ:=∃ b o,p31=some ⟨b,o,none⟩) (fun _ hw=>row_ptr (hw.own (.s (.s (.s .z)))).row h231) ?_
      rintro ⟨b233,o234,hp232⟩
      refine at_invT [.q 168 (fun g236=>.slice p49 i47.length c50) [] 0 1,.q 169 (fun g236=>.slice p31 q26.length c32) [] 0 0,.q 170 (fun g236=>.int .i64 i48) [] 0 0,.q 171 (fun g236=>.pointer (some ⟨b233,o234+Int.toNat i48*17,none⟩)) [1,2] 0 0,.q 172 (fun g236=>.agg (Cd.cs c_api_Addr (lget q26 i48)).toArray) [3] 0 0,.q 173 (fun g236=>.agg (Cd.cs c_api_Addr q163).toArray) [] 0 0,.q 174 (fun g236=>.pointer (some ⟨b59,0+18,none⟩)) [] 0 0,.q 175 (fun g236=>.int .i64 t58.1.f_Owner) [6] 0 0,.q 176 (fun g236=>.agg (Cd.cs c_crawlwayref59_Span ({ { { zv4 with f_From:=lget q26 i48 } with f_To:=q163 } with f_Owner:=t58.1.f_Owner })).toArray) [4,5,7] 0 0,.al 0 177 (fun g236=>.slice (some ⟨((g236 0).1),0,none⟩) ([{ { { zv4 with f_From:=lget q26 i48 } with f_To:=q163 } with f_Owner:=t58.1.f_Owner }]:List S_crawlwayref59_Span).length 1) [8]] (fun g236 s=>match s with | 0=>(Wd w [cellsE b65 (Cd.cs c_api_Addr q163) 24,cellsE b59 (Cd.cs c_api_Entry t58.1) 66,rowE c_crawlwayref59_Span 62 p49 c50 i47,rowE c_api_Addr 24 p31 c32 q26,rowE c_api_Entry 66 p2 c3 t1]) | _=>(Wd w [cellsE ((g236 0).1) (c_crawlwayref59_Span.all ([{ { { zv4 with f_From:=lget q26 i48 } with f_To:=q163 } with f_Owner:=t58.1.f_Owner }]:List S_crawlwayref59_Span)) 62,cellsE b65 (Cd.cs c_api_Addr q163) 24,cellsE b59 (Cd.cs c_api_Entry t58.1) 66,rowE c_crawlwayref59_Span 62 p49 c50 i47,rowE c_api_Addr 24 p31 c32 q26,rowE c_api_Entry 66 p2 c3 t1])) 1 10 (by kernel_rfl) (by kernel_rfl) (by kernel_rfl) (by kernel_rfl) (by kernel_rfl) (by kernel_rfl) ⟨fun _ _ _=>rfl,fun _ _ _=>rfl,fun _ _ _=>rfl,fun _ _ _=>rfl,fun _ _ _=>rfl,fun _ _ _=>rfl,fun _ _ _=>rfl,fun _ _ _=>rfl,fun _ _ _=>rfl,fun g236 g2 h=>by show (.slice (some ⟨((g236 0).1),0,none⟩) ([{ { { zv4 with f_From:=lget q26 i48 } with f_To:=q163 } with f_Owner:=t58.1.f_Owner }]:List S_crawlwayref59_Span).length 1:Value)=.slice (some ⟨((g2 0).1),0,none⟩) ([{ { { zv4 with f_From:=lget q26 i48 } with f_To:=q163 } with f_Owner:=t58.1.f_Owner }]:List S_crawlwayref59_Span).length 1;rw [h 0 (show 0<1 by decide)],trivial⟩ (by kernel_rfl) (fun w_ h=>⟨fun _=>g3 0 none 0 none w_,h.drew⟩) ⟨?_,?_,?_,?_,?_,?_,?_,?_,?_,?_,trivial⟩ ?_
      ·intro Lx g236 s K hl hh k
       show At 180 ((3,_)::(4,_)::(10,_)::(11,_)::(12,_)::(14,_)::Lx) _ _
       refine am ?_
       exact at_nil k
      ·intro Lx g236 s K hl hh k
       show At 180 ((3,_)::(4,_)::(10,_)::(11,_)::(12,_)::(14,_)::Lx) _ _
       refine am ?_
       exact at_nil k
      ·intro Lx g236 s K hl hh k
       show At 180 ((3,_)::(4,_)::(10,_)::(11,_)::(12,_)::(14,_)::Lx) _ _
       refine am ?_
       exact at_nil k
      ·intro Lx g236 s K hl hh k
       show At 180 ((169,_)::(170,_)::(3,_)::(4,_)::(10,_)::(11,_)::(12,_)::(14,_)::Lx) _ _
       refine aw (r_idx underlying88 sizeOf24 rfl rfl h231 hp232) ?_
       exact at_nil k
      ·intro Lx g236 s K hl hh k
       show At 180 ((171,_)::(3,_)::(4,_)::(10,_)::(11,_)::(12,_)::(14,_)::Lx) _ _
       obtain rfl:s=0:=by omega
       refine aw (r_load_aggc (c:=c_api_Addr) (z:=lget q26 i48) isAgg24 sizeOf24 rfl (fun w1 hw=>row_cell (W:=fun w1=>w1=_) (fun w1 h=>by subst h;exact Below.refl _ _) (hw.own (.s (.s (.s .z)))).row h231 hp232 _ rfl)) ?_
       exact at_nil k
      ·intro Lx g236 s K hl hh k
       show At 180 ((3,_)::(4,_)::(10,_)::(11,_)::(12,_)::(14,_)::Lx) _ _
       obtain rfl:s=0:=by omega
       refine aw (r_load_aggc (c:=c_api_Addr) (z:=q163) isAgg24 sizeOf24 rfl (lens_cell .z lw)) ?_
       exact at_nil k
      ·intro Lx g236 s K hl hh k
       show At 180 ((3,_)::(4,_)::(10,_)::(11,_)::(12,_)::(14,_)::Lx) _ _
       refine fa 18 underlying66 rfl sizeOf3 ?_
       exact at_nil k
      ·intro Lx g236 s K hl hh k
       show At 180 ((174,_)::(3,_)::(4,_)::(10,_)::(11,_)::(12,_)::(14,_)::Lx) _ _
       obtain rfl:s=0:=by omega
       refine aw (r_load_cell isAgg3 rfl (lens_cell0 (c:=(cInt .i64)) (y:=t58.1.f_Owner) (.s .z) (Lens.comp lw (fun z=>{ t58.1 with f_Owner:=z }) (c_api_Entry_f_Owner t58.1)) rfl)) ?_
       exact at_nil k
      ·intro Lx g236 s K hl hh k
       show At 180 ((172,_)::(173,_)::(175,_)::(3,_)::(4,_)::(10,_)::(11,_)::(12,_)::(14,_)::Lx) _ _
       obtain rfl:s=0:=by omega
       refine aw (r_build_struct (zs:=Cd.cs c_crawlwayref59_Span zv4) (cs:=Cd.cs c_crawlwayref59_Span ({ { { zv4 with f_From:=lget q26 i48 } with f_To:=q163 } with f_Owner:=t58.1.f_Owner })) underlying62 zeroValue62 rfl (places_crawlwayref59_Span_62) rfl (fill_step (c:=c_api_Addr) (z:=lget q26 i48) rfl (c_crawlwayref59_Span_f_From zv4) rfl (fill_step (c:=c_api_Addr) (z:=q163) rfl (c_crawlwayref59_Span_f_To ({ zv4 with f_From:=lget q26 i48 })) rfl (fill_step (c:=(cInt .i64)) (z:=t58.1.f_Owner) rfl (c_crawlwayref59_Span_f_Owner ({ { zv4 with f_From:=lget q26 i48 } with f_To:=q163 })) rfl rfl)))) ?_
       exact at_nil k
      ·intro Lx g236 K k
       show At 180 ((176,_)::(3,_)::(4,_)::(10,_)::(11,_)::(12,_)::(14,_)::Lx) _ _
       refine at_litL (c:=c_crawlwayref59_Span) ([zv4]:List S_crawlwayref59_Span) ([{ { { zv4 with f_From:=lget q26 i48 } with f_To:=q163 } with f_Owner:=t58.1.f_Owner }]:List S_crawlwayref59_Span) underlying57 sizeOf62 zeroValue62 rfl rfl rfl (by kernel_rfl) (fill_step (c:=c_crawlwayref59_Span) (z:={ { { zv4 with f_From:=lget q26 i48 } with f_To:=q163 } with f_Owner:=t58.1.f_Owner }) rfl (Lens.all c_crawlwayref59_Span ([zv4]:List S_crawlwayref59_Span) 0 (by first | decide | exact Nat.le_of_ble_eq_true rfl)) rfl rfl) rfl ?_
       intro b235
       exact at_nil (k (g3 b235 none 0 none w))
      intro g236
      show At 180 [(168,_),(169,_),(170,_),(171,_),(172,_),(173,_),(174,_),(175,_),(176,_),(177,_),(3,_),(4,_),(10,_),(11,_),(12,_),(14,_)] _ _
      obtain ⟨h237,hF⟩:=gd hF
      refine at_append (z:=.agg (Cd.cs c_crawlwayref59_Span zv4).toArray) (c:=c_crawlwayref59_Span) (ys:=([{ { { zv4 with f_From:=lget q26 i48 } with f_To:=q163 } with f_Owner:=t58.1.f_Owner }]:List S_crawlwayref59_Span)) (.s (.s (.s .z))) underlying57 infoF362 (by kernel_rfl) (by kernel_rfl) rfl rfl rfl rfl (fun _ hw=>cells_src (hw.ok (Upd.mem .z))) (by kernel_rfl) h237 (app_small h237) rfl ?_
      intro p238 c239
      refine aa (qn (dz (dz (dz (wq [11,10,4,3] ?_)))))
      refine bm ?_
      refine qr (am (aw xa (aa (nwq [11,10,4,3] ?_))))
      exact at_weak_k (ih _ _ _ hF K p238 c239) ⟨rfl,rfl,rfl,rfl,trivial⟩
     skip
     refine at_inv [.q 115 (fun g240=>.int .i64 (i47.length:Int)) [] 0 0,.q 116 (fun g240=>.bool (decide ((i47.length:Int)>0))) [0] 0 0,.q 117 (fun g240=>.bool false) [1] 0 0,.q 118 (fun g240=>undef) [2] 0 0,.q 119 (fun g240=>undef) [2] 0 0,.q 120 (fun g240=>undef) [2,4] 0 0,.q 121 (fun g240=>undef) [2,3,5] 0 0,.q 122 (fun g240=>undef) [2,6] 0 0,.q 123 (fun g240=>undef) [2,7] 0 0,.q 124 (fun g240=>undef) [2] 0 0,.q 125 (fun g240=>undef) [2,9] 0 0,.q 126 (fun g240=>undef) [2,8,10] 0 0,.q 127 (fun g240=>.bool false) [2,11] 0 0,.q 128 (fun g240=>.bool false) [12] 0 0,.q 129 (fun g240=>undef) [13] 0 0,.q 130 (fun g240=>undef) [13] 0 0,.q 131 (fun g240=>undef) [13,15] 0 0,.q 132 (fun g240=>undef) [13,14,16] 0 0,.q 133 (fun g240=>undef) [13,17] 0 0,.q 134 (fun g240=>undef) [13,18] 0 0,.q 135 (fun g240=>undef) [13,19] 0 0,.q 136 (fun g240=>undef) [13] 0 0,.q 137 (fun g240=>undef) [13] 0 0,.q 138 (fun g240=>undef) [13,21,22] 0 0,.q 139 (fun g240=>undef) [13,23] 0 0,.q 140 (fun g240=>undef) [13,24] 0 0,.q 141 (fun g240=>undef) [13,20,25] 0 0,.q 142 (fun g240=>.bool false) [13,26] 0 0] (fun g240 s=>match s with | _=>(Wd w [cellsE b65 (Cd.cs c_api_Addr q163) 24,cellsE b59 (Cd.cs c_api_Entry t58.1) 66,rowE c_crawlwayref59_Span 62 p49 c50 i47,rowE c_api_Addr 24 p31 c32 q26,rowE c_api_Entry 66 p2 c3 t1])) 0 (by kernel_rfl) (by kernel_rfl) (by kernel_rfl) (by kernel_rfl) (by kernel_rfl) ⟨fun _ _ _=>rfl,fun _ _ _=>rfl,fun _ _ _=>rfl,fun _ _ _=>rfl,fun _ _ _=>rfl,fun _ _ _=>rfl,fun _ _ _=>rfl,fun _ _ _=>rfl,fun _ _ _=>rfl,fun _ _ _=>rfl,fun _ _ _=>rfl,fun _ _ _=>rfl,fun _ _ _=>rfl,fun _ _ _=>rfl,fun _ _ _=>rfl,fun _ _ _=>rfl,fun _ _ _=>rfl,fun _ _ _=>rfl,fun _ _ _=>rfl,fun _ _ _=>rfl,fun _ _ _=>rfl,fun _ _ _=>rfl,fun _ _ _=>rfl,fun _ _ _=>rfl,fun _ _ _=>rfl,fun _ _ _=>rfl,fun _ _ _=>rfl,fun _ _ _=>rfl,trivial⟩ (by kernel_rfl) (fun w_ h=>⟨fun _=>g3 0 none 0 none w_,h.drew⟩) ⟨?_,?_,?_,?_,?_,?_,?_,?_,?_,?_,?_,?_,?_,?_,?_,?_,?_,?_,?_,?_,?_,?_,?_,?_,?_,?_,?_,?_,trivial⟩ ?_
     ·intro Lx g240 s K hl hh k
      show At 180 ((3,_)::(4,_)::(10,_)::(11,_)::(12,_)::(14,_)::(16,_)::Lx) _ _
      refine am ?_
      exact at_nil k
     ·intro Lx g240 s K hl hh k
      show At 180 ((115,_)::(3,_)::(4,_)::(10,_)::(11,_)::(12,_)::(14,_)::(16,_)::Lx) _ _
      refine aw (r_igtr rfl rfl) ?_
      exact at_nil k
     ·intro Lx g240 s K hl hh k
      show At 180 ((116,_)::(3,_)::(4,_)::(10,_)::(11,_)::(12,_)::(14,_)::(16,_)::Lx) _ _
      refine am ?_
      exact at_nil (at_cast h169 k)
     ·intro Lx g240 s K hl hh k
      show At 180 ((117,_)::(3,_)::(4,_)::(10,_)::(11,_)::(12,_)::(14,_)::(16,_)::Lx) _ _
      refine gn ?_
      exact at_nil k
     ·intro Lx g240 s K hl hh k
      show At 180 ((117,_)::(3,_)::(4,_)::(10,_)::(11,_)::(12,_)::(14,_)::(16,_)::Lx) _ _
      refine gn ?_
      exact at_nil k
     ·intro Lx g240 s K hl hh k
      show At 180 ((117,_)::(119,_)::(3,_)::(4,_)::(10,_)::(11,_)::(12,_)::(14,_)::(16,_)::Lx) _ _
      refine gn ?_
      exact at_nil k
     ·intro Lx g240 s K hl hh k
      show At 180 ((117,_)::(118,_)::(120,_)::(3,_)::(4,_)::(10,_)::(11,_)::(12,_)::(14,_)::(16,_)::Lx) _ _
      refine gn ?_
      exact at_nil k
     ·intro Lx g240 s K hl hh k
      show At 180 ((117,_)::(121,_)::(3,_)::(4,_)::(10,_)::(11,_)::(12,_)::(14,_)::(16,_)::Lx) _ _
      refine gn ?_
      exact at_nil k
     ·intro Lx g240 s K hl hh k
      show At 180 ((117,_)::(122,_)::(3,_)::(4,_)::(10,_)::(11,_)::(12,_)::(14,_)::(16,_)::Lx) _ _
      obtain rfl:s=0:=by omega
      refine gn ?_
      exact at_nil k
     ·intro Lx g240 s K hl hh k
      show At 180 ((117,_)::(3,_)::(4,_)::(10,_)::(11,_)::(12,_)::(14,_)::(16,_)::Lx) _ _
      refine gn ?_
      exact at_nil k
     ·intro Lx g240 s K hl hh k
      show At 180 ((117,_)::(124,_)::(3,_)::(4,_)::(10,_)::(11,_)::(12,_)::(14,_)::(16,_)::Lx) _ _
      obtain rfl:s=0:=by omega
      refine gn ?_
      exact at_nil k
     ·intro Lx g240 s K hl hh k
      show At 180 ((117,_)::(123,_)::(125,_)::(3,_)::(4,_)::(10,_)::(11,_)::(12,_)::(14,_)::(16,_)::Lx) _ _
      refine gn ?_
      exact at_nil k
     ·intro Lx g240 s K hl hh k
      show At 180 ((117,_)::(126,_)::(3,_)::(4,_)::(10,_)::(11,_)::(12,_)::(14,_)::(16,_)::Lx) _ _
      refine aw xp ?_
      exact at_nil k
     ·intro Lx g240 s K hl hh k
      show At 180 ((127,_)::(3,_)::(4,_)::(10,_)::(11,_)::(12,_)::(14,_)::(16,_)::Lx) _ _
      refine am ?_
      exact at_nil k
     ·intro Lx g240 s K hl hh k
      show At 180 ((128,_)::(3,_)::(4,_)::(10,_)::(11,_)::(12,_)::(14,_)::(16,_)::Lx) _ _
      refine gn ?_
      exact at_nil k
     ·intro Lx g240 s K hl hh k
      show At 180 ((128,_)::(3,_)::(4,_)::(10,_)::(11,_)::(12,_)::(14,_)::(16,_)::Lx) _ _
      refine gn ?_
      exact at_nil k
     ·intro Lx g240 s K hl hh k
      show At 180 ((128,_)::(130,_)::(3,_)::(4,_)::(10,_)::(11,_)::(12,_)::(14,_)::(16,_)::Lx) _ _
      refine gn ?_
      exact at_nil k
     ·intro Lx g240 s K hl hh k
      show At 180 ((128,_)::(129,_)::(131,_)::(3,_)::(4,_)::(10,_)::(11,_)::(12,_)::(14,_)::(16,_)::Lx) _ _
      refine gn ?_
      exact at_nil k
     ·intro Lx g240 s K hl hh k
      show At 180 ((128,_)::(132,_)::(3,_)::(4,_)::(10,_)::(11,_)::(12,_)::(14,_)::(16,_)::Lx) _ _
      refine gn ?_
      exact at_nil k
     ·intro Lx g240 s K hl hh k
      show At 180 ((128,_)::(133,_)::(3,_)::(4,_)::(10,_)::(11,_)::(12,_)::(14,_)::(16,_)::Lx) _ _
      refine gn ?_
      exact at_nil k
     ·intro Lx g240 s K hl hh k
      show At 180 ((128,_)::(134,_)::(3,_)::(4,_)::(10,_)::(11,_)::(12,_)::(14,_)::(16,_)::Lx) _ _
      obtain rfl:s=0:=by omega
      refine gn ?_
      exact at_nil k
     ·intro Lx g240 s K hl hh k
      show At 180 ((128,_)::(3,_)::(4,_)::(10,_)::(11,_)::(12,_)::(14,_)::(16,_)::Lx) _ _
      refine gn ?_
      exact at_nil k
     ·intro Lx g240 s K hl hh k
      show At 180 ((128,_)::(3,_)::(4,_)::(10,_)::(11,_)::(12,_)::(14,_)::(16,_)::Lx) _ _
      refine gn ?_
      exact at_nil k
     ·intro Lx g240 s K hl hh k
      show At 180 ((128,_)::(136,_)::(137,_)::(3,_)::(4,_)::(10,_)::(11,_)::(12,_)::(14,_)::(16,_)::Lx) _ _
      refine gn ?_
      exact at_nil k
     ·intro Lx g240 s K hl hh k
      show At 180 ((128,_)::(138,_)::(3,_)::(4,_)::(10,_)::(11,_)::(12,_)::(14,_)::(16,_)::Lx) _ _
      refine gn ?_
      exact at_nil k
     ·intro Lx g240 s K hl hh k
      show At 180 ((128,_)::(139,_)::(3,_)::(4,_)::(10,_)::(11,_)::(12,_)::(14,_)::(16,_)::Lx) _ _
      obtain rfl:s=0:=by omega
      refine gn ?_
      exact at_nil k
     ·intro Lx g240 s K hl hh k
      show At 180 ((128,_)::(135,_)::(140,_)::(3,_)::(4,_)::(10,_)::(11,_)::(12,_)::(14,_)::(16,_)::Lx) _ _
      refine gn ?_
      exact at_nil k
     ·intro Lx g240 s K hl hh k
      show At 180 ((128,_)::(141,_)::(3,_)::(4,_)::(10,_)::(11,_)::(12,_)::(14,_)::(16,_)::Lx) _ _
      refine aw xp ?_
      exact at_nil k
     intro g240
     show At 180 [(115,_),(116,_),(117,_),(118,_),(119,_),(120,_),(121,_),(122,_),(123,_),(124,_),(125,_),(126,_),(127,_),(128,_),(129,_),(130,_),(131,_),(132,_),(133,_),(134,_),(135,_),(136,_),(137,_),(138,_),(139,_),(140,_),(141,_),(142,_),(3,_),(4,_),(10,_),(11,_),(12,_),(14,_),(16,_)] _ _
     refine wq [142,16,14,12,11,10,4,3] ?_
     refine tn ?_
     refine cf rfl ?_
     refine sn (wq [14,12,11,10,4,3] ?_)
     obtain ⟨h241,hF⟩:=gd hF
     refine at_pure (φ:=∃ b o,p31=some ⟨b,o,none⟩) (fun _ hw=>row_ptr (hw.own (.s (.s (.s .z)))).row h241) ?_
     rintro ⟨b243,o244,hp242⟩
     refine at_invT [.q 168 (fun g246=>.slice p49 i47.length c50) [] 0 1,.q 169 (fun g246=>.slice p31 q26.length c32) [] 0 0,.q 170 (fun g246=>.int .i64 i48) [] 0 0,.q 171 (fun g246=>.pointer (some ⟨b243,o244+Int.toNat i48*17,none⟩)) [1,2] 0 0,.q 172 (fun g246=>.agg (Cd.cs c_api_Addr (lget q26 i48)).toArray) [3] 0 0,.q 173 (fun g246=>.agg (Cd.cs c_api_Addr q163).toArray) [] 0 0,.q 174 (fun g246=>.pointer (some ⟨b59,0+18,none⟩)) [] 0 0,.q 175 (fun g246=>.int .i64 t58.1.f_Owner) [6] 0 0,.q 176 (fun g246=>.agg (Cd.cs c_crawlwayref59_Span ({ { { zv4 with f_From:=lget q26 i48 } with f_To:=q163 } with f_Owner:=t58.1.f_Owner })).toArray) [4,5,7] 0 0,.al 0 177 (fun g246=>.slice (some ⟨((g246 0).1),0,none⟩) ([{ { { zv4 with f_From:=lget q26 i48 } with f_To:=q163 } with f_Owner:=t58.1.f_Owner }]:List S_crawlwayref59_Span).length 1) [8]] (fun g246 s=>match s with | 0=>(Wd w [cellsE b65 (Cd.cs c_api_Addr q163) 24,cellsE b59 (Cd.cs c_api_Entry t58.1) 66,rowE c_crawlwayref59_Span 62 p49 c50 i47,rowE c_api_Addr 24 p31 c32 q26,rowE c_api_Entry 66 p2 c3 t1]) | _=>(Wd w [cellsE ((g246 0).1) (c_crawlwayref59_Span.all ([{ { { zv4 with f_From:=lget q26 i48 } with f_To:=q163 } with f_Owner:=t58.1.f_Owner }]:List S_crawlwayref59_Span)) 62,cellsE b65 (Cd.cs c_api_Addr q163) 24,cellsE b59 (Cd.cs c_api_Entry t58.1) 66,rowE c_crawlwayref59_Span 62 p49 c50 i47,rowE c_api_Addr 24 p31 c32 q26,rowE c_api_Entry 66 p2 c3 t1])) 1 10 (by kernel_rfl) (by kernel_rfl) (by kernel_rfl) (by kernel_rfl) (by kernel_rfl) (by kernel_rfl) ⟨fun _ _ _=>rfl,fun _ _ _=>rfl,fun _ _ _=>rfl,fun _ _ _=>rfl,fun _ _ _=>rfl,fun _ _ _=>rfl,fun _ _ _=>rfl,fun _ _ _=>rfl,fun _ _ _=>rfl,fun g246 g2 h=>by show (.slice (some ⟨((g246 0).1),0,none⟩) ([{ { { zv4 with f_From:=lget q26 i48 } with f_To:=q163 } with f_Owner:=t58.1.f_Owner }]:List S_crawlwayref59_Span).length 1:Value)=.slice (some ⟨((g2 0).1),0,none⟩) ([{ { { zv4 with f_From:=lget q26 i48 } with f_To:=q163 } with f_Owner:=t58.1.f_Owner }]:List S_crawlwayref59_Span).length 1;rw [h 0 (show 0<1 by decide)],trivial⟩ (by kernel_rfl) (fun w_ h=>⟨fun _=>g3 0 none 0 none w_,h.drew⟩) ⟨?_,?_,?_,?_,?_,?_,?_,?_,?_,?_,trivial⟩ ?_
     ·intro Lx g246 s K hl hh k
      show At 180 ((3,_)::(4,_)::(10,_)::(11,_)::(12,_)::(14,_)::Lx) _ _
      refine am ?_
      exact at_nil k
     ·intro Lx g246 s K hl hh k
      show At 180 ((3,_)::(4,_)::(10,_)::(11,_)::(12,_)::(14,_)::Lx) _ _
      refine am ?_
      exact at_nil k
     ·intro Lx g246 s K hl hh k
      show At 180 ((3,_)::(4,_)::(10,_)::(11,_)::(12,_)::(14,_)::Lx) _ _
      refine am ?_
      exact at_nil k
     ·intro Lx g246 s K hl hh k
      show At 180 ((169,_)::(170,_)::(3,_)::(4,_)::(10,_)::(11,_)::(12,_)::(14,_)::Lx) _ _
      refine aw (r_idx underlying88 sizeOf24 rfl rfl h241 hp242) ?_
      exact at_nil k
     ·intro Lx g246 s K hl hh k
      show At 180 ((171,_)::(3,_)::(4,_)::(10,_)::(11,_)::(12,_)::(14,_)::Lx) _ _
      obtain rfl:s=0:=by omega
      refine aw (r_load_aggc (c:=c_api_Addr) (z:=lget q26 i48) isAgg24 sizeOf24 rfl (fun w1 hw=>row_cell (W:=fun w1=>w1=_) (fun w1 h=>by subst h;exact Below.refl _ _) (hw.own (.s (.s (.s .z)))).row h241 hp242 _ rfl)) ?_
      exact at_nil k
     ·intro Lx g246 s K hl hh k
      show At 180 ((3,_)::(4,_)::(10,_)::(11,_)::(12,_)::(14,_)::Lx) _ _
      obtain rfl:s=0:=by omega
      refine aw (r_load_aggc (c:=c_api_Addr) (z:=q163) isAgg24 sizeOf24 rfl (lens_cell .z lw)) ?_
      exact at_nil k
     ·intro Lx g246 s K hl hh k
      show At 180 ((3,_)::(4,_)::(10,_)::(11,_)::(12,_)::(14,_)::Lx) _ _
      refine fa 18 underlying66 rfl sizeOf3 ?_
      exact at_nil k
     ·intro Lx g246 s K hl hh k
      show At 180 ((174,_)::(3,_)::(4,_)::(10,_)::(11,_)::(12,_)::(14,_)::Lx) _ _
      obtain rfl:s=0:=by omega
      refine aw (r_load_cell isAgg3 rfl (lens_cell0 (c:=(cInt .i64)) (y:=t58.1.f_Owner) (.s .z) (Lens.comp lw (fun z=>{ t58.1 with f_Owner:=z }) (c_api_Entry_f_Owner t58.1)) rfl)) ?_
      exact at_nil k
     ·intro Lx g246 s K hl hh k
      show At 180 ((172,_)::(173,_)::(175,_)::(3,_)::(4,_)::(10,_)::(11,_)::(12,_)::(14,_)::Lx) _ _
      obtain rfl:s=0:=by omega
      refine aw (r_build_struct (zs:=Cd.cs c_crawlwayref59_Span zv4) (cs:=Cd.cs c_crawlwayref59_Span ({ { { zv4 with f_From:=lget q26 i48 } with f_To:=q163 } with f_Owner:=t58.1.f_Owner })) underlying62 zeroValue62 rfl (places_crawlwayref59_Span_62) rfl (fill_step (c:=c_api_Addr) (z:=lget q26 i48) rfl (c_crawlwayref59_Span_f_From zv4) rfl (fill_step (c:=c_api_Addr) (z:=q163) rfl (c_crawlwayref59_Span_f_To ({ zv4 with f_From:=lget q26 i48 })) rfl (fill_step (c:=(cInt .i64)) (z:=t58.1.f_Owner) rfl (c_crawlwayref59_Span_f_Owner ({ { zv4 with f_From:=lget q26 i48 } with f_To:=q163 })) rfl rfl)))) ?_
      exact at_nil k
     ·intro Lx g246 K k
      show At 180 ((176,_)::(3,_)::(4,_)::(10,_)::(11,_)::(12,_)::(14,_)::Lx) _ _
      refine at_litL (c:=c_crawlwayref59_Span) ([zv4]:List S_crawlwayref59_Span) ([{ { { zv4 with f_From:=lget q26 i48 } with f_To:=q163 } with f_Owner:=t58.1.f_Owner }]:List S_crawlwayref59_Span) underlying57 sizeOf62 zeroValue62 rfl rfl rfl (by kernel_rfl) (fill_step (c:=c_crawlwayref59_Span) (z:={ { { zv4 with f_From:=lget q26 i48 } with f_To:=q163 } with f_Owner:=t58.1.f_Owner }) rfl (Lens.all c_crawlwayref59_Span ([zv4]:List S_crawlwayref59_Span) 0 (by first | decide | exact Nat.le_of_ble_eq_true rfl)) rfl rfl) rfl ?_
      intro b245
      exact at_nil (k (g3 b245 none 0 none w))
     intro g246
     show At 180 [(168,_),(169,_),(170,_),(171,_),(172,_),(173,_),(174,_),(175,_),(176,_),(177,_),(3,_),(4,_),(10,_),(11,_),(12,_),(14,_)] _ _
     obtain ⟨h247,hF⟩:=gd hF
     refine at_append (z:=.agg (Cd.cs c_crawlwayref59_Span zv4).toArray) (c:=c_crawlwayref59_Span) (ys:=([{ { { zv4 with f_From:=lget q26 i48 } with f_To:=q163 } with f_Owner:=t58.1.f_Owner }]:List S_crawlwayref59_Span)) (.s (.s (.s .z))) underlying57 infoF362 (by kernel_rfl) (by kernel_rfl) rfl rfl rfl rfl (fun _ hw=>cells_src (hw.ok (Upd.mem .z))) (by kernel_rfl) h247 (app_small h247) rfl ?_
     intro p248 c249
     refine aa (qn (dz (dz (dz (wq [11,10,4,3] ?_)))))
     refine bm ?_
     refine qr (am (aw xa (aa (nwq [11,10,4,3] ?_))))
     exact at_weak_k (ih _ _ _ hF K p248 c249) ⟨rfl,rfl,rfl,rfl,trivial⟩
    skip
    refine at_inv [.q 78 (fun g250=>.int .i64 i48) [] 0 0,.q 79 (fun g250=>.int .i64 (wr .i64 (i48+1))) [0] 0 0,.q 80 (fun g250=>.slice p31 q26.length c32) [] 0 0,.q 81 (fun g250=>.int .i64 (q26.length:Int)) [2] 0 0,.q 82 (fun g250=>.bool (decide (wr .i64 (i48+1)<(q26.length:Int)))) [1,3] 0 0,.q 83 (fun g250=>.bool false) [4] 0 0,.q 84 (fun g250=>undef) [5] 0 0,.q 85 (fun g250=>undef) [5] 0 0,.q 86 (fun g250=>undef) [5,7] 0 0,.q 87 (fun g250=>undef) [5,6,8] 0 0,.q 88 (fun g250=>undef) [5,9] 0 0,.q 89 (fun g250=>undef) [5,10] 0 0,.q 90 (fun g250=>undef) [5] 0 0,.q 91 (fun g250=>undef) [5] 0 0,.q 92 (fun g250=>undef) [5,12,13] 0 0,.q 93 (fun g250=>undef) [5,14] 0 0,.q 94 (fun g250=>undef) [5,15] 0 0,.q 95 (fun g250=>undef) [5,11,16] 0 0,.q 96 (fun g250=>.bool false) [5,17] 0 0] (fun g250 s=>match s with | _=>(Wd w [cellsE b65 (Cd.cs c_api_Addr ({ zv0 with f_V:=(lget q26 i48).f_V })) 24,cellsE b59 (Cd.cs c_api_Entry t58.1) 66,rowE c_crawlwayref59_Span 62 p49 c50 i47,rowE c_api_Addr 24 p31 c32 q26,rowE c_api_Entry 66 p2 c3 t1])) 0 (by kernel_rfl) (by kernel_rfl) (by kernel_rfl) (by kernel_rfl) (by kernel_rfl) ⟨fun _ _ _=>rfl,fun _ _ _=>rfl,fun _ _ _=>rfl,fun _ _ _=>rfl,fun _ _ _=>rfl,fun _ _ _=>rfl,fun _ _ _=>rfl,fun _ _ _=>rfl,fun _ _ _=>rfl,fun _ _ _=>rfl,fun _ _ _=>rfl,fun _ _ _=>rfl,fun _ _ _=>rfl,fun _ _ _=>rfl,fun _ _ _=>rfl,fun _ _ _=>rfl,fun _ _ _=>rfl,fun _ _ _=>rfl,fun _ _ _=>rfl,trivial⟩ (by kernel_rfl) (fun w_ h=>⟨fun _=>g3 0 none 0 none w_,h.drew⟩) ⟨?_,?_,?_,?_,?_,?_,?_,?_,?_,?_,?_,?_,?_,?_,?_,?_,?_,?_,?_,trivial⟩ ?_
    ·intro Lx g250 s K hl hh k
     show At 180 ((3,_)::(4,_)::(10,_)::(11,_)::(12,_)::(14,_)::Lx) _ _
     refine am ?_
     exact at_nil k
    ·intro Lx g250 s K hl hh k
     show At 180 ((78,_)::(3,_)::(4,_)::(10,_)::(11,_)::(12,_)::(14,_)::Lx) _ _
     refine aw xa ?_
     exact at_nil k
    ·intro Lx g250 s K hl hh k
     show At 180 ((3,_)::(4,_)::(10,_)::(11,_)::(12,_)::(14,_)::Lx) _ _
     refine am ?_
     exact at_nil k
    ·intro Lx g250 s K hl hh k
     show At 180 ((80,_)::(3,_)::(4,_)::(10,_)::(11,_)::(12,_)::(14,_)::Lx) _ _
     obtain rfl:s=0:=by omega
     refine aw (r_len_sl underlying88 rfl) ?_
     exact at_nil k
    ·intro Lx g250 s K hl hh k
     show At 180 ((79,_)::(81,_)::(3,_)::(4,_)::(10,_)::(11,_)::(12,_)::(14,_)::Lx) _ _
     refine aw xl ?_
     exact at_nil k
    ·intro Lx g250 s K hl hh k
     show At 180 ((82,_)::(3,_)::(4,_)::(10,_)::(11,_)::(12,_)::(14,_)::Lx) _ _
     refine am ?_
     exact at_nil (at_cast h66 k)
    ·intro Lx g250 s K hl hh k
     show At 180 ((83,_)::(3,_)::(4,_)::(10,_)::(11,_)::(12,_)::(14,_)::Lx) _ _
     refine gn ?_
     exact at_nil k
    ·intro Lx g250 s K hl hh k
     show At 180 ((83,_)::(3,_)::(4,_)::(10,_)::(11,_)::(12,_)::(14,_)::Lx) _ _
     refine gn ?_
     exact at_nil k
    ·intro Lx g250 s K hl hh k
     show At 180 ((83,_)::(85,_)::(3,_)::(4,_)::(10,_)::(11,_)::(12,_)::(14,_)::Lx) _ _
     refine gn ?_
     exact at_nil k
    ·intro Lx g250 s K hl hh k
     show At 180 ((83,_)::(84,_)::(86,_)::(3,_)::(4,_)::(10,_)::(11,_)::(12,_)::(14,_)::Lx) _ _
     refine gn ?_
     exact at_nil k
    ·intro Lx g250 s K hl hh k
     show At 180 ((83,_)::(87,_)::(3,_)::(4,_)::(10,_)::(11,_)::(12,_)::(14,_)::Lx) _ _
     refine gn ?_
     exact at_nil k
    ·intro Lx g250 s K hl hh k
     show At 180 ((83,_)::(88,_)::(3,_)::(4,_)::(10,_)::(11,_)::(12,_)::(14,_)::Lx) _ _
     obtain rfl:s=0:=by omega
     refine gn ?_
     exact at_nil k
    ·intro Lx g250 s K hl hh k
     show At 180 ((83,_)::(3,_)::(4,_)::(10,_)::(11,_)::(12,_)::(14,_)::Lx) _ _
     refine gn ?_
     exact at_nil k
    ·intro Lx g250 s K hl hh k
     show At 180 ((83,_)::(3,_)::(4,_)::(10,_)::(11,_)::(12,_)::(14,_)::Lx) _ _
     refine gn ?_
     exact at_nil k
    ·intro Lx g250 s K hl hh k
     show At 180 ((83,_)::(90,_)::(91,_)::(3,_)::(4,_)::(10,_)::(11,_)::(12,_)::(14,_)::Lx) _ _
     refine gn ?_
     exact at_nil k
    ·intro Lx g250 s K hl hh k
     show At 180 ((83,_)::(92,_)::(3,_)::(4,_)::(10,_)::(11,_)::(12,_)::(14,_)::Lx) _ _
     refine gn ?_
     exact at_nil k
    ·intro Lx g250 s K hl hh k
     show At 180 ((83,_)::(93,_)::(3,_)::(4,_)::(10,_)::(11,_)::(12,_)::(14,_)::Lx) _ _
     obtain rfl:s=0:=by omega
     refine gn ?_
     exact at_nil k
    ·intro Lx g250 s K hl hh k
     show At 180 ((83,_)::(89,_)::(94,_)::(3,_)::(4,_)::(10,_)::(11,_)::(12,_)::(14,_)::Lx) _ _
     refine gn ?_
     exact at_nil k
    ·intro Lx g250 s K hl hh k
     show At 180 ((83,_)::(95,_)::(3,_)::(4,_)::(10,_)::(11,_)::(12,_)::(14,_)::Lx) _ _
     refine aw xp ?_
     exact at_nil k
    intro g250
    show At 180 [(78,_),(79,_),(80,_),(81,_),(82,_),(83,_),(84,_),(85,_),(86,_),(87,_),(88,_),(89,_),(90,_),(91,_),(92,_),(93,_),(94,_),(95,_),(96,_),(3,_),(4,_),(10,_),(11,_),(12,_),(14,_)] _ _
    refine wq [96,14,12,11,10,4,3] ?_
    refine tn ?_
    refine cf rfl ?_
    refine sr (aa (nwq [15,14,12,11,10,4,3] ?_))
    refine qb ?_
    obtain ⟨q251,hq251,hF⟩:=bM hF
    refine wq [15,14,12,11,10,4,3] ?_
    refine at_loop_n (B:=6) (A:=fun Y=>At 180 [(3,.slice p2 t1.length c3),(4,.slice p31 q26.length c32),(10,.slice p49 i47.length c50),(11,.int .i64 i48),(12,.pointer (some ⟨b59,0,none⟩)),(14,.pointer (some ⟨b65,0,none⟩))] (Wd w [cellsE b65 (Cd.cs c_api_Addr q251) 24,cellsE b59 (Cd.cs c_api_Entry t58.1) 66,rowE c_crawlwayref59_Span 62 p49 c50 i47,rowE c_api_Addr 24 p31 c32 q26,rowE c_api_Entry 66 p2 c3 t1]) Y) ?_ ?_
    ·intro K
     refine crawlwayref59_Of.l4.partial_correctness  (motive:=fun i252 i253 x=>KN (fun Y=>At 180 [(3,.slice p2 t1.length c3),(4,.slice p31 q26.length c32),(10,.slice p49 i47.length c50),(11,.int .i64 i48),(12,.pointer (some ⟨b59,0,none⟩)),(14,.pointer (some ⟨b65,0,none⟩))] (Wd w [cellsE b65 (Cd.cs c_api_Addr x) 24,cellsE b59 (Cd.cs c_api_Entry t58.1) 66,rowE c_crawlwayref59_Span 62 p49 c50 i47,rowE c_api_Addr 24 p31 c32 q26,rowE c_api_Entry 66 p2 c3 t1]) Y) _ 6→Round (fun Y=>At 180 [(3,.slice p2 t1.length c3),(4,.slice p31 q26.length c32),(10,.slice p49 i47.length c50),(11,.int .i64 i48),(12,.pointer (some ⟨b59,0,none⟩)),(14,.pointer (some ⟨b65,0,none⟩)),(15,.int .i64 i252)] (Wd w [cellsE b65 (Cd.cs c_api_Addr i253) 24,cellsE b59 (Cd.cs c_api_Entry t58.1) 66,rowE c_crawlwayref59_Span 62 p49 c50 i47,rowE c_api_Addr 24 p31 c32 q26,rowE c_api_Entry 66 p2 c3 t1]) Y) _ _ _) ?_ _ _ _ hq251 K
     ·clear K hF
      intro g ih i252 i253 x hF K
      refine at_round ?_
      refine qs (sr (am ?_))
      refine aw (r_load_aggc (c:=c_api_Addr) (z:=i253) isAgg24 sizeOf24 rfl (lens_cell .z lw)) ?_
      obtain ⟨t254,ht254,hF⟩:=bM hF
      refine cB func42 rfl (fun w hw=>crawlwayref10_Width_ok _ _ ht254 w) ?_
      refine aw (r_iquo rfl rfl (by decide)) ?_
      refine aw xl (nwq [107,15,14,12,11,10,4,3] ?_)
      obtain ⟨h255,hF⟩|⟨h255,hF⟩:=oi hF
      ·refine ct h255 ?_
       refine sn (qs ?_)
       refine qb ?_
       refine qr (am (fa 1 underlying24 rfl sizeOf22 ?_))
       obtain ⟨h256,hF⟩:=gd hF
       refine aw (r_idxArr underlying22 sizeOf5 rfl rfl h256) ?_
       refine at_store (c:=(cInt .u8)) (z:=255) .z (Lens.comp (Lens.comp lw (fun z=>{ i253 with f_B:=z }) (c_api_Addr_f_B i253)) (fun z=>vset i253.f_B i252 z) (Lens.vec (cInt .u8) (by decide) i253.f_B i252 h256)) sizeOf5 rfl rfl rfl ?_
       refine qn (wq [15,14,12,11,10,4,3] ?_)
       refine bm ?_
       refine qr (am (aw xa (aa (nwq [15,14,12,11,10,4,3] ?_))))
       exact at_weak_k (ih _ _ _ hF K) ⟨rfl,rfl,rfl,rfl,rfl,rfl,rfl,trivial⟩
      refine cf h255 ?_
      refine at_exit ?_
      refine te (te ?_)
      obtain rfl:=os hF
      exact at_weak_k K ⟨rfl,rfl,rfl,rfl,rfl,rfl,trivial⟩
    skip
    skip
    refine at_blk_same ?_
    refine tn (sr (am ?_))
    refine aw (r_len_sl underlying57 rfl) ?_
    refine aa (nt (qs (qs (wq [16,14,12,11,10,4,3] ?_))))
    obtain ⟨h257,hF⟩|⟨h257,hF⟩:=oi hF
    ·skip
     obtain ⟨h258,hF⟩:=gd hF
     refine at_pure (φ:=∃ b o,p49=some ⟨b,o,none⟩) (fun _ hw=>row_ptr (hw.own (.s (.s .z))).row h258) ?_
     rintro ⟨b260,o261,hp259⟩
     obtain ⟨h262,hF⟩|⟨h262,hF⟩:=oi hF
     ·skip
      obtain ⟨h263,hF⟩:=gd hF
      refine at_pure (φ:=∃ b o,p49=some ⟨b,o,none⟩) (fun _ hw=>row_ptr (hw.own (.s (.s .z))).row h263) ?_
      rintro ⟨b265,o266,hp264⟩
      obtain ⟨h267,hF⟩:=gd hF
      refine at_pure (φ:=∃ b o,p31=some ⟨b,o,none⟩) (fun _ hw=>row_ptr (hw.own (.s (.s (.s .z)))).row h267) ?_
      rintro ⟨b269,o270,hp268⟩
      refine at_inv [.q 115 (fun g271=>.int .i64 (i47.length:Int)) [] 0 0,.q 116 (fun g271=>.bool (decide ((i47.length:Int)>0))) [0] 0 0,.q 117 (fun g271=>.bool true) [1] 0 0,.q 118 (fun g271=>.slice p49 i47.length c50) [2] 0 0,.q 119 (fun g271=>.int .i64 (i47.length:Int)) [2] 0 0,.q 120 (fun g271=>.int .i64 (wr .i64 ((i47.length:Int)-1))) [2,4] 0 0,.q 121 (fun g271=>.pointer (some ⟨b260,o261+Int.toNat (wr .i64 ((i47.length:Int)-1))*35,none⟩)) [2,3,5] 0 0,.q 122 (fun g271=>.pointer (some ⟨b260,o261+Int.toNat (wr .i64 ((i47.length:Int)-1))*35+34,none⟩)) [2,6] 0 0,.q 123 (fun g271=>.int .i64 ((lget i47 (wr .i64 ((i47.length:Int)-1))).f_Owner)) [2,7] 0 0,.q 124 (fun g271=>.pointer (some ⟨b59,0+18,none⟩)) [2] 0 0,.q 125 (fun g271=>.int .i64 t58.1.f_Owner) [2,9] 0 0,.q 126 (fun g271=>.bool ((lget i47 (wr .i64 ((i47.length:Int)-1))).f_Owner==t58.1.f_Owner)) [2,8,10] 0 0,.q 127 (fun g271=>.bool ((lget i47 (wr .i64 ((i47.length:Int)-1))).f_Owner==t58.1.f_Owner)) [2,11] 0 0,.q 128 (fun g271=>.bool true) [12] 0 0,.q 129 (fun g271=>.slice p49 i47.length c50) [13] 0 0,.q 130 (fun g271=>.int .i64 (i47.length:Int)) [13] 0 0,.q 131 (fun g271=>.int .i64 (wr .i64 ((i47.length:Int)-1))) [13,15] 0 0,.q 132 (fun g271=>.pointer (some ⟨b265,o266+Int.toNat (wr .i64 ((i47.length:Int)-1))*35,none⟩)) [13,14,16] 0 0,.q 133 (fun g271=>.pointer (some ⟨b265,o266+Int.toNat (wr .i64 ((i47.length:Int)-1))*35+17,none⟩)) [13,17] 0 0,.q 134 (fun g271=>.pointer (some ⟨b265,o266+Int.toNat (wr .i64 ((i47.length:Int)-1))*35+17+0,none⟩)) [13,18] 0 0,.q 135 (fun g271=>.int .i64 (((lget i47 (wr .i64 ((i47.length:Int)-1))).f_To).f_V)) [13,19] 0 0,.q 136 (fun g271=>.slice p31 q26.length c32) [13] 0 0,.q 137 (fun g271=>.int .i64 i48) [13] 0 0,.q 138 (fun g271=>.pointer (some ⟨b269,o270+Int.toNat i48*17,none⟩)) [13,21,22] 0 0,.q 139 (fun g271=>.pointer (some ⟨b269,o270+Int.toNat i48*17+0,none⟩)) [13,23] 0 0,.q 140 (fun g271=>.int .i64 ((lget q26 i48).f_V)) [13,24] 0 0,.q 141 (fun g271=>.bool (((lget i47 (wr .i64 ((i47.length:Int)-1))).f_To).f_V==(lget q26 i48).f_V)) [13,20,25] 0 0,.q 142 (fun g271=>.bool (((lget i47 (wr .i64 ((i47.length:Int)-1))).f_To).f_V==(lget q26 i48).f_V)) [13,26] 0 0] (fun g271 s=>match s with | _=>(Wd w [cellsE b65 (Cd.cs c_api_Addr q251) 24,cellsE b59 (Cd.cs c_api_Entry t58.1) 66,rowE c_crawlwayref59_Span 62 p49 c50 i47,rowE c_api_Addr 24 p31 c32 q26,rowE c_api_Entry 66 p2 c3 t1])) 0 (by kernel_rfl) (by kernel_rfl) (by kernel_rfl) (by kernel_rfl) (by kernel_rfl) ⟨fun _ _ _=>rfl,fun _ _ _=>rfl,fun _ _ _=>rfl,fun _ _ _=>rfl,fun _ _ _=>rfl,fun _ _ _=>rfl,fun _ _ _=>rfl,fun _ _ _=>rfl,fun _ _ _=>rfl,fun _ _ _=>rfl,fun _ _ _=>rfl,fun _ _ _=>rfl,fun _ _ _=>rfl,fun _ _ _=>rfl,fun _ _ _=>rfl,fun _ _ _=>rfl,fun _ _ _=>rfl,fun _ _ _=>rfl,fun _ _ _=>rfl,fun _ _ _=>rfl,fun _ _ _=>rfl,fun _ _ _=>rfl,fun _ _ _=>rfl,fun _ _ _=>rfl,fun _ _ _=>rfl,fun _ _ _=>rfl,fun _ _ _=>rfl,fun _ _ _=>rfl,trivial⟩ (by kernel_rfl) (fun w_ h=>⟨fun _=>g3 0 none 0 none w_,h.drew⟩) ⟨?_,?_,?_,?_,?_,?_,?_,?_,?_,?_,?_,?_,?_,?_,?_,?_,?_,?_,?_,?_,?_,?_,?_,?_,?_,?_,?_,?_,trivial⟩ ?_
      ·intro Lx g271 s K hl hh k
       show At 180 ((3,_)::(4,_)::(10,_)::(11,_)::(12,_)::(14,_)::(16,_)::Lx) _ _
       refine am ?_
       exact at_nil k
      ·intro Lx g271 s K hl hh k
       show At 180 ((115,_)::(3,_)::(4,_)::(10,_)::(11,_)::(12,_)::(14,_)::(16,_)::Lx) _ _
       refine aw (r_igtr rfl rfl) ?_
       exact at_nil k
      ·intro Lx g271 s K hl hh k
       show At 180 ((116,_)::(3,_)::(4,_)::(10,_)::(11,_)::(12,_)::(14,_)::(16,_)::Lx) _ _
       refine am ?_
       exact at_nil (at_cast h257 k)
      ·intro Lx g271 s K hl hh k
       show At 180 ((117,_)::(3,_)::(4,_)::(10,_)::(11,_)::(12,_)::(14,_)::(16,_)::Lx) _ _
       refine gy ?_
       refine am ?_
       exact at_nil k
      ·intro Lx g271 s K hl hh k
       show At 180 ((117,_)::(3,_)::(4,_)::(10,_)::(11,_)::(12,_)::(14,_)::(16,_)::Lx) _ _
       refine gy ?_
       refine am ?_
       exact at_nil k
      ·intro Lx g271 s K hl hh k
       show At 180 ((117,_)::(119,_)::(3,_)::(4,_)::(10,_)::(11,_)::(12,_)::(14,_)::(16,_)::Lx) _ _
       refine gy ?_
       refine aw (r_isub rfl rfl) ?_
       exact at_nil k
      ·intro Lx g271 s K hl hh k
       show At 180 ((117,_)::(118,_)::(120,_)::(3,_)::(4,_)::(10,_)::(11,_)::(12,_)::(14,_)::(16,_)::Lx) _ _
       refine gy ?_
       refine aw (r_idx underlying57 sizeOf62 rfl rfl h258 hp259) ?_
       exact at_nil k
      ·intro Lx g271 s K hl hh k
       show At 180 ((117,_)::(121,_)::(3,_)::(4,_)::(10,_)::(11,_)::(12,_)::(14,_)::(16,_)::Lx) _ _
       refine gy ?_
       refine fa 34 underlying62 rfl sizeOf3 ?_
       exact at_nil k
      ·intro Lx g271 s K hl hh k
       show At 180 ((117,_)::(122,_)::(3,_)::(4,_)::(10,_)::(11,_)::(12,_)::(14,_)::(16,_)::Lx) _ _
       refine gy ?_
       obtain rfl:s=0:=by omega
       refine aw (r_load_cell isAgg3 rfl (fun w1 hw=>row_lens0 (y:=(lget i47 (wr .i64 ((i47.length:Int)-1))).f_Owner) (W:=fun w1=>w1=_) (fun w1 h=>by subst h;exact Below.refl _ _) (hw.own (.s (.s .z))).row h258 hp259 (Lens.comp lw (fun z=>{ (lget i47 (wr .i64 ((i47.length:Int)-1))) with f_Owner:=z }) (c_crawlwayref59_Span_f_Owner (lget i47 (wr .i64 ((i47.length:Int)-1))))) rfl _ rfl)) ?_
       exact at_nil k
      ·intro Lx g271 s K hl hh k
       show At 180 ((117,_)::(3,_)::(4,_)::(10,_)::(11,_)::(12,_)::(14,_)::(16,_)::Lx) _ _
       refine gy ?_
       refine fa 18 underlying66 rfl sizeOf3 ?_
       exact at_nil k
      ·intro Lx g271 s K hl hh k
       show At 180 ((117,_)::(124,_)::(3,_)::(4,_)::(10,_)::(11,_)::(12,_)::(14,_)::(16,_)::Lx) _ _
       refine gy ?_
       obtain rfl:s=0:=by omega
       refine aw (r_load_cell isAgg3 rfl (lens_cell0 (c:=(cInt .i64)) (y:=t58.1.f_Owner) (.s .z) (Lens.comp lw (fun z=>{ t58.1 with f_Owner:=z }) (c_api_Entry_f_Owner t58.1)) rfl)) ?_
       exact at_nil k
      ·intro Lx g271 s K hl hh k
       show At 180 ((117,_)::(123,_)::(125,_)::(3,_)::(4,_)::(10,_)::(11,_)::(12,_)::(14,_)::(16,_)::Lx) _ _
       refine gy ?_
       refine aw xq ?_
       exact at_nil k
      ·intro Lx g271 s K hl hh k
       show At 180 ((117,_)::(126,_)::(3,_)::(4,_)::(10,_)::(11,_)::(12,_)::(14,_)::(16,_)::Lx) _ _
       refine aw xp ?_
       exact at_nil k
      ·intro Lx g271 s K hl hh k
       show At 180 ((127,_)::(3,_)::(4,_)::(10,_)::(11,_)::(12,_)::(14,_)::(16,_)::Lx) _ _
       refine am ?_
       exact at_nil (at_cast h262 k)
      ·intro Lx g271 s K hl hh k
       show At 180 ((128,_)::(3,_)::(4,_)::(10,_)::(11,_)::(12,_)::(14,_)::(16,_)::Lx) _ _
       refine gy ?_
       refine am ?_
       exact at_nil k
      ·intro Lx g271 s K hl hh k
       show At 180 ((128,_)::(3,_)::(4,_)::(10,_)::(11,_)::(12,_)::(14,_)::(16,_)::Lx) _ _
       refine gy ?_
       refine am ?_
       exact at_nil k
      ·intro Lx g271 s K hl hh k
       show At 180 ((128,_)::(130,_)::(3,_)::(4,_)::(10,_)::(11,_)::(12,_)::(14,_)::(16,_)::Lx) _ _
       refine gy ?_
       refine aw (r_isub rfl rfl) ?_
       exact at_nil k
      ·intro Lx g271 s K hl hh k
       show At 180 ((128,_)::(129,_)::(131,_)::(3,_)::(4,_)::(10,_)::(11,_)::(12,_)::(14,_)::(16,_)::Lx) _ _
       refine gy ?_
       refine aw (r_idx underlying57 sizeOf62 rfl rfl h263 hp264) ?_
       exact at_nil k
      ·intro Lx g271 s K hl hh k
       show At 180 ((128,_)::(132,_)::(3,_)::(4,_)::(10,_)::(11,_)::(12,_)::(14,_)::(16,_)::Lx) _ _
       refine gy ?_
       refine fa 17 underlying62 rfl sizeOf24 ?_
       exact at_nil k
      ·intro Lx g271 s K hl hh k
       show At 180 ((128,_)::(133,_)::(3,_)::(4,_)::(10,_)::(11,_)::(12,_)::(14,_)::(16,_)::Lx) _ _
       refine gy ?_
       refine fa 0 underlying24 rfl sizeOf3 ?_
       exact at_nil k
      ·intro Lx g271 s K hl hh k
       show At 180 ((128,_)::(134,_)::(3,_)::(4,_)::(10,_)::(11,_)::(12,_)::(14,_)::(16,_)::Lx) _ _
       refine gy ?_
       obtain rfl:s=0:=by omega
       refine aw (r_load_cell isAgg3 rfl (fun w1 hw=>row_lens0 (y:=((lget i47 (wr .i64 ((i47.length:Int)-1))).f_To).f_V) (W:=fun w1=>w1=_) (fun w1 h=>by subst h;exact Below.refl _ _) (hw.own (.s (.s .z))).row h263 hp264 (Lens.comp (Lens.comp lw (fun z=>{ (lget i47 (wr .i64 ((i47.length:Int)-1))) with f_To:=z }) (c_crawlwayref59_Span_f_To (lget i47 (wr .i64 ((i47.length:Int)-1))))) (fun z=>{ (lget i47 (wr .i64 ((i47.length:Int)-1))).f_To with f_V:=z }) (c_api_Addr_f_V ((lget i47 (wr .i64 ((i47.length:Int)-1))).f_To))) rfl _ rfl)) ?_
       exact at_nil k
      ·intro Lx g271 s K hl hh k
       show At 180 ((128,_)::(3,_)::(4,_)::(10,_)::(11,_)::(12,_)::(14,_)::(16,_)::Lx) _ _
       refine gy ?_
       refine am ?_
       exact at_nil k
      ·intro Lx g271 s K hl hh k
       show At 180 ((128,_)::(3,_)::(4,_)::(10,_)::(11,_)::(12,_)::(14,_)::(16,_)::Lx) _ _
       refine gy ?_
       refine am ?_
       exact at_nil k
      ·intro Lx g271 s K hl hh k
       show At 180 ((128,_)::(136,_)::(137,_)::(3,_)::(4,_)::(10,_)::(11,_)::(12,_)::(14,_)::(16,_)::Lx) _ _
       refine gy ?_
       refine aw (r_idx underlying88 sizeOf24 rfl rfl h267 hp268) ?_
       exact at_nil k
      ·intro Lx g271 s K hl hh k
       show At 180 ((128,_)::(138,_)::(3,_)::(4,_)::(10,_)::(11,_)::(12,_)::(14,_)::(16,_)::Lx) _ _
       refine gy ?_
       refine fa 0 underlying24 rfl sizeOf3 ?_
       exact at_nil k
      ·intro Lx g271 s K hl hh k
       show At 180 ((128,_)::(139,_)::(3,_)::(4,_)::(10,_)::(11,_)::(12,_)::(14,_)::(16,_)::Lx) _ _
       refine gy ?_
       obtain rfl:s=0:=by omega
       refine aw (r_load_cell isAgg3 rfl (fun w1 hw=>row_lens0 (y:=(lget q26 i48).f_V) (W:=fun w1=>w1=_) (fun w1 h=>by subst h;exact Below.refl _ _) (hw.own (.s (.s (.s .z)))).row h267 hp268 (Lens.comp lw (fun z=>{ (lget q26 i48) with f_V:=z }) (c_api_Addr_f_V (lget q26 i48))) rfl _ rfl)) ?_
       exact at_nil k
      ·intro Lx g271 s K hl hh k
       show At 180 ((128,_)::(135,_)::(140,_)::(3,_)::(4,_)::(10,_)::(11,_)::(12,_)::(14,_)::(16,_)::Lx) _ _
       refine gy ?_
       refine aw xq ?_
       exact at_nil k
      ·intro Lx g271 s K hl hh k
       show At 180 ((128,_)::(141,_)::(3,_)::(4,_)::(10,_)::(11,_)::(12,_)::(14,_)::(16,_)::Lx) _ _
       refine aw xp ?_
       exact at_nil k
      intro g271
      show At 180 [(115,_),(116,_),(117,_),(118,_),(119,_),(120,_),(121,_),(122,_),(123,_),(124,_),(125,_),(126,_),(127,_),(128,_),(129,_),(130,_),(131,_),(132,_),(133,_),(134,_),(135,_),(136,_),(137,_),(138,_),(139,_),(140,_),(141,_),(142,_),(3,_),(4,_),(10,_),(11,_),(12,_),(14,_),(16,_)] _ _
      refine wq [142,16,14,12,11,10,4,3] ?_
      refine tn ?_
      obtain ⟨h272,hF⟩|⟨h272,hF⟩:=oi hF
      ·refine ct h272 ?_
       refine sr (am (am ?_))
       refine aw (r_isub rfl rfl) ?_
       obtain ⟨h273,hF⟩:=gd hF
       refine at_pure (φ:=∃ b o,p49=some ⟨b,o,none⟩) (fun _ hw=>row_ptr (hw.own (.s (.s .z))).row h273) ?_
       rintro ⟨b275,o276,hp274⟩
       refine aw (r_idx underlying57 sizeOf62 rfl rfl h273 hp274) ?_
       refine fa 17 underlying62 rfl sizeOf24 ?_
       refine aw (r_load_aggc (c:=c_api_Addr) (z:=(lget i47 (wr .i64 ((i47.length:Int)-1))).f_To) isAgg24 sizeOf24 rfl (fun w1 hw=>row_lens (y:=(lget i47 (wr .i64 ((i47.length:Int)-1))).f_To) (W:=fun w1=>w1=_) (fun w1 h=>by subst h;exact Below.refl _ _) (hw.own (.s (.s .z))).row h273 hp274 (Lens.comp lw (fun z=>{ (lget i47 (wr .i64 ((i47.length:Int)-1))) with f_To:=z }) (c_crawlwayref59_Span_f_To (lget i47 (wr .i64 ((i47.length:Int)-1))))) _ rfl)) ?_
       obtain ⟨t277,ht277,hF⟩:=bM hF
       refine cB func17 rfl (fun w hw=>crawlwayref53_Next_ok _ _ ht277 w) ?_
       refine am ?_
       refine aw xe (aw xe ?_)
       refine al (cs:=Cd.cs c_api_Addr zv0) zeroValue24 ?_
       intro b278
       refine at_store (c:=c_api_Addr) (z:=t277.1) .z lw sizeOf24 rfl rfl rfl ?_
       refine aa (nt (qs (wq [18,17,16,14,12,11,10,4,3] ?_)))
       obtain ⟨h279,hF⟩|⟨h279,hF⟩:=oi hF
       ·skip
        obtain ⟨h280,hF⟩:=gd hF
        refine at_pure (φ:=∃ b o,p31=some ⟨b,o,none⟩) (fun _ hw=>row_ptr (hw.own (.s (.s (.s (.s .z))))).row h280) ?_
        rintro ⟨b282,o283,hp281⟩
        refine at_inv [.q 153 (fun g284=>.bool t277.2) [] 0 0,.q 154 (fun g284=>.bool true) [0] 0 0,.q 155 (fun g284=>.agg (Cd.cs c_api_Addr t277.1).toArray) [1] 0 0,.q 156 (fun g284=>.slice p31 q26.length c32) [1] 0 0,.q 157 (fun g284=>.int .i64 i48) [1] 0 0,.q 158 (fun g284=>.pointer (some ⟨b282,o283+Int.toNat i48*17,none⟩)) [1,3,4] 0 0,.q 159 (fun g284=>.agg (Cd.cs c_api_Addr (lget q26 i48)).toArray) [1,5] 0 0,.q 160 (fun g284=>.bool (decide (t277.1=lget q26 i48))) [1,2,6] 0 0,.q 161 (fun g284=>.bool (decide (t277.1=lget q26 i48))) [1,7] 0 0] (fun g284 s=>match s with | _=>(Wd w [cellsE b278 (Cd.cs c_api_Addr t277.1) 24,cellsE b65 (Cd.cs c_api_Addr q251) 24,cellsE b59 (Cd.cs c_api_Entry t58.1) 66,rowE c_crawlwayref59_Span 62 p49 c50 i47,rowE c_api_Addr 24 p31 c32 q26,rowE c_api_Entry 66 p2 c3 t1])) 0 (by kernel_rfl) (by kernel_rfl) (by kernel_rfl) (by kernel_rfl) (by kernel_rfl) ⟨fun _ _ _=>rfl,fun _ _ _=>rfl,fun _ _ _=>rfl,fun _ _ _=>rfl,fun _ _ _=>rfl,fun _ _ _=>rfl,fun _ _ _=>rfl,fun _ _ _=>rfl,fun _ _ _=>rfl,trivial⟩ (by kernel_rfl) (fun w_ h=>⟨fun _=>g3 0 none 0 none w_,h.drew⟩) ⟨?_,?_,?_,?_,?_,?_,?_,?_,?_,trivial⟩ ?_
        ·intro Lx g284 s K hl hh k
         show At 180 ((3,_)::(4,_)::(10,_)::(11,_)::(12,_)::(14,_)::(16,_)::(17,_)::(18,_)::Lx) _ _
         refine am ?_
         exact at_nil k
        ·intro Lx g284 s K hl hh k
         show At 180 ((153,_)::(3,_)::(4,_)::(10,_)::(11,_)::(12,_)::(14,_)::(16,_)::(17,_)::(18,_)::Lx) _ _
         refine am ?_
         exact at_nil (at_cast h279 k)
        ·intro Lx g284 s K hl hh k
         show At 180 ((154,_)::(3,_)::(4,_)::(10,_)::(11,_)::(12,_)::(14,_)::(16,_)::(17,_)::(18,_)::Lx) _ _
         refine gy ?_
         obtain rfl:s=0:=by omega
         refine aw (r_load_aggc (c:=c_api_Addr) (z:=t277.1) isAgg24 sizeOf24 rfl (lens_cell .z lw)) ?_
         exact at_nil k
        ·intro Lx g284 s K hl hh k
         show At 180 ((154,_)::(3,_)::(4,_)::(10,_)::(11,_)::(12,_)::(14,_)::(16,_)::(17,_)::(18,_)::Lx) _ _
         refine gy ?_
         refine am ?_
         exact at_nil k
        ·intro Lx g284 s K hl hh k
         show At 180 ((154,_)::(3,_)::(4,_)::(10,_)::(11,_)::(12,_)::(14,_)::(16,_)::(17,_)::(18,_)::Lx) _ _
         refine gy ?_
         refine am ?_
         exact at_nil k
        ·intro Lx g284 s K hl hh k
         show At 180 ((154,_)::(156,_)::(157,_)::(3,_)::(4,_)::(10,_)::(11,_)::(12,_)::(14,_)::(16,_)::(17,_)::(18,_)::Lx) _ _
         refine gy ?_
         refine aw (r_idx underlying88 sizeOf24 rfl rfl h280 hp281) ?_
         exact at_nil k
        ·intro Lx g284 s K hl hh k
         show At 180 ((154,_)::(158,_)::(3,_)::(4,_)::(10,_)::(11,_)::(12,_)::(14,_)::(16,_)::(17,_)::(18,_)::Lx) _ _
         refine gy ?_
         obtain rfl:s=0:=by omega
         refine aw (r_load_aggc (c:=c_api_Addr) (z:=lget q26 i48) isAgg24 sizeOf24 rfl (fun w1 hw=>row_cell (W:=fun w1=>w1=_) (fun w1 h=>by subst h;exact Below.refl _ _) (hw.own (.s (.s (.s (.s .z))))).row h280 hp281 _ rfl)) ?_
         exact at_nil k
        ·intro Lx g284 s K hl hh k
         show At 180 ((154,_)::(155,_)::(159,_)::(3,_)::(4,_)::(10,_)::(11,_)::(12,_)::(14,_)::(16,_)::(17,_)::(18,_)::Lx) _ _
         refine gy ?_
         refine aw (r_eqagg (c:=c_api_Addr) (a:=t277.1) (b:=lget q26 i48) (eq_api_Addr_24) rfl Try.eqGuardType24 rfl rfl (.inl rfl) rfl) ?_
         exact at_nil k
        ·intro Lx g284 s K hl hh k
         show At 180 ((154,_)::(160,_)::(3,_)::(4,_)::(10,_)::(11,_)::(12,_)::(14,_)::(16,_)::(17,_)::(18,_)::Lx) _ _
         refine aw xp ?_
         exact at_nil k
        intro g284
        show At 180 [(153,_),(154,_),(155,_),(156,_),(157,_),(158,_),(159,_),(160,_),(161,_),(3,_),(4,_),(10,_),(11,_),(12,_),(14,_),(16,_),(17,_),(18,_)] _ _
        refine dz (wq [161,16,14,12,11,10,4,3] ?_)
        refine tn ?_
        obtain ⟨h285,hF⟩|⟨h285,hF⟩:=oi hF
        ·refine ct h285 ?_
         refine sr (am (am ?_))
         refine aw (r_isub rfl rfl) ?_
         refine aw (r_load_aggc (c:=c_api_Addr) (z:=q251) isAgg24 sizeOf24 rfl (lens_cell .z lw)) ?_
         obtain ⟨h286,hF⟩:=gd hF
         refine at_pure (φ:=∃ b o,p49=some ⟨b,o,none⟩) (fun _ hw=>row_ptr (hw.own (.s (.s .z))).row h286) ?_
         rintro ⟨b288,o289,hp287⟩
         refine aw (r_idx underlying57 sizeOf62 rfl rfl h286 hp287) ?_
         refine fa 17 underlying62 rfl sizeOf24 ?_
         refine at_storeRow (c:=c_crawlwayref59_Span) (c':=c_api_Addr) (i:=wr .i64 ((i47.length:Int)-1)) (z:=q251) (y:={ (lget i47 (wr .i64 ((i47.length:Int)-1))) with f_To:=q251 }) (.s (.s .z)) h286 hp287 (Lens.comp lw (fun z=>{ (lget i47 (wr .i64 ((i47.length:Int)-1))) with f_To:=z }) (c_crawlwayref59_Span_f_To (lget i47 (wr .i64 ((i47.length:Int)-1))))) (by rfl) sizeOf24 rfl rfl rfl ?_
         refine at_ov (t:=10) rfl (show Value.slice p49 (List.length i47) c50=.slice p49 (List.length (lset i47 (wr .i64 ((i47.length:Int)-1)) ({ (lget i47 (wr .i64 ((i47.length:Int)-1))) with f_To:=q251 }))) c50 from congrArg (fun n_=>Value.slice p49 n_ c50) ((lset_length _ _ _).symm)) ?_
         refine at_ov (t:=162) rfl (show Value.slice p49 (List.length i47) c50=.slice p49 (List.length (lset i47 (wr .i64 ((i47.length:Int)-1)) ({ (lget i47 (wr .i64 ((i47.length:Int)-1))) with f_To:=q251 }))) c50 from congrArg (fun n_=>Value.slice p49 n_ c50) ((lset_length _ _ _).symm)) ?_
         refine qn (dz (dz (wq [11,10,4,3] ?_)))
         refine tn ?_
         refine at_exit ?_
         refine te (at_blk_same (tn ?_))
         refine qr (am (aw xa (aa (nwq [11,10,4,3] ?_))))
         exact at_weak_k (ih _ _ _ hF K p49 c50) ⟨rfl,rfl,rfl,rfl,trivial⟩
        refine cf h285 ?_
        refine sn (wq [14,12,11,10,4,3] ?_)
        obtain ⟨h290,hF⟩:=gd hF
        refine at_pure (φ:=∃ b o,p31=some ⟨b,o,none⟩) (fun _ hw=>row_ptr (hw.own (.s (.s (.s .z)))).row h290) ?_
        rintro ⟨b292,o293,hp291⟩
        refine at_invT [.q 168 (fun g295=>.slice p49 i47.length c50) [] 0 1,.q 169 (fun g295=>.slice p31 q26.length c32) [] 0 0,.q 170 (fun g295=>.int .i64 i48) [] 0 0,.q 171 (fun g295=>.pointer (some ⟨b292,o293+Int.toNat i48*17,none⟩)) [1,2] 0 0,.q 172 (fun g295=>.agg (Cd.cs c_api_Addr (lget q26 i48)).toArray) [3] 0 0,.q 173 (fun g295=>.agg (Cd.cs c_api_Addr q251).toArray) [] 0 0,.q 174 (fun g295=>.pointer (some ⟨b59,0+18,none⟩)) [] 0 0,.q 175 (fun g295=>.int .i64 t58.1.f_Owner) [6] 0 0,.q 176 (fun g295=>.agg (Cd.cs c_crawlwayref59_Span ({ { { zv4 with f_From:=lget q26 i48 } with f_To:=q251 } with f_Owner:=t58.1.f_Owner })).toArray) [4,5,7] 0 0,.al 0 177 (fun g295=>.slice (some ⟨((g295 0).1),0,none⟩) ([{ { { zv4 with f_From:=lget q26 i48 } with f_To:=q251 } with f_Owner:=t58.1.f_Owner }]:List S_crawlwayref59_Span).length 1) [8]] (fun g295 s=>match s with | 0=>(Wd w [cellsE b65 (Cd.cs c_api_Addr q251) 24,cellsE b59 (Cd.cs c_api_Entry t58.1) 66,rowE c_crawlwayref59_Span 62 p49 c50 i47,rowE c_api_Addr 24 p31 c32 q26,rowE c_api_Entry 66 p2 c3 t1]) | _=>(Wd w [cellsE ((g295 0).1) (c_crawlwayref59_Span.all ([{ { { zv4 with f_From:=lget q26 i48 } with f_To:=q251 } with f_Owner:=t58.1.f_Owner }]:List S_crawlwayref59_Span)) 62,cellsE b65 (Cd.cs c_api_Addr q251) 24,cellsE b59 (Cd.cs c_api_Entry t58.1) 66,rowE c_crawlwayref59_Span 62 p49 c50 i47,rowE c_api_Addr 24 p31 c32 q26,rowE c_api_Entry 66 p2 c3 t1])) 1 10 (by kernel_rfl) (by kernel_rfl) (by kernel_rfl) (by kernel_rfl) (by kernel_rfl) (by kernel_rfl) ⟨fun _ _ _=>rfl,fun _ _ _=>rfl,fun _ _ _=>rfl,fun _ _ _=>rfl,fun _ _ _=>rfl,fun _ _ _=>rfl,fun _ _ _=>rfl,fun _ _ _=>rfl,fun _ _ _=>rfl,fun g295 g2 h=>by show (.slice (some ⟨((g295 0).1),0,none⟩) ([{ { { zv4 with f_From:=lget q26 i48 } with f_To:=q251 } with f_Owner:=t58.1.f_Owner }]:List S_crawlwayref59_Span).length 1:Value)=.slice (some ⟨((g2 0).1),0,none⟩) ([{ { { zv4 with f_From:=lget q26 i48 } with f_To:=q251 } with f_Owner:=t58.1.f_Owner }]:List S_crawlwayref59_Span).length 1;rw [h 0 (show 0<1 by decide)],trivial⟩ (by kernel_rfl) (fun w_ h=>⟨fun _=>g3 0 none 0 none w_,h.drew⟩) ⟨?_,?_,?_,?_,?_,?_,?_,?_,?_,?_,trivial⟩ ?_
        ·intro Lx g295 s K hl hh k
         show At 180 ((3,_)::(4,_)::(10,_)::(11,_)::(12,_)::(14,_)::Lx) _ _
         refine am ?_
         exact at_nil k
        ·intro Lx g295 s K hl hh k
         show At 180 ((3,_)::(4,_)::(10,_)::(11,_)::(12,_)::(14,_)::Lx) _ _
         refine am ?_
         exact at_nil k
        ·intro Lx g295 s K hl hh k
         show At 180 ((3,_)::(4,_)::(10,_)::(11,_)::(12,_)::(14,_)::Lx) _ _
         refine am ?_
         exact at_nil k
        ·intro Lx g295 s K hl hh k
         show At 180 ((169,_)::(170,_)::(3,_)::(4,_)::(10,_)::(11,_)::(12,_)::(14,_)::Lx) _ _
         refine aw (r_idx underlying88 sizeOf24 rfl rfl h290 hp291) ?_
         exact at_nil k
        ·intro Lx g295 s K hl hh k
         show At 180 ((171,_)::(3,_)::(4,_)::(10,_)::(11,_)::(12,_)::(14,_)::Lx) _ _
         obtain rfl:s=0:=by omega
         refine aw (r_load_aggc (c:=c_api_Addr) (z:=lget q26 i48) isAgg24 sizeOf24 rfl (fun w1 hw=>row_cell (W:=fun w1=>w1=_) (fun w1 h=>by subst h;exact Below.refl _ _) (hw.own (.s (.s (.s .z)))).row h290 hp291 _ rfl)) ?_
         exact at_nil k
        ·intro Lx g295 s K hl hh k
         show At 180 ((3,_)::(4,_)::(10,_)::(11,_)::(12,_)::(14,_)::Lx) _ _
         obtain rfl:s=0:=by omega
         refine aw (r_load_aggc (c:=c_api_Addr) (z:=q251) isAgg24 sizeOf24 rfl (lens_cell .z lw)) ?_
         exact at_nil k
        ·intro Lx g295 s K hl hh k
         show At 180 ((3,_)::(4,_)::(10,_)::(11,_)::(12,_)::(14,_)::Lx) _ _
         refine fa 18 underlying66 rfl sizeOf3 ?_
         exact at_nil k
        ·intro Lx g295 s K hl hh k
         show At 180 ((174,_)::(3,_)::(4,_)::(10,_)::(11,_)::(12,_)::(14,_)::Lx) _ _
         obtain rfl:s=0:=by omega
         refine aw (r_load_cell isAgg3 rfl (lens_cell0 (c:=(cInt .i64)) (y:=t58.1.f_Owner) (.s .z) (Lens.comp lw (fun z=>{ t58.1 with f_Owner:=z }) (c_api_Entry_f_Owner t58.1)) rfl)) ?_
         exact at_nil k
        ·intro Lx g295 s K hl hh k
         show At 180 ((172,_)::(173,_)::(175,_)::(3,_)::(4,_)::(10,_)::(11,_)::(12,_)::(14,_)::Lx) _ _
         obtain rfl:s=0:=by omega
         refine aw (r_build_struct (zs:=Cd.cs c_crawlwayref59_Span zv4) (cs:=Cd.cs c_crawlwayref59_Span ({ { { zv4 with f_From:=lget q26 i48 } with f_To:=q251 } with f_Owner:=t58.1.f_Owner })) underlying62 zeroValue62 rfl (places_crawlwayref59_Span_62) rfl (fill_step (c:=c_api_Addr) (z:=lget q26 i48) rfl (c_crawlwayref59_Span_f_From zv4) rfl (fill_step (c:=c_api_Addr) (z:=q251) rfl (c_crawlwayref59_Span_f_To ({ zv4 with f_From:=lget q26 i48 })) rfl (fill_step (c:=(cInt .i64)) (z:=t58.1.f_Owner) rfl (c_crawlwayref59_Span_f_Owner ({ { zv4 with f_From:=lget q26 i48 } with f_To:=q251 })) rfl rfl)))) ?_
         exact at_nil k
        ·intro Lx g295 K k
         show At 180 ((176,_)::(3,_)::(4,_)::(10,_)::(11,_)::(12,_)::(14,_)::Lx) _ _
         refine at_litL (c:=c_crawlwayref59_Span) ([zv4]:List S_crawlwayref59_Span) ([{ { { zv4 with f_From:=lget q26 i48 } with f_To:=q251 } with f_Owner:=t58.1.f_Owner }]:List S_crawlwayref59_Span) underlying57 sizeOf62 zeroValue62 rfl rfl rfl (by kernel_rfl) (fill_step (c:=c_crawlwayref59_Span) (z:={ { { zv4 with f_From:=lget q26 i48 } with f_To:=q251 } with f_Owner:=t58.1.f_Owner }) rfl (Lens.all c_crawlwayref59_Span ([zv4]:List S_crawlwayref59_Span) 0 (by first | decide | exact Nat.le_of_ble_eq_true rfl)) rfl rfl) rfl ?_
         intro b294
         exact at_nil (k (g3 b294 none 0 none w))
        intro g295
        show At 180 [(168,_),(169,_),(170,_),(171,_),(172,_),(173,_),(174,_),(175,_),(176,_),(177,_),(3,_),(4,_),(10,_),(11,_),(12,_),(14,_)] _ _
        obtain ⟨h296,hF⟩:=gd hF
        refine at_append (z:=.agg (Cd.cs c_crawlwayref59_Span zv4).toArray) (c:=c_crawlwayref59_Span) (ys:=([{ { { zv4 with f_From:=lget q26 i48 } with f_To:=q251 } with f_Owner:=t58.1.f_Owner }]:List S_crawlwayref59_Span)) (.s (.s (.s .z))) underlying57 infoF362 (by kernel_rfl) (by kernel_rfl) rfl rfl rfl rfl (fun _ hw=>cells_src (hw.ok (Upd.mem .z))) (by kernel_rfl) h296 (app_small h296) rfl ?_
        intro p297 c298
        refine aa (qn (dz (dz (dz (wq [11,10,4,3] ?_)))))
        refine bm ?_
        refine qr (am (aw xa (aa (nwq [11,10,4,3] ?_))))
        exact at_weak_k (ih _ _ _ hF K p297 c298) ⟨rfl,rfl,rfl,rfl,trivial⟩
       skip
       refine at_inv [.q 153 (fun g299=>.bool t277.2) [] 0 0,.q 154 (fun g299=>.bool false) [0] 0 0,.q 155 (fun g299=>undef) [1] 0 0,.q 156 (fun g299=>undef) [1] 0 0,.q 157 (fun g299=>undef) [1] 0 0,.q 158 (fun g299=>undef) [1,3,4] 0 0,.q 159 (fun g299=>undef) [1,5] 0 0,.q 160 (fun g299=>undef) [1,2,6] 0 0,.q 161 (fun g299=>.bool false) [1,7] 0 0] (fun g299 s=>match s with | _=>(Wd w [cellsE b278 (Cd.cs c_api_Addr t277.1) 24,cellsE b65 (Cd.cs c_api_Addr q251) 24,cellsE b59 (Cd.cs c_api_Entry t58.1) 66,rowE c_crawlwayref59_Span 62 p49 c50 i47,rowE c_api_Addr 24 p31 c32 q26,rowE c_api_Entry 66 p2 c3 t1])) 0 (by kernel_rfl) (by kernel_rfl) (by kernel_rfl) (by kernel_rfl) (by kernel_rfl) ⟨fun _ _ _=>rfl,fun _ _ _=>rfl,fun _ _ _=>rfl,fun _ _ _=>rfl,fun _ _ _=>rfl,fun _ _ _=>rfl,fun _ _ _=>rfl,fun _ _ _=>rfl,fun _ _ _=>rfl,trivial⟩ (by kernel_rfl) (fun w_ h=>⟨fun _=>g3 0 none 0 none w_,h.drew⟩) ⟨?_,?_,?_,?_,?_,?_,?_,?_,?_,trivial⟩ ?_
       ·intro Lx g299 s K hl hh k
        show At 180 ((3,_)::(4,_)::(10,_)::(11,_)::(12,_)::(14,_)::(16,_)::(17,_)::(18,_)::Lx) _ _
        refine am ?_
        exact at_nil k
       ·intro Lx g299 s K hl hh k
        show At 180 ((153,_)::(3,_)::(4,_)::(10,_)::(11,_)::(12,_)::(14,_)::(16,_)::(17,_)::(18,_)::Lx) _ _
        refine am ?_
        exact at_nil (at_cast h279 k)
       ·intro Lx g299 s K hl hh k
        show At 180 ((154,_)::(3,_)::(4,_)::(10,_)::(11,_)::(12,_)::(14,_)::(16,_)::(17,_)::(18,_)::Lx) _ _
        obtain rfl:s=0:=by omega
        refine gn ?_
        exact at_nil k
       ·intro Lx g299 s K hl hh k
        show At 180 ((154,_)::(3,_)::(4,_)::(10,_)::(11,_)::(12,_)::(14,_)::(16,_)::(17,_)::(18,_)::Lx) _ _
        refine gn ?_
        exact at_nil k
       ·intro Lx g299 s K hl hh k
        show At 180 ((154,_)::(3,_)::(4,_)::(10,_)::(11,_)::(12,_)::(14,_)::(16,_)::(17,_)::(18,_)::Lx) _ _
        refine gn ?_
        exact at_nil k
       ·intro Lx g299 s K hl hh k
        show At 180 ((154,_)::(156,_)::(157,_)::(3,_)::(4,_)::(10,_)::(11,_)::(12,_)::(14,_)::(16,_)::(17,_)::(18,_)::Lx) _ _
        refine gn ?_
        exact at_nil k
       ·intro Lx g299 s K hl hh k
        show At 180 ((154,_)::(158,_)::(3,_)::(4,_)::(10,_)::(11,_)::(12,_)::(14,_)::(16,_)::(17,_)::(18,_)::Lx) _ _
        obtain rfl:s=0:=by omega
        refine gn ?_
        exact at_nil k
       ·intro Lx g299 s K hl hh k
        show At 180 ((154,_)::(155,_)::(159,_)::(3,_)::(4,_)::(10,_)::(11,_)::(12,_)::(14,_)::(16,_)::(17,_)::(18,_)::Lx) _ _
        refine gn ?_
        exact at_nil k
       ·intro Lx g299 s K hl hh k
        show At 180 ((154,_)::(160,_)::(3,_)::(4,_)::(10,_)::(11,_)::(12,_)::(14,_)::(16,_)::(17,_)::(18,_)::Lx) _ _
        refine aw xp ?_
        exact at_nil k
       intro g299
       show At 180 [(153,_),(154,_),(155,_),(156,_),(157,_),(158,_),(159,_),(160,_),(161,_),(3,_),(4,_),(10,_),(11,_),(12,_),(14,_),(16,_),(17,_),(18,_)] _ _
       refine dz (wq [161,16,14,12,11,10,4,3] ?_)
       refine tn ?_
       refine cf rfl ?_
       refine sn (wq [14,12,11,10,4,3] ?_)
       obtain ⟨h300,hF⟩:=gd hF
       refine at_pure (φ:=∃ b o,p31=some ⟨b,o,none⟩) (fun _ hw=>row_ptr (hw.own (.s (.s (.s .z)))).row h300) ?_
       rintro ⟨b302,o303,hp301⟩
       refine at_invT [.q 168 (fun g305=>.slice p49 i47.length c50) [] 0 1,.q 169 (fun g305=>.slice p31 q26.length c32) [] 0 0,.q 170 (fun g305=>.int .i64 i48) [] 0 0,.q 171 (fun g305=>.pointer (some ⟨b302,o303+Int.toNat i48*17,none⟩)) [1,2] 0 0,.q 172 (fun g305=>.agg (Cd.cs c_api_Addr (lget q26 i48)).toArray) [3] 0 0,.q 173 (fun g305=>.agg (Cd.cs c_api_Addr q251).toArray) [] 0 0,.q 174 (fun g305=>.pointer (some ⟨b59,0+18,none⟩)) [] 0 0,.q 175 (fun g305=>.int .i64 t58.1.f_Owner) [6] 0 0,.q 176 (fun g305=>.agg (Cd.cs c_crawlwayref59_Span ({ { { zv4 with f_From:=lget q26 i48 } with f_To:=q251 } with f_Owner:=t58.1.f_Owner })).toArray) [4,5,7] 0 0,.al 0 177 (fun g305=>.slice (some ⟨((g305 0).1),0,none⟩) ([{ { { zv4 with f_From:=lget q26 i48 } with f_To:=q251 } with f_Owner:=t58.1.f_Owner }]:List S_crawlwayref59_Span).length 1) [8]] (fun g305 s=>match s with | 0=>(Wd w [cellsE b65 (Cd.cs c_api_Addr q251) 24,cellsE b59 (Cd.cs c_api_Entry t58.1) 66,rowE c_crawlwayref59_Span 62 p49 c50 i47,rowE c_api_Addr 24 p31 c32 q26,rowE c_api_Entry 66 p2 c3 t1]) | _=>(Wd w [cellsE ((g305 0).1) (c_crawlwayref59_Span.all ([{ { { zv4 with f_From:=lget q26 i48 } with f_To:=q251 } with f_Owner:=t58.1.f_Owner }]:List S_crawlwayref59_Span)) 62,cellsE b65 (Cd.cs c_api_Addr q251) 24,cellsE b59 (Cd.cs c_api_Entry t58.1) 66,rowE c_crawlwayref59_Span 62 p49 c50 i47,rowE c_api_Addr 24 p31 c32 q26,rowE c_api_Entry 66 p2 c3 t1])) 1 10 (by kernel_rfl) (by kernel_rfl) (by kernel_rfl) (by kernel_rfl) (by kernel_rfl) (by kernel_rfl) ⟨fun _ _ _=>rfl,fun _ _ _=>rfl,fun _ _ _=>rfl,fun _ _ _=>rfl,fun _ _ _=>rfl,fun _ _ _=>rfl,fun _ _ _=>rfl,fun _ _ _=>rfl,fun _ _ _=>rfl,fun g305 g2 h=>by show (.slice (some ⟨((g305 0).1),0,none⟩) ([{ { { zv4 with f_From:=lget q26 i48 } with f_To:=q251 } with f_Owner:=t58.1.f_Owner }]:List S_crawlwayref59_Span).length 1:Value)=.slice (some ⟨((g2 0).1),0,none⟩) ([{ { { zv4 with f_From:=lget q26 i48 } with f_To:=q251 } with f_Owner:=t58.1.f_Owner }]:List S_crawlwayref59_Span).length 1;rw [h 0 (show 0<1 by decide)],trivial⟩ (by kernel_rfl) (fun w_ h=>⟨fun _=>g3 0 none 0 none w_,h.drew⟩) ⟨?_,?_,?_,?_,?_,?_,?_,?_,?_,?_,trivial⟩ ?_
       ·intro Lx g305 s K hl hh k
        show At 180 ((3,_)::(4,_)::(10,_)::(11,_)::(12,_)::(14,_)::Lx) _ _
        refine am ?_
        exact at_nil k
       ·intro Lx g305 s K hl hh k
        show At 180 ((3,_)::(4,_)::(10,_)::(11,_)::(12,_)::(14,_)::Lx) _ _
        refine am ?_
        exact at_nil k
       ·intro Lx g305 s K hl hh k
        show At 180 ((3,_)::(4,_)::(10,_)::(11,_)::(12,_)::(14,_)::Lx) _ _
        refine am ?_
        exact at_nil k
       ·intro Lx g305 s K hl hh k
        show At 180 ((169,_)::(170,_)::(3,_)::(4,_)::(10,_)::(11,_)::(12,_)::(14,_)::Lx) _ _
        refine aw (r_idx underlying88 sizeOf24 rfl rfl h300 hp301) ?_
        exact at_nil k
       ·intro Lx g305 s K hl hh k
        show At 180 ((171,_)::(3,_)::(4,_)::(10,_)::(11,_)::(12,_)::(14,_)::Lx) _ _
        obtain rfl:s=0:=by omega
        refine aw (r_load_aggc (c:=c_api_Addr) (z:=lget q26 i48) isAgg24 sizeOf24 rfl (fun w1 hw=>row_cell (W:=fun w1=>w1=_) (fun w1 h=>by subst h;exact Below.refl _ _) (hw.own (.s (.s (.s .z)))).row h300 hp301 _ rfl)) ?_
        exact at_nil k
       ·intro Lx g305 s K hl hh k
        show At 180 ((3,_)::(4,_)::(10,_)::(11,_)::(12,_)::(14,_)::Lx) _ _
        obtain rfl:s=0:=by omega
        refine aw (r_load_aggc (c:=c_api_Addr) (z:=q251) isAgg24 sizeOf24 rfl (lens_cell .z lw)) ?_
        exact at_nil k
       ·intro Lx g305 s K hl hh k
        show At 180 ((3,_)::(4,_)::(10,_)::(11,_)::(12,_)::(14,_)::Lx) _ _
        refine fa 18 underlying66 rfl sizeOf3 ?_
        exact at_nil k
       ·intro Lx g305 s K hl hh k
        show At 180 ((174,_)::(3,_)::(4,_)::(10,_)::(11,_)::(12,_)::(14,_)::Lx) _ _
        obtain rfl:s=0:=by omega
        refine aw (r_load_cell isAgg3 rfl (lens_cell0 (c:=(cInt .i64)) (y:=t58.1.f_Owner) (.s .z) (Lens.comp lw (fun z=>{ t58.1 with f_Owner:=z }) (c_api_Entry_f_Owner t58.1)) rfl)) ?_
        exact at_nil k
       ·intro Lx g305 s K hl hh k
        show At 180 ((172,_)::(173,_)::(175,_)::(3,_)::(4,_)::(10,_)::(11,_)::(12,_)::(14,_)::Lx) _ _
        obtain rfl:s=0:=by omega
        refine aw (r_build_struct (zs:=Cd.cs c_crawlwayref59_Span zv4) (cs:=Cd.cs c_crawlwayref59_Span ({ { { zv4 with f_From:=lget q26 i48 } with f_To:=q251 } with f_Owner:=t58.1.f_Owner })) underlying62 zeroValue62 rfl (places_crawlwayref59_Span_62) rfl (fill_step (c:=c_api_Addr) (z:=lget q26 i48) rfl (c_crawlwayref59_Span_f_From zv4) rfl (fill_step (c:=c_api_Addr) (z:=q251) rfl (c_crawlwayref59_Span_f_To ({ zv4 with f_From:=lget q26 i48 })) rfl (fill_step (c:=(cInt .i64)) (z:=t58.1.f_Owner) rfl (c_crawlwayref59_Span_f_Owner ({ { zv4 with f_From:=lget q26 i48 } with f_To:=q251 })) rfl rfl)))) ?_
        exact at_nil k
       ·intro Lx g305 K k
        show At 180 ((176,_)::(3,_)::(4,_)::(10,_)::(11,_)::(12,_)::(14,_)::Lx) _ _
        refine at_litL (c:=c_crawlwayref59_Span) ([zv4]:List S_crawlwayref59_Span) ([{ { { zv4 with f_From:=lget q26 i48 } with f_To:=q251 } with f_Owner:=t58.1.f_Owner }]:List S_crawlwayref59_Span) underlying57 sizeOf62 zeroValue62 rfl rfl rfl (by kernel_rfl) (fill_step (c:=c_crawlwayref59_Span) (z:={ { { zv4 with f_From:=lget q26 i48 } with f_To:=q251 } with f_Owner:=t58.1.f_Owner }) rfl (Lens.all c_crawlwayref59_Span ([zv4]:List S_crawlwayref59_Span) 0 (by first | decide | exact Nat.le_of_ble_eq_true rfl)) rfl rfl) rfl ?_
        intro b304
        exact at_nil (k (g3 b304 none 0 none w))
       intro g305
       show At 180 [(168,_),(169,_),(170,_),(171,_),(172,_),(173,_),(174,_),(175,_),(176,_),(177,_),(3,_),(4,_),(10,_),(11,_),(12,_),(14,_)] _ _
       obtain ⟨h306,hF⟩:=gd hF
       refine at_append (z:=.agg (Cd.cs c_crawlwayref59_Span zv4).toArray) (c:=c_crawlwayref59_Span) (ys:=([{ { { zv4 with f_From:=lget q26 i48 } with f_To:=q251 } with f_Owner:=t58.1.f_Owner }]:List S_crawlwayref59_Span)) (.s (.s (.s .z))) underlying57 infoF362 (by kernel_rfl) (by kernel_rfl) rfl rfl rfl rfl (fun _ hw=>cells_src (hw.ok (Upd.mem .z))) (by kernel_rfl) h306 (app_small h306) rfl ?_
       intro p307 c308
       refine aa (qn (dz (dz (dz (wq [11,10,4,3] ?_)))))
       refine bm ?_
       refine qr (am (aw xa (aa (nwq [11,10,4,3] ?_))))
       exact at_weak_k (ih _ _ _ hF K p307 c308) ⟨rfl,rfl,rfl,rfl,trivial⟩
      refine cf h272 ?_
      refine sn (wq [14,12,11,10,4,3] ?_)
      obtain ⟨h309,hF⟩:=gd hF
      refine at_pure (φ:=∃ b o,p31=some ⟨b,o,none⟩) (fun _ hw=>row_ptr (hw.own (.s (.s (.s .z)))).row h309) ?_
      rintro ⟨b311,o312,hp310⟩
      refine at_invT [.q 168 (fun g314=>.slice p49 i47.length c50) [] 0 1,.q 169 (fun g314=>.slice p31 q26.length c32) [] 0 0,.q 170 (fun g314=>.int .i64 i48) [] 0 0,.q 171 (fun g314=>.pointer (some ⟨b311,o312+Int.toNat i48*17,none⟩)) [1,2] 0 0,.q 172 (fun g314=>.agg (Cd.cs c_api_Addr (lget q26 i48)).toArray) [3] 0 0,.q 173 (fun g314=>.agg (Cd.cs c_api_Addr q251).toArray) [] 0 0,.q 174 (fun g314=>.pointer (some ⟨b59,0+18,none⟩)) [] 0 0,.q 175 (fun g314=>.int .i64 t58.1.f_Owner) [6] 0 0,.q 176 (fun g314=>.agg (Cd.cs c_crawlwayref59_Span ({ { { zv4 with f_From:=lget q26 i48 } with f_To:=q251 } with f_Owner:=t58.1.f_Owner })).toArray) [4,5,7] 0 0,.al 0 177 (fun g314=>.slice (some ⟨((g314 0).1),0,none⟩) ([{ { { zv4 with f_From:=lget q26 i48 } with f_To:=q251 } with f_Owner:=t58.1.f_Owner }]:List S_crawlwayref59_Span).length 1) [8]] (fun g314 s=>match s with | 0=>(Wd w [cellsE b65 (Cd.cs c_api_Addr q251) 24,cellsE b59 (Cd.cs c_api_Entry t58.1) 66,rowE c_crawlwayref59_Span 62 p49 c50 i47,rowE c_api_Addr 24 p31 c32 q26,rowE c_api_Entry 66 p2 c3 t1]) | _=>(Wd w [cellsE ((g314 0).1) (c_crawlwayref59_Span.all ([{ { { zv4 with f_From:=lget q26 i48 } with f_To:=q251 } with f_Owner:=t58.1.f_Owner }]:List S_crawlwayref59_Span)) 62,cellsE b65 (Cd.cs c_api_Addr q251) 24,cellsE b59 (Cd.cs c_api_Entry t58.1) 66,rowE c_crawlwayref59_Span 62 p49 c50 i47,rowE c_api_Addr 24 p31 c32 q26,rowE c_api_Entry 66 p2 c3 t1])) 1 10 (by kernel_rfl) (by kernel_rfl) (by kernel_rfl) (by kernel_rfl) (by kernel_rfl) (by kernel_rfl) ⟨fun _ _ _=>rfl,fun _ _ _=>rfl,fun _ _ _=>rfl,fun _ _ _=>rfl,fun _ _ _=>rfl,fun _ _ _=>rfl,fun _ _ _=>rfl,fun _ _ _=>rfl,fun _ _ _=>rfl,fun g314 g2 h=>by show (.slice (some ⟨((g314 0).1),0,none⟩) ([{ { { zv4 with f_From:=lget q26 i48 } with f_To:=q251 } with f_Owner:=t58.1.f_Owner }]:List S_crawlwayref59_Span).length 1:Value)=.slice (some ⟨((g2 0).1),0,none⟩) ([{ { { zv4 with f_From:=lget q26 i48 } with f_To:=q251 } with f_Owner:=t58.1.f_Owner }]:List S_crawlwayref59_Span).length 1;rw [h 0 (show 0<1 by decide)],trivial⟩ (by kernel_rfl) (fun w_ h=>⟨fun _=>g3 0 none 0 none w_,h.drew⟩) ⟨?_,?_,?_,?_,?_,?_,?_,?_,?_,?_,trivial⟩ ?_
      ·intro Lx g314 s K hl hh k
       show At 180 ((3,_)::(4,_)::(10,_)::(11,_)::(12,_)::(14,_)::Lx) _ _
       refine am ?_
       exact at_nil k
      ·intro Lx g314 s K hl hh k
       show At 180 ((3,_)::(4,_)::(10,_)::(11,_)::(12,_)::(14,_)::Lx) _ _
       refine am ?_
       exact at_nil k
      ·intro Lx g314 s K hl hh k
       show At 180 ((3,_)::(4,_)::(10,_)::(11,_)::(12,_)::(14,_)::Lx) _ _
       refine am ?_
       exact at_nil k
      ·intro Lx g314 s K hl hh k
       show At 180 ((169,_)::(170,_)::(3,_)::(4,_)::(10,_)::(11,_)::(12,_)::(14,_)::Lx) _ _
       refine aw (r_idx underlying88 sizeOf24 rfl rfl h309 hp310) ?_
       exact at_nil k
      ·intro Lx g314 s K hl hh k
       show At 180 ((171,_)::(3,_)::(4,_)::(10,_)::(11,_)::(12,_)::(14,_)::Lx) _ _
       obtain rfl:s=0:=by omega
       refine aw (r_load_aggc (c:=c_api_Addr) (z:=lget q26 i48) isAgg24 sizeOf24 rfl (fun w1 hw=>row_cell (W:=fun w1=>w1=_) (fun w1 h=>by subst h;exact Below.refl _ _) (hw.own (.s (.s (.s .z)))).row h309 hp310 _ rfl)) ?_
       exact at_nil k
      ·intro Lx g314 s K hl hh k
       show At 180 ((3,_)::(4,_)::(10,_)::(11,_)::(12,_)::(14,_)::Lx) _ _
       obtain rfl:s=0:=by omega
       refine aw (r_load_aggc (c:=c_api_Addr) (z:=q251) isAgg24 sizeOf24 rfl (lens_cell .z lw)) ?_
       exact at_nil k
      ·intro Lx g314 s K hl hh k
       show At 180 ((3,_)::(4,_)::(10,_)::(11,_)::(12,_)::(14,_)::Lx) _ _
       refine fa 18 underlying66 rfl sizeOf3 ?_
       exact at_nil k
      ·intro Lx g314 s K hl hh k
       show At 180 ((174,_)::(3,_)::(4,_)::(10,_)::(11,_)::(12,_)::(14,_)::Lx) _ _
       obtain rfl:s=0:=by omega
       refine aw (r_load_cell isAgg3 rfl (lens_cell0 (c:=(cInt .i64)) (y:=t58.1.f_Owner) (.s .z) (Lens.comp lw (fun z=>{ t58.1 with f_Owner:=z }) (c_api_Entry_f_Owner t58.1)) rfl)) ?_
       exact at_nil k
      ·intro Lx g314 s K hl hh k
       show At 180 ((172,_)::(173,_)::(175,_)::(3,_)::(4,_)::(10,_)::(11,_)::(12,_)::(14,_)::Lx) _ _
       obtain rfl:s=0:=by omega
       refine aw (r_build_struct (zs:=Cd.cs c_crawlwayref59_Span zv4) (cs:=Cd.cs c_crawlwayref59_Span ({ { { zv4 with f_From:=lget q26 i48 } with f_To:=q251 } with f_Owner:=t58.1.f_Owner })) underlying62 zeroValue62 rfl (places_crawlwayref59_Span_62) rfl (fill_step (c:=c_api_Addr) (z:=lget q26 i48) rfl (c_crawlwayref59_Span_f_From zv4) rfl (fill_step (c:=c_api_Addr) (z:=q251) rfl (c_crawlwayref59_Span_f_To ({ zv4 with f_From:=lget q26 i48 })) rfl (fill_step (c:=(cInt .i64)) (z:=t58.1.f_Owner) rfl (c_crawlwayref59_Span_f_Owner ({ { zv4 with f_From:=lget q26 i48 } with f_To:=q251 })) rfl rfl)))) ?_
       exact at_nil k
      ·intro Lx g314 K k
       show At 180 ((176,_)::(3,_)::(4,_)::(10,_)::(11,_)::(12,_)::(14,_)::Lx) _ _
       refine at_litL (c:=c_crawlwayref59_Span) ([zv4]:List S_crawlwayref59_Span) ([{ { { zv4 with f_From:=lget q26 i48 } with f_To:=q251 } with f_Owner:=t58.1.f_Owner }]:List S_crawlwayref59_Span) underlying57 sizeOf62 zeroValue62 rfl rfl rfl (by kernel_rfl) (fill_step (c:=c_crawlwayref59_Span) (z:={ { { zv4 with f_From:=lget q26 i48 } with f_To:=q251 } with f_Owner:=t58.1.f_Owner }) rfl (Lens.all c_crawlwayref59_Span ([zv4]:List S_crawlwayref59_Span) 0 (by first | decide | exact Nat.le_of_ble_eq_true rfl)) rfl rfl) rfl ?_
       intro b313
       exact at_nil (k (g3 b313 none 0 none w))
      intro g314
      show At 180 [(168,_),(169,_),(170,_),(171,_),(172,_),(173,_),(174,_),(175,_),(176,_),(177,_),(3,_),(4,_),(10,_),(11,_),(12,_),(14,_)] _ _
      obtain ⟨h315,hF⟩:=gd hF
      refine at_append (z:=.agg (Cd.cs c_crawlwayref59_Span zv4).toArray) (c:=c_crawlwayref59_Span) (ys:=([{ { { zv4 with f_From:=lget q26 i48 } with f_To:=q251 } with f_Owner:=t58.1.f_Owner }]:List S_crawlwayref59_Span)) (.s (.s (.s .z))) underlying57 infoF362 (by kernel_rfl) (by kernel_rfl) rfl rfl rfl rfl (fun _ hw=>cells_src (hw.ok (Upd.mem .z))) (by kernel_rfl) h315 (app_small h315) rfl ?_
      intro p316 c317
      refine aa (qn (dz (dz (dz (wq [11,10,4,3] ?_)))))
      refine bm ?_
      refine qr (am (aw xa (aa (nwq [11,10,4,3] ?_))))
      exact at_weak_k (ih _ _ _ hF K p316 c317) ⟨rfl,rfl,rfl,rfl,trivial⟩
     skip
     refine at_inv [.q 115 (fun g318=>.int .i64 (i47.length:Int)) [] 0 0,.q 116 (fun g318=>.bool (decide ((i47.length:Int)>0))) [0] 0 0,.q 117 (fun g318=>.bool true) [1] 0 0,.q 118 (fun g318=>.slice p49 i47.length c50) [2] 0 0,.q 119 (fun g318=>.int .i64 (i47.length:Int)) [2] 0 0,.q 120 (fun g318=>.int .i64 (wr .i64 ((i47.length:Int)-1))) [2,4] 0 0,.q 121 (fun g318=>.pointer (some ⟨b260,o261+Int.toNat (wr .i64 ((i47.length:Int)-1))*35,none⟩)) [2,3,5] 0 0,.q 122 (fun g318=>.pointer (some ⟨b260,o261+Int.toNat (wr .i64 ((i47.length:Int)-1))*35+34,none⟩)) [2,6] 0 0,.q 123 (fun g318=>.int .i64 ((lget i47 (wr .i64 ((i47.length:Int)-1))).f_Owner)) [2,7] 0 0,.q 124 (fun g318=>.pointer (some ⟨b59,0+18,none⟩)) [2] 0 0,.q 125 (fun g318=>.int .i64 t58.1.f_Owner) [2,9] 0 0,.q 126 (fun g318=>.bool ((lget i47 (wr .i64 ((i47.length:Int)-1))).f_Owner==t58.1.f_Owner)) [2,8,10] 0 0,.q 127 (fun g318=>.bool ((lget i47 (wr .i64 ((i47.length:Int)-1))).f_Owner==t58.1.f_Owner)) [2,11] 0 0,.q 128 (fun g318=>.bool false) [12] 0 0,.q 129 (fun g318=>undef) [13] 0 0,.q 130 (fun g318=>undef) [13] 0 0,.q 131 (fun g318=>undef) [13,15] 0 0,.q 132 (fun g318=>undef) [13,14,16] 0 0,.q 133 (fun g318=>undef) [13,17] 0 0,.q 134 (fun g318=>undef) [13,18] 0 0,.q 135 (fun g318=>undef) [13,19] 0 0,.q 136 (fun g318=>undef) [13] 0 0,.q 137 (fun g318=>undef) [13] 0 0,.q 138 (fun g318=>undef) [13,21,22] 0 0,.q 139 (fun g318=>undef) [13,23] 0 0,.q 140 (fun g318=>undef) [13,24] 0 0,.q 141 (fun g318=>undef) [13,20,25] 0 0,.q 142 (fun g318=>.bool false) [13,26] 0 0] (fun g318 s=>match s with | _=>(Wd w [cellsE b65 (Cd.cs c_api_Addr q251) 24,cellsE b59 (Cd.cs c_api_Entry t58.1) 66,rowE c_crawlwayref59_Span 62 p49 c50 i47,rowE c_api_Addr 24 p31 c32 q26,rowE c_api_Entry 66 p2 c3 t1])) 0 (by kernel_rfl) (by kernel_rfl) (by kernel_rfl) (by kernel_rfl) (by kernel_rfl) ⟨fun _ _ _=>rfl,fun _ _ _=>rfl,fun _ _ _=>rfl,fun _ _ _=>rfl,fun _ _ _=>rfl,fun _ _ _=>rfl,fun _ _ _=>rfl,fun _ _ _=>rfl,fun _ _ _=>rfl,fun _ _ _=>rfl,fun _ _ _=>rfl,fun _ _ _=>rfl,fun _ _ _=>rfl,fun _ _ _=>rfl,fun _ _ _=>rfl,fun _ _ _=>rfl,fun _ _ _=>rfl,fun _ _ _=>rfl,fun _ _ _=>rfl,fun _ _ _=>rfl,fun _ _ _=>rfl,fun _ _ _=>rfl,fun _ _ _=>rfl,fun _ _ _=>rfl,fun _ _ _=>rfl,fun _ _ _=>rfl,fun _ _ _=>rfl,fun _ _ _=>rfl,trivial⟩ (by kernel_rfl) (fun w_ h=>⟨fun _=>g3 0 none 0 none w_,h.drew⟩) ⟨?_,?_,?_,?_,?_,?_,?_,?_,?_,?_,?_,?_,?_,?_,?_,?_,?_,?_,?_,?_,?_,?_,?_,?_,?_,?_,?_,?_,trivial⟩ ?_
     ·intro Lx g318 s K hl hh k
      show At 180 ((3,_)::(4,_)::(10,_)::(11,_)::(12,_)::(14,_)::(16,_)::Lx) _ _
      refine am ?_
      exact at_nil k
     ·intro Lx g318 s K hl hh k
      show At 180 ((115,_)::(3,_)::(4,_)::(10,_)::(11,_)::(12,_)::(14,_)::(16,_)::Lx) _ _
      refine aw (r_igtr rfl rfl) ?_
      exact at_nil k
     ·intro Lx g318 s K hl hh k
      show At 180 ((116,_)::(3,_)::(4,_)::(10,_)::(11,_)::(12,_)::(14,_)::(16,_)::Lx) _ _
      refine am ?_
      exact at_nil (at_cast h257 k)
     ·intro Lx g318 s K hl hh k
      show At 180 ((117,_)::(3,_)::(4,_)::(10,_)::(11,_)::(12,_)::(14,_)::(16,_)::Lx) _ _
      refine gy ?_
      refine am ?_
      exact at_nil k
     ·intro Lx g318 s K hl hh k
      show At 180 ((117,_)::(3,_)::(4,_)::(10,_)::(11,_)::(12,_)::(14,_)::(16,_)::Lx) _ _
      refine gy ?_
      refine am ?_
      exact at_nil k
     ·intro Lx g318 s K hl hh k
      show At 180 ((117,_)::(119,_)::(3,_)::(4,_)::(10,_)::(11,_)::(12,_)::(14,_)::(16,_)::Lx) _ _
      refine gy ?_
      refine aw (r_isub rfl rfl) ?_
      exact at_nil k
     ·intro Lx g318 s K hl hh k
      show At 180 ((117,_)::(118,_)::(120,_)::(3,_)::(4,_)::(10,_)::(11,_)::(12,_)::(14,_)::(16,_)::Lx) _ _
      refine gy ?_
      refine aw (r_idx underlying57 sizeOf62 rfl rfl h258 hp259) ?_
      exact at_nil k
     ·intro Lx g318 s K hl hh k
      show At 180 ((117,_)::(121,_)::(3,_)::(4,_)::(10,_)::(11,_)::(12,_)::(14,_)::(16,_)::Lx) _ _
      refine gy ?_
      refine fa 34 underlying62 rfl sizeOf3 ?_
      exact at_nil k
     ·intro Lx g318 s K hl hh k
      show At 180 ((117,_)::(122,_)::(3,_)::(4,_)::(10,_)::(11,_)::(12,_)::(14,_)::(16,_)::Lx) _ _
      refine gy ?_
      obtain rfl:s=0:=by omega
      refine aw (r_load_cell isAgg3 rfl (fun w1 hw=>row_lens0 (y:=(lget i47 (wr .i64 ((i47.length:Int)-1))).f_Owner) (W:=fun w1=>w1=_) (fun w1 h=>by subst h;exact Below.refl _ _) (hw.own (.s (.s .z))).row h258 hp259 (Lens.comp lw (fun z=>{ (lget i47 (wr .i64 ((i47.length:Int)-1))) with f_Owner:=z }) (c_crawlwayref59_Span_f_Owner (lget i47 (wr .i64 ((i47.length:Int)-1))))) rfl _ rfl)) ?_
      exact at_nil k
     ·intro Lx g318 s K hl hh k
      show At 180 ((117,_)::(3,_)::(4,_)::(10,_)::(11,_)::(12,_)::(14,_)::(16,_)::Lx) _ _
      refine gy ?_
      refine fa 18 underlying66 rfl sizeOf3 ?_
      exact at_nil k
     ·intro Lx g318 s K hl hh k
      show At 180 ((117,_)::(124,_)::(3,_)::(4,_)::(10,_)::(11,_)::(12,_)::(14,_)::(16,_)::Lx) _ _
      refine gy ?_
      obtain rfl:s=0:=by omega
      refine aw (r_load_cell isAgg3 rfl (lens_cell0 (c:=(cInt .i64)) (y:=t58.1.f_Owner) (.s .z) (Lens.comp lw (fun z=>{ t58.1 with f_Owner:=z }) (c_api_Entry_f_Owner t58.1)) rfl)) ?_
      exact at_nil k
     ·intro Lx g318 s K hl hh k
      show At 180 ((117,_)::(123,_)::(125,_)::(3,_)::(4,_)::(10,_)::(11,_)::(12,_)::(14,_)::(16,_)::Lx) _ _
      refine gy ?_
      refine aw xq ?_
      exact at_nil k
     ·intro Lx g318 s K hl hh k
      show At 180 ((117,_)::(126,_)::(3,_)::(4,_)::(10,_)::(11,_)::(12,_)::(14,_)::(16,_)::Lx) _ _
      refine aw xp ?_
      exact at_nil k
     ·intro Lx g318 s K hl hh k
      show At 180 ((127,_)::(3,_)::(4,_)::(10,_)::(11,_)::(12,_)::(14,_)::(16,_)::Lx) _ _
      refine am ?_
      exact at_nil (at_cast h262 k)
     ·intro Lx g318 s K hl hh k
      show At 180 ((128,_)::(3,_)::(4,_)::(10,_)::(11,_)::(12,_)::(14,_)::(16,_)::Lx) _ _
      refine gn ?_
      exact at_nil k
     ·intro Lx g318 s K hl hh k
      show At 180 ((128,_)::(3,_)::(4,_)::(10,_)::(11,_)::(12,_)::(14,_)::(16,_)::Lx) _ _
      refine gn ?_
      exact at_nil k
     ·intro Lx g318 s K hl hh k
      show At 180 ((128,_)::(130,_)::(3,_)::(4,_)::(10,_)::(11,_)::(12,_)::(14,_)::(16,_)::Lx) _ _
      refine gn ?_
      exact at_nil k
     ·intro Lx g318 s K hl hh k
      show At 180 ((128,_)::(129,_)::(131,_)::(3,_)::(4,_)::(10,_)::(11,_)::(12,_)::(14,_)::(16,_)::Lx) _ _
      refine gn ?_
      exact at_nil k
     ·intro Lx g318 s K hl hh k
      show At 180 ((128,_)::(132,_)::(3,_)::(4,_)::(10,_)::(11,_)::(12,_)::(14,_)::(16,_)::Lx) _ _
      refine gn ?_
      exact at_nil k
     ·intro Lx g318 s K hl hh k
      show At 180 ((128,_)::(133,_)::(3,_)::(4,_)::(10,_)::(11,_)::(12,_)::(14,_)::(16,_)::Lx) _ _
      refine gn ?_
      exact at_nil k
     ·intro Lx g318 s K hl hh k
      show At 180 ((128,_)::(134,_)::(3,_)::(4,_)::(10,_)::(11,_)::(12,_)::(14,_)::(16,_)::Lx) _ _
      obtain rfl:s=0:=by omega
      refine gn ?_
      exact at_nil k
     ·intro Lx g318 s K hl hh k
      show At 180 ((128,_)::(3,_)::(4,_)::(10,_)::(11,_)::(12,_)::(14,_)::(16,_)::Lx) _ _
      refine gn ?_
      exact at_nil k
     ·intro Lx g318 s K hl hh k
      show At 180 ((128,_)::(3,_)::(4,_)::(10,_)::(11,_)::(12,_)::(14,_)::(16,_)::Lx) _ _
      refine gn ?_
      exact at_nil k
     ·intro Lx g318 s K hl hh k
      show At 180 ((128,_)::(136,_)::(137,_)::(3,_)::(4,_)::(10,_)::(11,_)::(12,_)::(14,_)::(16,_)::Lx) _ _
      refine gn ?_
      exact at_nil k
     ·intro Lx g318 s K hl hh k
      show At 180 ((128,_)::(138,_)::(3,_)::(4,_)::(10,_)::(11,_)::(12,_)::(14,_)::(16,_)::Lx) _ _
      refine gn ?_
      exact at_nil k
     ·intro Lx g318 s K hl hh k
      show At 180 ((128,_)::(139,_)::(3,_)::(4,_)::(10,_)::(11,_)::(12,_)::(14,_)::(16,_)::Lx) _ _
      obtain rfl:s=0:=by omega
      refine gn ?_
      exact at_nil k
     ·intro Lx g318 s K hl hh k
      show At 180 ((128,_)::(135,_)::(140,_)::(3,_)::(4,_)::(10,_)::(11,_)::(12,_)::(14,_)::(16,_)::Lx) _ _
      refine gn ?_
      exact at_nil k
     ·intro Lx g318 s K hl hh k
      show At 180 ((128,_)::(141,_)::(3,_)::(4,_)::(10,_)::(11,_)::(12,_)::(14,_)::(16,_)::Lx) _ _
      refine aw xp ?_
      exact at_nil k
     intro g318
     show At 180 [(115,_),(116,_),(117,_),(118,_),(119,_),(120,_),(121,_),(122,_),(123,_),(124,_),(125,_),(126,_),(127,_),(128,_),(129,_),(130,_),(131,_),(132,_),(133,_),(134,_),(135,_),(136,_),(137,_),(138,_),(139,_),(140,_),(141,_),(142,_),(3,_),(4,_),(10,_),(11,_),(12,_),(14,_),(16,_)] _ _
     refine wq [142,16,14,12,11,10,4,3] ?_
     refine tn ?_
     refine cf rfl ?_
     refine sn (wq [14,12,11,10,4,3] ?_)
     obtain ⟨h319,hF⟩:=gd hF
     refine at_pure (φ:=∃ b o,p31=some ⟨b,o,none⟩) (fun _ hw=>row_ptr (hw.own (.s (.s (.s .z)))).row h319) ?_
     rintro ⟨b321,o322,hp320⟩
     refine at_invT [.q 168 (fun g324=>.slice p49 i47.length c50) [] 0 1,.q 169 (fun g324=>.slice p31 q26.length c32) [] 0 0,.q 170 (fun g324=>.int .i64 i48) [] 0 0,.q 171 (fun g324=>.pointer (some ⟨b321,o322+Int.toNat i48*17,none⟩)) [1,2] 0 0,.q 172 (fun g324=>.agg (Cd.cs c_api_Addr (lget q26 i48)).toArray) [3] 0 0,.q 173 (fun g324=>.agg (Cd.cs c_api_Addr q251).toArray) [] 0 0,.q 174 (fun g324=>.pointer (some ⟨b59,0+18,none⟩)) [] 0 0,.q 175 (fun g324=>.int .i64 t58.1.f_Owner) [6] 0 0,.q 176 (fun g324=>.agg (Cd.cs c_crawlwayref59_Span ({ { { zv4 with f_From:=lget q26 i48 } with f_To:=q251 } with f_Owner:=t58.1.f_Owner })).toArray) [4,5,7] 0 0,.al 0 177 (fun g324=>.slice (some ⟨((g324 0).1),0,none⟩) ([{ { { zv4 with f_From:=lget q26 i48 } with f_To:=q251 } with f_Owner:=t58.1.f_Owner }]:List S_crawlwayref59_Span).length 1) [8]] (fun g324 s=>match s with | 0=>(Wd w [cellsE b65 (Cd.cs c_api_Addr q251) 24,cellsE b59 (Cd.cs c_api_Entry t58.1) 66,rowE c_crawlwayref59_Span 62 p49 c50 i47,rowE c_api_Addr 24 p31 c32 q26,rowE c_api_Entry 66 p2 c3 t1]) | _=>(Wd w [cellsE ((g324 0).1) (c_crawlwayref59_Span.all ([{ { { zv4 with f_From:=lget q26 i48 } with f_To:=q251 } with f_Owner:=t58.1.f_Owner }]:List S_crawlwayref59_Span)) 62,cellsE b65 (Cd.cs c_api_Addr q251) 24,cellsE b59 (Cd.cs c_api_Entry t58.1) 66,rowE c_crawlwayref59_Span 62 p49 c50 i47,rowE c_api_Addr 24 p31 c32 q26,rowE c_api_Entry 66 p2 c3 t1])) 1 10 (by kernel_rfl) (by kernel_rfl) (by kernel_rfl) (by kernel_rfl) (by kernel_rfl) (by kernel_rfl) ⟨fun _ _ _=>rfl,fun _ _ _=>rfl,fun _ _ _=>rfl,fun _ _ _=>rfl,fun _ _ _=>rfl,fun _ _ _=>rfl,fun _ _ _=>rfl,fun _ _ _=>rfl,fun _ _ _=>rfl,fun g324 g2 h=>by show (.slice (some ⟨((g324 0).1),0,none⟩) ([{ { { zv4 with f_From:=lget q26 i48 } with f_To:=q251 } with f_Owner:=t58.1.f_Owner }]:List S_crawlwayref59_Span).length 1:Value)=.slice (some ⟨((g2 0).1),0,none⟩) ([{ { { zv4 with f_From:=lget q26 i48 } with f_To:=q251 } with f_Owner:=t58.1.f_Owner }]:List S_crawlwayref59_Span).length 1;rw [h 0 (show 0<1 by decide)],trivial⟩ (by kernel_rfl) (fun w_ h=>⟨fun _=>g3 0 none 0 none w_,h.drew⟩) ⟨?_,?_,?_,?_,?_,?_,?_,?_,?_,?_,trivial⟩ ?_
     ·intro Lx g324 s K hl hh k
      show At 180 ((3,_)::(4,_)::(10,_)::(11,_)::(12,_)::(14,_)::Lx) _ _
      refine am ?_
      exact at_nil k
     ·intro Lx g324 s K hl hh k
      show At 180 ((3,_)::(4,_)::(10,_)::(11,_)::(12,_)::(14,_)::Lx) _ _
      refine am ?_
      exact at_nil k
     ·intro Lx g324 s K hl hh k
      show At 180 ((3,_)::(4,_)::(10,_)::(11,_)::(12,_)::(14,_)::Lx) _ _
      refine am ?_
      exact at_nil k
     ·intro Lx g324 s K hl hh k
      show At 180 ((169,_)::(170,_)::(3,_)::(4,_)::(10,_)::(11,_)::(12,_)::(14,_)::Lx) _ _
      refine aw (r_idx underlying88 sizeOf24 rfl rfl h319 hp320) ?_
      exact at_nil k
     ·intro Lx g324 s K hl hh k
      show At 180 ((171,_)::(3,_)::(4,_)::(10,_)::(11,_)::(12,_)::(14,_)::Lx) _ _
      obtain rfl:s=0:=by omega
      refine aw (r_load_aggc (c:=c_api_Addr) (z:=lget q26 i48) isAgg24 sizeOf24 rfl (fun w1 hw=>row_cell (W:=fun w1=>w1=_) (fun w1 h=>by subst h;exact Below.refl _ _) (hw.own (.s (.s (.s .z)))).row h319 hp320 _ rfl)) ?_
      exact at_nil k
     ·intro Lx g324 s K hl hh k
      show At 180 ((3,_)::(4,_)::(10,_)::(11,_)::(12,_)::(14,_)::Lx) _ _
      obtain rfl:s=0:=by omega
      refine aw (r_load_aggc (c:=c_api_Addr) (z:=q251) isAgg24 sizeOf24 rfl (lens_cell .z lw)) ?_
      exact at_nil k
     ·intro Lx g324 s K hl hh k
      show At 180 ((3,_)::(4,_)::(10,_)::(11,_)::(12,_)::(14,_)::Lx) _ _
      refine fa 18 underlying66 rfl sizeOf3 ?_
      exact at_nil k
     ·intro Lx g324 s K hl hh k
      show At 180 ((174,_)::(3,_)::(4,_)::(10,_)::(11,_)::(12,_)::(14,_)::Lx) _ _
      obtain rfl:s=0:=by omega
      refine aw (r_load_cell isAgg3 rfl (lens_cell0 (c:=(cInt .i64)) (y:=t58.1.f_Owner) (.s .z) (Lens.comp lw (fun z=>{ t58.1 with f_Owner:=z }) (c_api_Entry_f_Owner t58.1)) rfl)) ?_
      exact at_nil k
     ·intro Lx g324 s K hl hh k
      show At 180 ((172,_)::(173,_)::(175,_)::(3,_)::(4,_)::(10,_)::(11,_)::(12,_)::(14,_)::Lx) _ _
      obtain rfl:s=0:=by omega
      refine aw (r_build_struct (zs:=Cd.cs c_crawlwayref59_Span zv4) (cs:=Cd.cs c_crawlwayref59_Span ({ { { zv4 with f_From:=lget q26 i48 } with f_To:=q251 } with f_Owner:=t58.1.f_Owner })) underlying62 zeroValue62 rfl (places_crawlwayref59_Span_62) rfl (fill_step (c:=c_api_Addr) (z:=lget q26 i48) rfl (c_crawlwayref59_Span_f_From zv4) rfl (fill_step (c:=c_api_Addr) (z:=q251) rfl (c_crawlwayref59_Span_f_To ({ zv4 with f_From:=lget q26 i48 })) rfl (fill_step (c:=(cInt .i64)) (z:=t58.1.f_Owner) rfl (c_crawlwayref59_Span_f_Owner ({ { zv4 with f_From:=lget q26 i48 } with f_To:=q251 })) rfl rfl)))) ?_
      exact at_nil k
     ·intro Lx g324 K k
      show At 180 ((176,_)::(3,_)::(4,_)::(10,_)::(11,_)::(12,_)::(14,_)::Lx) _ _
      refine at_litL (c:=c_crawlwayref59_Span) ([zv4]:List S_crawlwayref59_Span) ([{ { { zv4 with f_From:=lget q26 i48 } with f_To:=q251 } with f_Owner:=t58.1.f_Owner }]:List S_crawlwayref59_Span) underlying57 sizeOf62 zeroValue62 rfl rfl rfl (by kernel_rfl) (fill_step (c:=c_crawlwayref59_Span) (z:={ { { zv4 with f_From:=lget q26 i48 } with f_To:=q251 } with f_Owner:=t58.1.f_Owner }) rfl (Lens.all c_crawlwayref59_Span ([zv4]:List S_crawlwayref59_Span) 0 (by first | decide | exact Nat.le_of_ble_eq_true rfl)) rfl rfl) rfl ?_
      intro b323
      exact at_nil (k (g3 b323 none 0 none w))
     intro g324
     show At 180 [(168,_),(169,_),(170,_),(171,_),(172,_),(173,_),(174,_),(175,_),(176,_),(177,_),(3,_),(4,_),(10,_),(11,_),(12,_),(14,_)] _ _
     obtain ⟨h325,hF⟩:=gd hF
     refine at_append (z:=.agg (Cd.cs c_crawlwayref59_Span zv4).toArray) (c:=c_crawlwayref59_Span) (ys:=([{ { { zv4 with f_From:=lget q26 i48 } with f_To:=q251 } with f_Owner:=t58.1.f_Owner }]:List S_crawlwayref59_Span)) (.s (.s (.s .z))) underlying57 infoF362 (by kernel_rfl) (by kernel_rfl) rfl rfl rfl rfl (fun _ hw=>cells_src (hw.ok (Upd.mem .z))) (by kernel_rfl) h325 (app_small h325) rfl ?_
     intro p326 c327
     refine aa (qn (dz (dz (dz (wq [11,10,4,3] ?_)))))
     refine bm ?_
     refine qr (am (aw xa (aa (nwq [11,10,4,3] ?_))))
     exact at_weak_k (ih _ _ _ hF K p326 c327) ⟨rfl,rfl,rfl,rfl,trivial⟩
    skip
    refine at_inv [.q 115 (fun g328=>.int .i64 (i47.length:Int)) [] 0 0,.q 116 (fun g328=>.bool (decide ((i47.length:Int)>0))) [0] 0 0,.q 117 (fun g328=>.bool false) [1] 0 0,.q 118 (fun g328=>undef) [2] 0 0,.q 119 (fun g328=>undef) [2] 0 0,.q 120 (fun g328=>undef) [2,4] 0 0,.q 121 (fun g328=>undef) [2,3,5] 0 0,.q 122 (fun g328=>undef) [2,6] 0 0,.q 123 (fun g328=>undef) [2,7] 0 0,.q 124 (fun g328=>undef) [2] 0 0,.q 125 (fun g328=>undef) [2,9] 0 0,.q 126 (fun g328=>undef) [2,8,10] 0 0,.q 127 (fun g328=>.bool false) [2,11] 0 0,.q 128 (fun g328=>.bool false) [12] 0 0,.q 129 (fun g328=>undef) [13] 0 0,.q 130 (fun g328=>undef) [13] 0 0,.q 131 (fun g328=>undef) [13,15] 0 0,.q 132 (fun g328=>undef) [13,14,16] 0 0,.q 133 (fun g328=>undef) [13,17] 0 0,.q 134 (fun g328=>undef) [13,18] 0 0,.q 135 (fun g328=>undef) [13,19] 0 0,.q 136 (fun g328=>undef) [13] 0 0,.q 137 (fun g328=>undef) [13] 0 0,.q 138 (fun g328=>undef) [13,21,22] 0 0,.q 139 (fun g328=>undef) [13,23] 0 0,.q 140 (fun g328=>undef) [13,24] 0 0,.q 141 (fun g328=>undef) [13,20,25] 0 0,.q 142 (fun g328=>.bool false) [13,26] 0 0] (fun g328 s=>match s with | _=>(Wd w [cellsE b65 (Cd.cs c_api_Addr q251) 24,cellsE b59 (Cd.cs c_api_Entry t58.1) 66,rowE c_crawlwayref59_Span 62 p49 c50 i47,rowE c_api_Addr 24 p31 c32 q26,rowE c_api_Entry 66 p2 c3 t1])) 0 (by kernel_rfl) (by kernel_rfl) (by kernel_rfl) (by kernel_rfl) (by kernel_rfl) ⟨fun _ _ _=>rfl,fun _ _ _=>rfl,fun _ _ _=>rfl,fun _ _ _=>rfl,fun _ _ _=>rfl,fun _ _ _=>rfl,fun _ _ _=>rfl,fun _ _ _=>rfl,fun _ _ _=>rfl,fun _ _ _=>rfl,fun _ _ _=>rfl,fun _ _ _=>rfl,fun _ _ _=>rfl,fun _ _ _=>rfl,fun _ _ _=>rfl,fun _ _ _=>rfl,fun _ _ _=>rfl,fun _ _ _=>rfl,fun _ _ _=>rfl,fun _ _ _=>rfl,fun _ _ _=>rfl,fun _ _ _=>rfl,fun _ _ _=>rfl,fun _ _ _=>rfl,fun _ _ _=>rfl,fun _ _ _=>rfl,fun _ _ _=>rfl,fun _ _ _=>rfl,trivial⟩ (by kernel_rfl) (fun w_ h=>⟨fun _=>g3 0 none 0 none w_,h.drew⟩) ⟨?_,?_,?_,?_,?_,?_,?_,?_,?_,?_,?_,?_,?_,?_,?_,?_,?_,?_,?_,?_,?_,?_,?_,?_,?_,?_,?_,?_,trivial⟩ ?_
    ·intro Lx g328 s K hl hh k
     show At 180 ((3,_)::(4,_)::(10,_)::(11,_)::(12,_)::(14,_)::(16,_)::Lx) _ _
     refine am ?_
     exact at_nil k
    ·intro Lx g328 s K hl hh k
     show At 180 ((115,_)::(3,_)::(4,_)::(10,_)::(11,_)::(12,_)::(14,_)::(16,_)::Lx) _ _
     refine aw (r_igtr rfl rfl) ?_
     exact at_nil k
    ·intro Lx g328 s K hl hh k
     show At 180 ((116,_)::(3,_)::(4,_)::(10,_)::(11,_)::(12,_)::(14,_)::(16,_)::Lx) _ _
     refine am ?_
     exact at_nil (at_cast h257 k)
    ·intro Lx g328 s K hl hh k
     show At 180 ((117,_)::(3,_)::(4,_)::(10,_)::(11,_)::(12,_)::(14,_)::(16,_)::Lx) _ _
     refine gn ?_
     exact at_nil k
    ·intro Lx g328 s K hl hh k
     show At 180 ((117,_)::(3,_)::(4,_)::(10,_)::(11,_)::(12,_)::(14,_)::(16,_)::Lx) _ _
     refine gn ?_
     exact at_nil k
    ·intro Lx g328 s K hl hh k
     show At 180 ((117,_)::(119,_)::(3,_)::(4,_)::(10,_)::(11,_)::(12,_)::(14,_)::(16,_)::Lx) _ _
     refine gn ?_
     exact at_nil k
    ·intro Lx g328 s K hl hh k
     show At 180 ((117,_)::(118,_)::(120,_)::(3,_)::(4,_)::(10,_)::(11,_)::(12,_)::(14,_)::(16,_)::Lx) _ _
     refine gn ?_
     exact at_nil k
    ·intro Lx g328 s K hl hh k
     show At 180 ((117,_)::(121,_)::(3,_)::(4,_)::(10,_)::(11,_)::(12,_)::(14,_)::(16,_)::Lx) _ _
     refine gn ?_
     exact at_nil k
    ·intro Lx g328 s K hl hh k
     show At 180 ((117,_)::(122,_)::(3,_)::(4,_)::(10,_)::(11,_)::(12,_)::(14,_)::(16,_)::Lx) _ _
     obtain rfl:s=0:=by omega
     refine gn ?_
     exact at_nil k
    ·intro Lx g328 s K hl hh k
     show At 180 ((117,_)::(3,_)::(4,_)::(10,_)::(11,_)::(12,_)::(14,_)::(16,_)::Lx) _ _
     refine gn ?_
     exact at_nil k
    ·intro Lx g328 s K hl hh k
     show At 180 ((117,_)::(124,_)::(3,_)::(4,_)::(10,_)::(11,_)::(12,_)::(14,_)::(16,_)::Lx) _ _
     obtain rfl:s=0:=by omega
     refine gn ?_
     exact at_nil k
    ·intro Lx g328 s K hl hh k
     show At 180 ((117,_)::(123,_)::(125,_)::(3,_)::(4,_)::(10,_)::(11,_)::(12,_)::(14,_)::(16,_)::Lx) _ _
     refine gn ?_
     exact at_nil k
    ·intro Lx g328 s K hl hh k
     show At 180 ((117,_)::(126,_)::(3,_)::(4,_)::(10,_)::(11,_)::(12,_)::(14,_)::(16,_)::Lx) _ _
     refine aw xp ?_
     exact at_nil k
    ·intro Lx g328 s K hl hh k
     show At 180 ((127,_)::(3,_)::(4,_)::(10,_)::(11,_)::(12,_)::(14,_)::(16,_)::Lx) _ _
     refine am ?_
     exact at_nil k
    ·intro Lx g328 s K hl hh k
     show At 180 ((128,_)::(3,_)::(4,_)::(10,_)::(11,_)::(12,_)::(14,_)::(16,_)::Lx) _ _
     refine gn ?_
     exact at_nil k
    ·intro Lx g328 s K hl hh k
     show At 180 ((128,_)::(3,_)::(4,_)::(10,_)::(11,_)::(12,_)::(14,_)::(16,_)::Lx) _ _
     refine gn ?_
     exact at_nil k
    ·intro Lx g328 s K hl hh k
     show At 180 ((128,_)::(130,_)::(3,_)::(4,_)::(10,_)::(11,_)::(12,_)::(14,_)::(16,_)::Lx) _ _
     refine gn ?_
     exact at_nil k
    ·intro Lx g328 s K hl hh k
     show At 180 ((128,_)::(129,_)::(131,_)::(3,_)::(4,_)::(10,_)::(11,_)::(12,_)::(14,_)::(16,_)::Lx) _ _
     refine gn ?_
     exact at_nil k
    ·intro Lx g328 s K hl hh k
     show At 180 ((128,_)::(132,_)::(3,_)::(4,_)::(10,_)::(11,_)::(12,_)::(14,_)::(16,_)::Lx) _ _
     refine gn ?_
     exact at_nil k
    ·intro Lx g328 s K hl hh k
     show At 180 ((128,_)::(133,_)::(3,_)::(4,_)::(10,_)::(11,_)::(12,_)::(14,_)::(16,_)::Lx) _ _
     refine gn ?_
     exact at_nil k
    ·intro Lx g328 s K hl hh k
     show At 180 ((128,_)::(134,_)::(3,_)::(4,_)::(10,_)::(11,_)::(12,_)::(14,_)::(16,_)::Lx) _ _
     obtain rfl:s=0:=by omega
     refine gn ?_
     exact at_nil k
    ·intro Lx g328 s K hl hh k
     show At 180 ((128,_)::(3,_)::(4,_)::(10,_)::(11,_)::(12,_)::(14,_)::(16,_)::Lx) _ _
     refine gn ?_
     exact at_nil k
    ·intro Lx g328 s K hl hh k
     show At 180 ((128,_)::(3,_)::(4,_)::(10,_)::(11,_)::(12,_)::(14,_)::(16,_)::Lx) _ _
     refine gn ?_
     exact at_nil k
    ·intro Lx g328 s K hl hh k
     show At 180 ((128,_)::(136,_)::(137,_)::(3,_)::(4,_)::(10,_)::(11,_)::(12,_)::(14,_)::(16,_)::Lx) _ _
     refine gn ?_
     exact at_nil k
    ·intro Lx g328 s K hl hh k
     show At 180 ((128,_)::(138,_)::(3,_)::(4,_)::(10,_)::(11,_)::(12,_)::(14,_)::(16,_)::Lx) _ _
     refine gn ?_
     exact at_nil k
    ·intro Lx g328 s K hl hh k
     show At 180 ((128,_)::(139,_)::(3,_)::(4,_)::(10,_)::(11,_)::(12,_)::(14,_)::(16,_)::Lx) _ _
     obtain rfl:s=0:=by omega
     refine gn ?_
     exact at_nil k
    ·intro Lx g328 s K hl hh k
     show At 180 ((128,_)::(135,_)::(140,_)::(3,_)::(4,_)::(10,_)::(11,_)::(12,_)::(14,_)::(16,_)::Lx) _ _
     refine gn ?_
     exact at_nil k
    ·intro Lx g328 s K hl hh k
     show At 180 ((128,_)::(141,_)::(3,_)::(4,_)::(10,_)::(11,_)::(12,_)::(14,_)::(16,_)::Lx) _ _
     refine aw xp ?_
     exact at_nil k
    intro g328
    show At 180 [(115,_),(116,_),(117,_),(118,_),(119,_),(120,_),(121,_),(122,_),(123,_),(124,_),(125,_),(126,_),(127,_),(128,_),(129,_),(130,_),(131,_),(132,_),(133,_),(134,_),(135,_),(136,_),(137,_),(138,_),(139,_),(140,_),(141,_),(142,_),(3,_),(4,_),(10,_),(11,_),(12,_),(14,_),(16,_)] _ _
    refine wq [142,16,14,12,11,10,4,3] ?_
    refine tn ?_
    refine cf rfl ?_
    refine sn (wq [14,12,11,10,4,3] ?_)
    obtain ⟨h329,hF⟩:=gd hF
    refine at_pure (φ:=∃ b o,p31=some ⟨b,o,none⟩) (fun _ hw=>row_ptr (hw.own (.s (.s (.s .z)))).row h329) ?_
    rintro ⟨b331,o332,hp330⟩
    refine at_invT [.q 168 (fun g334=>.slice p49 i47.length c50) [] 0 1,.q 169 (fun g334=>.slice p31 q26.length c32) [] 0 0,.q 170 (fun g334=>.int .i64 i48) [] 0 0,.q 171 (fun g334=>.pointer (some ⟨b331,o332+Int.toNat i48*17,none⟩)) [1,2] 0 0,.q 172 (fun g334=>.agg (Cd.cs c_api_Addr (lget q26 i48)).toArray) [3] 0 0,.q 173 (fun g334=>.agg (Cd.cs c_api_Addr q251).toArray) [] 0 0,.q 174 (fun g334=>.pointer (some ⟨b59,0+18,none⟩)) [] 0 0,.q 175 (fun g334=>.int .i64 t58.1.f_Owner) [6] 0 0,.q 176 (fun g334=>.agg (Cd.cs c_crawlwayref59_Span ({ { { zv4 with f_From:=lget q26 i48 } with f_To:=q251 } with f_Owner:=t58.1.f_Owner })).toArray) [4,5,7] 0 0,.al 0 177 (fun g334=>.slice (some ⟨((g334 0).1),0,none⟩) ([{ { { zv4 with f_From:=lget q26 i48 } with f_To:=q251 } with f_Owner:=t58.1.f_Owner }]:List S_crawlwayref59_Span).length 1) [8]] (fun g334 s=>match s with | 0=>(Wd w [cellsE b65 (Cd.cs c_api_Addr q251) 24,cellsE b59 (Cd.cs c_api_Entry t58.1) 66,rowE c_crawlwayref59_Span 62 p49 c50 i47,rowE c_api_Addr 24 p31 c32 q26,rowE c_api_Entry 66 p2 c3 t1]) | _=>(Wd w [cellsE ((g334 0).1) (c_crawlwayref59_Span.all ([{ { { zv4 with f_From:=lget q26 i48 } with f_To:=q251 } with f_Owner:=t58.1.f_Owner }]:List S_crawlwayref59_Span)) 62,cellsE b65 (Cd.cs c_api_Addr q251) 24,cellsE b59 (Cd.cs c_api_Entry t58.1) 66,rowE c_crawlwayref59_Span 62 p49 c50 i47,rowE c_api_Addr 24 p31 c32 q26,rowE c_api_Entry 66 p2 c3 t1])) 1 10 (by kernel_rfl) (by kernel_rfl) (by kernel_rfl) (by kernel_rfl) (by kernel_rfl) (by kernel_rfl) ⟨fun _ _ _=>rfl,fun _ _ _=>rfl,fun _ _ _=>rfl,fun _ _ _=>rfl,fun _ _ _=>rfl,fun _ _ _=>rfl,fun _ _ _=>rfl,fun _ _ _=>rfl,fun _ _ _=>rfl,fun g334 g2 h=>by show (.slice (some ⟨((g334 0).1),0,none⟩) ([{ { { zv4 with f_From:=lget q26 i48 } with f_To:=q251 } with f_Owner:=t58.1.f_Owner }]:List S_crawlwayref59_Span).length 1:Value)=.slice (some ⟨((g2 0).1),0,none⟩) ([{ { { zv4 with f_From:=lget q26 i48 } with f_To:=q251 } with f_Owner:=t58.1.f_Owner }]:List S_crawlwayref59_Span).length 1;rw [h 0 (show 0<1 by decide)],trivial⟩ (by kernel_rfl) (fun w_ h=>⟨fun _=>g3 0 none 0 none w_,h.drew⟩) ⟨?_,?_,?_,?_,?_,?_,?_,?_,?_,?_,trivial⟩ ?_
    ·intro Lx g334 s K hl hh k
     show At 180 ((3,_)::(4,_)::(10,_)::(11,_)::(12,_)::(14,_)::Lx) _ _
     refine am ?_
     exact at_nil k
    ·intro Lx g334 s K hl hh k
     show At 180 ((3,_)::(4,_)::(10,_)::(11,_)::(12,_)::(14,_)::Lx) _ _
     refine am ?_
     exact at_nil k
    ·intro Lx g334 s K hl hh k
     show At 180 ((3,_)::(4,_)::(10,_)::(11,_)::(12,_)::(14,_)::Lx) _ _
     refine am ?_
     exact at_nil k
    ·intro Lx g334 s K hl hh k
     show At 180 ((169,_)::(170,_)::(3,_)::(4,_)::(10,_)::(11,_)::(12,_)::(14,_)::Lx) _ _
     refine aw (r_idx underlying88 sizeOf24 rfl rfl h329 hp330) ?_
     exact at_nil k
    ·intro Lx g334 s K hl hh k
     show At 180 ((171,_)::(3,_)::(4,_)::(10,_)::(11,_)::(12,_)::(14,_)::Lx) _ _
     obtain rfl:s=0:=by omega
     refine aw (r_load_aggc (c:=c_api_Addr) (z:=lget q26 i48) isAgg24 sizeOf24 rfl (fun w1 hw=>row_cell (W:=fun w1=>w1=_) (fun w1 h=>by subst h;exact Below.refl _ _) (hw.own (.s (.s (.s .z)))).row h329 hp330 _ rfl)) ?_
     exact at_nil k
    ·intro Lx g334 s K hl hh k
     show At 180 ((3,_)::(4,_)::(10,_)::(11,_)::(12,_)::(14,_)::Lx) _ _
     obtain rfl:s=0:=by omega
     refine aw (r_load_aggc (c:=c_api_Addr) (z:=q251) isAgg24 sizeOf24 rfl (lens_cell .z lw)) ?_
     exact at_nil k
    ·intro Lx g334 s K hl hh k
     show At 180 ((3,_)::(4,_)::(10,_)::(11,_)::(12,_)::(14,_)::Lx) _ _
     refine fa 18 underlying66 rfl sizeOf3 ?_
     exact at_nil k
    ·intro Lx g334 s K hl hh k
     show At 180 ((174,_)::(3,_)::(4,_)::(10,_)::(11,_)::(12,_)::(14,_)::Lx) _ _
     obtain rfl:s=0:=by omega
     refine aw (r_load_cell isAgg3 rfl (lens_cell0 (c:=(cInt .i64)) (y:=t58.1.f_Owner) (.s .z) (Lens.comp lw (fun z=>{ t58.1 with f_Owner:=z }) (c_api_Entry_f_Owner t58.1)) rfl)) ?_
     exact at_nil k
    ·intro Lx g334 s K hl hh k
     show At 180 ((172,_)::(173,_)::(175,_)::(3,_)::(4,_)::(10,_)::(11,_)::(12,_)::(14,_)::Lx) _ _
     obtain rfl:s=0:=by omega
     refine aw (r_build_struct (zs:=Cd.cs c_crawlwayref59_Span zv4) (cs:=Cd.cs c_crawlwayref59_Span ({ { { zv4 with f_From:=lget q26 i48 } with f_To:=q251 } with f_Owner:=t58.1.f_Owner })) underlying62 zeroValue62 rfl (places_crawlwayref59_Span_62) rfl (fill_step (c:=c_api_Addr) (z:=lget q26 i48) rfl (c_crawlwayref59_Span_f_From zv4) rfl (fill_step (c:=c_api_Addr) (z:=q251) rfl (c_crawlwayref59_Span_f_To ({ zv4 with f_From:=lget q26 i48 })) rfl (fill_step (c:=(cInt .i64)) (z:=t58.1.f_Owner) rfl (c_crawlwayref59_Span_f_Owner ({ { zv4 with f_From:=lget q26 i48 } with f_To:=q251 })) rfl rfl)))) ?_
     exact at_nil k
    ·intro Lx g334 K k
     show At 180 ((176,_)::(3,_)::(4,_)::(10,_)::(11,_)::(12,_)::(14,_)::Lx) _ _
     refine at_litL (c:=c_crawlwayref59_Span) ([zv4]:List S_crawlwayref59_Span) ([{ { { zv4 with f_From:=lget q26 i48 } with f_To:=q251 } with f_Owner:=t58.1.f_Owner }]:List S_crawlwayref59_Span) underlying57 sizeOf62 zeroValue62 rfl rfl rfl (by kernel_rfl) (fill_step (c:=c_crawlwayref59_Span) (z:={ { { zv4 with f_From:=lget q26 i48 } with f_To:=q251 } with f_Owner:=t58.1.f_Owner }) rfl (Lens.all c_crawlwayref59_Span ([zv4]:List S_crawlwayref59_Span) 0 (by first | decide | exact Nat.le_of_ble_eq_true rfl)) rfl rfl) rfl ?_
     intro b333
     exact at_nil (k (g3 b333 none 0 none w))
    intro g334
    show At 180 [(168,_),(169,_),(170,_),(171,_),(172,_),(173,_),(174,_),(175,_),(176,_),(177,_),(3,_),(4,_),(10,_),(11,_),(12,_),(14,_)] _ _
    obtain ⟨h335,hF⟩:=gd hF
    refine at_append (z:=.agg (Cd.cs c_crawlwayref59_Span zv4).toArray) (c:=c_crawlwayref59_Span) (ys:=([{ { { zv4 with f_From:=lget q26 i48 } with f_To:=q251 } with f_Owner:=t58.1.f_Owner }]:List S_crawlwayref59_Span)) (.s (.s (.s .z))) underlying57 infoF362 (by kernel_rfl) (by kernel_rfl) rfl rfl rfl rfl (fun _ hw=>cells_src (hw.ok (Upd.mem .z))) (by kernel_rfl) h335 (app_small h335) rfl ?_
    intro p336 c337
    refine aa (qn (dz (dz (dz (wq [11,10,4,3] ?_)))))
    refine bm ?_
    refine qr (am (aw xa (aa (nwq [11,10,4,3] ?_))))
    exact at_weak_k (ih _ _ _ hF K p336 c337) ⟨rfl,rfl,rfl,rfl,trivial⟩
   refine cf h53 ?_
   refine at_exit ?_
   refine te (te ?_)
   refine at_drop (H:=_) (.s .z) ?_
   refine at_drop (H:=_) (.s .z) ?_
   obtain rfl:=os hF
   exact at_weak_k (K p49 c50) ⟨rfl,trivial⟩
 skip
 intro p51 c52
 refine at_blk_same ?_
 refine tn (sr (am (aa (nwq [2] ?_))))
 refine qt ?_
 have K:=os hF
 subst K
 exact r1 (fun w1 hw=>⟨p51,c52,rfl,hw.own .z,hw.below⟩)
end Go.Proofs.Ytahlbjmafceoeaa
namespace Go.Proofs.Ytahlbjmafceoeaa
open E Go.RowKit _root_.Go.Proofs.Try
abbrev crawlwaylaw59_alive.e0:S_api_Entry:={ { ({ f_P:=({ f_A:=({ f_V:=(0:Int),f_B:=(Vector.replicate 16 (0:Int):(Vector Int 16)) }:S_api_Addr),f_Bits:=(0:Int) }:S_api_Prefix),f_Owner:=(0:Int) }:S_api_Entry) with f_P:={ { ({ f_A:=({ f_V:=(0:Int),f_B:=(Vector.replicate 16 (0:Int):(Vector Int 16)) }:S_api_Addr),f_Bits:=(0:Int) }:S_api_Prefix) with f_A:={ { ({ f_V:=(0:Int),f_B:=(Vector.replicate 16 (0:Int):(Vector Int 16)) }:S_api_Addr) with f_V:=4 } with f_B:=vset (Vector.replicate 16 (0:Int):(Vector Int 16)) 0 10 } } with f_Bits:=8 } } with f_Owner:=1 }
abbrev crawlwaylaw59_alive.e1:S_api_Entry:={ { ({ f_P:=({ f_A:=({ f_V:=(0:Int),f_B:=(Vector.replicate 16 (0:Int):(Vector Int 16)) }:S_api_Addr),f_Bits:=(0:Int) }:S_api_Prefix),f_Owner:=(0:Int) }:S_api_Entry) with f_P:={ { ({ f_A:=({ f_V:=(0:Int),f_B:=(Vector.replicate 16 (0:Int):(Vector Int 16)) }:S_api_Addr),f_Bits:=(0:Int) }:S_api_Prefix) with f_A:={ { ({ f_V:=(0:Int),f_B:=(Vector.replicate 16 (0:Int):(Vector Int 16)) }:S_api_Addr) with f_V:=4 } with f_B:=vset (Vector.replicate 16 (0:Int):(Vector Int 16)) 0 10 } } with f_Bits:=9 } } with f_Owner:=2 }
def crawlwaylaw59_alive:Option (Bool) :=
 flat_Of ([crawlwaylaw59_alive.e0,crawlwaylaw59_alive.e1])>>=fun t3=>flat_Find t3 ({ { ({ f_V:=(0:Int),f_B:=(Vector.replicate 16 (0:Int):(Vector Int 16)) }:S_api_Addr) with f_V:=4 } with f_B:=vset (Vector.replicate 16 (0:Int):(Vector Int 16)) 0 10 })>>=fun t6=>if ((t3.length:Int)==2)=true then (if (0:Int)≤0∧0<(t3.length:Int) then if ((lget t3 0).f_Owner==2)=true then (if (t6.1==2)=true then (some t6.2) else (some false)) else (some false) else none) else (some false)
theorem crawlwaylaw59_alive_ok(r:Bool)(hF:crawlwaylaw59_alive =some r)(w:World) :
    Calls Try.prog 27 #[] w (fun e w'=>e=.returned (.bool r)∧Below w.heap.size w w'):=by
 unfold crawlwaylaw59_alive at hF
 refine ce (l:=[]) func27 rfl rfl ?_
 refine at_start ?_
 refine at_weak [] trivial ?_
 refine sr (aa ?_)
 refine nws [] trivial ?_
 refine aw (r_build_array (zs:=Cd.cs (cVec (cInt .u8) 16 (by decide)) zv1) (cs:=Cd.cs (cVec (cInt .u8) 16 (by decide)) (vset zv1 0 10)) underlying22 zeroValue22 rfl sizeOf5 rfl (fill_step (c:=(cInt .u8)) (z:=10) rfl (Lens.vec (cInt .u8) (by decide) zv1 0 (by decide)) rfl rfl)) ?_
 refine aw (r_build_struct (zs:=Cd.cs c_api_Addr zv0) (cs:=Cd.cs c_api_Addr ({ { zv0 with f_V:=4 } with f_B:=vset zv1 0 10 })) underlying24 zeroValue24 rfl (places_api_Addr_24) rfl (fill_step (c:=(cInt .i64)) (z:=4) rfl (c_api_Addr_f_V zv0) rfl (fill_step (c:=(cVec (cInt .u8) 16 (by decide))) (z:=vset zv1 0 10) rfl (c_api_Addr_f_B ({ zv0 with f_V:=4 })) rfl rfl))) ?_
 refine al (cs:=Cd.cs c_api_Addr zv0) zeroValue24 ?_
 intro b1
 refine at_store (c:=c_api_Addr) (z:={ { zv0 with f_V:=4 } with f_B:=vset zv1 0 10 }) .z lw sizeOf24 rfl rfl rfl ?_
 refine ns ?_
 refine aw (r_load_aggc (c:=c_api_Addr) (z:={ { zv0 with f_V:=4 } with f_B:=vset zv1 0 10 }) isAgg24 sizeOf24 rfl (lens_cell .z lw)) ?_
 refine aw (r_build_struct (zs:=Cd.cs c_api_Prefix zv5) (cs:=Cd.cs c_api_Prefix ({ { zv5 with f_A:={ { zv0 with f_V:=4 } with f_B:=vset zv1 0 10 } } with f_Bits:=8 })) underlying37 zeroValue37 rfl (places_api_Prefix_37) rfl (fill_step (c:=c_api_Addr) (z:={ { zv0 with f_V:=4 } with f_B:=vset zv1 0 10 }) rfl (c_api_Prefix_f_A zv5) rfl (fill_step (c:=(cInt .i64)) (z:=8) rfl (c_api_Prefix_f_Bits ({ zv5 with f_A:={ { zv0 with f_V:=4 } with f_B:=vset zv1 0 10 } })) rfl rfl))) ?_
 refine aw (r_build_struct (zs:=Cd.cs c_api_Entry zv8) (cs:=Cd.cs c_api_Entry ({ { zv8 with f_P:={ { zv5 with f_A:={ { zv0 with f_V:=4 } with f_B:=vset zv1 0 10 } } with f_Bits:=8 } } with f_Owner:=1 })) underlying66 zeroValue66 rfl (places_api_Entry_66) rfl (fill_step (c:=c_api_Prefix) (z:={ { zv5 with f_A:={ { zv0 with f_V:=4 } with f_B:=vset zv1 0 10 } } with f_Bits:=8 }) rfl (c_api_Entry_f_P zv8) rfl (fill_step (c:=(cInt .i64)) (z:=1) rfl (c_api_Entry_f_Owner ({ zv8 with f_P:={ { zv5 with f_A:={ { zv0 with f_V:=4 } with f_B:=vset zv1 0 10 } } with f_Bits:=8 } })) rfl rfl))) ?_
 refine aw (r_load_aggc (c:=c_api_Addr) (z:={ { zv0 with f_V:=4 } with f_B:=vset zv1 0 10 }) isAgg24 sizeOf24 rfl (lens_cell .z lw)) ?_
 refine aw (r_build_struct (zs:=Cd.cs c_api_Prefix zv5) (cs:=Cd.cs c_api_Prefix ({ { zv5 with f_A:={ { zv0 with f_V:=4 } with f_B:=vset zv1 0 10 } } with f_Bits:=9 })) underlying37 zeroValue37 rfl (places_api_Prefix_37) rfl (fill_step (c:=c_api_Addr) (z:={ { zv0 with f_V:=4 } with f_B:=vset zv1 0 10 }) rfl (c_api_Prefix_f_A zv5) rfl (fill_step (c:=(cInt .i64)) (z:=9) rfl (c_api_Prefix_f_Bits ({ zv5 with f_A:={ { zv0 with f_V:=4 } with f_B:=vset zv1 0 10 } })) rfl rfl))) ?_
 refine aw (r_build_struct (zs:=Cd.cs c_api_Entry zv8) (cs:=Cd.cs c_api_Entry ({ { zv8 with f_P:={ { zv5 with f_A:={ { zv0 with f_V:=4 } with f_B:=vset zv1 0 10 } } with f_Bits:=9 } } with f_Owner:=2 })) underlying66 zeroValue66 rfl (places_api_Entry_66) rfl (fill_step (c:=c_api_Prefix) (z:={ { zv5 with f_A:={ { zv0 with f_V:=4 } with f_B:=vset zv1 0 10 } } with f_Bits:=9 }) rfl (c_api_Entry_f_P zv8) rfl (fill_step (c:=(cInt .i64)) (z:=2) rfl (c_api_Entry_f_Owner ({ zv8 with f_P:={ { zv5 with f_A:={ { zv0 with f_V:=4 } with f_B:=vset zv1 0 10 } } with f_Bits:=9 } })) rfl rfl))) ?_
 refine at_litL (c:=c_api_Entry) ([zv8,zv8]:List S_api_Entry) ([crawlwaylaw59_alive.e0,crawlwaylaw59_alive.e1]:List S_api_Entry) underlying54 sizeOf66 zeroValue66 rfl rfl rfl (by kernel_rfl) (fill_step (c:=c_api_Entry) (z:=crawlwaylaw59_alive.e0) rfl (Lens.all c_api_Entry ([zv8,zv8]:List S_api_Entry) 0 (by first | decide | exact Nat.le_of_ble_eq_true rfl)) rfl (fill_step (c:=c_api_Entry) (z:=crawlwaylaw59_alive.e1) rfl (Lens.all c_api_Entry ([crawlwaylaw59_alive.e0,zv8]:List S_api_Entry) 1 (by first | decide | exact Nat.le_of_ble_eq_true rfl)) rfl rfl)) rfl ?_
 intro b2
 obtain ⟨t3,ht3,hF⟩:=bM hF
 refine at_callO (c:=c_flat_Span) (e:=60) (ys:=t3) (V:=fun p cap=>.slice p t3.length cap) func28 rfl (by kernel_rfl) rfl rfl (fun w hw=>flat_Of_ok _ _ _ _ ht3 w (cells_row (hw.ok (Upd.mem .z)))) ?_
 intro p4 c5
 refine aa (qn ?_)
 refine at_drop (H:=_) (.s .z) ?_
 refine tn (sr (am ?_))
 refine aw (r_load_aggc (c:=c_api_Addr) (z:={ { zv0 with f_V:=4 } with f_B:=vset zv1 0 10 }) isAgg24 sizeOf24 rfl (lens_cell (.s .z) lw)) ?_
 obtain ⟨t6,ht6,hF⟩:=bM hF
 refine cB func30 rfl (fun w hw=>flat_Find_ok _ _ _ _ _ ht6 w (hw.own .z).row) ?_
 refine am ?_
 refine aw xe (aw xe (aa (aa (qn ?_))))
 refine at_drop (H:=_) (.s .z) ?_
 refine wq [4,3,2] ?_
 refine tn (sr (am ?_))
 refine aw (r_len_sl underlying55 rfl) ?_
 refine aw xq (am ?_)
 obtain ⟨h7,hF⟩|⟨h7,hF⟩:=oi hF
 ·refine fx 24 h7 ?_
  refine gy ?_
  refine am ?_
  refine gy ?_
  obtain ⟨h8,hF⟩:=gd hF
  refine at_pure (φ:=∃ b o,p4=some ⟨b,o,none⟩) (fun _ hw=>row_ptr (hw.own .z).row h8) ?_
  rintro ⟨b10,o11,hp9⟩
  refine aw (r_idx underlying55 sizeOf60 rfl rfl h8 hp9) ?_
  refine gy ?_
  refine fa 34 underlying60 rfl sizeOf3 ?_
  refine gy ?_
  refine aw (r_load_cell isAgg3 rfl (fun w1 hw=>row_lens0 (y:=(lget t3 0).f_Owner) (W:=fun w1=>w1=_) (fun w1 h=>by subst h;exact Below.refl _ _) (hw.own .z).row h8 hp9 (Lens.comp lw (fun z=>{ (lget t3 0) with f_Owner:=z }) (c_flat_Span_f_Owner (lget t3 0))) rfl _ rfl)) ?_
  refine gy ?_
  refine aw xq (aw xp (am ?_))
  obtain ⟨h12,hF⟩|⟨h12,hF⟩:=oi hF
  ·refine fx 31 h12 ?_
   refine gy ?_
   refine am ?_
   refine gy ?_
   refine aw xq (aw xp (am ?_))
   obtain ⟨h13,hF⟩|⟨h13,hF⟩:=oi hF
   ·refine fx 35 h13 ?_
    refine gy ?_
    refine am (aw xp (aa (qn (dz (wq [0] ?_)))))
    refine tn (qt ?_)
    have K:=os hF
    subst K
    exact r1 wb
   refine fx 35 h13 ?_
   refine gn ?_
   refine aw xp (aa (qn (dz (wq [0] ?_))))
   refine tn (qt ?_)
   have K:=os hF
   subst K
   exact r1 wb
  refine fx 31 h12 ?_
  refine gn ?_
  refine gn ?_
  refine aw xp (am ?_)
  refine gn ?_
  refine aw xp (aa (qn (dz (wq [0] ?_))))
  refine tn (qt ?_)
  have K:=os hF
  subst K
  exact r1 wb
 refine fx 24 h7 ?_
 refine gn ?_
 refine gn ?_
 refine gn ?_
 refine gn ?_
 refine gn ?_
 refine aw xp (am ?_)
 refine gn ?_
 refine gn ?_
 refine aw xp (am ?_)
 refine gn ?_
 refine aw xp (aa (qn (dz (wq [0] ?_))))
 refine tn (qt ?_)
 have K:=os hF
 subst K
 exact r1 wb
end Go.Proofs.Ytahlbjmafceoeaa
