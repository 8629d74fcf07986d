/- Texts of this claim, those in one that belong together; printed by a program of this project. -/
import Derived.Test.YtkkmmpofdcccmaaGreatDoorProg
import Derived.Test.YtkkmmpofdcccmaaGreatDoorKScriptLines4
set_option linter.unusedVariables false
set_option linter.unusedSimpArgs false
namespace Go.Proofs.YtkkmmpofdcccmaaGreatDoor
open E Go.RowKit _root_.Go.Proofs.Tryz
def crawlwayref50_Right (x0 : S_api_Item) : Option (Bool) :=
  if (x0.f_Kind == 1) = true then (crawlwayref50_Same ({ { ({ f_Kind:=(0 : Int),f_Bytes:=([] : List Int),f_From:=({ f_A:=({ f_V:=(0 : Int),f_B:=(Vector.replicate 16 (0 : Int) : (Vector Int 16)) } : S_api_Addr),f_Port:=(0 : Int) } : S_api_Endpoint),f_Result:=([] : List Int),f_Ok:=false,f_Key:=(Vector.replicate 32 (0 : Int) : (Vector Int 32)),f_Local:=(0 : Int),f_Remote:=(0 : Int),f_Next:=(0 : Int) } : S_api_Item) with f_Kind:=x0.f_Kind } with f_Bytes:=x0.f_Bytes }) x0 >>= fun t4=>if t4 = true then (if x0.f_Ok = true then (some true) else (some ((x0.f_Result.length : Int) == 0))) else (some false)) else (if (x0.f_Kind == 2) = true then (crawlwayref50_Same ({ { ({ f_Kind:=(0 : Int),f_Bytes:=([] : List Int),f_From:=({ f_A:=({ f_V:=(0 : Int),f_B:=(Vector.replicate 16 (0 : Int) : (Vector Int 16)) } : S_api_Addr),f_Port:=(0 : Int) } : S_api_Endpoint),f_Result:=([] : List Int),f_Ok:=false,f_Key:=(Vector.replicate 32 (0 : Int) : (Vector Int 32)),f_Local:=(0 : Int),f_Remote:=(0 : Int),f_Next:=(0 : Int) } : S_api_Item) with f_Kind:=x0.f_Kind } with f_Bytes:=x0.f_Bytes }) x0 >>= fun t8=>if t8 = true then (if x0.f_Ok = true then (some true) else (some ((x0.f_Result.length : Int) == 0))) else (some false)) else (if (x0.f_Kind == 3) = true then (crawlwayref50_Same ({ { { { ({ f_Kind:=(0 : Int),f_Bytes:=([] : List Int),f_From:=({ f_A:=({ f_V:=(0 : Int),f_B:=(Vector.replicate 16 (0 : Int) : (Vector Int 16)) } : S_api_Addr),f_Port:=(0 : Int) } : S_api_Endpoint),f_Result:=([] : List Int),f_Ok:=false,f_Key:=(Vector.replicate 32 (0 : Int) : (Vector Int 32)),f_Local:=(0 : Int),f_Remote:=(0 : Int),f_Next:=(0 : Int) } : S_api_Item) with f_Kind:=x0.f_Kind } with f_Bytes:=x0.f_Bytes } with f_Result:=x0.f_Result } with f_Ok:=x0.f_Ok }) x0 >>= fun t12=>if t12 = true then (if x0.f_Ok = true then (some true) else (some ((x0.f_Result.length : Int) == 0))) else (some false)) else (if (x0.f_Kind == 4) = true then (crawlwayref12_Right x0.f_From >>= fun t16=>if (!t16) = true then (some false) else (crawlwayref50_Same ({ { { { { ({ f_Kind:=(0 : Int),f_Bytes:=([] : List Int),f_From:=({ f_A:=({ f_V:=(0 : Int),f_B:=(Vector.replicate 16 (0 : Int) : (Vector Int 16)) } : S_api_Addr),f_Port:=(0 : Int) } : S_api_Endpoint),f_Result:=([] : List Int),f_Ok:=false,f_Key:=(Vector.replicate 32 (0 : Int) : (Vector Int 32)),f_Local:=(0 : Int),f_Remote:=(0 : Int),f_Next:=(0 : Int) } : S_api_Item) with f_Kind:=x0.f_Kind } with f_Bytes:=x0.f_Bytes } with f_From:=x0.f_From } with f_Result:=x0.f_Result } with f_Ok:=x0.f_Ok }) x0 >>= fun t18=>if t18 = true then (if x0.f_Ok = true then (some true) else (some ((x0.f_Result.length : Int) == 0))) else (some false))) else (if (x0.f_Kind == 5) = true then (crawlwayref50_Same ({ { { { { ({ f_Kind:=(0 : Int),f_Bytes:=([] : List Int),f_From:=({ f_A:=({ f_V:=(0 : Int),f_B:=(Vector.replicate 16 (0 : Int) : (Vector Int 16)) } : S_api_Addr),f_Port:=(0 : Int) } : S_api_Endpoint),f_Result:=([] : List Int),f_Ok:=false,f_Key:=(Vector.replicate 32 (0 : Int) : (Vector Int 32)),f_Local:=(0 : Int),f_Remote:=(0 : Int),f_Next:=(0 : Int) } : S_api_Item) with f_Kind:=x0.f_Kind } with f_Key:=x0.f_Key } with f_Local:=x0.f_Local } with f_Remote:=x0.f_Remote } with f_Next:=x0.f_Next }) x0 >>= fun t22=>if t22 = true then (if x0.f_Ok = true then (some true) else (some ((x0.f_Result.length : Int) == 0))) else (some false)) else (if (x0.f_Kind == 6) = true then (crawlwayref50_Same ({ { ({ f_Kind:=(0 : Int),f_Bytes:=([] : List Int),f_From:=({ f_A:=({ f_V:=(0 : Int),f_B:=(Vector.replicate 16 (0 : Int) : (Vector Int 16)) } : S_api_Addr),f_Port:=(0 : Int) } : S_api_Endpoint),f_Result:=([] : List Int),f_Ok:=false,f_Key:=(Vector.replicate 32 (0 : Int) : (Vector Int 32)),f_Local:=(0 : Int),f_Remote:=(0 : Int),f_Next:=(0 : Int) } : S_api_Item) with f_Kind:=x0.f_Kind } with f_Local:=x0.f_Local }) x0 >>= fun t26=>if t26 = true then (if x0.f_Ok = true then (some true) else (some ((x0.f_Result.length : Int) == 0))) else (some false)) else (some false))))))
theorem crawlwayref50_Right_ok (g0_ : G_api_Item) (x0 : S_api_Item) (r : Bool) (hF : crawlwayref50_Right x0 = some r) (w : World) (hn0 : N_api_Item w (g0_,x0)) :
    Calls Tryz.prog 22 #[.agg (Cd.cs c_api_Item (g0_,x0)).toArray] w (fun e w'=>e = .returned (.bool r) ∧ Below w.heap.size w w'):=by
 unfold crawlwayref50_Right at hF
 refine calls_enter (l:=[.agg (Cd.cs c_api_Item (g0_,x0)).toArray]) func22 rfl rfl rfl ?_
 refine at_start ?_
 refine at_frz0 ?_
 intro Z_ s_ hB_
 have hz0:=NK_api_Item.mono (NK_api_Item.of hn0) hB_
 refine sr ?_
 refine at_box (cs:=Cd.cs c_api_Item (g0_,x0)) rfl rfl rfl ?_
 intro b1
 refine aa rfl rfl ?_
 refine ns ?_
 refine at_alloc (cs:=Cd.cs c_api_Item zv6) zeroValue33 rfl rfl ?_
 intro b2
 refine ns ?_
 refine fa 0 underlying33 rfl rfl sizeOf3 rfl rfl ?_
 refine av rfl (r_load_cell isAgg3 rfl (lens_cell0 (c:=(cInt .i64)) (y:=x0.f_Kind) (.s .z) (c_api_Item_f_Kind g0_ x0) rfl)) ?_
 refine fa 0 underlying33 rfl rfl sizeOf3 rfl rfl ?_
 refine at_store (c:=(cInt .i64)) (z:=x0.f_Kind) .z (c_api_Item_f_Kind zv5 zv4) sizeOf3 rfl rfl rfl ?_
 refine nt ?_
 refine at_seq ?_
 refine sr ?_
 refine fa 0 underlying33 rfl rfl sizeOf3 rfl rfl ?_
 refine av rfl (r_load_cell isAgg3 rfl (lens_cell0 (c:=(cInt .i64)) (y:=x0.f_Kind) (.s .z) (c_api_Item_f_Kind g0_ x0) rfl)) ?_
 refine nwq [8,3,1] rfl ?_
 refine at_block ?_
 refine at_seq ?_
 refine sr ?_
 refine av rfl (r_ieql rfl rfl) ?_
 refine aa rfl rfl ?_
 refine nwq [9,8,3,1] rfl ?_
 rcases oi hF with ⟨h3,hF⟩|⟨h3,hF⟩
 ·refine ct rfl h3 ?_
  refine at_fix (g:=9) rfl h3 ?_
  refine sn ?_
  refine ct rfl rfl ?_
  refine at_region ?_
  refine fa 1 underlying33 rfl rfl sizeOf22 rfl rfl ?_
  refine av rfl (r_load_cell isAgg22 rfl (lens_cell0 (c:=cHd) (y:=⟨g0_.1.1,List.length x0.f_Bytes,g0_.1.2⟩) (.s .z) (c_api_Item_f_Bytes g0_ x0) rfl)) ?_
  refine fa 1 underlying33 rfl rfl sizeOf22 rfl rfl ?_
  refine at_store (c:=cSv Int) (z:=((g0_.1.1,g0_.1.2),x0.f_Bytes)) .z (c_api_Item_f_Bytes_sv zv5 ({ zv4 with f_Kind:=x0.f_Kind })) sizeOf22 rfl rfl rfl ?_
  refine at_nil ?_
  refine wq [3,1] rfl ?_
  refine at_blk_normal (at_then_normal ?_)
  refine sr ?_
  refine av rfl (r_load_aggc (c:=c_api_Item) (z:=(((g0_.1.1,g0_.1.2),zv2),{ { zv4 with f_Kind:=x0.f_Kind } with f_Bytes:=x0.f_Bytes })) isAgg33 sizeOf33 rfl (lens_cell .z (Lens.whole _ _))) ?_
  refine av rfl (r_load_aggc (c:=c_api_Item) (z:=(g0_,x0)) isAgg33 sizeOf33 rfl (lens_cell (.s .z) (Lens.whole _ _))) ?_
  obtain ⟨t4,ht4,hF⟩:=of_bindM hF
  refine at_callB func13 rfl (by kernel_rfl) rfl rfl (fun w hw=>crawlwayref50_Same_ok _ _ _ _ _ ht4 w ⟨(RowK.row (RowK.mono hz0.1 (frz_mono (.s (.s .z)) hw))),(Row.nil ..)⟩ (NK_api_Item.n (NK_api_Item.mono hz0 (frz_mono (.s (.s .z)) hw)))) ?_
  refine am rfl rfl ?_
  rcases oi hF with ⟨h5,hF⟩|⟨h5,hF⟩
  ·refine at_fix (g:=66) rfl h5 ?_
   refine gy rfl rfl rfl ?_
   refine fa 21 underlying33 rfl rfl sizeOf4 rfl rfl ?_
   refine gy rfl rfl rfl ?_
   refine av rfl (r_load_cell isAgg4 rfl (lens_cell0 (c:=cBool) (y:=x0.f_Ok) (.s .z) (c_api_Item_f_Ok g0_ x0) rfl)) ?_
   refine gy rfl rfl rfl ?_
   refine am rfl rfl ?_
   rcases oi hF with ⟨h6,hF⟩|⟨h6,hF⟩
   ·refine at_fix (g:=69) rfl h6 ?_
    refine gn rfl rfl rfl rfl rfl ?_
    refine gn rfl rfl rfl rfl rfl ?_
    refine gn rfl rfl rfl rfl rfl ?_
    refine gn rfl rfl rfl rfl rfl ?_
    refine gy rfl rfl rfl ?_
    refine av rfl (r_pick rfl rfl rfl) ?_
    refine av rfl (r_pick rfl rfl rfl) ?_
    refine aa rfl rfl ?_
    refine at_nil ?_
    refine dz ?_
    refine dz ?_
    refine wq [2] rfl ?_
    refine tn ?_
    refine at_ret ?_
    have K:=of_some hF
    subst K
    exact at_return1 rfl rfl (fun w1 hw=>⟨rfl,hw.below⟩)
   refine at_fix (g:=69) rfl h6 ?_
   refine gy rfl rfl rfl ?_
   refine fa 20 underlying33 rfl rfl sizeOf22 rfl rfl ?_
   refine gy rfl rfl rfl ?_
   refine av rfl (r_load_cell isAgg22 rfl (lens_cell0 (c:=cHd) (y:=⟨g0_.2.1,List.length x0.f_Result,g0_.2.2⟩) (.s .z) (c_api_Item_f_Result g0_ x0) rfl)) ?_
   refine gy rfl rfl rfl ?_
   refine av rfl (r_len_sl underlying22 rfl) ?_
   refine gy rfl rfl rfl ?_
   refine av rfl (r_ieql rfl rfl) ?_
   refine gy rfl rfl rfl ?_
   refine av rfl (r_pick rfl rfl rfl) ?_
   refine av rfl (r_pick rfl rfl rfl) ?_
   refine aa rfl rfl ?_
   refine at_nil ?_
   refine dz ?_
   refine dz ?_
   refine wq [2] rfl ?_
   refine tn ?_
   refine at_ret ?_
   have K:=of_some hF
   subst K
   exact at_return1 rfl rfl (fun w1 hw=>⟨rfl,hw.below⟩)
  refine at_fix (g:=66) rfl h5 ?_
  refine gn rfl rfl rfl rfl rfl ?_
  refine gn rfl rfl rfl rfl rfl ?_
  refine gn rfl rfl rfl rfl rfl ?_
  refine at_guard_undef rfl rfl rfl rfl ?_
  refine at_guard_undef rfl rfl rfl rfl ?_
  refine at_guard_undef rfl rfl rfl rfl ?_
  refine at_guard_undef rfl rfl rfl rfl ?_
  refine gn rfl rfl rfl rfl rfl ?_
  refine av rfl (r_pick rfl rfl rfl) ?_
  refine aa rfl rfl ?_
  refine at_nil ?_
  refine dz ?_
  refine dz ?_
  refine wq [2] rfl ?_
  refine tn ?_
  refine at_ret ?_
  have K:=of_some hF
  subst K
  exact at_return1 rfl rfl (fun w1 hw=>⟨rfl,hw.below⟩)
 refine cf rfl h3 ?_
 refine at_region ?_
 refine av rfl (r_ieql rfl rfl) ?_
 refine aa rfl rfl ?_
 refine nwq [9,8,3,1] rfl ?_
 rcases oi hF with ⟨h7,hF⟩|⟨h7,hF⟩
 ·refine ct rfl h7 ?_
  refine at_region ?_
  refine fa 1 underlying33 rfl rfl sizeOf22 rfl rfl ?_
  refine av rfl (r_load_cell isAgg22 rfl (lens_cell0 (c:=cHd) (y:=⟨g0_.1.1,List.length x0.f_Bytes,g0_.1.2⟩) (.s .z) (c_api_Item_f_Bytes g0_ x0) rfl)) ?_
  refine fa 1 underlying33 rfl rfl sizeOf22 rfl rfl ?_
  refine at_store (c:=cSv Int) (z:=((g0_.1.1,g0_.1.2),x0.f_Bytes)) .z (c_api_Item_f_Bytes_sv zv5 ({ zv4 with f_Kind:=x0.f_Kind })) sizeOf22 rfl rfl rfl ?_
  refine at_nil ?_
  refine wq [3,1] rfl ?_
  refine at_blk_normal (at_then_normal ?_)
  refine sr ?_
  refine av rfl (r_load_aggc (c:=c_api_Item) (z:=(((g0_.1.1,g0_.1.2),zv2),{ { zv4 with f_Kind:=x0.f_Kind } with f_Bytes:=x0.f_Bytes })) isAgg33 sizeOf33 rfl (lens_cell .z (Lens.whole _ _))) ?_
  refine av rfl (r_load_aggc (c:=c_api_Item) (z:=(g0_,x0)) isAgg33 sizeOf33 rfl (lens_cell (.s .z) (Lens.whole _ _))) ?_
  obtain ⟨t8,ht8,hF⟩:=of_bindM hF
  refine at_callB func13 rfl (by kernel_rfl) rfl rfl (fun w hw=>crawlwayref50_Same_ok _ _ _ _ _ ht8 w ⟨(RowK.row (RowK.mono hz0.1 (frz_mono (.s (.s .z)) hw))),(Row.nil ..)⟩ (NK_api_Item.n (NK_api_Item.mono hz0 (frz_mono (.s (.s .z)) hw)))) ?_
  refine am rfl rfl ?_
  rcases oi hF with ⟨h9,hF⟩|⟨h9,hF⟩
  ·refine at_fix (g:=66) rfl h9 ?_
   refine gy rfl rfl rfl ?_
   refine fa 21 underlying33 rfl rfl sizeOf4 rfl rfl ?_
   refine gy rfl rfl rfl ?_
   refine av rfl (r_load_cell isAgg4 rfl (lens_cell0 (c:=cBool) (y:=x0.f_Ok) (.s .z) (c_api_Item_f_Ok g0_ x0) rfl)) ?_
   refine gy rfl rfl rfl ?_
   refine am rfl rfl ?_
   rcases oi hF with ⟨h10,hF⟩|⟨h10,hF⟩
   ·refine at_fix (g:=69) rfl h10 ?_
    refine gn rfl rfl rfl rfl rfl ?_
    refine gn rfl rfl rfl rfl rfl ?_
    refine gn rfl rfl rfl rfl rfl ?_
    refine gn rfl rfl rfl rfl rfl ?_
    refine gy rfl rfl rfl ?_
    refine av rfl (r_pick rfl rfl rfl) ?_
    refine av rfl (r_pick rfl rfl rfl) ?_
    refine aa rfl rfl ?_
    refine at_nil ?_
    refine dz ?_
    refine dz ?_
    refine wq [2] rfl ?_
    refine tn ?_
    refine at_ret ?_
    have K:=of_some hF
    subst K
    exact at_return1 rfl rfl (fun w1 hw=>⟨rfl,hw.below⟩)
   refine at_fix (g:=69) rfl h10 ?_
   refine gy rfl rfl rfl ?_
   refine fa 20 underlying33 rfl rfl sizeOf22 rfl rfl ?_
   refine gy rfl rfl rfl ?_
   refine av rfl (r_load_cell isAgg22 rfl (lens_cell0 (c:=cHd) (y:=⟨g0_.2.1,List.length x0.f_Result,g0_.2.2⟩) (.s .z) (c_api_Item_f_Result g0_ x0) rfl)) ?_
   refine gy rfl rfl rfl ?_
   refine av rfl (r_len_sl underlying22 rfl) ?_
   refine gy rfl rfl rfl ?_
   refine av rfl (r_ieql rfl rfl) ?_
   refine gy rfl rfl rfl ?_
   refine av rfl (r_pick rfl rfl rfl) ?_
   refine av rfl (r_pick rfl rfl rfl) ?_
   refine aa rfl rfl ?_
   refine at_nil ?_
   refine dz ?_
   refine dz ?_
   refine wq [2] rfl ?_
   refine tn ?_
   refine at_ret ?_
   have K:=of_some hF
   subst K
   exact at_return1 rfl rfl (fun w1 hw=>⟨rfl,hw.below⟩)
  refine at_fix (g:=66) rfl h9 ?_
  refine gn rfl rfl rfl rfl rfl ?_
  refine gn rfl rfl rfl rfl rfl ?_
  refine gn rfl rfl rfl rfl rfl ?_
  refine at_guard_undef rfl rfl rfl rfl ?_
  refine at_guard_undef rfl rfl rfl rfl ?_
  refine at_guard_undef rfl rfl rfl rfl ?_
  refine at_guard_undef rfl rfl rfl rfl ?_
  refine gn rfl rfl rfl rfl rfl ?_
  refine av rfl (r_pick rfl rfl rfl) ?_
  refine aa rfl rfl ?_
  refine at_nil ?_
  refine dz ?_
  refine dz ?_
  refine wq [2] rfl ?_
  refine tn ?_
  refine at_ret ?_
  have K:=of_some hF
  subst K
  exact at_return1 rfl rfl (fun w1 hw=>⟨rfl,hw.below⟩)
 refine cf rfl h7 ?_
 refine sr ?_
 refine av rfl (r_ieql rfl rfl) ?_
 refine aa rfl rfl ?_
 refine nwq [15,8,3,1] rfl ?_
 rcases oi hF with ⟨h11,hF⟩|⟨h11,hF⟩
 ·refine ct rfl h11 ?_
  refine sr ?_
  refine fa 1 underlying33 rfl rfl sizeOf22 rfl rfl ?_
  refine av rfl (r_load_cell isAgg22 rfl (lens_cell0 (c:=cHd) (y:=⟨g0_.1.1,List.length x0.f_Bytes,g0_.1.2⟩) (.s .z) (c_api_Item_f_Bytes g0_ x0) rfl)) ?_
  refine fa 1 underlying33 rfl rfl sizeOf22 rfl rfl ?_
  refine at_store (c:=cSv Int) (z:=((g0_.1.1,g0_.1.2),x0.f_Bytes)) .z (c_api_Item_f_Bytes_sv zv5 ({ zv4 with f_Kind:=x0.f_Kind })) sizeOf22 rfl rfl rfl ?_
  refine ns ?_
  refine fa 20 underlying33 rfl rfl sizeOf22 rfl rfl ?_
  refine av rfl (r_load_cell isAgg22 rfl (lens_cell0 (c:=cHd) (y:=⟨g0_.2.1,List.length x0.f_Result,g0_.2.2⟩) (.s .z) (c_api_Item_f_Result g0_ x0) rfl)) ?_
  refine fa 20 underlying33 rfl rfl sizeOf22 rfl rfl ?_
  refine at_store (c:=cSv Int) (z:=((g0_.2.1,g0_.2.2),x0.f_Result)) .z (c_api_Item_f_Result_sv ((g0_.1.1,g0_.1.2),zv2) ({ { zv4 with f_Kind:=x0.f_Kind } with f_Bytes:=x0.f_Bytes })) sizeOf22 rfl rfl rfl ?_
  refine nt ?_
  refine at_region ?_
  refine fa 21 underlying33 rfl rfl sizeOf4 rfl rfl ?_
  refine av rfl (r_load_cell isAgg4 rfl (lens_cell0 (c:=cBool) (y:=x0.f_Ok) (.s .z) (c_api_Item_f_Ok g0_ x0) rfl)) ?_
  refine fa 21 underlying33 rfl rfl sizeOf4 rfl rfl ?_
  refine at_store (c:=cBool) (z:=x0.f_Ok) .z (c_api_Item_f_Ok ((g0_.1.1,g0_.1.2),(g0_.2.1,g0_.2.2)) ({ { { zv4 with f_Kind:=x0.f_Kind } with f_Bytes:=x0.f_Bytes } with f_Result:=x0.f_Result })) sizeOf4 rfl rfl rfl ?_
  refine at_nil ?_
  refine wq [3,1] rfl ?_
  refine at_blk_normal (at_then_normal ?_)
  refine sr ?_
  refine av rfl (r_load_aggc (c:=c_api_Item) (z:=(((g0_.1.1,g0_.1.2),(g0_.2.1,g0_.2.2)),{ { { { zv4 with f_Kind:=x0.f_Kind } with f_Bytes:=x0.f_Bytes } with f_Result:=x0.f_Result } with f_Ok:=x0.f_Ok })) isAgg33 sizeOf33 rfl (lens_cell .z (Lens.whole _ _))) ?_
  refine av rfl (r_load_aggc (c:=c_api_Item) (z:=(g0_,x0)) isAgg33 sizeOf33 rfl (lens_cell (.s .z) (Lens.whole _ _))) ?_
  obtain ⟨t12,ht12,hF⟩:=of_bindM hF
  refine at_callB func13 rfl (by kernel_rfl) rfl rfl (fun w hw=>crawlwayref50_Same_ok _ _ _ _ _ ht12 w ⟨(RowK.row (RowK.mono hz0.1 (frz_mono (.s (.s .z)) hw))),(RowK.row (RowK.mono hz0.2 (frz_mono (.s (.s .z)) hw)))⟩ (NK_api_Item.n (NK_api_Item.mono hz0 (frz_mono (.s (.s .z)) hw)))) ?_
  refine am rfl rfl ?_
  rcases oi hF with ⟨h13,hF⟩|⟨h13,hF⟩
  ·refine at_fix (g:=66) rfl h13 ?_
   refine gy rfl rfl rfl ?_
   refine fa 21 underlying33 rfl rfl sizeOf4 rfl rfl ?_
   refine gy rfl rfl rfl ?_
   refine av rfl (r_load_cell isAgg4 rfl (lens_cell0 (c:=cBool) (y:=x0.f_Ok) (.s .z) (c_api_Item_f_Ok g0_ x0) rfl)) ?_
   refine gy rfl rfl rfl ?_
   refine am rfl rfl ?_
   rcases oi hF with ⟨h14,hF⟩|⟨h14,hF⟩
   ·refine at_fix (g:=69) rfl h14 ?_
    refine gn rfl rfl rfl rfl rfl ?_
    refine gn rfl rfl rfl rfl rfl ?_
    refine gn rfl rfl rfl rfl rfl ?_
    refine gn rfl rfl rfl rfl rfl ?_
    refine gy rfl rfl rfl ?_
    refine av rfl (r_pick rfl rfl rfl) ?_
    refine av rfl (r_pick rfl rfl rfl) ?_
    refine aa rfl rfl ?_
    refine at_nil ?_
    refine dz ?_
    refine dz ?_
    refine wq [2] rfl ?_
    refine tn ?_
    refine at_ret ?_
    have K:=of_some hF
    subst K
    exact at_return1 rfl rfl (fun w1 hw=>⟨rfl,hw.below⟩)
   refine at_fix (g:=69) rfl h14 ?_
   refine gy rfl rfl rfl ?_
   refine fa 20 underlying33 rfl rfl sizeOf22 rfl rfl ?_
   refine gy rfl rfl rfl ?_
   refine av rfl (r_load_cell isAgg22 rfl (lens_cell0 (c:=cHd) (y:=⟨g0_.2.1,List.length x0.f_Result,g0_.2.2⟩) (.s .z) (c_api_Item_f_Result g0_ x0) rfl)) ?_
   refine gy rfl rfl rfl ?_
   refine av rfl (r_len_sl underlying22 rfl) ?_
   refine gy rfl rfl rfl ?_
   refine av rfl (r_ieql rfl rfl) ?_
   refine gy rfl rfl rfl ?_
   refine av rfl (r_pick rfl rfl rfl) ?_
   refine av rfl (r_pick rfl rfl rfl) ?_
   refine aa rfl rfl ?_
   refine at_nil ?_
   refine dz ?_
   refine dz ?_
   refine wq [2] rfl ?_
   refine tn ?_
   refine at_ret ?_
   have K:=of_some hF
   subst K
   exact at_return1 rfl rfl (fun w1 hw=>⟨rfl,hw.below⟩)
  refine at_fix (g:=66) rfl h13 ?_
  refine gn rfl rfl rfl rfl rfl ?_
  refine gn rfl rfl rfl rfl rfl ?_
  refine gn rfl rfl rfl rfl rfl ?_
  refine at_guard_undef rfl rfl rfl rfl ?_
  refine at_guard_undef rfl rfl rfl rfl ?_
  refine at_guard_undef rfl rfl rfl rfl ?_
  refine at_guard_undef rfl rfl rfl rfl ?_
  refine gn rfl rfl rfl rfl rfl ?_
  refine av rfl (r_pick rfl rfl rfl) ?_
  refine aa rfl rfl ?_
  refine at_nil ?_
  refine dz ?_
  refine dz ?_
  refine wq [2] rfl ?_
  refine tn ?_
  refine at_ret ?_
  have K:=of_some hF
  subst K
  exact at_return1 rfl rfl (fun w1 hw=>⟨rfl,hw.below⟩)
 refine cf rfl h11 ?_
 refine sr ?_
 refine av rfl (r_ieql rfl rfl) ?_
 refine aa rfl rfl ?_
 refine nwq [26,8,3,1] rfl ?_
 rcases oi hF with ⟨h15,hF⟩|⟨h15,hF⟩
 ·refine ct rfl h15 ?_
  refine at_seq ?_
  refine sr ?_
  refine fa 2 underlying33 rfl rfl sizeOf27 rfl rfl ?_
  refine av rfl (r_load_aggc (c:=c_api_Endpoint) (z:=x0.f_From) isAgg27 sizeOf27 rfl (lens_cell (.s .z) (c_api_Item_f_From g0_ x0))) ?_
  obtain ⟨t16,ht16,hF⟩:=of_bindM hF
  refine at_callB func45 rfl (by kernel_rfl) rfl rfl (fun w hw=>crawlwayref12_Right_ok _ _ ht16 w) ?_
  refine av rfl (r_not rfl) ?_
  refine nwq [31,3,1] rfl ?_
  rcases oi hF with ⟨h17,hF⟩|⟨h17,hF⟩
  ·refine ct rfl h17 ?_
   refine sr ?_
   refine aa rfl rfl ?_
   refine at_nil ?_
   refine dz ?_
   refine dz ?_
   refine wq [2] rfl ?_
   refine tn ?_
   refine at_ret ?_
   refine at_then_ret (at_blk_ret (at_then_ret ?_))
   have K:=of_some hF
   subst K
   exact at_return1 rfl rfl (fun w1 hw=>⟨rfl,hw.below⟩)
  refine cf rfl h17 ?_
  refine sns ?_
  refine fa 1 underlying33 rfl rfl sizeOf22 rfl rfl ?_
  refine av rfl (r_load_cell isAgg22 rfl (lens_cell0 (c:=cHd) (y:=⟨g0_.1.1,List.length x0.f_Bytes,g0_.1.2⟩) (.s .z) (c_api_Item_f_Bytes g0_ x0) rfl)) ?_
  refine fa 1 underlying33 rfl rfl sizeOf22 rfl rfl ?_
  refine at_store (c:=cSv Int) (z:=((g0_.1.1,g0_.1.2),x0.f_Bytes)) .z (c_api_Item_f_Bytes_sv zv5 ({ zv4 with f_Kind:=x0.f_Kind })) sizeOf22 rfl rfl rfl ?_
  refine ns ?_
  refine fa 2 underlying33 rfl rfl sizeOf27 rfl rfl ?_
  refine av rfl (r_load_aggc (c:=c_api_Endpoint) (z:=x0.f_From) isAgg27 sizeOf27 rfl (lens_cell (.s .z) (c_api_Item_f_From g0_ x0))) ?_
  refine fa 2 underlying33 rfl rfl sizeOf27 rfl rfl ?_
  refine at_store (c:=c_api_Endpoint) (z:=x0.f_From) .z (c_api_Item_f_From ((g0_.1.1,g0_.1.2),zv2) ({ { zv4 with f_Kind:=x0.f_Kind } with f_Bytes:=x0.f_Bytes })) sizeOf27 rfl rfl rfl ?_
  refine ns ?_
  refine fa 20 underlying33 rfl rfl sizeOf22 rfl rfl ?_
  refine av rfl (r_load_cell isAgg22 rfl (lens_cell0 (c:=cHd) (y:=⟨g0_.2.1,List.length x0.f_Result,g0_.2.2⟩) (.s .z) (c_api_Item_f_Result g0_ x0) rfl)) ?_
  refine fa 20 underlying33 rfl rfl sizeOf22 rfl rfl ?_
  refine at_store (c:=cSv Int) (z:=((g0_.2.1,g0_.2.2),x0.f_Result)) .z (c_api_Item_f_Result_sv ((g0_.1.1,g0_.1.2),zv2) ({ { { zv4 with f_Kind:=x0.f_Kind } with f_Bytes:=x0.f_Bytes } with f_From:=x0.f_From })) sizeOf22 rfl rfl rfl ?_
  refine nt ?_
  refine at_region ?_
  refine fa 21 underlying33 rfl rfl sizeOf4 rfl rfl ?_
  refine av rfl (r_load_cell isAgg4 rfl (lens_cell0 (c:=cBool) (y:=x0.f_Ok) (.s .z) (c_api_Item_f_Ok g0_ x0) rfl)) ?_
  refine fa 21 underlying33 rfl rfl sizeOf4 rfl rfl ?_
  refine at_store (c:=cBool) (z:=x0.f_Ok) .z (c_api_Item_f_Ok ((g0_.1.1,g0_.1.2),(g0_.2.1,g0_.2.2)) ({ { { { zv4 with f_Kind:=x0.f_Kind } with f_Bytes:=x0.f_Bytes } with f_From:=x0.f_From } with f_Result:=x0.f_Result })) sizeOf4 rfl rfl rfl ?_
  refine at_nil ?_
  refine wq [3,1] rfl ?_
  refine at_blk_normal (at_then_normal ?_)
  refine sr ?_
  refine av rfl (r_load_aggc (c:=c_api_Item) (z:=(((g0_.1.1,g0_.1.2),(g0_.2.1,g0_.2.2)),{ { { { { zv4 with f_Kind:=x0.f_Kind } with f_Bytes:=x0.f_Bytes } with f_From:=x0.f_From } with f_Result:=x0.f_Result } with f_Ok:=x0.f_Ok })) isAgg33 sizeOf33 rfl (lens_cell .z (Lens.whole _ _))) ?_
  refine av rfl (r_load_aggc (c:=c_api_Item) (z:=(g0_,x0)) isAgg33 sizeOf33 rfl (lens_cell (.s .z) (Lens.whole _ _))) ?_
  obtain ⟨t18,ht18,hF⟩:=of_bindM hF
  refine at_callB func13 rfl (by kernel_rfl) rfl rfl (fun w hw=>crawlwayref50_Same_ok _ _ _ _ _ ht18 w ⟨(RowK.row (RowK.mono hz0.1 (frz_mono (.s (.s .z)) hw))),(RowK.row (RowK.mono hz0.2 (frz_mono (.s (.s .z)) hw)))⟩ (NK_api_Item.n (NK_api_Item.mono hz0 (frz_mono (.s (.s .z)) hw)))) ?_
  refine am rfl rfl ?_
  rcases oi hF with ⟨h19,hF⟩|⟨h19,hF⟩
  ·refine at_fix (g:=66) rfl h19 ?_
   refine gy rfl rfl rfl ?_
   refine fa 21 underlying33 rfl rfl sizeOf4 rfl rfl ?_
   refine gy rfl rfl rfl ?_
   refine av rfl (r_load_cell isAgg4 rfl (lens_cell0 (c:=cBool) (y:=x0.f_Ok) (.s .z) (c_api_Item_f_Ok g0_ x0) rfl)) ?_
   refine gy rfl rfl rfl ?_
   refine am rfl rfl ?_
   rcases oi hF with ⟨h20,hF⟩|⟨h20,hF⟩
   ·refine at_fix (g:=69) rfl h20 ?_
    refine gn rfl rfl rfl rfl rfl ?_
    refine gn rfl rfl rfl rfl rfl ?_
    refine gn rfl rfl rfl rfl rfl ?_
    refine gn rfl rfl rfl rfl rfl ?_
    refine gy rfl rfl rfl ?_
    refine av rfl (r_pick rfl rfl rfl) ?_
    refine av rfl (r_pick rfl rfl rfl) ?_
    refine aa rfl rfl ?_
    refine at_nil ?_
    refine dz ?_
    refine dz ?_
    refine wq [2] rfl ?_
    refine tn ?_
    refine at_ret ?_
    have K:=of_some hF
    subst K
    exact at_return1 rfl rfl (fun w1 hw=>⟨rfl,hw.below⟩)
   refine at_fix (g:=69) rfl h20 ?_
   refine gy rfl rfl rfl ?_
   refine fa 20 underlying33 rfl rfl sizeOf22 rfl rfl ?_
   refine gy rfl rfl rfl ?_
   refine av rfl (r_load_cell isAgg22 rfl (lens_cell0 (c:=cHd) (y:=⟨g0_.2.1,List.length x0.f_Result,g0_.2.2⟩) (.s .z) (c_api_Item_f_Result g0_ x0) rfl)) ?_
   refine gy rfl rfl rfl ?_
   refine av rfl (r_len_sl underlying22 rfl) ?_
   refine gy rfl rfl rfl ?_
   refine av rfl (r_ieql rfl rfl) ?_
   refine gy rfl rfl rfl ?_
   refine av rfl (r_pick rfl rfl rfl) ?_
   refine av rfl (r_pick rfl rfl rfl) ?_
   refine aa rfl rfl ?_
   refine at_nil ?_
   refine dz ?_
   refine dz ?_
   refine wq [2] rfl ?_
   refine tn ?_
   refine at_ret ?_
   have K:=of_some hF
   subst K
   exact at_return1 rfl rfl (fun w1 hw=>⟨rfl,hw.below⟩)
  refine at_fix (g:=66) rfl h19 ?_
  refine gn rfl rfl rfl rfl rfl ?_
  refine gn rfl rfl rfl rfl rfl ?_
  refine gn rfl rfl rfl rfl rfl ?_
  refine at_guard_undef rfl rfl rfl rfl ?_
  refine at_guard_undef rfl rfl rfl rfl ?_
  refine at_guard_undef rfl rfl rfl rfl ?_
  refine at_guard_undef rfl rfl rfl rfl ?_
  refine gn rfl rfl rfl rfl rfl ?_
  refine av rfl (r_pick rfl rfl rfl) ?_
  refine aa rfl rfl ?_
  refine at_nil ?_
  refine dz ?_
  refine dz ?_
  refine wq [2] rfl ?_
  refine tn ?_
  refine at_ret ?_
  have K:=of_some hF
  subst K
  exact at_return1 rfl rfl (fun w1 hw=>⟨rfl,hw.below⟩)
 refine cf rfl h15 ?_
 refine sr ?_
 refine av rfl (r_ieql rfl rfl) ?_
 refine aa rfl rfl ?_
 refine nwq [44,8,3,1] rfl ?_
 rcases oi hF with ⟨h21,hF⟩|⟨h21,hF⟩
 ·refine ct rfl h21 ?_
  refine sr ?_
  refine fa 22 underlying33 rfl rfl sizeOf29 rfl rfl ?_
  refine av rfl (r_load_aggc (c:=(cVec (cInt .u8) 32 (by decide))) (z:=x0.f_Key) isAgg29 sizeOf29 rfl (lens_cell (.s .z) (c_api_Item_f_Key g0_ x0))) ?_
  refine fa 22 underlying33 rfl rfl sizeOf29 rfl rfl ?_
  refine at_store (c:=(cVec (cInt .u8) 32 (by decide))) (z:=x0.f_Key) .z (c_api_Item_f_Key zv5 ({ zv4 with f_Kind:=x0.f_Kind })) sizeOf29 rfl rfl rfl ?_
  refine ns ?_
  refine fa 54 underlying33 rfl rfl sizeOf30 rfl rfl ?_
  refine av rfl (r_load_cell isAgg30 rfl (lens_cell0 (c:=(cInt .u32)) (y:=x0.f_Local) (.s .z) (c_api_Item_f_Local g0_ x0) rfl)) ?_
  refine fa 54 underlying33 rfl rfl sizeOf30 rfl rfl ?_
  refine at_store (c:=(cInt .u32)) (z:=x0.f_Local) .z (c_api_Item_f_Local zv5 ({ { zv4 with f_Kind:=x0.f_Kind } with f_Key:=x0.f_Key })) sizeOf30 rfl rfl rfl ?_
  refine ns ?_
  refine fa 55 underlying33 rfl rfl sizeOf30 rfl rfl ?_
  refine av rfl (r_load_cell isAgg30 rfl (lens_cell0 (c:=(cInt .u32)) (y:=x0.f_Remote) (.s .z) (c_api_Item_f_Remote g0_ x0) rfl)) ?_
  refine fa 55 underlying33 rfl rfl sizeOf30 rfl rfl ?_
  refine at_store (c:=(cInt .u32)) (z:=x0.f_Remote) .z (c_api_Item_f_Remote zv5 ({ { { zv4 with f_Kind:=x0.f_Kind } with f_Key:=x0.f_Key } with f_Local:=x0.f_Local })) sizeOf30 rfl rfl rfl ?_
  refine nt ?_
  refine at_region ?_
  refine fa 56 underlying33 rfl rfl sizeOf31 rfl rfl ?_
  refine av rfl (r_load_cell isAgg31 rfl (lens_cell0 (c:=(cInt .u64)) (y:=x0.f_Next) (.s .z) (c_api_Item_f_Next g0_ x0) rfl)) ?_
  refine fa 56 underlying33 rfl rfl sizeOf31 rfl rfl ?_
  refine at_store (c:=(cInt .u64)) (z:=x0.f_Next) .z (c_api_Item_f_Next zv5 ({ { { { zv4 with f_Kind:=x0.f_Kind } with f_Key:=x0.f_Key } with f_Local:=x0.f_Local } with f_Remote:=x0.f_Remote })) sizeOf31 rfl rfl rfl ?_
  refine at_nil ?_
  refine wq [3,1] rfl ?_
  refine at_blk_normal (at_then_normal ?_)
  refine sr ?_
  refine av rfl (r_load_aggc (c:=c_api_Item) (z:=(zv5,{ { { { { zv4 with f_Kind:=x0.f_Kind } with f_Key:=x0.f_Key } with f_Local:=x0.f_Local } with f_Remote:=x0.f_Remote } with f_Next:=x0.f_Next })) isAgg33 sizeOf33 rfl (lens_cell .z (Lens.whole _ _))) ?_
  refine av rfl (r_load_aggc (c:=c_api_Item) (z:=(g0_,x0)) isAgg33 sizeOf33 rfl (lens_cell (.s .z) (Lens.whole _ _))) ?_
  obtain ⟨t22,ht22,hF⟩:=of_bindM hF
  refine at_callB func13 rfl (by kernel_rfl) rfl rfl (fun w hw=>crawlwayref50_Same_ok _ _ _ _ _ ht22 w ⟨(Row.nil ..),(Row.nil ..)⟩ (NK_api_Item.n (NK_api_Item.mono hz0 (frz_mono (.s (.s .z)) hw)))) ?_
  refine am rfl rfl ?_
  rcases oi hF with ⟨h23,hF⟩|⟨h23,hF⟩
  ·refine at_fix (g:=66) rfl h23 ?_
   refine gy rfl rfl rfl ?_
   refine fa 21 underlying33 rfl rfl sizeOf4 rfl rfl ?_
   refine gy rfl rfl rfl ?_
   refine av rfl (r_load_cell isAgg4 rfl (lens_cell0 (c:=cBool) (y:=x0.f_Ok) (.s .z) (c_api_Item_f_Ok g0_ x0) rfl)) ?_
   refine gy rfl rfl rfl ?_
   refine am rfl rfl ?_
   rcases oi hF with ⟨h24,hF⟩|⟨h24,hF⟩
   ·refine at_fix (g:=69) rfl h24 ?_
    refine gn rfl rfl rfl rfl rfl ?_
    refine gn rfl rfl rfl rfl rfl ?_
    refine gn rfl rfl rfl rfl rfl ?_
    refine gn rfl rfl rfl rfl rfl ?_
    refine gy rfl rfl rfl ?_
    refine av rfl (r_pick rfl rfl rfl) ?_
    refine av rfl (r_pick rfl rfl rfl) ?_
    refine aa rfl rfl ?_
    refine at_nil ?_
    refine dz ?_
    refine dz ?_
    refine wq [2] rfl ?_
    refine tn ?_
    refine at_ret ?_
    have K:=of_some hF
    subst K
    exact at_return1 rfl rfl (fun w1 hw=>⟨rfl,hw.below⟩)
   refine at_fix (g:=69) rfl h24 ?_
   refine gy rfl rfl rfl ?_
   refine fa 20 underlying33 rfl rfl sizeOf22 rfl rfl ?_
   refine gy rfl rfl rfl ?_
   refine av rfl (r_load_cell isAgg22 rfl (lens_cell0 (c:=cHd) (y:=⟨g0_.2.1,List.length x0.f_Result,g0_.2.2⟩) (.s .z) (c_api_Item_f_Result g0_ x0) rfl)) ?_
   refine gy rfl rfl rfl ?_
   refine av rfl (r_len_sl underlying22 rfl) ?_
   refine gy rfl rfl rfl ?_
   refine av rfl (r_ieql rfl rfl) ?_
   refine gy rfl rfl rfl ?_
   refine av rfl (r_pick rfl rfl rfl) ?_
   refine av rfl (r_pick rfl rfl rfl) ?_
   refine aa rfl rfl ?_
   refine at_nil ?_
   refine dz ?_
   refine dz ?_
   refine wq [2] rfl ?_
   refine tn ?_
   refine at_ret ?_
   have K:=of_some hF
   subst K
   exact at_return1 rfl rfl (fun w1 hw=>⟨rfl,hw.below⟩)
  refine at_fix (g:=66) rfl h23 ?_
  refine gn rfl rfl rfl rfl rfl ?_
  refine gn rfl rfl rfl rfl rfl ?_
  refine gn rfl rfl rfl rfl rfl ?_
  refine at_guard_undef rfl rfl rfl rfl ?_
  refine at_guard_undef rfl rfl rfl rfl ?_
  refine at_guard_undef rfl rfl rfl rfl ?_
  refine at_guard_undef rfl rfl rfl rfl ?_
  refine gn rfl rfl rfl rfl rfl ?_
  refine av rfl (r_pick rfl rfl rfl) ?_
  refine aa rfl rfl ?_
  refine at_nil ?_
  refine dz ?_
  refine dz ?_
  refine wq [2] rfl ?_
  refine tn ?_
  refine at_ret ?_
  have K:=of_some hF
  subst K
  exact at_return1 rfl rfl (fun w1 hw=>⟨rfl,hw.below⟩)
 refine cf rfl h21 ?_
 refine sr ?_
 refine av rfl (r_ieql rfl rfl) ?_
 refine aa rfl rfl ?_
 refine nwq [58,3,1] rfl ?_
 rcases oi hF with ⟨h25,hF⟩|⟨h25,hF⟩
 ·refine ct rfl h25 ?_
  refine at_region ?_
  refine fa 54 underlying33 rfl rfl sizeOf30 rfl rfl ?_
  refine av rfl (r_load_cell isAgg30 rfl (lens_cell0 (c:=(cInt .u32)) (y:=x0.f_Local) (.s .z) (c_api_Item_f_Local g0_ x0) rfl)) ?_
  refine fa 54 underlying33 rfl rfl sizeOf30 rfl rfl ?_
  refine at_store (c:=(cInt .u32)) (z:=x0.f_Local) .z (c_api_Item_f_Local zv5 ({ zv4 with f_Kind:=x0.f_Kind })) sizeOf30 rfl rfl rfl ?_
  refine at_nil ?_
  refine wq [3,1] rfl ?_
  refine at_blk_normal (at_then_normal ?_)
  refine sr ?_
  refine av rfl (r_load_aggc (c:=c_api_Item) (z:=(zv5,{ { zv4 with f_Kind:=x0.f_Kind } with f_Local:=x0.f_Local })) isAgg33 sizeOf33 rfl (lens_cell .z (Lens.whole _ _))) ?_
  refine av rfl (r_load_aggc (c:=c_api_Item) (z:=(g0_,x0)) isAgg33 sizeOf33 rfl (lens_cell (.s .z) (Lens.whole _ _))) ?_
  obtain ⟨t26,ht26,hF⟩:=of_bindM hF
  refine at_callB func13 rfl (by kernel_rfl) rfl rfl (fun w hw=>crawlwayref50_Same_ok _ _ _ _ _ ht26 w ⟨(Row.nil ..),(Row.nil ..)⟩ (NK_api_Item.n (NK_api_Item.mono hz0 (frz_mono (.s (.s .z)) hw)))) ?_
  refine am rfl rfl ?_
  rcases oi hF with ⟨h27,hF⟩|⟨h27,hF⟩
  ·refine at_fix (g:=66) rfl h27 ?_
   refine gy rfl rfl rfl ?_
   refine fa 21 underlying33 rfl rfl sizeOf4 rfl rfl ?_
   refine gy rfl rfl rfl ?_
   refine av rfl (r_load_cell isAgg4 rfl (lens_cell0 (c:=cBool) (y:=x0.f_Ok) (.s .z) (c_api_Item_f_Ok g0_ x0) rfl)) ?_
   refine gy rfl rfl rfl ?_
   refine am rfl rfl ?_
   rcases oi hF with ⟨h28,hF⟩|⟨h28,hF⟩
   ·refine at_fix (g:=69) rfl h28 ?_
    refine gn rfl rfl rfl rfl rfl ?_
    refine gn rfl rfl rfl rfl rfl ?_
    refine gn rfl rfl rfl rfl rfl ?_
    refine gn rfl rfl rfl rfl rfl ?_
    refine gy rfl rfl rfl ?_
    refine av rfl (r_pick rfl rfl rfl) ?_
    refine av rfl (r_pick rfl rfl rfl) ?_
    refine aa rfl rfl ?_
    refine at_nil ?_
    refine dz ?_
    refine dz ?_
    refine wq [2] rfl ?_
    refine tn ?_
    refine at_ret ?_
    have K:=of_some hF
    subst K
    exact at_return1 rfl rfl (fun w1 hw=>⟨rfl,hw.below⟩)
   refine at_fix (g:=69) rfl h28 ?_
   refine gy rfl rfl rfl ?_
   refine fa 20 underlying33 rfl rfl sizeOf22 rfl rfl ?_
   refine gy rfl rfl rfl ?_
   refine av rfl (r_load_cell isAgg22 rfl (lens_cell0 (c:=cHd) (y:=⟨g0_.2.1,List.length x0.f_Result,g0_.2.2⟩) (.s .z) (c_api_Item_f_Result g0_ x0) rfl)) ?_
   refine gy rfl rfl rfl ?_
   refine av rfl (r_len_sl underlying22 rfl) ?_
   refine gy rfl rfl rfl ?_
   refine av rfl (r_ieql rfl rfl) ?_
   refine gy rfl rfl rfl ?_
   refine av rfl (r_pick rfl rfl rfl) ?_
   refine av rfl (r_pick rfl rfl rfl) ?_
   refine aa rfl rfl ?_
   refine at_nil ?_
   refine dz ?_
   refine dz ?_
   refine wq [2] rfl ?_
   refine tn ?_
   refine at_ret ?_
   have K:=of_some hF
   subst K
   exact at_return1 rfl rfl (fun w1 hw=>⟨rfl,hw.below⟩)
  refine at_fix (g:=66) rfl h27 ?_
  refine gn rfl rfl rfl rfl rfl ?_
  refine gn rfl rfl rfl rfl rfl ?_
  refine gn rfl rfl rfl rfl rfl ?_
  refine at_guard_undef rfl rfl rfl rfl ?_
  refine at_guard_undef rfl rfl rfl rfl ?_
  refine at_guard_undef rfl rfl rfl rfl ?_
  refine at_guard_undef rfl rfl rfl rfl ?_
  refine gn rfl rfl rfl rfl rfl ?_
  refine av rfl (r_pick rfl rfl rfl) ?_
  refine aa rfl rfl ?_
  refine at_nil ?_
  refine dz ?_
  refine dz ?_
  refine wq [2] rfl ?_
  refine tn ?_
  refine at_ret ?_
  have K:=of_some hF
  subst K
  exact at_return1 rfl rfl (fun w1 hw=>⟨rfl,hw.below⟩)
 refine cf rfl h25 ?_
 refine sr ?_
 refine aa rfl rfl ?_
 refine at_nil ?_
 refine dz ?_
 refine dz ?_
 refine wq [2] rfl ?_
 refine tn ?_
 refine at_ret ?_
 refine at_blk_ret (at_then_ret ?_)
 have K:=of_some hF
 subst K
 exact at_return1 rfl rfl (fun w1 hw=>⟨rfl,hw.below⟩)
def crawlwayref50_Text (x0 : S_api_Item) : Option (ByteArray) :=
  if (x0.f_Kind == 1) = true then (crawlwayref50_word x0.f_Bytes >>= fun t3=>if (⟨#[115,101,116,32]⟩ : ByteArray).size + t3.size ≤ 140737488355328 then some ((⟨#[115,101,116,32]⟩ : ByteArray) ++ t3) else none) else (if (x0.f_Kind == 2) = true then (crawlwayref50_word x0.f_Bytes >>= fun t6=>if (⟨#[108,111,97,100,32]⟩ : ByteArray).size + t6.size ≤ 140737488355328 then some ((⟨#[108,111,97,100,32]⟩ : ByteArray) ++ t6) else none) else (if (x0.f_Kind == 3) = true then (crawlwayref50_word x0.f_Bytes >>= fun t9=>if (⟨#[111,117,116,32]⟩ : ByteArray).size + t9.size ≤ 140737488355328 then if ((⟨#[111,117,116,32]⟩ : ByteArray) ++ t9).size + (⟨#[32]⟩ : ByteArray).size ≤ 140737488355328 then crawlwayref50_answer x0 >>= fun t12=>if (((⟨#[111,117,116,32]⟩ : ByteArray) ++ t9) ++ (⟨#[32]⟩ : ByteArray)).size + t12.size ≤ 140737488355328 then some ((((⟨#[111,117,116,32]⟩ : ByteArray) ++ t9) ++ (⟨#[32]⟩ : ByteArray)) ++ t12) else none else none else none) else (if (x0.f_Kind == 4) = true then (crawlwayref12_Text x0.f_From >>= fun t15=>if (⟨#[105,110,32]⟩ : ByteArray).size + t15.size ≤ 140737488355328 then if ((⟨#[105,110,32]⟩ : ByteArray) ++ t15).size + (⟨#[32]⟩ : ByteArray).size ≤ 140737488355328 then crawlwayref50_word x0.f_Bytes >>= fun t18=>if (((⟨#[105,110,32]⟩ : ByteArray) ++ t15) ++ (⟨#[32]⟩ : ByteArray)).size + t18.size ≤ 140737488355328 then if ((((⟨#[105,110,32]⟩ : ByteArray) ++ t15) ++ (⟨#[32]⟩ : ByteArray)) ++ t18).size + (⟨#[32]⟩ : ByteArray).size ≤ 140737488355328 then crawlwayref50_answer x0 >>= fun t21=>if (((((⟨#[105,110,32]⟩ : ByteArray) ++ t15) ++ (⟨#[32]⟩ : ByteArray)) ++ t18) ++ (⟨#[32]⟩ : ByteArray)).size + t21.size ≤ 140737488355328 then some ((((((⟨#[105,110,32]⟩ : ByteArray) ++ t15) ++ (⟨#[32]⟩ : ByteArray)) ++ t18) ++ (⟨#[32]⟩ : ByteArray)) ++ t21) else none else none else none else none else none) else (if (x0.f_Kind == 5) = true then (crawlwayref07_Bytes x0.f_Key >>= fun t24=>crawlwayref05_Encode t24 >>= fun t27=>if (⟨#[105,110,115,116,97,108,108,32]⟩ : ByteArray).size + t27.size ≤ 140737488355328 then if ((⟨#[105,110,115,116,97,108,108,32]⟩ : ByteArray) ++ t27).size + (⟨#[32]⟩ : ByteArray).size ≤ 140737488355328 then crawlwayref03_Text (wr .u64 x0.f_Local) >>= fun t30=>if (((⟨#[105,110,115,116,97,108,108,32]⟩ : ByteArray) ++ t27) ++ (⟨#[32]⟩ : ByteArray)).size + t30.size ≤ 140737488355328 then if ((((⟨#[105,110,115,116,97,108,108,32]⟩ : ByteArray) ++ t27) ++ (⟨#[32]⟩ : ByteArray)) ++ t30).size + (⟨#[32]⟩ : ByteArray).size ≤ 140737488355328 then crawlwayref03_Text (wr .u64 x0.f_Remote) >>= fun t33=>if (((((⟨#[105,110,115,116,97,108,108,32]⟩ : ByteArray) ++ t27) ++ (⟨#[32]⟩ : ByteArray)) ++ t30) ++ (⟨#[32]⟩ : ByteArray)).size + t33.size ≤ 140737488355328 then if ((((((⟨#[105,110,115,116,97,108,108,32]⟩ : ByteArray) ++ t27) ++ (⟨#[32]⟩ : ByteArray)) ++ t30) ++ (⟨#[32]⟩ : ByteArray)) ++ t33).size + (⟨#[32]⟩ : ByteArray).size ≤ 140737488355328 then crawlwayref03_Text x0.f_Next >>= fun t36=>if (((((((⟨#[105,110,115,116,97,108,108,32]⟩ : ByteArray) ++ t27) ++ (⟨#[32]⟩ : ByteArray)) ++ t30) ++ (⟨#[32]⟩ : ByteArray)) ++ t33) ++ (⟨#[32]⟩ : ByteArray)).size + t36.size ≤ 140737488355328 then some ((((((((⟨#[105,110,115,116,97,108,108,32]⟩ : ByteArray) ++ t27) ++ (⟨#[32]⟩ : ByteArray)) ++ t30) ++ (⟨#[32]⟩ : ByteArray)) ++ t33) ++ (⟨#[32]⟩ : ByteArray)) ++ t36) else none else none else none else none else none else none else none) else (crawlwayref03_Text (wr .u64 x0.f_Local) >>= fun t39=>if (⟨#[102,111,114,103,101,116,32]⟩ : ByteArray).size + t39.size ≤ 140737488355328 then some ((⟨#[102,111,114,103,101,116,32]⟩ : ByteArray) ++ t39) else none)))))
set_option maxHeartbeats 3200000 in
theorem crawlwayref50_Text_ok (g0_ : G_api_Item) (x0 : S_api_Item) (r : ByteArray) (hF : crawlwayref50_Text x0 = some r) (w : World) (hn0 : N_api_Item w (g0_,x0)) :
    Calls Tryz.prog 26 #[.agg (Cd.cs c_api_Item (g0_,x0)).toArray] w (fun e w'=>e = .returned (.string r) ∧ Below w.heap.size w w'):=by
 unfold crawlwayref50_Text at hF
 refine calls_enter (l:=[.agg (Cd.cs c_api_Item (g0_,x0)).toArray]) func26 rfl rfl rfl ?_
 refine at_start ?_
 refine sr ?_
 refine at_box (cs:=Cd.cs c_api_Item (g0_,x0)) rfl rfl rfl ?_
 intro b1
 refine aa rfl rfl ?_
 refine nt ?_
 refine at_seq ?_
 refine sr ?_
 refine fa 0 underlying33 rfl rfl sizeOf3 rfl rfl ?_
 refine av rfl (r_load_cell isAgg3 rfl (lens_cell0 (c:=(cInt .i64)) (y:=x0.f_Kind) .z (c_api_Item_f_Kind g0_ x0) rfl)) ?_
 refine nwq [4,1] rfl ?_
 refine at_block ?_
 refine sr ?_
 refine av rfl (r_ieql rfl rfl) ?_
 refine aa rfl rfl ?_
 refine nwq [5,4,1] rfl ?_
 rcases oi hF with ⟨h2,hF⟩|⟨h2,hF⟩
 ·refine ct rfl h2 ?_
  refine sr ?_
  refine fa 1 underlying33 rfl rfl sizeOf22 rfl rfl ?_
  refine av rfl (r_load_cell isAgg22 rfl (lens_cell0 (c:=cHd) (y:=⟨g0_.1.1,List.length x0.f_Bytes,g0_.1.2⟩) .z (c_api_Item_f_Bytes g0_ x0) rfl)) ?_
  obtain ⟨t3,ht3,hF⟩:=of_bindM hF
  refine at_callB func50 rfl (by kernel_rfl) rfl rfl (fun w hw=>crawlwayref50_word_ok _ _ _ _ ht3 w ((hn0).1.below hw.below)) ?_
  obtain ⟨h4,hF⟩:=of_guard hF
  refine av rfl (r_concat rfl rfl h4) ?_
  refine aa rfl rfl ?_
  refine at_nil ?_
  refine dz ?_
  refine wq [2] rfl ?_
  refine tn ?_
  refine at_ret ?_
  refine at_blk_ret (at_then_ret ?_)
  have K:=of_some hF
  subst K
  exact at_return1 rfl rfl (fun w1 hw=>⟨rfl,hw.below⟩)
 refine cf rfl h2 ?_
 refine sr ?_
 refine av rfl (r_ieql rfl rfl) ?_
 refine aa rfl rfl ?_
 refine nwq [11,4,1] rfl ?_
 rcases oi hF with ⟨h5,hF⟩|⟨h5,hF⟩
 ·refine ct rfl h5 ?_
  refine sr ?_
  refine fa 1 underlying33 rfl rfl sizeOf22 rfl rfl ?_
  refine av rfl (r_load_cell isAgg22 rfl (lens_cell0 (c:=cHd) (y:=⟨g0_.1.1,List.length x0.f_Bytes,g0_.1.2⟩) .z (c_api_Item_f_Bytes g0_ x0) rfl)) ?_
  obtain ⟨t6,ht6,hF⟩:=of_bindM hF
  refine at_callB func50 rfl (by kernel_rfl) rfl rfl (fun w hw=>crawlwayref50_word_ok _ _ _ _ ht6 w ((hn0).1.below hw.below)) ?_
  obtain ⟨h7,hF⟩:=of_guard hF
  refine av rfl (r_concat rfl rfl h7) ?_
  refine aa rfl rfl ?_
  refine at_nil ?_
  refine dz ?_
  refine wq [2] rfl ?_
  refine tn ?_
  refine at_ret ?_
  refine at_blk_ret (at_then_ret ?_)
  have K:=of_some hF
  subst K
  exact at_return1 rfl rfl (fun w1 hw=>⟨rfl,hw.below⟩)
 refine cf rfl h5 ?_
 refine sr ?_
 refine av rfl (r_ieql rfl rfl) ?_
 refine aa rfl rfl ?_
 refine nwq [17,4,1] rfl ?_
 rcases oi hF with ⟨h8,hF⟩|⟨h8,hF⟩
 ·refine ct rfl h8 ?_
  refine at_seq ?_
  refine at_draw (by kernel_rfl) (by kernel_rfl) (fun _ h=>h.drew) ?_
  refine atq_val rfl rfl rfl (r_fieldAddr (fo:=1) underlying33 rfl rfl (fun w=>⟨_,sizeOf22 w⟩) rfl) ?_
  refine atq_val rfl rfl rfl (r_load_cell isAgg22 rfl (lens_cell0 (c:=cHd) (y:=⟨g0_.1.1,List.length x0.f_Bytes,g0_.1.2⟩) .z (c_api_Item_f_Bytes g0_ x0) rfl)) ?_
  obtain ⟨t9,ht9,hF⟩:=of_bindM hF
  refine atq_call func50 rfl (by kernel_rfl) rfl rfl (fun w hw=>(crawlwayref50_word_ok _ _ _ _ ht9 w ((hn0).1.below hw.below)).mono fun _ _ h=>⟨h.1,hw.call h.2⟩) ?_
  obtain ⟨h10,hF⟩:=of_guard hF
  refine atq_val rfl rfl rfl (r_concat rfl rfl h10) ?_
  obtain ⟨h11,hF⟩:=of_guard hF
  refine atq_val rfl rfl rfl (r_concat rfl rfl h11) ?_
  refine atq_val rfl rfl rfl (r_load_aggc (c:=c_api_Item) (z:=(g0_,x0)) isAgg33 sizeOf33 rfl (lens_cell .z (Lens.whole _ _))) ?_
  obtain ⟨t12,ht12,hF⟩:=of_bindM hF
  refine atq_call func51 rfl (by kernel_rfl) rfl rfl (fun w hw=>(crawlwayref50_answer_ok _ _ _ ht12 w (N_api_Item.below hn0 hw.below)).mono fun _ _ h=>⟨h.1,hw.call h.2⟩) ?_
  obtain ⟨h13,hF⟩:=of_guard hF
  refine atq_val rfl rfl rfl (r_concat rfl rfl h13) ?_
  refine atq_val rfl rfl rfl (r_assign rfl) ?_
  refine atq_nil ?_
  refine dz ?_
  refine wq [2] rfl ?_
  refine tn ?_
  refine at_ret ?_
  refine at_blk_ret (at_then_ret ?_)
  have K:=of_some hF
  subst K
  exact at_return1 rfl rfl (fun w1 hw=>⟨rfl,hw.below⟩)
 refine cf rfl h8 ?_
 refine sr ?_
 refine av rfl (r_ieql rfl rfl) ?_
 refine aa rfl rfl ?_
 refine nwq [27,4,1] rfl ?_
 rcases oi hF with ⟨h14,hF⟩|⟨h14,hF⟩
 ·refine ct rfl h14 ?_
  refine at_seq ?_
  refine at_draw (by kernel_rfl) (by kernel_rfl) (fun _ h=>h.drew) ?_
  refine atq_val rfl rfl rfl (r_fieldAddr (fo:=2) underlying33 rfl rfl (fun w=>⟨_,sizeOf27 w⟩) rfl) ?_
  refine atq_val rfl rfl rfl (r_load_aggc (c:=c_api_Endpoint) (z:=x0.f_From) isAgg27 sizeOf27 rfl (lens_cell .z (c_api_Item_f_From g0_ x0))) ?_
  obtain ⟨t15,ht15,hF⟩:=of_bindM hF
  refine atq_call func52 rfl (by kernel_rfl) rfl rfl (fun w hw=>(crawlwayref12_Text_ok _ _ ht15 w).mono fun _ _ h=>⟨h.1,hw.call h.2⟩) ?_
  obtain ⟨h16,hF⟩:=of_guard hF
  refine atq_val rfl rfl rfl (r_concat rfl rfl h16) ?_
  obtain ⟨h17,hF⟩:=of_guard hF
  refine atq_val rfl rfl rfl (r_concat rfl rfl h17) ?_
  refine atq_val rfl rfl rfl (r_fieldAddr (fo:=1) underlying33 rfl rfl (fun w=>⟨_,sizeOf22 w⟩) rfl) ?_
  refine atq_val rfl rfl rfl (r_load_cell isAgg22 rfl (lens_cell0 (c:=cHd) (y:=⟨g0_.1.1,List.length x0.f_Bytes,g0_.1.2⟩) .z (c_api_Item_f_Bytes g0_ x0) rfl)) ?_
  obtain ⟨t18,ht18,hF⟩:=of_bindM hF
  refine atq_call func50 rfl (by kernel_rfl) rfl rfl (fun w hw=>(crawlwayref50_word_ok _ _ _ _ ht18 w ((hn0).1.below hw.below)).mono fun _ _ h=>⟨h.1,hw.call h.2⟩) ?_
  obtain ⟨h19,hF⟩:=of_guard hF
  refine atq_val rfl rfl rfl (r_concat rfl rfl h19) ?_
  obtain ⟨h20,hF⟩:=of_guard hF
  refine atq_val rfl rfl rfl (r_concat rfl rfl h20) ?_
  refine atq_val rfl rfl rfl (r_load_aggc (c:=c_api_Item) (z:=(g0_,x0)) isAgg33 sizeOf33 rfl (lens_cell .z (Lens.whole _ _))) ?_
  obtain ⟨t21,ht21,hF⟩:=of_bindM hF
  refine atq_call func51 rfl (by kernel_rfl) rfl rfl (fun w hw=>(crawlwayref50_answer_ok _ _ _ ht21 w (N_api_Item.below hn0 hw.below)).mono fun _ _ h=>⟨h.1,hw.call h.2⟩) ?_
  obtain ⟨h22,hF⟩:=of_guard hF
  refine atq_val rfl rfl rfl (r_concat rfl rfl h22) ?_
  refine atq_val rfl rfl rfl (r_assign rfl) ?_
  refine atq_nil ?_
  refine dz ?_
  refine wq [2] rfl ?_
  refine tn ?_
  refine at_ret ?_
  refine at_blk_ret (at_then_ret ?_)
  have K:=of_some hF
  subst K
  exact at_return1 rfl rfl (fun w1 hw=>⟨rfl,hw.below⟩)
 refine cf rfl h14 ?_
 refine sr ?_
 refine av rfl (r_ieql rfl rfl) ?_
 refine aa rfl rfl ?_
 refine nwq [42,1] rfl ?_
 rcases oi hF with ⟨h23,hF⟩|⟨h23,hF⟩
 ·refine ct rfl h23 ?_
  refine at_seq ?_
  refine wq [1] rfl ?_
  obtain ⟨t24,ht24,hF⟩:=of_bindM hF
  obtain ⟨t27,ht27,hF⟩:=of_bindM hF
  obtain ⟨h28,hF⟩:=of_guard hF
  obtain ⟨h29,hF⟩:=of_guard hF
  obtain ⟨t30,ht30,hF⟩:=of_bindM hF
  obtain ⟨h31,hF⟩:=of_guard hF
  obtain ⟨h32,hF⟩:=of_guard hF
  obtain ⟨t33,ht33,hF⟩:=of_bindM hF
  obtain ⟨h34,hF⟩:=of_guard hF
  obtain ⟨h35,hF⟩:=of_guard hF
  obtain ⟨t36,ht36,hF⟩:=of_bindM hF
  obtain ⟨h37,hF⟩:=of_guard hF
  refine at_inv [.q 44 (fun g38=>.pointer (some ⟨b1,0 + 22,none⟩)) [] 0 0,.q 45 (fun g38=>.agg (Cd.cs (cVec (cInt .u8) 32 (by decide)) x0.f_Key).toArray) [0] 0 0,.al 0 46 (fun g38=>.slice ((g38 0).2.1) t24.length ((g38 0).2.2.1)) [1],.q 47 (fun g38=>.string t27) [2] 1 1,.q 48 (fun g38=>.string ((⟨#[105,110,115,116,97,108,108,32]⟩ : ByteArray) ++ t27)) [3] 1 1,.q 49 (fun g38=>.string (((⟨#[105,110,115,116,97,108,108,32]⟩ : ByteArray) ++ t27) ++ (⟨#[32]⟩ : ByteArray))) [4] 1 1,.q 50 (fun g38=>.pointer (some ⟨b1,0 + 54,none⟩)) [] 0 1,.q 51 (fun g38=>.int .u32 x0.f_Local) [6] 0 1,.q 52 (fun g38=>.int .u64 (wr .u64 x0.f_Local)) [7] 0 1,.q 53 (fun g38=>.string t30) [8] 1 1,.q 54 (fun g38=>.string ((((⟨#[105,110,115,116,97,108,108,32]⟩ : ByteArray) ++ t27) ++ (⟨#[32]⟩ : ByteArray)) ++ t30)) [5,9] 1 1,.q 55 (fun g38=>.string (((((⟨#[105,110,115,116,97,108,108,32]⟩ : ByteArray) ++ t27) ++ (⟨#[32]⟩ : ByteArray)) ++ t30) ++ (⟨#[32]⟩ : ByteArray))) [10] 1 1,.q 56 (fun g38=>.pointer (some ⟨b1,0 + 55,none⟩)) [] 0 1,.q 57 (fun g38=>.int .u32 x0.f_Remote) [12] 0 1,.q 58 (fun g38=>.int .u64 (wr .u64 x0.f_Remote)) [13] 0 1,.q 59 (fun g38=>.string t33) [14] 1 1,.q 60 (fun g38=>.string ((((((⟨#[105,110,115,116,97,108,108,32]⟩ : ByteArray) ++ t27) ++ (⟨#[32]⟩ : ByteArray)) ++ t30) ++ (⟨#[32]⟩ : ByteArray)) ++ t33)) [11,15] 1 1,.q 61 (fun g38=>.string (((((((⟨#[105,110,115,116,97,108,108,32]⟩ : ByteArray) ++ t27) ++ (⟨#[32]⟩ : ByteArray)) ++ t30) ++ (⟨#[32]⟩ : ByteArray)) ++ t33) ++ (⟨#[32]⟩ : ByteArray))) [16] 1 1,.q 62 (fun g38=>.pointer (some ⟨b1,0 + 56,none⟩)) [] 0 1,.q 63 (fun g38=>.int .u64 x0.f_Next) [18] 0 1,.q 64 (fun g38=>.string t36) [19] 1 1,.q 65 (fun g38=>.string ((((((((⟨#[105,110,115,116,97,108,108,32]⟩ : ByteArray) ++ t27) ++ (⟨#[32]⟩ : ByteArray)) ++ t30) ++ (⟨#[32]⟩ : ByteArray)) ++ t33) ++ (⟨#[32]⟩ : ByteArray)) ++ t36)) [17,20] 1 1,.q 2 (fun g38=>.string ((((((((⟨#[105,110,115,116,97,108,108,32]⟩ : ByteArray) ++ t27) ++ (⟨#[32]⟩ : ByteArray)) ++ t30) ++ (⟨#[32]⟩ : ByteArray)) ++ t33) ++ (⟨#[32]⟩ : ByteArray)) ++ t36)) [21] 1 1] (fun g38 s=>match s with | 0=>(Wd w [cellsE b1 (Cd.cs c_api_Item (g0_,x0)) 33]) | _=>(Wd w [rowE (cInt .u8) 5 ((g38 0).2.1) ((g38 0).2.2.1) t24,cellsE b1 (Cd.cs c_api_Item (g0_,x0)) 33])) 1 (by kernel_rfl) (by kernel_rfl) (by kernel_rfl) (by kernel_rfl) (by kernel_rfl) ⟨fun _ _ _=>rfl,fun _ _ _=>rfl,fun g38 g2 h=>by show (.slice ((g38 0).2.1) t24.length ((g38 0).2.2.1) : Value) = .slice ((g2 0).2.1) t24.length ((g2 0).2.2.1); rw [h 0 (show 0 < 1 by decide)],fun _ _ _=>rfl,fun _ _ _=>rfl,fun _ _ _=>rfl,fun _ _ _=>rfl,fun _ _ _=>rfl,fun _ _ _=>rfl,fun _ _ _=>rfl,fun _ _ _=>rfl,fun _ _ _=>rfl,fun _ _ _=>rfl,fun _ _ _=>rfl,fun _ _ _=>rfl,fun _ _ _=>rfl,fun _ _ _=>rfl,fun _ _ _=>rfl,fun _ _ _=>rfl,fun _ _ _=>rfl,fun _ _ _=>rfl,fun _ _ _=>rfl,fun _ _ _=>rfl,trivial⟩ (by kernel_rfl) (fun w_ h=>⟨fun _=>g3 0 none 0 none w_,h.drew⟩) ⟨?_,?_,?_,?_,?_,?_,?_,?_,?_,?_,?_,?_,?_,?_,?_,?_,?_,?_,?_,?_,?_,?_,?_,trivial⟩ ?_
  ·intro Lx g38 s K hl hh k
   show At 71 ((1,_)::Lx) _ _
   refine fa 22 underlying33 rfl rfl sizeOf29 rfl rfl ?_
   exact at_nil k
  ·intro Lx g38 s K hl hh k
   show At 71 ((44,_)::(1,_)::Lx) _ _
   obtain rfl : s = 0:=by omega
   refine av rfl (r_load_aggc (c:=(cVec (cInt .u8) 32 (by decide))) (z:=x0.f_Key) isAgg29 sizeOf29 rfl (lens_cell .z (c_api_Item_f_Key g0_ x0))) ?_
   exact at_nil k
  ·intro Lx g38 K k
   show At 71 ((45,_)::(1,_)::Lx) _ _
   refine at_callO (c:=(cInt .u8)) (e:=5) (ys:=t24) (V:=fun p cap=>.slice p t24.length cap) func54 rfl (by kernel_rfl) rfl rfl (fun w hw=>crawlwayref07_Bytes_ok _ _ ht24 w) ?_
   intro p25 c26
   exact at_nil (k (g3 0 p25 c26 none w))
  ·intro Lx g38 s K hl hh k
   show At 71 ((46,_)::(1,_)::Lx) _ _
   obtain rfl : s = 1:=by omega
   refine at_callB func53 rfl (by kernel_rfl) rfl rfl (fun w hw=>crawlwayref05_Encode_ok _ _ _ _ ht27 w (hw.own .z).row) ?_
   exact at_nil k
  ·intro Lx g38 s K hl hh k
   show At 71 ((47,_)::(1,_)::Lx) _ _
   refine av rfl (r_concat rfl rfl h28) ?_
   exact at_nil k
  ·intro Lx g38 s K hl hh k
   show At 71 ((48,_)::(1,_)::Lx) _ _
   refine av rfl (r_concat rfl rfl h29) ?_
   exact at_nil k
  ·intro Lx g38 s K hl hh k
   show At 71 ((1,_)::Lx) _ _
   refine fa 54 underlying33 rfl rfl sizeOf30 rfl rfl ?_
   exact at_nil k
  ·intro Lx g38 s K hl hh k
   show At 71 ((50,_)::(1,_)::Lx) _ _
   rcases (by omega : s = 0 ∨ s = 1) with rfl | rfl
   ·skip
    refine av rfl (r_load_cell isAgg30 rfl (lens_cell0 (c:=(cInt .u32)) (y:=x0.f_Local) .z (c_api_Item_f_Local g0_ x0) rfl)) ?_
    exact at_nil k
   skip
   refine av rfl (r_load_cell isAgg30 rfl (lens_cell0 (c:=(cInt .u32)) (y:=x0.f_Local) (.s .z) (c_api_Item_f_Local g0_ x0) rfl)) ?_
   exact at_nil k
  ·intro Lx g38 s K hl hh k
   show At 71 ((51,_)::(1,_)::Lx) _ _
   refine av rfl (r_conv underlying30 underlying31 rfl) ?_
   exact at_nil k
  ·intro Lx g38 s K hl hh k
   show At 71 ((52,_)::(1,_)::Lx) _ _
   obtain rfl : s = 1:=by omega
   refine at_callB func55 rfl (by kernel_rfl) rfl rfl (fun w hw=>crawlwayref03_Text_ok _ _ ht30 w) ?_
   exact at_nil k
  ·intro Lx g38 s K hl hh k
   show At 71 ((49,_)::(53,_)::(1,_)::Lx) _ _
   refine av rfl (r_concat rfl rfl h31) ?_
   exact at_nil k
  ·intro Lx g38 s K hl hh k
   show At 71 ((54,_)::(1,_)::Lx) _ _
   refine av rfl (r_concat rfl rfl h32) ?_
   exact at_nil k
  ·intro Lx g38 s K hl hh k
   show At 71 ((1,_)::Lx) _ _
   refine fa 55 underlying33 rfl rfl sizeOf30 rfl rfl ?_
   exact at_nil k
  ·intro Lx g38 s K hl hh k
   show At 71 ((56,_)::(1,_)::Lx) _ _
   rcases (by omega : s = 0 ∨ s = 1) with rfl | rfl
   ·skip
    refine av rfl (r_load_cell isAgg30 rfl (lens_cell0 (c:=(cInt .u32)) (y:=x0.f_Remote) .z (c_api_Item_f_Remote g0_ x0) rfl)) ?_
    exact at_nil k
   skip
   refine av rfl (r_load_cell isAgg30 rfl (lens_cell0 (c:=(cInt .u32)) (y:=x0.f_Remote) (.s .z) (c_api_Item_f_Remote g0_ x0) rfl)) ?_
   exact at_nil k
  ·intro Lx g38 s K hl hh k
   show At 71 ((57,_)::(1,_)::Lx) _ _
   refine av rfl (r_conv underlying30 underlying31 rfl) ?_
   exact at_nil k
  ·intro Lx g38 s K hl hh k
   show At 71 ((58,_)::(1,_)::Lx) _ _
   obtain rfl : s = 1:=by omega
   refine at_callB func55 rfl (by kernel_rfl) rfl rfl (fun w hw=>crawlwayref03_Text_ok _ _ ht33 w) ?_
   exact at_nil k
  ·intro Lx g38 s K hl hh k
   show At 71 ((55,_)::(59,_)::(1,_)::Lx) _ _
   refine av rfl (r_concat rfl rfl h34) ?_
   exact at_nil k
  ·intro Lx g38 s K hl hh k
   show At 71 ((60,_)::(1,_)::Lx) _ _
   refine av rfl (r_concat rfl rfl h35) ?_
   exact at_nil k
  ·intro Lx g38 s K hl hh k
   show At 71 ((1,_)::Lx) _ _
   refine fa 56 underlying33 rfl rfl sizeOf31 rfl rfl ?_
   exact at_nil k
  ·intro Lx g38 s K hl hh k
   show At 71 ((62,_)::(1,_)::Lx) _ _
   rcases (by omega : s = 0 ∨ s = 1) with rfl | rfl
   ·skip
    refine av rfl (r_load_cell isAgg31 rfl (lens_cell0 (c:=(cInt .u64)) (y:=x0.f_Next) .z (c_api_Item_f_Next g0_ x0) rfl)) ?_
    exact at_nil k
   skip
   refine av rfl (r_load_cell isAgg31 rfl (lens_cell0 (c:=(cInt .u64)) (y:=x0.f_Next) (.s .z) (c_api_Item_f_Next g0_ x0) rfl)) ?_
   exact at_nil k
  ·intro Lx g38 s K hl hh k
   show At 71 ((63,_)::(1,_)::Lx) _ _
   obtain rfl : s = 1:=by omega
   refine at_callB func55 rfl (by kernel_rfl) rfl rfl (fun w hw=>crawlwayref03_Text_ok _ _ ht36 w) ?_
   exact at_nil k
  ·intro Lx g38 s K hl hh k
   show At 71 ((61,_)::(64,_)::(1,_)::Lx) _ _
   refine av rfl (r_concat rfl rfl h37) ?_
   exact at_nil k
  ·intro Lx g38 s K hl hh k
   show At 71 ((65,_)::(1,_)::Lx) _ _
   refine aa rfl rfl ?_
   exact at_nil k
  intro g38
  show At 71 [(44,_),(45,_),(46,_),(47,_),(48,_),(49,_),(50,_),(51,_),(52,_),(53,_),(54,_),(55,_),(56,_),(57,_),(58,_),(59,_),(60,_),(61,_),(62,_),(63,_),(64,_),(65,_),(2,_),(1,_)] _ _
  refine dz ?_
  refine dz ?_
  refine wq [2] rfl ?_
  refine tn ?_
  refine at_ret ?_
  refine at_blk_ret (at_then_ret ?_)
  have K:=of_some hF
  subst K
  exact at_return1 rfl rfl (fun w1 hw=>⟨rfl,hw.below⟩)
 refine cf rfl h23 ?_
 refine at_skip ?_
 refine at_blk_normal (at_then_normal ?_)
 refine sr ?_
 refine fa 54 underlying33 rfl rfl sizeOf30 rfl rfl ?_
 refine av rfl (r_load_cell isAgg30 rfl (lens_cell0 (c:=(cInt .u32)) (y:=x0.f_Local) .z (c_api_Item_f_Local g0_ x0) rfl)) ?_
 refine av rfl (r_conv underlying30 underlying31 rfl) ?_
 obtain ⟨t39,ht39,hF⟩:=of_bindM hF
 refine at_callB func55 rfl (by kernel_rfl) rfl rfl (fun w hw=>crawlwayref03_Text_ok _ _ ht39 w) ?_
 obtain ⟨h40,hF⟩:=of_guard hF
 refine av rfl (r_concat rfl rfl h40) ?_
 refine aa rfl rfl ?_
 refine at_nil ?_
 refine dz ?_
 refine wq [2] rfl ?_
 refine tn ?_
 refine at_ret ?_
 have K:=of_some hF
 subst K
 exact at_return1 rfl rfl (fun w1 hw=>⟨rfl,hw.below⟩)
def crawlwayref50_take (x0 : S_api_Item) (x1 : Int) (x2 : ByteArray) : Option (S_api_Item × Int) :=
  if (x0.f_Kind == 4) = true then (if (x0.f_Kind == 4) = true then (if (x1 == 0) = true then (crawlwayref12_Parse x2 >>= fun t6=>some ({ x0 with f_From:=t6.1 },t6.2)) else (if (decide (x0.f_Kind ≤ 4)) = true then (if (wr .i64 (x1 - 1) == 0) = true then (crawlwayref50_bytes x2 >>= fun t10=>some ({ x0 with f_Bytes:=t10.1 },t10.2)) else (if (decide (x0.f_Kind ≤ 4)) = true then (if (!seq x2 (⟨#[33]⟩ : ByteArray)) = true then (crawlwayref50_bytes x2 >>= fun t18=>some ({ { x0 with f_Ok:=true } with f_Result:=t18.1 },t18.2)) else (some (x0,0))) else (if (x0.f_Kind == 5) = true then (if (x1 == 0) = true then (crawlwayref07_ParseHex x2 >>= fun t26=>some ({ x0 with f_Key:=t26.1 },t26.2)) else (if (x0.f_Kind == 5) = true then (if (x1 == 3) = true then (crawlwayref03_Read x2 18446744073709551615 >>= fun t30=>some ({ x0 with f_Next:=t30.1 },t30.2)) else (crawlwayref03_Read x2 4294967295 >>= fun t32=>if (x0.f_Kind == 5) = true then (if (x1 == 2) = true then (some ({ x0 with f_Remote:=wr .u32 t32.1 },t32.2)) else (some ({ x0 with f_Local:=wr .u32 t32.1 },t32.2))) else (some ({ x0 with f_Local:=wr .u32 t32.1 },t32.2)))) else (crawlwayref03_Read x2 4294967295 >>= fun t38=>if (x0.f_Kind == 5) = true then (if (x1 == 2) = true then (some ({ x0 with f_Remote:=wr .u32 t38.1 },t38.2)) else (some ({ x0 with f_Local:=wr .u32 t38.1 },t38.2))) else (some ({ x0 with f_Local:=wr .u32 t38.1 },t38.2))))) else (if (x0.f_Kind == 5) = true then (if (x1 == 3) = true then (crawlwayref03_Read x2 18446744073709551615 >>= fun t46=>some ({ x0 with f_Next:=t46.1 },t46.2)) else (crawlwayref03_Read x2 4294967295 >>= fun t48=>if (x0.f_Kind == 5) = true then (if (x1 == 2) = true then (some ({ x0 with f_Remote:=wr .u32 t48.1 },t48.2)) else (some ({ x0 with f_Local:=wr .u32 t48.1 },t48.2))) else (some ({ x0 with f_Local:=wr .u32 t48.1 },t48.2)))) else (crawlwayref03_Read x2 4294967295 >>= fun t54=>if (x0.f_Kind == 5) = true then (if (x1 == 2) = true then (some ({ x0 with f_Remote:=wr .u32 t54.1 },t54.2)) else (some ({ x0 with f_Local:=wr .u32 t54.1 },t54.2))) else (some ({ x0 with f_Local:=wr .u32 t54.1 },t54.2))))))) else (if (decide (x0.f_Kind ≤ 4)) = true then (if (!seq x2 (⟨#[33]⟩ : ByteArray)) = true then (crawlwayref50_bytes x2 >>= fun t62=>some ({ { x0 with f_Ok:=true } with f_Result:=t62.1 },t62.2)) else (some (x0,0))) else (if (x0.f_Kind == 5) = true then (if (x1 == 0) = true then (crawlwayref07_ParseHex x2 >>= fun t70=>some ({ x0 with f_Key:=t70.1 },t70.2)) else (if (x0.f_Kind == 5) = true then (if (x1 == 3) = true then (crawlwayref03_Read x2 18446744073709551615 >>= fun t74=>some ({ x0 with f_Next:=t74.1 },t74.2)) else (crawlwayref03_Read x2 4294967295 >>= fun t76=>if (x0.f_Kind == 5) = true then (if (x1 == 2) = true then (some ({ x0 with f_Remote:=wr .u32 t76.1 },t76.2)) else (some ({ x0 with f_Local:=wr .u32 t76.1 },t76.2))) else (some ({ x0 with f_Local:=wr .u32 t76.1 },t76.2)))) else (crawlwayref03_Read x2 4294967295 >>= fun t82=>if (x0.f_Kind == 5) = true then (if (x1 == 2) = true then (some ({ x0 with f_Remote:=wr .u32 t82.1 },t82.2)) else (some ({ x0 with f_Local:=wr .u32 t82.1 },t82.2))) else (some ({ x0 with f_Local:=wr .u32 t82.1 },t82.2))))) else (if (x0.f_Kind == 5) = true then (if (x1 == 3) = true then (crawlwayref03_Read x2 18446744073709551615 >>= fun t90=>some ({ x0 with f_Next:=t90.1 },t90.2)) else (crawlwayref03_Read x2 4294967295 >>= fun t92=>if (x0.f_Kind == 5) = true then (if (x1 == 2) = true then (some ({ x0 with f_Remote:=wr .u32 t92.1 },t92.2)) else (some ({ x0 with f_Local:=wr .u32 t92.1 },t92.2))) else (some ({ x0 with f_Local:=wr .u32 t92.1 },t92.2)))) else (crawlwayref03_Read x2 4294967295 >>= fun t98=>if (x0.f_Kind == 5) = true then (if (x1 == 2) = true then (some ({ x0 with f_Remote:=wr .u32 t98.1 },t98.2)) else (some ({ x0 with f_Local:=wr .u32 t98.1 },t98.2))) else (some ({ x0 with f_Local:=wr .u32 t98.1 },t98.2)))))))) else (if (decide (x0.f_Kind ≤ 4)) = true then (if (wr .i64 (x1 - 1) == 0) = true then (crawlwayref50_bytes x2 >>= fun t106=>some ({ x0 with f_Bytes:=t106.1 },t106.2)) else (if (decide (x0.f_Kind ≤ 4)) = true then (if (!seq x2 (⟨#[33]⟩ : ByteArray)) = true then (crawlwayref50_bytes x2 >>= fun t114=>some ({ { x0 with f_Ok:=true } with f_Result:=t114.1 },t114.2)) else (some (x0,0))) else (if (x0.f_Kind == 5) = true then (if (x1 == 0) = true then (crawlwayref07_ParseHex x2 >>= fun t122=>some ({ x0 with f_Key:=t122.1 },t122.2)) else (if (x0.f_Kind == 5) = true then (if (x1 == 3) = true then (crawlwayref03_Read x2 18446744073709551615 >>= fun t126=>some ({ x0 with f_Next:=t126.1 },t126.2)) else (crawlwayref03_Read x2 4294967295 >>= fun t128=>if (x0.f_Kind == 5) = true then (if (x1 == 2) = true then (some ({ x0 with f_Remote:=wr .u32 t128.1 },t128.2)) else (some ({ x0 with f_Local:=wr .u32 t128.1 },t128.2))) else (some ({ x0 with f_Local:=wr .u32 t128.1 },t128.2)))) else (crawlwayref03_Read x2 4294967295 >>= fun t134=>if (x0.f_Kind == 5) = true then (if (x1 == 2) = true then (some ({ x0 with f_Remote:=wr .u32 t134.1 },t134.2)) else (some ({ x0 with f_Local:=wr .u32 t134.1 },t134.2))) else (some ({ x0 with f_Local:=wr .u32 t134.1 },t134.2))))) else (if (x0.f_Kind == 5) = true then (if (x1 == 3) = true then (crawlwayref03_Read x2 18446744073709551615 >>= fun t142=>some ({ x0 with f_Next:=t142.1 },t142.2)) else (crawlwayref03_Read x2 4294967295 >>= fun t144=>if (x0.f_Kind == 5) = true then (if (x1 == 2) = true then (some ({ x0 with f_Remote:=wr .u32 t144.1 },t144.2)) else (some ({ x0 with f_Local:=wr .u32 t144.1 },t144.2))) else (some ({ x0 with f_Local:=wr .u32 t144.1 },t144.2)))) else (crawlwayref03_Read x2 4294967295 >>= fun t150=>if (x0.f_Kind == 5) = true then (if (x1 == 2) = true then (some ({ x0 with f_Remote:=wr .u32 t150.1 },t150.2)) else (some ({ x0 with f_Local:=wr .u32 t150.1 },t150.2))) else (some ({ x0 with f_Local:=wr .u32 t150.1 },t150.2))))))) else (if (decide (x0.f_Kind ≤ 4)) = true then (if (!seq x2 (⟨#[33]⟩ : ByteArray)) = true then (crawlwayref50_bytes x2 >>= fun t158=>some ({ { x0 with f_Ok:=true } with f_Result:=t158.1 },t158.2)) else (some (x0,0))) else (if (x0.f_Kind == 5) = true then (if (x1 == 0) = true then (crawlwayref07_ParseHex x2 >>= fun t166=>some ({ x0 with f_Key:=t166.1 },t166.2)) else (if (x0.f_Kind == 5) = true then (if (x1 == 3) = true then (crawlwayref03_Read x2 18446744073709551615 >>= fun t170=>some ({ x0 with f_Next:=t170.1 },t170.2)) else (crawlwayref03_Read x2 4294967295 >>= fun t172=>if (x0.f_Kind == 5) = true then (if (x1 == 2) = true then (some ({ x0 with f_Remote:=wr .u32 t172.1 },t172.2)) else (some ({ x0 with f_Local:=wr .u32 t172.1 },t172.2))) else (some ({ x0 with f_Local:=wr .u32 t172.1 },t172.2)))) else (crawlwayref03_Read x2 4294967295 >>= fun t178=>if (x0.f_Kind == 5) = true then (if (x1 == 2) = true then (some ({ x0 with f_Remote:=wr .u32 t178.1 },t178.2)) else (some ({ x0 with f_Local:=wr .u32 t178.1 },t178.2))) else (some ({ x0 with f_Local:=wr .u32 t178.1 },t178.2))))) else (if (x0.f_Kind == 5) = true then (if (x1 == 3) = true then (crawlwayref03_Read x2 18446744073709551615 >>= fun t186=>some ({ x0 with f_Next:=t186.1 },t186.2)) else (crawlwayref03_Read x2 4294967295 >>= fun t188=>if (x0.f_Kind == 5) = true then (if (x1 == 2) = true then (some ({ x0 with f_Remote:=wr .u32 t188.1 },t188.2)) else (some ({ x0 with f_Local:=wr .u32 t188.1 },t188.2))) else (some ({ x0 with f_Local:=wr .u32 t188.1 },t188.2)))) else (crawlwayref03_Read x2 4294967295 >>= fun t194=>if (x0.f_Kind == 5) = true then (if (x1 == 2) = true then (some ({ x0 with f_Remote:=wr .u32 t194.1 },t194.2)) else (some ({ x0 with f_Local:=wr .u32 t194.1 },t194.2))) else (some ({ x0 with f_Local:=wr .u32 t194.1 },t194.2)))))))) else (if (x0.f_Kind == 4) = true then (if (x1 == 0) = true then (crawlwayref12_Parse x2 >>= fun t202=>some ({ x0 with f_From:=t202.1 },t202.2)) else (if (decide (x0.f_Kind ≤ 4)) = true then (if (x1 == 0) = true then (crawlwayref50_bytes x2 >>= fun t206=>some ({ x0 with f_Bytes:=t206.1 },t206.2)) else (if (decide (x0.f_Kind ≤ 4)) = true then (if (!seq x2 (⟨#[33]⟩ : ByteArray)) = true then (crawlwayref50_bytes x2 >>= fun t214=>some ({ { x0 with f_Ok:=true } with f_Result:=t214.1 },t214.2)) else (some (x0,0))) else (if (x0.f_Kind == 5) = true then (if (x1 == 0) = true then (crawlwayref07_ParseHex x2 >>= fun t222=>some ({ x0 with f_Key:=t222.1 },t222.2)) else (if (x0.f_Kind == 5) = true then (if (x1 == 3) = true then (crawlwayref03_Read x2 18446744073709551615 >>= fun t226=>some ({ x0 with f_Next:=t226.1 },t226.2)) else (crawlwayref03_Read x2 4294967295 >>= fun t228=>if (x0.f_Kind == 5) = true then (if (x1 == 2) = true then (some ({ x0 with f_Remote:=wr .u32 t228.1 },t228.2)) else (some ({ x0 with f_Local:=wr .u32 t228.1 },t228.2))) else (some ({ x0 with f_Local:=wr .u32 t228.1 },t228.2)))) else (crawlwayref03_Read x2 4294967295 >>= fun t234=>if (x0.f_Kind == 5) = true then (if (x1 == 2) = true then (some ({ x0 with f_Remote:=wr .u32 t234.1 },t234.2)) else (some ({ x0 with f_Local:=wr .u32 t234.1 },t234.2))) else (some ({ x0 with f_Local:=wr .u32 t234.1 },t234.2))))) else (if (x0.f_Kind == 5) = true then (if (x1 == 3) = true then (crawlwayref03_Read x2 18446744073709551615 >>= fun t242=>some ({ x0 with f_Next:=t242.1 },t242.2)) else (crawlwayref03_Read x2 4294967295 >>= fun t244=>if (x0.f_Kind == 5) = true then (if (x1 == 2) = true then (some ({ x0 with f_Remote:=wr .u32 t244.1 },t244.2)) else (some ({ x0 with f_Local:=wr .u32 t244.1 },t244.2))) else (some ({ x0 with f_Local:=wr .u32 t244.1 },t244.2)))) else (crawlwayref03_Read x2 4294967295 >>= fun t250=>if (x0.f_Kind == 5) = true then (if (x1 == 2) = true then (some ({ x0 with f_Remote:=wr .u32 t250.1 },t250.2)) else (some ({ x0 with f_Local:=wr .u32 t250.1 },t250.2))) else (some ({ x0 with f_Local:=wr .u32 t250.1 },t250.2))))))) else (if (decide (x0.f_Kind ≤ 4)) = true then (if (!seq x2 (⟨#[33]⟩ : ByteArray)) = true then (crawlwayref50_bytes x2 >>= fun t258=>some ({ { x0 with f_Ok:=true } with f_Result:=t258.1 },t258.2)) else (some (x0,0))) else (if (x0.f_Kind == 5) = true then (if (x1 == 0) = true then (crawlwayref07_ParseHex x2 >>= fun t266=>some ({ x0 with f_Key:=t266.1 },t266.2)) else (if (x0.f_Kind == 5) = true then (if (x1 == 3) = true then (crawlwayref03_Read x2 18446744073709551615 >>= fun t270=>some ({ x0 with f_Next:=t270.1 },t270.2)) else (crawlwayref03_Read x2 4294967295 >>= fun t272=>if (x0.f_Kind == 5) = true then (if (x1 == 2) = true then (some ({ x0 with f_Remote:=wr .u32 t272.1 },t272.2)) else (some ({ x0 with f_Local:=wr .u32 t272.1 },t272.2))) else (some ({ x0 with f_Local:=wr .u32 t272.1 },t272.2)))) else (crawlwayref03_Read x2 4294967295 >>= fun t278=>if (x0.f_Kind == 5) = true then (if (x1 == 2) = true then (some ({ x0 with f_Remote:=wr .u32 t278.1 },t278.2)) else (some ({ x0 with f_Local:=wr .u32 t278.1 },t278.2))) else (some ({ x0 with f_Local:=wr .u32 t278.1 },t278.2))))) else (if (x0.f_Kind == 5) = true then (if (x1 == 3) = true then (crawlwayref03_Read x2 18446744073709551615 >>= fun t286=>some ({ x0 with f_Next:=t286.1 },t286.2)) else (crawlwayref03_Read x2 4294967295 >>= fun t288=>if (x0.f_Kind == 5) = true then (if (x1 == 2) = true then (some ({ x0 with f_Remote:=wr .u32 t288.1 },t288.2)) else (some ({ x0 with f_Local:=wr .u32 t288.1 },t288.2))) else (some ({ x0 with f_Local:=wr .u32 t288.1 },t288.2)))) else (crawlwayref03_Read x2 4294967295 >>= fun t294=>if (x0.f_Kind == 5) = true then (if (x1 == 2) = true then (some ({ x0 with f_Remote:=wr .u32 t294.1 },t294.2)) else (some ({ x0 with f_Local:=wr .u32 t294.1 },t294.2))) else (some ({ x0 with f_Local:=wr .u32 t294.1 },t294.2)))))))) else (if (decide (x0.f_Kind ≤ 4)) = true then (if (x1 == 0) = true then (crawlwayref50_bytes x2 >>= fun t302=>some ({ x0 with f_Bytes:=t302.1 },t302.2)) else (if (decide (x0.f_Kind ≤ 4)) = true then (if (!seq x2 (⟨#[33]⟩ : ByteArray)) = true then (crawlwayref50_bytes x2 >>= fun t310=>some ({ { x0 with f_Ok:=true } with f_Result:=t310.1 },t310.2)) else (some (x0,0))) else (if (x0.f_Kind == 5) = true then (if (x1 == 0) = true then (crawlwayref07_ParseHex x2 >>= fun t318=>some ({ x0 with f_Key:=t318.1 },t318.2)) else (if (x0.f_Kind == 5) = true then (if (x1 == 3) = true then (crawlwayref03_Read x2 18446744073709551615 >>= fun t322=>some ({ x0 with f_Next:=t322.1 },t322.2)) else (crawlwayref03_Read x2 4294967295 >>= fun t324=>if (x0.f_Kind == 5) = true then (if (x1 == 2) = true then (some ({ x0 with f_Remote:=wr .u32 t324.1 },t324.2)) else (some ({ x0 with f_Local:=wr .u32 t324.1 },t324.2))) else (some ({ x0 with f_Local:=wr .u32 t324.1 },t324.2)))) else (crawlwayref03_Read x2 4294967295 >>= fun t330=>if (x0.f_Kind == 5) = true then (if (x1 == 2) = true then (some ({ x0 with f_Remote:=wr .u32 t330.1 },t330.2)) else (some ({ x0 with f_Local:=wr .u32 t330.1 },t330.2))) else (some ({ x0 with f_Local:=wr .u32 t330.1 },t330.2))))) else (if (x0.f_Kind == 5) = true then (if (x1 == 3) = true then (crawlwayref03_Read x2 18446744073709551615 >>= fun t338=>some ({ x0 with f_Next:=t338.1 },t338.2)) else (crawlwayref03_Read x2 4294967295 >>= fun t340=>if (x0.f_Kind == 5) = true then (if (x1 == 2) = true then (some ({ x0 with f_Remote:=wr .u32 t340.1 },t340.2)) else (some ({ x0 with f_Local:=wr .u32 t340.1 },t340.2))) else (some ({ x0 with f_Local:=wr .u32 t340.1 },t340.2)))) else (crawlwayref03_Read x2 4294967295 >>= fun t346=>if (x0.f_Kind == 5) = true then (if (x1 == 2) = true then (some ({ x0 with f_Remote:=wr .u32 t346.1 },t346.2)) else (some ({ x0 with f_Local:=wr .u32 t346.1 },t346.2))) else (some ({ x0 with f_Local:=wr .u32 t346.1 },t346.2))))))) else (if (decide (x0.f_Kind ≤ 4)) = true then (if (!seq x2 (⟨#[33]⟩ : ByteArray)) = true then (crawlwayref50_bytes x2 >>= fun t354=>some ({ { x0 with f_Ok:=true } with f_Result:=t354.1 },t354.2)) else (some (x0,0))) else (if (x0.f_Kind == 5) = true then (if (x1 == 0) = true then (crawlwayref07_ParseHex x2 >>= fun t362=>some ({ x0 with f_Key:=t362.1 },t362.2)) else (if (x0.f_Kind == 5) = true then (if (x1 == 3) = true then (crawlwayref03_Read x2 18446744073709551615 >>= fun t366=>some ({ x0 with f_Next:=t366.1 },t366.2)) else (crawlwayref03_Read x2 4294967295 >>= fun t368=>if (x0.f_Kind == 5) = true then (if (x1 == 2) = true then (some ({ x0 with f_Remote:=wr .u32 t368.1 },t368.2)) else (some ({ x0 with f_Local:=wr .u32 t368.1 },t368.2))) else (some ({ x0 with f_Local:=wr .u32 t368.1 },t368.2)))) else (crawlwayref03_Read x2 4294967295 >>= fun t374=>if (x0.f_Kind == 5) = true then (if (x1 == 2) = true then (some ({ x0 with f_Remote:=wr .u32 t374.1 },t374.2)) else (some ({ x0 with f_Local:=wr .u32 t374.1 },t374.2))) else (some ({ x0 with f_Local:=wr .u32 t374.1 },t374.2))))) else (if (x0.f_Kind == 5) = true then (if (x1 == 3) = true then (crawlwayref03_Read x2 18446744073709551615 >>= fun t382=>some ({ x0 with f_Next:=t382.1 },t382.2)) else (crawlwayref03_Read x2 4294967295 >>= fun t384=>if (x0.f_Kind == 5) = true then (if (x1 == 2) = true then (some ({ x0 with f_Remote:=wr .u32 t384.1 },t384.2)) else (some ({ x0 with f_Local:=wr .u32 t384.1 },t384.2))) else (some ({ x0 with f_Local:=wr .u32 t384.1 },t384.2)))) else (crawlwayref03_Read x2 4294967295 >>= fun t390=>if (x0.f_Kind == 5) = true then (if (x1 == 2) = true then (some ({ x0 with f_Remote:=wr .u32 t390.1 },t390.2)) else (some ({ x0 with f_Local:=wr .u32 t390.1 },t390.2))) else (some ({ x0 with f_Local:=wr .u32 t390.1 },t390.2))))))))
end Go.Proofs.YtkkmmpofdcccmaaGreatDoor
namespace Go.Proofs.YtkkmmpofdcccmaaGreatDoor
open E Go.RowKit _root_.Go.Proofs.Tryz
def crawlwayref50_Parse.l0 (t2 : List ByteArray) (i15 : Int) (i16 : S_api_Item) : Option (S_api_Item) :=
  if (decide (i15 ≤ 6)) = true then (if (0 : Int) ≤ i15 ∧ i15 < (([⟨#[]⟩,⟨#[115,101,116]⟩,⟨#[108,111,97,100]⟩,⟨#[111,117,116]⟩,⟨#[105,110]⟩,⟨#[105,110,115,116,97,108,108]⟩,⟨#[102,111,114,103,101,116]⟩] : List ByteArray).length : Int) then if (0 : Int) ≤ 0 ∧ 0 < (t2.length : Int) then if (seq (lget ([⟨#[]⟩,⟨#[115,101,116]⟩,⟨#[108,111,97,100]⟩,⟨#[111,117,116]⟩,⟨#[105,110]⟩,⟨#[105,110,115,116,97,108,108]⟩,⟨#[102,111,114,103,101,116]⟩] : List ByteArray) i15) (lget t2 0)) = true then (crawlwayref50_Parse.l0 t2 (wr .i64 (i15 + 1)) ({ i16 with f_Kind:=i15 })) else (crawlwayref50_Parse.l0 t2 (wr .i64 (i15 + 1)) i16) else none else none) else (some i16)
  partial_fixpoint
def crawlwayref50_Parse.l1 (t2 : List ByteArray) (i49 : Int) (i50 : S_api_Item) : Option (Ctl (S_api_Item × Int) (S_api_Item)) :=
  if (decide (i49 < (t2.length : Int))) = true then (if (0 : Int) ≤ i49 ∧ i49 < (t2.length : Int) then crawlwayref50_take i50 (wr .i64 (i49 - 1)) (lget t2 i49) >>= fun t70=>if (t70.2 != 0) = true then (some (.ret (({ f_Kind:=(0 : Int),f_Bytes:=([] : List Int),f_From:=({ f_A:=({ f_V:=(0 : Int),f_B:=(Vector.replicate 16 (0 : Int) : (Vector Int 16)) } : S_api_Addr),f_Port:=(0 : Int) } : S_api_Endpoint),f_Result:=([] : List Int),f_Ok:=false,f_Key:=(Vector.replicate 32 (0 : Int) : (Vector Int 32)),f_Local:=(0 : Int),f_Remote:=(0 : Int),f_Next:=(0 : Int) } : S_api_Item),t70.2))) else (crawlwayref50_Parse.l1 t2 (wr .i64 (i49 + 1)) t70.1) else none) else (some (.nx i50))
  partial_fixpoint
def crawlwayref50_Parse (x0 : ByteArray) : Option (S_api_Item × Int) :=
  crawlwayref06_Parts x0 32 >>= fun t2=>crawlwayref50_Parse.l0 t2 1 ({ f_Kind:=(0 : Int),f_Bytes:=([] : List Int),f_From:=({ f_A:=({ f_V:=(0 : Int),f_B:=(Vector.replicate 16 (0 : Int) : (Vector Int 16)) } : S_api_Addr),f_Port:=(0 : Int) } : S_api_Endpoint),f_Result:=([] : List Int),f_Ok:=false,f_Key:=(Vector.replicate 32 (0 : Int) : (Vector Int 32)),f_Local:=(0 : Int),f_Remote:=(0 : Int),f_Next:=(0 : Int) } : S_api_Item) >>= fun q14=>if (q14.f_Kind == 0) = true then (some (q14,12)) else (if (0 : Int) ≤ q14.f_Kind ∧ q14.f_Kind < (([0,2,2,3,4,5,2] : List Int).length : Int) then if ((t2.length : Int) != lget ([0,2,2,3,4,5,2] : List Int) q14.f_Kind) = true then (some (({ f_Kind:=(0 : Int),f_Bytes:=([] : List Int),f_From:=({ f_A:=({ f_V:=(0 : Int),f_B:=(Vector.replicate 16 (0 : Int) : (Vector Int 16)) } : S_api_Addr),f_Port:=(0 : Int) } : S_api_Endpoint),f_Result:=([] : List Int),f_Ok:=false,f_Key:=(Vector.replicate 32 (0 : Int) : (Vector Int 32)),f_Local:=(0 : Int),f_Remote:=(0 : Int),f_Next:=(0 : Int) } : S_api_Item),5)) else (crawlwayref50_Parse.l1 t2 1 q14 >>= fun q48=>match q48 with | .ret r'=>some r' | .nx sq48=>(some (sq48,0))) else none)
end Go.Proofs.YtkkmmpofdcccmaaGreatDoor
namespace Go.Proofs.YtkkmmpofdcccmaaGreatDoor
open E Go.RowKit _root_.Go.Proofs.Tryz
def crawlwaylaw50_ScriptLines (x0 : S_api_Item) : Option (Bool) :=
  crawlwayref49_Large ([x0]) >>= fun t3=>if t3 = true then (crawlwaylaw50_alive >>= fun t5=>some t5) else (crawlwayref50_Right x0 >>= fun t6=>script_Text x0 >>= fun t7=>script_Right x0 >>= fun t8=>if (t8 != t6) = true then (some false) else (if (!t6) = true then (if (seq t7.1 (⟨#[]⟩ : ByteArray)) = true then (if (t7.2 == 1) = true then (crawlwaylaw50_alive >>= fun t13=>some t13) else (some false)) else (some false)) else (script_Parse t7.1 >>= fun t14=>crawlwayref50_Text x0 >>= fun t19=>if (seq t7.1 t19) = true then (if (t7.2 == 0) = true then (crawlwayref50_Same t14.1 x0 >>= fun t22=>if t22 = true then (if (t14.2 == 0) = true then (crawlwaylaw50_alive >>= fun t25=>some t25) else (some false)) else (some false)) else (some false)) else (some false))))
theorem crawlwaylaw50_ScriptLines_ok (g0_ : G_api_Item) (x0 : S_api_Item) (r : Bool) (hF : crawlwaylaw50_ScriptLines x0 = some r) (w : World) (hn0 : N_api_Item w (g0_,x0)) (hg_bytealg_MaxLen : GV_bytealg_MaxLen w) (hg_strconv_ErrRange : GV_strconv_ErrRange w) (hg_strconv_ErrSyntax : GV_strconv_ErrSyntax w) (hg_strconv_uint64pow10 : GV_strconv_uint64pow10 w) :
    Calls Tryz.prog 6 #[.agg (Cd.cs c_api_Item (g0_,x0)).toArray] w (fun e w'=>e = .returned (.bool r) ∧ Below w.heap.size w w'):=by
 unfold crawlwaylaw50_ScriptLines at hF
 refine calls_enter (l:=[.agg (Cd.cs c_api_Item (g0_,x0)).toArray]) func6 rfl rfl rfl ?_
 refine at_start ?_
 refine at_frz0 ?_
 intro Z_ s_ hB_
 have hz0:=NK_api_Item.mono (NK_api_Item.of hn0) hB_
 refine sr ?_
 refine at_box (cs:=Cd.cs c_api_Item (g0_,x0)) rfl rfl rfl ?_
 intro b1
 refine aa rfl rfl ?_
 refine nt ?_
 refine at_seq ?_
 refine sr ?_
 refine av rfl (r_load_aggc (c:=c_api_Item) (z:=(g0_,x0)) isAgg33 sizeOf33 rfl (lens_cell .z (Lens.whole _ _))) ?_
 refine at_litL (c:=c_api_Item) ([zv6] : List (G_api_Item × S_api_Item)) ([(g0_,x0)] : List (G_api_Item × S_api_Item)) underlying35 sizeOf33 zeroValue33 rfl rfl rfl (by kernel_rfl) (fill_step (c:=c_api_Item) (z:=(g0_,x0)) rfl (Lens.all c_api_Item ([zv6] : List (G_api_Item × S_api_Item)) 0 (by first | decide | exact Nat.le_of_ble_eq_true rfl)) rfl rfl) rfl ?_
 intro b2
 obtain ⟨t3,ht3,hF⟩:=of_bindM hF
 refine at_callB func10 rfl (by kernel_rfl) rfl rfl (fun w hw=>callB_of_call0 (crawlwayref49_Large_ok _ _ _ _ ht3 w ⟨([(g0_,x0)] : List (G_api_Item × S_api_Item)),rfl,cells_row (hw.ok (Upd.mem .z)),(all_cons (NK_api_Item.n (NK_api_Item.mono hz0 (frz_mono (.s (.s .z)) hw))) all_nil)⟩)) ?_
 refine at_nil ?_
 refine dz ?_
 refine wq [10,1] rfl ?_
 refine tn ?_
 rcases oi hF with ⟨h4,hF⟩|⟨h4,hF⟩
 ·refine ct rfl h4 ?_
  refine sr ?_
  obtain ⟨t5,ht5,hF⟩:=of_bindM hF
  refine at_callB func11 rfl (by kernel_rfl) rfl rfl (fun w hw=>crawlwaylaw50_alive_ok  _ ht5 w (hg_bytealg_MaxLen.on hw.below) (hg_strconv_ErrRange.on hw.below) (hg_strconv_ErrSyntax.on hw.below) (hg_strconv_uint64pow10.on hw.below)) ?_
  refine aa rfl rfl ?_
  refine at_nil ?_
  refine dz ?_
  refine wq [2] rfl ?_
  refine tn ?_
  refine rt ?_
  have K:=of_some hF
  subst K
  exact at_return1 rfl rfl (fun w1 hw=>⟨rfl,hw.below⟩)
 refine cf rfl h4 ?_
 refine sns ?_
 refine av rfl (r_load_aggc (c:=c_api_Item) (z:=(g0_,x0)) isAgg33 sizeOf33 rfl (lens_cell .z (Lens.whole _ _))) ?_
 obtain ⟨t6,ht6,hF⟩:=of_bindM hF
 refine at_callB func22 rfl (by kernel_rfl) rfl rfl (fun w hw=>crawlwayref50_Right_ok _ _ _ ht6 w (NK_api_Item.n (NK_api_Item.mono hz0 (frz_mono (.s .z) hw)))) ?_
 refine aa rfl rfl ?_
 refine ns ?_
 refine av rfl (r_load_aggc (c:=c_api_Item) (z:=(g0_,x0)) isAgg33 sizeOf33 rfl (lens_cell .z (Lens.whole _ _))) ?_
 obtain ⟨t7,ht7,hF⟩:=of_bindM hF
 refine at_callB func23 rfl (by kernel_rfl) rfl rfl (fun w hw=>script_Text_ok _ _ _ ht7 w (NK_api_Item.n (NK_api_Item.mono hz0 (frz_mono (.s .z) hw))) (hg_bytealg_MaxLen.on hw.below) (hg_strconv_ErrRange.on hw.below) (hg_strconv_ErrSyntax.on hw.below) (hg_strconv_uint64pow10.on hw.below)) ?_
 refine am rfl rfl ?_
 refine av rfl (r_extract rfl rfl) ?_
 refine av rfl (r_extract rfl rfl) ?_
 refine aa rfl rfl ?_
 refine aa rfl rfl ?_
 refine nt ?_
 refine at_seq ?_
 refine sr ?_
 refine av rfl (r_load_aggc (c:=c_api_Item) (z:=(g0_,x0)) isAgg33 sizeOf33 rfl (lens_cell .z (Lens.whole _ _))) ?_
 obtain ⟨t8,ht8,hF⟩:=of_bindM hF
 refine at_callB func24 rfl (by kernel_rfl) rfl rfl (fun w hw=>script_Right_ok _ _ _ ht8 w (NK_api_Item.n (NK_api_Item.mono hz0 (frz_mono (.s .z) hw))) (hg_bytealg_MaxLen.on hw.below) (hg_strconv_ErrRange.on hw.below) (hg_strconv_ErrSyntax.on hw.below) (hg_strconv_uint64pow10.on hw.below)) ?_
 refine am rfl rfl ?_
 refine av rfl (r_bool underlying4 rfl rfl (.inr rfl) rfl) ?_
 refine nwq [22,5,4,3,1] rfl ?_
 rcases oi hF with ⟨h9,hF⟩|⟨h9,hF⟩
 ·refine ct rfl h9 ?_
  refine sr ?_
  refine aa rfl rfl ?_
  refine at_nil ?_
  refine dz ?_
  refine wq [2] rfl ?_
  refine tn ?_
  refine rt ?_
  have K:=of_some hF
  subst K
  exact at_return1 rfl rfl (fun w1 hw=>⟨rfl,hw.below⟩)
 refine cf rfl h9 ?_
 refine sn ?_
 refine at_seq ?_
 refine sr ?_
 refine am rfl rfl ?_
 refine av rfl (r_not rfl) ?_
 refine nwq [24,5,4,1] rfl ?_
 rcases oi hF with ⟨h10,hF⟩|⟨h10,hF⟩
 ·refine ct rfl h10 ?_
  refine sr ?_
  refine am rfl rfl ?_
  refine av rfl (r_seql rfl rfl) ?_
  refine am rfl rfl ?_
  rcases oi hF with ⟨h11,hF⟩|⟨h11,hF⟩
  ·refine at_fix (g:=27) rfl h11 ?_
   refine gy rfl rfl rfl ?_
   refine am rfl rfl ?_
   refine gy rfl rfl rfl ?_
   refine av rfl (r_ieql rfl rfl) ?_
   refine av rfl (r_pick rfl rfl rfl) ?_
   refine am rfl rfl ?_
   rcases oi hF with ⟨h12,hF⟩|⟨h12,hF⟩
   ·refine at_fix (g:=31) rfl h12 ?_
    refine gy rfl rfl rfl ?_
    obtain ⟨t13,ht13,hF⟩:=of_bindM hF
    refine at_callB func11 rfl (by kernel_rfl) rfl rfl (fun w hw=>crawlwaylaw50_alive_ok  _ ht13 w (hg_bytealg_MaxLen.on hw.below) (hg_strconv_ErrRange.on hw.below) (hg_strconv_ErrSyntax.on hw.below) (hg_strconv_uint64pow10.on hw.below)) ?_
    refine av rfl (r_pick rfl rfl rfl) ?_
    refine aa rfl rfl ?_
    refine at_nil ?_
    refine dz ?_
    refine wq [2] rfl ?_
    refine tn ?_
    refine rt ?_
    have K:=of_some hF
    subst K
    exact at_return1 rfl rfl (fun w1 hw=>⟨rfl,hw.below⟩)
   refine at_fix (g:=31) rfl h12 ?_
   refine gn rfl rfl rfl rfl rfl ?_
   refine av rfl (r_pick rfl rfl rfl) ?_
   refine aa rfl rfl ?_
   refine at_nil ?_
   refine dz ?_
   refine wq [2] rfl ?_
   refine tn ?_
   refine rt ?_
   have K:=of_some hF
   subst K
   exact at_return1 rfl rfl (fun w1 hw=>⟨rfl,hw.below⟩)
  refine at_fix (g:=27) rfl h11 ?_
  refine gn rfl rfl rfl rfl rfl ?_
  refine gn rfl rfl rfl rfl rfl ?_
  refine av rfl (r_pick rfl rfl rfl) ?_
  refine am rfl rfl ?_
  refine gn rfl rfl rfl rfl rfl ?_
  refine av rfl (r_pick rfl rfl rfl) ?_
  refine aa rfl rfl ?_
  refine at_nil ?_
  refine dz ?_
  refine wq [2] rfl ?_
  refine tn ?_
  refine rt ?_
  have K:=of_some hF
  subst K
  exact at_return1 rfl rfl (fun w1 hw=>⟨rfl,hw.below⟩)
 refine cf rfl h10 ?_
 refine sns ?_
 refine am rfl rfl ?_
 obtain ⟨t14,ht14,hF⟩:=of_bindM hF
 refine at_front (.s .z) ?_
 refine at_callZ (γ:=G_api_Item) (V:=fun z=>.tuple #[.agg (Cd.cs c_api_Item (z,t14.1)).toArray,.int .i64 t14.2]) (Φ:=fun K s z=>NK_api_Item K s (z,t14.1)) func25 rfl (by kernel_rfl) rfl rfl (fun w hw=>script_Parse_ok ht14 hw hg_bytealg_MaxLen hg_strconv_ErrRange hg_strconv_ErrSyntax hg_strconv_uint64pow10) ?_
 intro Z_ s_ g16 hm15 hk17
 replace hz0:=NK_api_Item.mono hz0 hm15
 refine am rfl rfl ?_
 refine av rfl (r_extract rfl rfl) ?_
 refine av rfl (r_extract rfl rfl) ?_
 refine at_alloc (cs:=Cd.cs c_api_Item zv6) zeroValue33 rfl rfl ?_
 intro b18
 refine at_store (c:=c_api_Item) (z:=(g16,t14.1)) .z (Lens.whole _ _) sizeOf33 rfl rfl rfl ?_
 refine aa rfl rfl ?_
 refine nwx [7,6,5,4,1] rfl ?_
 refine am rfl rfl ?_
 refine av rfl (r_load_aggc (c:=c_api_Item) (z:=(g0_,x0)) isAgg33 sizeOf33 rfl (lens_cell (.s (.s .z)) (Lens.whole _ _))) ?_
 obtain ⟨t19,ht19,hF⟩:=of_bindM hF
 refine at_callB func26 rfl (by kernel_rfl) rfl rfl (fun w hw=>crawlwayref50_Text_ok _ _ _ ht19 w (NK_api_Item.n (NK_api_Item.mono hz0 (frz_mono (.s .z) hw)))) ?_
 refine av rfl (r_seql rfl rfl) ?_
 refine am rfl rfl ?_
 rcases oi hF with ⟨h20,hF⟩|⟨h20,hF⟩
 ·refine at_fix (g:=43) rfl h20 ?_
  refine gy rfl rfl rfl ?_
  refine am rfl rfl ?_
  refine gy rfl rfl rfl ?_
  refine av rfl (r_ieql rfl rfl) ?_
  refine av rfl (r_pick rfl rfl rfl) ?_
  refine am rfl rfl ?_
  rcases oi hF with ⟨h21,hF⟩|⟨h21,hF⟩
  ·refine at_fix (g:=47) rfl h21 ?_
   refine gy rfl rfl rfl ?_
   refine av rfl (r_load_aggc (c:=c_api_Item) (z:=(g16,t14.1)) isAgg33 sizeOf33 rfl (lens_cell .z (Lens.whole _ _))) ?_
   refine gy rfl rfl rfl ?_
   refine av rfl (r_load_aggc (c:=c_api_Item) (z:=(g0_,x0)) isAgg33 sizeOf33 rfl (lens_cell (.s (.s .z)) (Lens.whole _ _))) ?_
   refine gy rfl rfl rfl ?_
   obtain ⟨t22,ht22,hF⟩:=of_bindM hF
   refine at_callB func13 rfl (by kernel_rfl) rfl rfl (fun w hw=>crawlwayref50_Same_ok _ _ _ _ _ ht22 w (NK_api_Item.n (NK_api_Item.mono hk17 (frz_mono (.s .z) hw))) (NK_api_Item.n (NK_api_Item.mono hz0 (frz_mono (.s .z) hw)))) ?_
   refine av rfl (r_pick rfl rfl rfl) ?_
   refine am rfl rfl ?_
   rcases oi hF with ⟨h23,hF⟩|⟨h23,hF⟩
   ·refine at_fix (g:=52) rfl h23 ?_
    refine gy rfl rfl rfl ?_
    refine am rfl rfl ?_
    refine gy rfl rfl rfl ?_
    refine av rfl (r_ieql rfl rfl) ?_
    refine av rfl (r_pick rfl rfl rfl) ?_
    refine am rfl rfl ?_
    rcases oi hF with ⟨h24,hF⟩|⟨h24,hF⟩
    ·refine at_fix (g:=56) rfl h24 ?_
     refine gy rfl rfl rfl ?_
     obtain ⟨t25,ht25,hF⟩:=of_bindM hF
     refine at_callB func11 rfl (by kernel_rfl) rfl rfl (fun w hw=>crawlwaylaw50_alive_ok  _ ht25 w (hg_bytealg_MaxLen.on hw.below) (hg_strconv_ErrRange.on hw.below) (hg_strconv_ErrSyntax.on hw.below) (hg_strconv_uint64pow10.on hw.below)) ?_
     refine av rfl (r_pick rfl rfl rfl) ?_
     refine aa rfl rfl ?_
     refine at_nil ?_
     refine dz ?_
     refine at_drop (H:=_) (.s .z) ?_
     refine wq [2] rfl ?_
     refine tn ?_
     refine at_ret ?_
     have K:=of_some hF
     subst K
     exact at_return1 rfl rfl (fun w1 hw=>⟨rfl,hw.below⟩)
    refine at_fix (g:=56) rfl h24 ?_
    refine gn rfl rfl rfl rfl rfl ?_
    refine av rfl (r_pick rfl rfl rfl) ?_
    refine aa rfl rfl ?_
    refine at_nil ?_
    refine dz ?_
    refine at_drop (H:=_) (.s .z) ?_
    refine wq [2] rfl ?_
    refine tn ?_
    refine at_ret ?_
    have K:=of_some hF
    subst K
    exact at_return1 rfl rfl (fun w1 hw=>⟨rfl,hw.below⟩)
   refine at_fix (g:=52) rfl h23 ?_
   refine gn rfl rfl rfl rfl rfl ?_
   refine gn rfl rfl rfl rfl rfl ?_
   refine av rfl (r_pick rfl rfl rfl) ?_
   refine am rfl rfl ?_
   refine gn rfl rfl rfl rfl rfl ?_
   refine av rfl (r_pick rfl rfl rfl) ?_
   refine aa rfl rfl ?_
   refine at_nil ?_
   refine dz ?_
   refine at_drop (H:=_) (.s .z) ?_
   refine wq [2] rfl ?_
   refine tn ?_
   refine at_ret ?_
   have K:=of_some hF
   subst K
   exact at_return1 rfl rfl (fun w1 hw=>⟨rfl,hw.below⟩)
  refine at_fix (g:=47) rfl h21 ?_
  refine gn rfl rfl rfl rfl rfl ?_
  refine gn rfl rfl rfl rfl rfl ?_
  refine gn rfl rfl rfl rfl rfl ?_
  refine av rfl (r_pick rfl rfl rfl) ?_
  refine am rfl rfl ?_
  refine gn rfl rfl rfl rfl rfl ?_
  refine gn rfl rfl rfl rfl rfl ?_
  refine av rfl (r_pick rfl rfl rfl) ?_
  refine am rfl rfl ?_
  refine gn rfl rfl rfl rfl rfl ?_
  refine av rfl (r_pick rfl rfl rfl) ?_
  refine aa rfl rfl ?_
  refine at_nil ?_
  refine dz ?_
  refine at_drop (H:=_) (.s .z) ?_
  refine wq [2] rfl ?_
  refine tn ?_
  refine at_ret ?_
  have K:=of_some hF
  subst K
  exact at_return1 rfl rfl (fun w1 hw=>⟨rfl,hw.below⟩)
 refine at_fix (g:=43) rfl h20 ?_
 refine gn rfl rfl rfl rfl rfl ?_
 refine gn rfl rfl rfl rfl rfl ?_
 refine av rfl (r_pick rfl rfl rfl) ?_
 refine am rfl rfl ?_
 refine gn rfl rfl rfl rfl rfl ?_
 refine gn rfl rfl rfl rfl rfl ?_
 refine gn rfl rfl rfl rfl rfl ?_
 refine av rfl (r_pick rfl rfl rfl) ?_
 refine am rfl rfl ?_
 refine gn rfl rfl rfl rfl rfl ?_
 refine gn rfl rfl rfl rfl rfl ?_
 refine av rfl (r_pick rfl rfl rfl) ?_
 refine am rfl rfl ?_
 refine gn rfl rfl rfl rfl rfl ?_
 refine av rfl (r_pick rfl rfl rfl) ?_
 refine aa rfl rfl ?_
 refine at_nil ?_
 refine dz ?_
 refine at_drop (H:=_) (.s .z) ?_
 refine wq [2] rfl ?_
 refine tn ?_
 refine at_ret ?_
 have K:=of_some hF
 subst K
 exact at_return1 rfl rfl (fun w1 hw=>⟨rfl,hw.below⟩)
end Go.Proofs.YtkkmmpofdcccmaaGreatDoor
namespace Go.Proofs.YtkkmmpofdcccmaaGreatDoor.Scr
open E Go.RowKit
open Adr AdrT
theorem seq_dec (a b : ByteArray) : seq a b = decide (a = b):=by rw [Bool.eq_iff_iff,seq_iff,decide_eq_true_eq]
def U (s : ByteArray) : List Int × Int:=if s = (⟨#[45]⟩ : ByteArray) then ([],0) else if s = (⟨#[]⟩ : ByteArray) then ([],5) else match Hex.dec s with
  | some k=>(ob k,0)
  | none=>([],5)
theorem unword_code (s : ByteArray) (hs : s.size < 1000000) : script_unword s = some (U s):=by
  unfold script_unword U
  rw [seq_dec,seq_dec,Hex.decode_eq s hs]
  by_cases h1 : s = (⟨#[45]⟩ : ByteArray)
  · rw [if_pos (decide_eq_true h1),if_pos h1]
  · rw [if_neg (by simpa using h1),if_neg h1]
    by_cases h2 : s = (⟨#[]⟩ : ByteArray)
    · rw [if_pos (decide_eq_true h2),if_pos h2]
    · rw [if_neg (by simpa using h2),if_neg h2,bindM_some]; rfl
theorem dec_empty {s : ByteArray} (h : Hex.dec s = some []) : s = (⟨#[]⟩ : ByteArray):=by
  rw [← Hex.enc_dec s [] h]; rfl
theorem bytes_ref (s : ByteArray) (hs : s.size < 1000000) : crawlwayref50_bytes s = some (U s):=by
  unfold crawlwayref50_bytes U
  rw [seq_dec,Hex.refDecode_eq s hs]
  by_cases h1 : s = (⟨#[45]⟩ : ByteArray)
  · rw [if_pos (decide_eq_true h1),if_pos h1]
  · rw [if_neg (by simpa using h1),if_neg h1,bindM_some]
    by_cases h2 : s = (⟨#[]⟩ : ByteArray)
    · rw [if_pos h2]
      subst h2
      have : Hex.dec (⟨#[]⟩ : ByteArray) = some []:=by decide +kernel
      rw [this]; rfl
    · rw [if_neg h2]
      cases hd : Hex.dec s with
      | none=>rfl
      | some k =>
        cases k with
        | nil=>exact absurd (dec_empty hd) h2
        | cons a r=>rfl
abbrev n1 : ByteArray:=⟨#[115,101,116]⟩
abbrev n2 : ByteArray:=⟨#[108,111,97,100]⟩
abbrev n3 : ByteArray:=⟨#[111,117,116]⟩
abbrev n4 : ByteArray:=⟨#[105,110]⟩
abbrev n5 : ByteArray:=⟨#[105,110,115,116,97,108,108]⟩
abbrev n6 : ByteArray:=⟨#[102,111,114,103,101,116]⟩
def knd (s : ByteArray) : Int:=if n1 = s then 1 else if n2 = s then 2 else if n3 = s then 3 else if n4 = s then 4 else if n5 = s then 5 else if n6 = s then 6 else 0
theorem kind_code (s : ByteArray) : script_kind s = some (knd s):=by
  unfold script_kind knd
  simp only [seq_dec,decide_eq_true_eq]
  repeat' split
  all_goals first | rfl | contradiction
theorem knd_cases (s : ByteArray) : knd s = 0 ∨ knd s = 1 ∨ knd s = 2 ∨ knd s = 3 ∨ knd s = 4 ∨ knd s = 5 ∨ knd s = 6:=by
  unfold knd
  repeat' split
  all_goals simp
abbrev NM : List ByteArray:=[⟨#[]⟩,n1,n2,n3,n4,n5,n6]
theorem kind_step (t : List ByteArray) (ht : 0 < t.length) (i : Nat) (h1 : 1 ≤ i) (h6 : i ≤ 6) (x : S_api_Item) : crawlwayref50_Parse.l0 t (i : Int) x = crawlwayref50_Parse.l0 t ((i + 1 : Nat) : Int) (if lget NM (i : Int) = lget t 0 then { x with f_Kind:=(i : Int) } else x):=by
  rw [crawlwayref50_Parse.l0.eq_def,if_pos (by rw [decide_eq_true_eq]; omega),if_pos (by show (0 : Int) ≤ (i : Int) ∧ (i : Int) < 7; omega),if_pos (by omega),wr_i i (by omega),seq_dec]
  by_cases h : lget NM (i : Int) = lget t 0
  · rw [if_pos (decide_eq_true h),if_pos h]
  · rw [if_neg (by simpa using h),if_neg h]
theorem kind_ref (t : List ByteArray) (ht : 0 < t.length) : crawlwayref50_Parse.l0 t 1 zI = some { zI with f_Kind:=knd (lget t 0) }:=by
  rw [show (1 : Int) = ((1 : Nat) : Int) from rfl,kind_step t ht 1 (by omega) (by omega),kind_step t ht 2 (by omega) (by omega),kind_step t ht 3 (by omega) (by omega),kind_step t ht 4 (by omega) (by omega),kind_step t ht 5 (by omega) (by omega),kind_step t ht 6 (by omega) (by omega),crawlwayref50_Parse.l0.eq_def,if_neg (by decide)]
  congr 1
  show (if n6 = lget t 0 then _ else if n5 = lget t 0 then _ else _) = _
  generalize lget t 0 = w
  unfold knd
  by_cases e1 : n1 = w
  · subst e1; decide +kernel
  by_cases e2 : n2 = w
  · subst e2; decide +kernel
  by_cases e3 : n3 = w
  · subst e3; decide +kernel
  by_cases e4 : n4 = w
  · subst e4; decide +kernel
  by_cases e5 : n5 = w
  · subst e5; decide +kernel
  by_cases e6 : n6 = w
  · subst e6; decide +kernel
  rw [if_neg e6,if_neg e5]
  show (if n4 = w then _ else if n3 = w then _ else if n2 = w then _ else if n1 = w then _ else _) = _
  rw [if_neg e4,if_neg e3,if_neg e2,if_neg e1,if_neg e1,if_neg e2,if_neg e3,if_neg e4,if_neg e5,if_neg e6]; rfl
def K (s : ByteArray) : Vector Int 32 × Int:=Key.par (match Hex.dec s with | some k=>(ob k,0) | none=>([],5))
theorem key_code (s : ByteArray) (hs : s.size < 1000000) : keys_ParseHex s = some (K s):=by
  unfold keys_ParseHex K; rw [Hex.decode_eq s hs,bindM_some]; exact Key.parse_of _ Key.keysOf_eq
theorem key_ref (s : ByteArray) (hs : s.size < 1000000) : crawlwayref07_ParseHex s = some (K s):=by
  unfold crawlwayref07_ParseHex K; rw [Hex.refDecode_eq s hs,bindM_some]; exact Key.parse_ref _
def D (s : ByteArray) (m : Nat) : Int × Int:=iiOf (rdU s.data.toList m)
theorem dec_code (s : ByteArray) (hs : s.size < 1000000) (m : Nat) (hm : m < 18446744073709551616) : decimal_Read s (m : Int) = some (D s m):=read_code s m (by omega) hm
theorem dec_ref (s : ByteArray) (hs : s.size < 1000000) (m : Nat) (hm : m < 18446744073709551616) : crawlwayref03_Read s (m : Int) = some (D s m):=read_ref s m (by omega) hm
def H (s : ByteArray) : S_api_Endpoint × Int:=Host.endP s.data.toList
theorem host_code (s : ByteArray) (hs : s.size < 100000) : hostport_Parse s = some (H s):=by
  have h:=Host.host_parse s.data.toList (by rw [size_toList]; exact hs)
  rw [← eq_bs s] at h; exact h
theorem host_ref (s : ByteArray) (hs : s.size < 100000) : crawlwayref12_Parse s = some (H s):=by
  have h:=Host.ref_parse12 s.data.toList (by rw [size_toList]; exact hs)
  rw [← eq_bs s] at h; exact h
def out {α : Type} (u : α × Int) (f : α → S_api_Item × Int) : S_api_Item × Int:=if u.2 = 0 then f u.1 else (zI,u.2)
def ans (x : S_api_Item) (s : ByteArray) : S_api_Item × Int:=if s = (⟨#[33]⟩ : ByteArray) then (x,0) else out (U s) fun r=>({ x with f_Ok:=true,f_Result:=r },0)
def M32 : Nat:=4294967295
def M64 : Nat:=18446744073709551615
def pB (t : List ByteArray) : S_api_Item × Int :=
  if knd (lget t 0) = 1 then (if t.length = 2 then out (U (lget t 1)) fun b=>({ zI with f_Kind:=1,f_Bytes:=b },0) else (zI,5))
  else if knd (lget t 0) = 2 then (if t.length = 2 then out (U (lget t 1)) fun b=>({ zI with f_Kind:=2,f_Bytes:=b },0) else (zI,5))
  else if knd (lget t 0) = 3 then (if t.length = 3 then out (U (lget t 1)) fun b=>ans { zI with f_Kind:=3,f_Bytes:=b } (lget t 2) else (zI,5))
  else if knd (lget t 0) = 4 then (if t.length = 4 then out (H (lget t 1)) fun e=>out (U (lget t 2)) fun b=>ans { zI with f_Kind:=4,f_From:=e,f_Bytes:=b } (lget t 3) else (zI,5))
  else if knd (lget t 0) = 5 then (if t.length = 5 then out (K (lget t 1)) fun v=>out (D (lget t 2) M32) fun a=>out (D (lget t 3) M32) fun b=>out (D (lget t 4) M64) fun c=>({ zI with f_Kind:=5,f_Key:=v,f_Local:=wr .u32 a,f_Remote:=wr .u32 b,f_Next:=c },0) else (zI,5))
  else if knd (lget t 0) = 6 then (if t.length = 2 then out (D (lget t 1) M32) fun a=>({ zI with f_Kind:=6,f_Local:=wr .u32 a },0) else (zI,5))
  else (zI,12)
theorem out_code {α : Type} {u : α × Int} {A : Option (S_api_Item × Int)} {f : α → S_api_Item × Int} (h : u.2 = 0 → A = some (f u.1)) : (if (u.2 != 0) = true then (some (zI,u.2)) else A) = some (out u f):=by
  unfold out
  by_cases h0 : u.2 = 0
  · rw [if_neg (by simp [h0]),if_pos h0,h h0]
  · rw [if_pos (by simpa using h0),if_neg h0]
theorem lget_sz {t : List ByteArray} (hs : ∀ s ∈ t,s.size < 100000) (i : Nat) (h : i < t.length) : (lget t (i : Int)).size < 100000:=hs _ (lget_mem t i h)
theorem wr01 : wr .i64 (0 + 1) = 1:=by decide
theorem wr12 : wr .i64 (1 + 1) = 2:=by decide
theorem wr23 : wr .i64 (2 + 1) = 3:=by decide
theorem wr34 : wr .i64 (3 + 1) = 4:=by decide
theorem cnt {t : List ByteArray} (hn : t.length ≤ 10000) (m : Nat) (hm : m < 100) : (wr .i64 ((t.length : Int) - 1) != (m : Int)) = !decide (t.length = m + 1):=by
  have : wr .i64 ((t.length : Int) - 1) = (t.length : Int) - 1:=by
    by_cases h : t.length = 0
    · rw [h]; decide
    · rw [wr_i64 (by omega) (by omega)]
  rw [this,Bool.eq_iff_iff]
  simp
  omega
theorem ans_code {x : S_api_Item} {s : ByteArray} (hs : s.size < 1000000) : (if (seq s (⟨#[33]⟩ : ByteArray)) = true then (some (x,0)) else (script_unword s >>= fun u=>if (u.2 != 0) = true then (some (zI,u.2)) else (some ({ { x with f_Ok:=true } with f_Result:=u.1 },0)))) = some (ans x s):=by
  unfold ans
  rw [seq_dec,unword_code s hs,bindM_some]
  by_cases h : s = (⟨#[33]⟩ : ByteArray)
  · rw [if_pos (decide_eq_true h),if_pos h]
  · rw [if_neg (by simpa using h),if_neg h]
    exact out_code (f:=fun r=>({ x with f_Ok:=true,f_Result:=r },0)) fun _=>rfl
theorem pB1 {t : List ByteArray} (h : knd (lget t 0) = 1) : pB t = if t.length = 2 then out (U (lget t 1)) fun b=>({ zI with f_Kind:=1,f_Bytes:=b },0) else (zI,5):=by
  unfold pB; rw [h]; rw [if_pos rfl]
theorem pB2 {t : List ByteArray} (h : knd (lget t 0) = 2) : pB t = if t.length = 2 then out (U (lget t 1)) fun b=>({ zI with f_Kind:=2,f_Bytes:=b },0) else (zI,5):=by
  unfold pB; rw [h]; rw [if_neg (by decide)]; rw [if_pos rfl]
theorem pB3 {t : List ByteArray} (h : knd (lget t 0) = 3) : pB t = if t.length = 3 then out (U (lget t 1)) fun b=>ans { zI with f_Kind:=3,f_Bytes:=b } (lget t 2) else (zI,5):=by
  unfold pB; rw [h]; rw [if_neg (by decide)]; rw [if_neg (by decide)]; rw [if_pos rfl]
theorem pB4 {t : List ByteArray} (h : knd (lget t 0) = 4) : pB t = if t.length = 4 then out (H (lget t 1)) fun e=>out (U (lget t 2)) fun b=>ans { zI with f_Kind:=4,f_From:=e,f_Bytes:=b } (lget t 3) else (zI,5):=by
  unfold pB; rw [h]; rw [if_neg (by decide)]; rw [if_neg (by decide)]; rw [if_neg (by decide)]; rw [if_pos rfl]
theorem pB5 {t : List ByteArray} (h : knd (lget t 0) = 5) : pB t = if t.length = 5 then out (K (lget t 1)) fun v=>out (D (lget t 2) M32) fun a=>out (D (lget t 3) M32) fun b=>out (D (lget t 4) M64) fun c=>({ zI with f_Kind:=5,f_Key:=v,f_Local:=wr .u32 a,f_Remote:=wr .u32 b,f_Next:=c },0) else (zI,5):=by
  unfold pB; rw [h]; rw [if_neg (by decide)]; rw [if_neg (by decide)]; rw [if_neg (by decide)]; rw [if_neg (by decide)]; rw [if_pos rfl]
theorem pB6 {t : List ByteArray} (h : knd (lget t 0) = 6) : pB t = if t.length = 2 then out (D (lget t 1) M32) fun a=>({ zI with f_Kind:=6,f_Local:=wr .u32 a },0) else (zI,5):=by
  unfold pB; rw [h]; rw [if_neg (by decide)]; rw [if_neg (by decide)]; rw [if_neg (by decide)]; rw [if_neg (by decide)]; rw [if_neg (by decide)]; rw [if_pos rfl]
theorem pB0 {t : List ByteArray} (h : knd (lget t 0) = 0) : pB t = (zI,12):=by
  unfold pB; rw [h]; rfl
theorem parse_code (s : ByteArray) (t : List ByteArray) (hp : lines_Parts s 32 = some t) (ht : 0 < t.length) (hn : t.length ≤ 10000) (hs : ∀ s ∈ t,s.size < 100000) : script_Parse s = some (pB t):=by
  have sz:=fun i h=>lget_sz hs i h
  unfold script_Parse
  rw [if_pos (by decide),show bt (⟨#[32]⟩ : ByteArray) 0 = 32 from by decide +kernel,hp,bindM_some,if_pos (by omega),kind_code,bindM_some]
  have c1:=cnt hn 1 (by omega)
  have c2:=cnt hn 2 (by omega)
  have c3:=cnt hn 3 (by omega)
  have c4:=cnt hn 4 (by omega)
  rcases knd_cases (lget t 0) with h | h | h | h | h | h | h
  · rw [pB0 h,h]; rfl
  · rw [pB1 h,h,if_pos (by rfl)]
    show (if (wr .i64 ((t.length : Int) - 1) != ((1 : Nat) : Int)) = true then _ else _) = _
    rw [c1]
    by_cases hl : t.length = 2
    · rw [if_neg (by simp [hl]),if_pos hl,wr01,if_pos (by omega),unword_code _ (by have:=sz 1 (by omega); exact Nat.lt_of_lt_of_le this (by omega)),bindM_some]
      exact out_code fun _=>rfl
    · rw [if_pos (by simp; omega),if_neg hl]; rfl
  · rw [pB2 h,h,if_neg (by decide),if_pos (by rfl)]
    show (if (wr .i64 ((t.length : Int) - 1) != ((1 : Nat) : Int)) = true then _ else _) = _
    rw [c1]
    by_cases hl : t.length = 2
    · rw [if_neg (by simp [hl]),if_pos hl,wr01,if_pos (by omega),unword_code _ (by have:=sz 1 (by omega); exact Nat.lt_of_lt_of_le this (by omega)),bindM_some]
      exact out_code fun _=>rfl
    · rw [if_pos (by simp; omega),if_neg hl]; rfl
  · rw [pB3 h,h,if_neg (by decide),if_neg (by decide),if_pos (by rfl)]
    show (if (wr .i64 ((t.length : Int) - 1) != ((2 : Nat) : Int)) = true then _ else _) = _
    rw [c2]
    by_cases hl : t.length = 3
    · rw [if_neg (by simp [hl]),if_pos hl,wr01,wr12,if_pos (by omega),unword_code _ (by have:=sz 1 (by omega); exact Nat.lt_of_lt_of_le this (by omega)),bindM_some]
      refine out_code fun _=>?_
      rw [if_pos (by omega)]
      exact ans_code (by have:=sz 2 (by omega); exact Nat.lt_of_lt_of_le this (by omega))
    · rw [if_pos (by simp; omega),if_neg hl]; rfl
  · rw [pB4 h,h,if_neg (by decide),if_neg (by decide),if_neg (by decide),if_pos (by rfl)]
    show (if (wr .i64 ((t.length : Int) - 1) != ((3 : Nat) : Int)) = true then _ else _) = _
    rw [c3]
    by_cases hl : t.length = 4
    · rw [if_neg (by simp [hl]),if_pos hl,wr01,wr12,wr23,if_pos (by omega),host_code (lget t 1) (sz 1 (by omega)),bindM_some]
      refine out_code fun _=>?_
      rw [if_pos (by omega),unword_code _ (by have:=sz 2 (by omega); exact Nat.lt_of_lt_of_le this (by omega)),bindM_some]
      refine out_code fun _=>?_
      rw [if_pos (by omega)]
      exact ans_code (by have:=sz 3 (by omega); exact Nat.lt_of_lt_of_le this (by omega))
    · rw [if_pos (by simp; omega),if_neg hl]; rfl
  · rw [pB5 h,h,if_neg (by decide),if_neg (by decide),if_neg (by decide),if_neg (by decide),if_pos (by rfl)]
    show (if (wr .i64 ((t.length : Int) - 1) != ((4 : Nat) : Int)) = true then _ else _) = _
    rw [c4]
    have d32:=fun (i : Nat) (h : i < t.length)=>dec_code (lget t (i : Int)) (Nat.lt_of_lt_of_le (sz i h) (by omega)) M32 (by decide)
    have d64:=fun (i : Nat) (h : i < t.length)=>dec_code (lget t (i : Int)) (Nat.lt_of_lt_of_le (sz i h) (by omega)) M64 (by decide)
    by_cases hl : t.length = 5
    · rw [if_neg (by simp [hl]),if_pos hl,wr01,wr12,wr23,wr34,if_pos (by omega),key_code _ (by have:=sz 1 (by omega); exact Nat.lt_of_lt_of_le this (by omega)),bindM_some]
      refine out_code fun _=>?_
      have e2:=d32 2 (by omega)
      have e3:=d32 3 (by omega)
      have e4:=d64 4 (by omega)
      rw [if_pos (by omega)]
      show (decimal_Read (lget t ((2 : Nat) : Int)) (M32 : Int) >>= _) = _
      rw [e2,bindM_some]
      refine out_code fun _=>?_
      rw [if_pos (by omega)]
      show (decimal_Read (lget t ((3 : Nat) : Int)) (M32 : Int) >>= _) = _
      rw [e3,bindM_some]
      refine out_code fun _=>?_
      rw [if_pos (by omega)]
      show (decimal_Read (lget t ((4 : Nat) : Int)) (M64 : Int) >>= _) = _
      rw [e4,bindM_some]
      exact out_code fun _=>rfl
    · rw [if_pos (by simp; omega),if_neg hl]; rfl
  · rw [pB6 h,h,if_neg (by decide),if_neg (by decide),if_neg (by decide),if_neg (by decide),if_neg (by decide),if_pos (by rfl)]
    show (if (wr .i64 ((t.length : Int) - 1) != ((1 : Nat) : Int)) = true then _ else _) = _
    rw [c1]
    have d32:=fun (i : Nat) (h : i < t.length)=>dec_code (lget t (i : Int)) (Nat.lt_of_lt_of_le (sz i h) (by omega)) M32 (by decide)
    by_cases hl : t.length = 2
    · rw [if_neg (by simp [hl]),if_pos hl,wr01,if_pos (by omega)]
      have e1:=d32 1 (by omega)
      show (decimal_Read (lget t ((1 : Nat) : Int)) (M32 : Int) >>= _) = _
      rw [e1,bindM_some]
      exact out_code fun _=>rfl
    · rw [if_pos (by simp; omega),if_neg hl]; rfl
theorem take_step (t : List ByteArray) (hn : t.length ≤ 10000) (i : Nat) (h1 : 1 ≤ i) (hi : i < t.length) (x : S_api_Item) (P : S_api_Item × Int) (hP : crawlwayref50_take x ((i - 1 : Nat) : Int) (lget t (i : Int)) = some P) :
    crawlwayref50_Parse.l1 t (i : Int) x = if P.2 = 0 then crawlwayref50_Parse.l1 t ((i + 1 : Nat) : Int) P.1 else some (.ret (zI,P.2)):=by
  have hw : wr .i64 ((i : Int) - 1) = ((i - 1 : Nat) : Int):=by rw [wr_i64 (by omega) (by omega)]; omega
  rw [crawlwayref50_Parse.l1.eq_def,if_pos (by rw [decide_eq_true_eq]; omega),if_pos (by omega),hw,hP,bindM_some,wr_i i (by omega)]
  by_cases h : P.2 = 0
  · rw [if_neg (by simp [h]),if_pos h]
  · rw [if_pos (by simpa using h),if_neg h]; rfl
theorem take_end (t : List ByteArray) (x : S_api_Item) : crawlwayref50_Parse.l1 t ((t.length : Nat) : Int) x = some (.nx x):=by
  rw [crawlwayref50_Parse.l1.eq_def,if_neg (by rw [decide_eq_true_eq]; omega)]
def fin (q : Option (Ctl (S_api_Item × Int) S_api_Item)) : Option (S_api_Item × Int):=q >>= fun q=>match q with | .ret r'=>some r' | .nx x=>some (x,0)
theorem fin_step {t : List ByteArray} (hn : t.length ≤ 10000) {i : Nat} (h1 : 1 ≤ i) (hi : i < t.length) {x : S_api_Item} {α : Type} {u : α × Int} {X : S_api_Item} {f : α → S_api_Item × Int} (hP : crawlwayref50_take x ((i - 1 : Nat) : Int) (lget t (i : Int)) = some (X,u.2)) (hf : u.2 = 0 → fin (crawlwayref50_Parse.l1 t ((i + 1 : Nat) : Int) X) = some (f u.1)) :
    fin (crawlwayref50_Parse.l1 t (i : Int) x) = some (out u f):=by
  rw [take_step t hn i h1 hi x _ hP]
  unfold out
  by_cases h : u.2 = 0
  · rw [if_pos h,if_pos h]; exact hf h
  · rw [if_neg h,if_neg h]; rfl
theorem fin_end {t : List ByteArray} {i : Nat} (h : t.length = i) (x : S_api_Item) : fin (crawlwayref50_Parse.l1 t (i : Int) x) = some (x,0):=by
  rw [← h,take_end]; rfl
theorem parse_ref (s : ByteArray) (t : List ByteArray) (hp : crawlwayref06_Parts s 32 = some t) (ht : 0 < t.length) (hn : t.length ≤ 10000) (hs : ∀ s ∈ t,s.size < 100000) : crawlwayref50_Parse s = some (pB t):=by
  have sz:=fun (i : Nat) (h : i < t.length)=>lget_sz hs i h
  have bt:=fun (i : Nat) (h : i < t.length)=>bytes_ref (lget t (i : Int)) (Nat.lt_of_lt_of_le (sz i h) (by omega))
  have d32:=fun (i : Nat) (h : i < t.length)=>dec_ref (lget t (i : Int)) (Nat.lt_of_lt_of_le (sz i h) (by omega)) M32 (by decide)
  have d64:=fun (i : Nat) (h : i < t.length)=>dec_ref (lget t (i : Int)) (Nat.lt_of_lt_of_le (sz i h) (by omega)) M64 (by decide)
  have t123 : ∀ (x : S_api_Item),(x.f_Kind = 1 ∨ x.f_Kind = 2 ∨ x.f_Kind = 3) → ∀ (j : Nat) (h : j < t.length),crawlwayref50_take x 0 (lget t (j : Int)) = some ({ x with f_Bytes:=(U (lget t (j : Int))).1 },(U (lget t (j : Int))).2):=fun x hx j h=>by
    unfold crawlwayref50_take
    rw [bt j h]
    rcases hx with e | e | e <;> simp [e]
  have tans : ∀ (x : S_api_Item) (k : Int),(x.f_Kind = 3 ∧ k = 1 ∨ x.f_Kind = 4 ∧ k = 2) → ∀ (j : Nat) (h : j < t.length),crawlwayref50_take x k (lget t (j : Int)) = some (if lget t (j : Int) = (⟨#[33]⟩ : ByteArray) then (x,0) else ({ x with f_Ok:=true,f_Result:=(U (lget t (j : Int))).1 },(U (lget t (j : Int))).2)):=fun x k hx j h=>by
    unfold crawlwayref50_take
    rw [bt j h,seq_dec]
    have w1 : ¬ wr .i64 (1 : Int) = 0:=by decide
    rcases hx with ⟨e,rfl⟩ | ⟨e,rfl⟩
    · by_cases q : lget t (j : Int) = (⟨#[33]⟩ : ByteArray)
      · simp [e,q]
      · simp [e,q]
    · by_cases q : lget t (j : Int) = (⟨#[33]⟩ : ByteArray)
      · simp [e,q,w1]
      · simp [e,q,w1]
  have fans : ∀ (x : S_api_Item) (j : Nat),1 ≤ j → (x.f_Kind = 3 ∧ j = 2 ∨ x.f_Kind = 4 ∧ j = 3) → t.length = j + 1 → fin (crawlwayref50_Parse.l1 t (j : Int) x) = some (ans x (lget t (j : Int))):=fun x j h1 hx hl=>by
    have ht:=tans x ((j - 1 : Nat) : Int) (by rcases hx with ⟨e,rfl⟩ | ⟨e,rfl⟩; exact .inl ⟨e,rfl⟩; exact .inr ⟨e,rfl⟩) j (by omega)
    rw [take_step t hn j h1 (by omega) x _ ht]
    unfold ans
    by_cases q : lget t (j : Int) = (⟨#[33]⟩ : ByteArray)
    · rw [if_pos q,if_pos q,if_pos rfl]; exact fin_end hl _
    · rw [if_neg q,if_neg q]
      unfold out
      by_cases h0 : (U (lget t (j : Int))).2 = 0
      · rw [if_pos h0,if_pos h0]; exact fin_end hl _
      · rw [if_neg h0,if_neg h0]; rfl
  unfold crawlwayref50_Parse
  rw [hp,bindM_some]
  show (crawlwayref50_Parse.l0 t 1 zI >>= _) = _
  rw [kind_ref t ht,bindM_some]
  have many : ∀ (n : Nat),n < 100 → ((t.length : Int) != (n : Int)) = !decide (t.length = n):=fun n hn=>by
    rw [Bool.eq_iff_iff]; simp; omega
  show (if (knd (lget t 0) == 0) = true then (some ({ zI with f_Kind:=knd (lget t 0) },12)) else (if (0 : Int) ≤ knd (lget t 0) ∧ knd (lget t 0) < 7 then if ((t.length : Int) != lget ([0,2,2,3,4,5,2] : List Int) (knd (lget t 0))) = true then (some (zI,5)) else fin (crawlwayref50_Parse.l1 t ((1 : Nat) : Int) { zI with f_Kind:=knd (lget t 0) }) else none)) = _
  rcases knd_cases (lget t 0) with h | h | h | h | h | h | h
  · rw [pB0 h,h,if_pos (by rfl)]; rfl
  · rw [pB1 h,h,if_neg (by decide),if_pos (by decide)]
    show (if ((t.length : Int) != ((2 : Nat) : Int)) = true then _ else _) = _
    rw [many 2 (by omega)]
    by_cases hl : t.length = 2
    · rw [if_neg (by simp [hl]),if_pos hl]
      exact fin_step hn (by omega) (by omega) (t123 _ (.inl rfl) 1 (by omega)) fun _=>fin_end hl _
    · rw [if_pos (by simp [hl]),if_neg hl]
  · rw [pB2 h,h,if_neg (by decide),if_pos (by decide)]
    show (if ((t.length : Int) != ((2 : Nat) : Int)) = true then _ else _) = _
    rw [many 2 (by omega)]
    by_cases hl : t.length = 2
    · rw [if_neg (by simp [hl]),if_pos hl]
      exact fin_step hn (by omega) (by omega) (t123 _ (.inr (.inl rfl)) 1 (by omega)) fun _=>fin_end hl _
    · rw [if_pos (by simp [hl]),if_neg hl]
  · rw [pB3 h,h,if_neg (by decide),if_pos (by decide)]
    show (if ((t.length : Int) != ((3 : Nat) : Int)) = true then _ else _) = _
    rw [many 3 (by omega)]
    by_cases hl : t.length = 3
    · rw [if_neg (by simp [hl]),if_pos hl]
      exact fin_step hn (by omega) (by omega) (t123 _ (.inr (.inr rfl)) 1 (by omega)) fun _=>fans _ 2 (by omega) (.inl ⟨rfl,rfl⟩) hl
    · rw [if_pos (by simp [hl]),if_neg hl]
  · rw [pB4 h,h,if_neg (by decide),if_pos (by decide)]
    show (if ((t.length : Int) != ((4 : Nat) : Int)) = true then _ else _) = _
    rw [many 4 (by omega)]
    by_cases hl : t.length = 4
    · rw [if_neg (by simp [hl]),if_pos hl]
      have hh:=host_ref (lget t ((1 : Nat) : Int)) (sz 1 (by omega))
      have e1 : crawlwayref50_take { zI with f_Kind:=4 } ((1 - 1 : Nat) : Int) (lget t ((1 : Nat) : Int)) = some ({ zI with f_Kind:=4,f_From:=(H (lget t ((1 : Nat) : Int))).1 },(H (lget t ((1 : Nat) : Int))).2):=by
        unfold crawlwayref50_take
        rw [hh]; rfl
      refine fin_step hn (by omega) (by omega) e1 fun _=>?_
      have e2 : ∀ x : S_api_Item,x.f_Kind = 4 → crawlwayref50_take x ((2 - 1 : Nat) : Int) (lget t ((2 : Nat) : Int)) = some ({ x with f_Bytes:=(U (lget t ((2 : Nat) : Int))).1 },(U (lget t ((2 : Nat) : Int))).2):=fun x e=>by
        unfold crawlwayref50_take
        rw [bt 2 (by omega)]
        have w1 : wr .i64 (0 : Int) = 0:=by decide
        simp [e,w1]
      refine fin_step hn (by omega) (by omega) (e2 _ rfl) fun _=>?_
      exact fans _ 3 (by omega) (.inr ⟨rfl,rfl⟩) hl
    · rw [if_pos (by simp [hl]),if_neg hl]
  · rw [pB5 h,h,if_neg (by decide),if_pos (by decide)]
    show (if ((t.length : Int) != ((5 : Nat) : Int)) = true then _ else _) = _
    rw [many 5 (by omega)]
    by_cases hl : t.length = 5
    · rw [if_neg (by simp [hl]),if_pos hl]
      have hk:=key_ref (lget t ((1 : Nat) : Int)) (by have:=sz 1 (by omega); exact Nat.lt_of_lt_of_le this (by omega))
      have g2:=d32 2 (by omega)
      have g3:=d32 3 (by omega)
      have g4:=d64 4 (by omega)
      unfold M32 at g2 g3
      unfold M64 at g4
      have e1 : crawlwayref50_take { zI with f_Kind:=5 } ((1 - 1 : Nat) : Int) (lget t ((1 : Nat) : Int)) = some ({ zI with f_Kind:=5,f_Key:=(K (lget t ((1 : Nat) : Int))).1 },(K (lget t ((1 : Nat) : Int))).2):=by
        unfold crawlwayref50_take
        rw [hk]; rfl
      refine fin_step hn (by omega) (by omega) e1 fun _=>?_
      have e2 : ∀ x : S_api_Item,x.f_Kind = 5 → crawlwayref50_take x ((2 - 1 : Nat) : Int) (lget t ((2 : Nat) : Int)) = some ({ x with f_Local:=wr .u32 (D (lget t ((2 : Nat) : Int)) M32).1 },(D (lget t ((2 : Nat) : Int)) M32).2):=fun x e=>by
        unfold crawlwayref50_take
        simp [e]
        erw [g2]; rfl
      refine fin_step hn (by omega) (by omega) (e2 _ rfl) fun _=>?_
      have e3 : ∀ x : S_api_Item,x.f_Kind = 5 → crawlwayref50_take x ((3 - 1 : Nat) : Int) (lget t ((3 : Nat) : Int)) = some ({ x with f_Remote:=wr .u32 (D (lget t ((3 : Nat) : Int)) M32).1 },(D (lget t ((3 : Nat) : Int)) M32).2):=fun x e=>by
        unfold crawlwayref50_take
        simp [e]
        erw [g3]; rfl
      refine fin_step hn (by omega) (by omega) (e3 _ rfl) fun _=>?_
      have e4 : ∀ x : S_api_Item,x.f_Kind = 5 → crawlwayref50_take x ((4 - 1 : Nat) : Int) (lget t ((4 : Nat) : Int)) = some ({ x with f_Next:=(D (lget t ((4 : Nat) : Int)) M64).1 },(D (lget t ((4 : Nat) : Int)) M64).2):=fun x e=>by
        unfold crawlwayref50_take
        simp [e]
        erw [g4]; rfl
      exact fin_step hn (by omega) (by omega) (e4 _ rfl) fun _=>fin_end hl _
    · rw [if_pos (by simp [hl]),if_neg hl]
  · rw [pB6 h,h,if_neg (by decide),if_pos (by decide)]
    show (if ((t.length : Int) != ((2 : Nat) : Int)) = true then _ else _) = _
    rw [many 2 (by omega)]
    by_cases hl : t.length = 2
    · rw [if_neg (by simp [hl]),if_pos hl]
      have g1:=d32 1 (by omega)
      unfold M32 at g1
      have e1 : ∀ x : S_api_Item,x.f_Kind = 6 → crawlwayref50_take x ((1 - 1 : Nat) : Int) (lget t ((1 : Nat) : Int)) = some ({ x with f_Local:=wr .u32 (D (lget t ((1 : Nat) : Int)) M32).1 },(D (lget t ((1 : Nat) : Int)) M32).2):=fun x e=>by
        unfold crawlwayref50_take
        simp [e]
        erw [g1]; rfl
      exact fin_step hn (by omega) (by omega) (e1 _ rfl) fun _=>fin_end hl _
    · rw [if_pos (by simp [hl]),if_neg hl]
end Go.Proofs.YtkkmmpofdcccmaaGreatDoor.Scr
namespace Go.Proofs.YtkkmmpofdcccmaaGreatDoor.Scr
open E Go.RowKit
open Adr AdrT
inductive Rt : S_api_Item → Prop
  | k12 (k : Int) (hk : k = 1 ∨ k = 2) (b : List Int) : Rt { zI with f_Kind:=k,f_Bytes:=b }
  | k3n (b : List Int) : Rt { zI with f_Kind:=3,f_Bytes:=b }
  | k3y (b r : List Int) : Rt { zI with f_Kind:=3,f_Bytes:=b,f_Result:=r,f_Ok:=true }
  | k4n (b : List Int) (e : S_api_Endpoint) (h : hostport_Right e = some true) : Rt { zI with f_Kind:=4,f_From:=e,f_Bytes:=b }
  | k4y (b r : List Int) (e : S_api_Endpoint) (h : hostport_Right e = some true) : Rt { zI with f_Kind:=4,f_From:=e,f_Bytes:=b,f_Result:=r,f_Ok:=true }
  | k5 (v : Vector Int 32) (a b c : Int) : Rt { zI with f_Kind:=5,f_Key:=v,f_Local:=a,f_Remote:=b,f_Next:=c }
  | k6 (a : Int) : Rt { zI with f_Kind:=6,f_Local:=a }
theorem host_right (e : S_api_Endpoint) (h : ok_api_Endpoint e) : ∃ b,hostport_Right e = some b ∧ crawlwayref12_Right e = some b:=by
  obtain ⟨V,l,n,rfl,hl,_⟩:=Host.exists_mkE e h
  exact ⟨_,Host.right_code12 hl,Host.right_ref12 hl⟩
theorem tail_ref {x y : S_api_Item} (h : smallI y) : (crawlwayref50_Same y x >>= fun t=>if t = true then (if x.f_Ok = true then (some true) else (some ((x.f_Result.length : Int) == 0))) else (some false)) = some (decide (y = x) && (x.f_Ok || decide (x.f_Result = []))):=by
  rw [same_ref y x h,bindM_some]
  by_cases e : y = x
  · rw [if_pos (decide_eq_true e),decide_eq_true e,Bool.true_and]
    cases x.f_Ok with
    | true=>rfl
    | false =>
      rw [if_neg (by simp),Bool.false_or]
      congr 1
      rw [Bool.eq_iff_iff]
      simp
  · rw [if_neg (by simpa using e),decide_eq_false e,Bool.false_and]
theorem right_both (x : S_api_Item) (w : ok_api_Item x) (hs : smallI x) : ∃ b,script_Right x = some b ∧ crawlwayref50_Right x = some b ∧ (b = true → Rt x):=by
  obtain ⟨k,b,e,r,o,y,l,m,n⟩:=x
  obtain ⟨w1,w2,w3,w4,w5,w6,w7,w8,w9⟩:=w
  have nb : ∀ z ∈ ([] : List Int),(Lit.int .u8 z).wf = true:=by intro z hz; cases hz
  have wz:=ok_kind k w1
  by_cases k1 : k = 1 ∨ k = 2
  · have c1:=same_code ⟨k,[],e,r,o,y,l,m,n⟩ { zI with f_Kind:=k } ⟨w1,nb,w3,w4,w5,w6,w7,w8,w9⟩ wz
    have c2:=tail_ref (x:=⟨k,b,e,r,o,y,l,m,n⟩) (y:={ zI with f_Kind:=k,f_Bytes:=b }) ⟨hs.1,Nat.zero_le _⟩
    refine ⟨decide ((⟨k,[],e,r,o,y,l,m,n⟩ : S_api_Item) = { zI with f_Kind:=k }),?_,?_,fun h=>?_⟩
    · unfold script_Right
      rcases k1 with rfl | rfl
      · show (script_Same ⟨1,[],e,r,o,y,l,m,n⟩ { zI with f_Kind:=1 } >>= _) = _
        rw [c1,bindM_some]
      · show (script_Same ⟨2,[],e,r,o,y,l,m,n⟩ { zI with f_Kind:=2 } >>= _) = _
        rw [c1,bindM_some]
    · have : crawlwayref50_Right ⟨k,b,e,r,o,y,l,m,n⟩ = some (decide (({ zI with f_Kind:=k,f_Bytes:=b } : S_api_Item) = ⟨k,b,e,r,o,y,l,m,n⟩) && (o || decide (r = []))):=by
        unfold crawlwayref50_Right
        rcases k1 with rfl | rfl
        · exact c2
        · exact c2
      rw [this]
      congr 1
      rw [Bool.eq_iff_iff]
      simp [zI]
      grind
    · simp only [decide_eq_true_eq,zI,S_api_Item.mk.injEq] at h
      obtain ⟨_,_,rfl,rfl,rfl,rfl,rfl,rfl,rfl⟩:=h
      exact .k12 k k1 b
  by_cases k3 : k = 3
  · subst k3
    have c2:=tail_ref (x:=⟨3,b,e,r,o,y,l,m,n⟩) (y:={ zI with f_Kind:=3,f_Bytes:=b,f_Result:=r,f_Ok:=o }) hs
    have rf : crawlwayref50_Right ⟨3,b,e,r,o,y,l,m,n⟩ = some (decide (({ zI with f_Kind:=3,f_Bytes:=b,f_Result:=r,f_Ok:=o } : S_api_Item) = ⟨3,b,e,r,o,y,l,m,n⟩) && (o || decide (r = []))):=by
      unfold crawlwayref50_Right
      exact c2
    rw [rf]
    cases o with
    | true =>
      have c1:=same_code ⟨3,[],e,[],false,y,l,m,n⟩ { zI with f_Kind:=3 } ⟨w1,nb,w3,nb,trivial,w6,w7,w8,w9⟩ wz
      refine ⟨decide ((⟨3,[],e,[],false,y,l,m,n⟩ : S_api_Item) = { zI with f_Kind:=3 }),?_,?_,fun h=>?_⟩
      · unfold script_Right
        show (script_Same ⟨3,[],e,[],false,y,l,m,n⟩ { zI with f_Kind:=3 } >>= _) = _
        rw [c1,bindM_some]
      · congr 1
        rw [Bool.eq_iff_iff]
        simp [zI]
        grind
      · simp only [decide_eq_true_eq,zI,S_api_Item.mk.injEq] at h
        obtain ⟨_,_,rfl,_,_,rfl,rfl,rfl,rfl⟩:=h
        exact .k3y b r
    | false =>
      have c1:=same_code ⟨3,[],e,r,false,y,l,m,n⟩ { zI with f_Kind:=3 } ⟨w1,nb,w3,w4,trivial,w6,w7,w8,w9⟩ wz
      refine ⟨decide ((⟨3,[],e,r,false,y,l,m,n⟩ : S_api_Item) = { zI with f_Kind:=3 }),?_,?_,fun h=>?_⟩
      · unfold script_Right
        show (script_Same ⟨3,[],e,r,false,y,l,m,n⟩ { zI with f_Kind:=3 } >>= _) = _
        rw [c1,bindM_some]
      · congr 1
        rw [Bool.eq_iff_iff]
        simp [zI]
        grind
      · simp only [decide_eq_true_eq,zI,S_api_Item.mk.injEq] at h
        obtain ⟨_,_,rfl,rfl,_,rfl,rfl,rfl,rfl⟩:=h
        exact .k3n b
  by_cases k4 : k = 4
  · subst k4
    obtain ⟨hb,h1,h2⟩:=host_right e w3
    have okz:=ok_zI.2.2.1
    cases hb with
    | false =>
      refine ⟨false,?_,?_,fun h=>by cases h⟩
      · have ne : ∀ (r' : List Int) (o' : Bool),(∀ z ∈ r',(Lit.int .u8 z).wf = true) → script_Same ⟨4,[],{ e with f_Port:=-1 },r',o',y,l,m,n⟩ { zI with f_Kind:=4 } = some false:=fun r' o' hr=>by
          rw [same_code ⟨4,[],{ e with f_Port:=-1 },r',o',y,l,m,n⟩ { zI with f_Kind:=4 } ⟨w1,nb,⟨w3.1,(show (Lit.int .i64 (-1)).wf = true by decide)⟩,hr,trivial,w6,w7,w8,w9⟩ wz,decide_eq_false]
          simp [zI]
        unfold script_Right
        show (hostport_Right e >>= _) = _
        rw [h1,bindM_some,if_neg (by simp)]
        cases o with
        | true =>
          show (script_Same ⟨4,[],{ e with f_Port:=-1 },[],false,y,l,m,n⟩ { zI with f_Kind:=4 } >>= _) = _
          rw [ne [] false nb,bindM_some]
        | false =>
          show (script_Same ⟨4,[],{ e with f_Port:=-1 },r,false,y,l,m,n⟩ { zI with f_Kind:=4 } >>= _) = _
          rw [ne r false w4,bindM_some]
      · unfold crawlwayref50_Right
        show (crawlwayref12_Right e >>= _) = _
        rw [h2,bindM_some,if_pos (by rfl)]
    | true =>
      have c2:=tail_ref (x:=⟨4,b,e,r,o,y,l,m,n⟩) (y:={ zI with f_Kind:=4,f_Bytes:=b,f_From:=e,f_Result:=r,f_Ok:=o }) hs
      have rf : crawlwayref50_Right ⟨4,b,e,r,o,y,l,m,n⟩ = some (decide (({ zI with f_Kind:=4,f_Bytes:=b,f_From:=e,f_Result:=r,f_Ok:=o } : S_api_Item) = ⟨4,b,e,r,o,y,l,m,n⟩) && (o || decide (r = []))):=by
        unfold crawlwayref50_Right
        show (crawlwayref12_Right e >>= _) = _
        rw [h2,bindM_some,if_neg (by simp)]
        exact c2
      rw [rf]
      cases o with
      | true =>
        have c1:=same_code ⟨4,[],zI.f_From,[],false,y,l,m,n⟩ { zI with f_Kind:=4 } ⟨w1,nb,okz,nb,trivial,w6,w7,w8,w9⟩ wz
        refine ⟨decide ((⟨4,[],zI.f_From,[],false,y,l,m,n⟩ : S_api_Item) = { zI with f_Kind:=4 }),?_,?_,fun h=>?_⟩
        · unfold script_Right
          show (hostport_Right e >>= _) = _
          rw [h1,bindM_some,if_pos rfl]
          show (script_Same ⟨4,[],zI.f_From,[],false,y,l,m,n⟩ { zI with f_Kind:=4 } >>= _) = _
          rw [c1,bindM_some]
        · congr 1
          rw [Bool.eq_iff_iff]
          simp [zI]
          grind
        · simp only [decide_eq_true_eq,zI,S_api_Item.mk.injEq] at h
          obtain ⟨_,_,_,_,_,rfl,rfl,rfl,rfl⟩:=h
          exact .k4y b r e h1
      | false =>
        have c1:=same_code ⟨4,[],zI.f_From,r,false,y,l,m,n⟩ { zI with f_Kind:=4 } ⟨w1,nb,okz,w4,trivial,w6,w7,w8,w9⟩ wz
        refine ⟨decide ((⟨4,[],zI.f_From,r,false,y,l,m,n⟩ : S_api_Item) = { zI with f_Kind:=4 }),?_,?_,fun h=>?_⟩
        · unfold script_Right
          show (hostport_Right e >>= _) = _
          rw [h1,bindM_some,if_pos rfl]
          show (script_Same ⟨4,[],zI.f_From,r,false,y,l,m,n⟩ { zI with f_Kind:=4 } >>= _) = _
          rw [c1,bindM_some]
        · congr 1
          rw [Bool.eq_iff_iff]
          simp [zI]
          grind
        · simp only [decide_eq_true_eq,zI,S_api_Item.mk.injEq] at h
          obtain ⟨_,_,_,rfl,_,rfl,rfl,rfl,rfl⟩:=h
          exact .k4n b e h1
  by_cases k5 : k = 5
  · subst k5
    have c1:=same_code ⟨5,b,e,r,o,zI.f_Key,0,0,0⟩ { zI with f_Kind:=5 } ⟨w1,w2,w3,w4,w5,ok_zI.2.2.2.2.2.1,(show (Lit.int .u32 0).wf = true by decide),(show (Lit.int .u32 0).wf = true by decide),(show (Lit.int .u64 0).wf = true by decide)⟩ wz
    have c2:=tail_ref (x:=⟨5,b,e,r,o,y,l,m,n⟩) (y:={ zI with f_Kind:=5,f_Key:=y,f_Local:=l,f_Remote:=m,f_Next:=n }) ⟨Nat.zero_le _,Nat.zero_le _⟩
    refine ⟨decide ((⟨5,b,e,r,o,zI.f_Key,0,0,0⟩ : S_api_Item) = { zI with f_Kind:=5 }),?_,?_,fun h=>?_⟩
    · unfold script_Right
      show (script_Same ⟨5,b,e,r,o,zI.f_Key,0,0,0⟩ { zI with f_Kind:=5 } >>= _) = _
      rw [c1,bindM_some]
    · have : crawlwayref50_Right ⟨5,b,e,r,o,y,l,m,n⟩ = some (decide (({ zI with f_Kind:=5,f_Key:=y,f_Local:=l,f_Remote:=m,f_Next:=n } : S_api_Item) = ⟨5,b,e,r,o,y,l,m,n⟩) && (o || decide (r = []))):=by
        unfold crawlwayref50_Right
        exact c2
      rw [this]
      congr 1
      rw [Bool.eq_iff_iff]
      simp [zI]
      grind
    · simp only [decide_eq_true_eq,zI,S_api_Item.mk.injEq] at h
      obtain ⟨_,rfl,rfl,rfl,rfl,_⟩:=h
      exact .k5 y l m n
  by_cases k6 : k = 6
  · subst k6
    have c1:=same_code ⟨6,b,e,r,o,y,0,m,n⟩ { zI with f_Kind:=6 } ⟨w1,w2,w3,w4,w5,w6,(show (Lit.int .u32 0).wf = true by decide),w8,w9⟩ wz
    have c2:=tail_ref (x:=⟨6,b,e,r,o,y,l,m,n⟩) (y:={ zI with f_Kind:=6,f_Local:=l }) ⟨Nat.zero_le _,Nat.zero_le _⟩
    refine ⟨decide ((⟨6,b,e,r,o,y,0,m,n⟩ : S_api_Item) = { zI with f_Kind:=6 }),?_,?_,fun h=>?_⟩
    · unfold script_Right
      show (script_Same ⟨6,b,e,r,o,y,0,m,n⟩ { zI with f_Kind:=6 } >>= _) = _
      rw [c1,bindM_some]
    · have : crawlwayref50_Right ⟨6,b,e,r,o,y,l,m,n⟩ = some (decide (({ zI with f_Kind:=6,f_Local:=l } : S_api_Item) = ⟨6,b,e,r,o,y,l,m,n⟩) && (o || decide (r = []))):=by
        unfold crawlwayref50_Right
        exact c2
      rw [this]
      congr 1
      rw [Bool.eq_iff_iff]
      simp [zI]
      grind
    · simp only [decide_eq_true_eq,zI,S_api_Item.mk.injEq] at h
      obtain ⟨_,rfl,rfl,rfl,rfl,rfl,_,rfl,rfl⟩:=h
      exact .k6 l
  · have q : ∀ j : Int,(j = 1 ∨ j = 2 ∨ j = 3 ∨ j = 4 ∨ j = 5 ∨ j = 6) → ¬ (k == j) = true:=fun j hj=>by
      rw [beq_iff_eq]; rintro rfl
      rcases hj with rfl | rfl | rfl | rfl | rfl | rfl <;> simp_all
    refine ⟨false,?_,?_,fun h=>by cases h⟩
    · unfold script_Right
      rw [if_neg (q 1 (by simp)),if_neg (q 2 (by simp)),if_neg (q 3 (by simp)),if_neg (q 4 (by simp)),if_neg (q 5 (by simp)),if_neg (q 6 (by simp))]
    · unfold crawlwayref50_Right
      rw [if_neg (q 1 (by simp)),if_neg (q 2 (by simp)),if_neg (q 3 (by simp)),if_neg (q 4 (by simp)),if_neg (q 5 (by simp)),if_neg (q 6 (by simp))]
end Go.Proofs.YtkkmmpofdcccmaaGreatDoor.Scr
namespace Go.Proofs.YtkkmmpofdcccmaaGreatDoor.Scr
open E Go.RowKit
open Adr AdrT
def jn : List (List UInt8) → List UInt8
  | []=>[]
  | [a]=>a
  | a::b::r=>a ++ 32::jn (b::r)
def no32 (l : List UInt8) : Prop:=∀ x ∈ l,x ≠ 32
theorem parts_jn : ∀ (W : List (List UInt8)),W ≠ [] → (∀ w ∈ W,no32 w) → parts 32 (jn W) = W
  | [],h,_=>absurd rfl h
  | [a],_,h=>parts_none 32 a (h a (by simp))
  | a::b::r,_,h=>by
    show parts 32 (a ++ 32::jn (b::r)) = _
    rw [parts_cons 32 _ a (h a (by simp)),parts_jn (b::r) (by simp) fun w hw=>h w (List.mem_cons_of_mem _ hw)]
theorem join_jn : ∀ (W : List (List UInt8)),Lib.join W [32] = jn W
  | []=>rfl
  | [a]=>Lib.join_one a [32]
  | a::b::r=>by
    rw [Lib.join_cons]
    show a ++ Lib.joinTail [32] (b::r) = a ++ 32::jn (b::r)
    rw [← join_jn (b::r),Lib.join_cons]
    simp [Lib.joinTail]
theorem bjoin_jn (W : List (List UInt8)) : bjoin (W.map bs) (⟨#[32]⟩ : ByteArray) = bs (jn W):=by
  apply mk_inj
  unfold bjoin
  rw [bs_list,← join_jn]
  show (Lib.join ((W.map bs).map (·.data.toList)) [32]).toArray.toList = _
  rw [List.map_map]
  have : ((fun x : ByteArray=>x.data.toList) ∘ bs) = id:=by funext l; exact bs_list l
  rw [this,List.map_id]
theorem jn_len (m : Nat) : ∀ (W : List (List UInt8)),(∀ w ∈ W,w.length ≤ m) → (jn W).length ≤ W.length * (m + 1)
  | [],_=>Nat.zero_le _
  | [a],h=>by have:=h a (by simp); simp only [jn,List.length_cons,List.length_nil]; omega
  | a::b::r,h=>by
    have h1:=h a (by simp)
    have h2:=jn_len m (b::r) fun w hw=>h w (List.mem_cons_of_mem _ hw)
    show (a ++ 32::jn (b::r)).length ≤ _
    simp only [List.length_append,List.length_cons] at h2 ⊢
    rw [Nat.add_mul,Nat.one_mul]
    omega
theorem dg_32 : ∀ n : Fin 16,Hex.dg n.1 ≠ 32:=by decide +kernel
theorem g1_32 (n : Nat) : ∀ x ∈ Col.g1 n,x ≠ 32:=by
  induction n using Nat.strongRecOn with
  | _ n ih =>
    intro x hx
    unfold Col.g1 Hex.grp at hx
    split at hx
    · next h =>
      simp only [Hex.dig,List.mem_singleton] at hx
      subst hx
      exact dg_32 ⟨n,h⟩
    · next h =>
      rw [append_list] at hx
      rcases List.mem_append.1 hx with hx | hx
      · exact ih _ (show n / 16 < n by omega) x hx
      · simp only [Hex.dig,List.mem_singleton] at hx
        subst hx
        exact dg_32 ⟨n % 16,by omega⟩
theorem rowL_32 : ∀ (G : List Nat),∀ x ∈ Col.rowL G,x ≠ 32
  | [],x,h=>by cases h
  | [n],x,h=>g1_32 n x h
  | n::m::r,x,h=>by
    rcases List.mem_append.1 h with h | h
    · exact g1_32 n x h
    · rcases List.mem_cons.1 h with rfl | h
      · decide
      · exact rowL_32 (m::r) x h
theorem textL_32 (G : List Nat) : ∀ x ∈ Col.textL G,x ≠ 32:=by
  intro x h
  unfold Col.textL at h
  split at h
  · exact rowL_32 _ x h
  · rcases List.mem_append.1 h with h | h
    · exact rowL_32 _ x h
    · rcases List.mem_cons.1 h with rfl | h
      · decide
      · rcases List.mem_cons.1 h with rfl | h
        · decide
        · exact rowL_32 _ x h
theorem dec_32 (n : Nat) : no32 (Lib.decDigits n):=fun x hx=>by
  have:=dig_iff.1 (List.all_eq_true.1 (decDigits_dig n) x hx)
  intro e; subst e
  have : (32 : UInt8).toNat = 32:=rfl
  omega
theorem qText_32 {m : List UInt8} (hm : m.length = 4) : no32 (qText m):=by
  intro x hx
  match m,hm with
  | [a,b,c,d],_ =>
    have hx' : x ∈ Lib.decDigits a.toNat ++ 46::(Lib.decDigits b.toNat ++ 46::(Lib.decDigits c.toNat ++ 46::Lib.decDigits d.toNat)):=hx
    simp only [List.mem_append,List.mem_cons] at hx'
    rcases hx' with h | h | h | h | h | h | h
    · exact dec_32 _ x h
    · subst h; decide
    · exact dec_32 _ x h
    · subst h; decide
    · exact dec_32 _ x h
    · subst h; decide
    · exact dec_32 _ x h
theorem adrT_32 {V : Int} {l : List UInt8} (hl : l.length = 16) : no32 (adrT V l):=by
  intro x hx
  unfold adrT at hx
  split at hx
  · split at hx
    · exact qText_32 (by rw [List.length_take]; omega) x hx
    · exact textL_32 _ x hx
  · cases hx
theorem host_32 {V : Int} {l : List UInt8} (hl : l.length = 16) (k : Nat) : no32 (Host.hostL V l k):=by
  intro x hx
  unfold Host.hostL at hx
  split at hx
  · simp only [List.mem_append,List.mem_cons] at hx
    rcases hx with h | h | h
    · exact adrT_32 hl x h
    · subst h; decide
    · exact dec_32 _ x h
  · simp only [List.mem_append,List.mem_cons] at hx
    rcases hx with h | h | h | h | h
    · subst h; decide
    · exact adrT_32 hl x h
    · subst h; decide
    · subst h; decide
    · exact dec_32 _ x h
theorem encL_32 (l : List UInt8) : no32 (Hex.encL l):=by
  intro x hx
  unfold Hex.encL at hx
  obtain ⟨b,_,hb⟩:=List.mem_flatMap.1 hx
  have:=b.toNat_lt
  simp only [List.mem_cons,List.not_mem_nil,or_false] at hb
  rcases hb with rfl | rfl
  · exact dg_32 ⟨b.toNat / 16,by omega⟩
  · exact dg_32 ⟨b.toNat % 16,by omega⟩
def wL (b : List UInt8) : List UInt8:=if b = [] then [45] else Hex.encL b
theorem wL_32 (b : List UInt8) : no32 (wL b):=by
  unfold wL
  split
  · intro x hx; simp only [List.mem_singleton] at hx; subst hx; decide
  · exact encL_32 b
theorem wL_len (b : List UInt8) : (wL b).length ≤ 2 * b.length + 1:=by
  unfold wL
  split
  · simp
  · rw [Hex.encL_length]; omega
theorem ob_nil {b : List UInt8} (h : b ≠ []) : ((ob b).length : Int) ≠ 0:=by
  have : 0 < b.length:=List.length_pos_iff.2 h
  unfold ob
  rw [List.length_map]; omega
theorem word_code (b : List UInt8) (hb : b.length < 1000000) : script_word (ob b) = some (bs (wL b)):=by
  unfold script_word wL
  by_cases h : b = []
  · subst h; rfl
  · rw [if_neg (by simpa using ob_nil h),if_neg h,Hex.encode_eq b hb,bindM_some]; rfl
theorem word_ref (b : List UInt8) (hb : b.length < 1000000) : crawlwayref50_word (ob b) = some (bs (wL b)):=by
  unfold crawlwayref50_word wL
  by_cases h : b = []
  · subst h; rfl
  · rw [if_neg (by simpa using ob_nil h),if_neg h,Hex.refEncode_eq b hb,bindM_some]; rfl
theorem bs_ne {l k : List UInt8} (h : l ≠ k) : bs l ≠ bs k:=fun e=>h (bs_inj e)
theorem U_wL (b : List UInt8) : U (bs (wL b)) = (ob b,0):=by
  unfold U wL
  by_cases h : b = []
  · subst h; rw [if_pos rfl,if_pos (show bs [45] = (⟨#[45]⟩ : ByteArray) from rfl)]; rfl
  · have hl:=Hex.encL_length b
    have hp : 0 < b.length:=List.length_pos_iff.2 h
    have h1 : bs (Hex.encL b) ≠ (⟨#[45]⟩ : ByteArray):=bs_ne (k:=[45]) fun e=>by rw [e] at hl; simp at hl; omega
    have h2 : bs (Hex.encL b) ≠ (⟨#[]⟩ : ByteArray):=bs_ne (k:=[]) fun e=>by rw [e] at hl; simp at hl; omega
    have h3 : Hex.dec (bs (Hex.encL b)) = some b:=Hex.dec_enc b
    rw [if_neg h,if_neg h1,if_neg h2,h3]
end Go.Proofs.YtkkmmpofdcccmaaGreatDoor.Scr
namespace Go.Proofs.YtkkmmpofdcccmaaGreatDoor.Scr
open E Go.RowKit
open Adr AdrT
structure Line (x : S_api_Item) (W : List (List UInt8)) : Prop where
  ne : W ≠ []
  len : W.length ≤ 5
  no : ∀ w ∈ W,no32 w
  sz : ∀ w ∈ W,w.length ≤ 20000
  code : script_Text x = some (bs (jn W),0)
  ref : crawlwayref50_Text x = some (bs (jn W))
  back : pB (W.map bs) = (x,0)
theorem bj {L : List ByteArray} (W : List (List UInt8)) (h : L = W.map bs) (hl : ∀ w ∈ W,w.length ≤ 20000) (hn : W.length ≤ 5) : (if List.length L ≤ 140737488355328 then if (bjoin L (⟨#[32]⟩ : ByteArray)).size ≤ 140737488355328 then some (bjoin L (⟨#[32]⟩ : ByteArray),(0 : Int)) else none else none) = some (bs (jn W),0):=by
  subst h
  have h1:=jn_len 20000 W hl
  have h2 : W.length * (20000 + 1) ≤ 5 * 20001:=Nat.mul_le_mul_right _ hn
  rw [bjoin_jn,if_pos (by rw [List.length_map]; omega),if_pos (by rw [bs_size]; omega)]
abbrev l1 : List UInt8:=[115,101,116]
abbrev l2 : List UInt8:=[108,111,97,100]
abbrev l3 : List UInt8:=[111,117,116]
abbrev l4 : List UInt8:=[105,110]
abbrev l5 : List UInt8:=[105,110,115,116,97,108,108]
abbrev l6 : List UInt8:=[102,111,114,103,101,116]
theorem l_32 {l : List UInt8} (h : l.all (fun x=>decide (x ≠ 32)) = true) : no32 l:=fun x hx=>by
  have:=List.all_eq_true.1 h x hx
  simpa using this
theorem all2 {P : List UInt8 → Prop} {a b : List UInt8} (ha : P a) (hb : P b) : ∀ w ∈ [a,b],P w:=by
  intro w hw; simp only [List.mem_cons,List.not_mem_nil,or_false] at hw
  rcases hw with rfl | rfl <;> assumption
theorem all3 {P : List UInt8 → Prop} {a b c : List UInt8} (ha : P a) (hb : P b) (hc : P c) : ∀ w ∈ [a,b,c],P w:=by
  intro w hw; simp only [List.mem_cons,List.not_mem_nil,or_false] at hw
  rcases hw with rfl | rfl | rfl <;> assumption
theorem all4 {P : List UInt8 → Prop} {a b c d : List UInt8} (ha : P a) (hb : P b) (hc : P c) (hd : P d) : ∀ w ∈ [a,b,c,d],P w:=by
  intro w hw; simp only [List.mem_cons,List.not_mem_nil,or_false] at hw
  rcases hw with rfl | rfl | rfl | rfl <;> assumption
theorem all5 {P : List UInt8 → Prop} {a b c d e : List UInt8} (ha : P a) (hb : P b) (hc : P c) (hd : P d) (he : P e) : ∀ w ∈ [a,b,c,d,e],P w:=by
  intro w hw; simp only [List.mem_cons,List.not_mem_nil,or_false] at hw
  rcases hw with rfl | rfl | rfl | rfl | rfl <;> assumption
abbrev ln (w : List UInt8) : Prop:=w.length ≤ 20000
theorem code1 {x : S_api_Item} {w : List UInt8} (hr : script_Right x = some true) (hk : x.f_Kind = 1) (hw : script_word x.f_Bytes = some (bs w)) (hl : ln w) : script_Text x = some (bs (jn [l1,w]),0):=by
  unfold script_Text
  rw [hr,bindM_some,if_neg (by simp),hk,if_pos (by rfl),hw,bindM_some,if_pos (by simp)]
  exact bj [l1,w] rfl (all2 (P:=ln) (by decide) hl) (by simp)
theorem code2 {x : S_api_Item} {w : List UInt8} (hr : script_Right x = some true) (hk : x.f_Kind = 2) (hw : script_word x.f_Bytes = some (bs w)) (hl : ln w) : script_Text x = some (bs (jn [l2,w]),0):=by
  unfold script_Text
  rw [hr,bindM_some,if_neg (by simp),hk,if_neg (by decide),if_pos (by rfl),hw,bindM_some,if_pos (by simp)]
  exact bj [l2,w] rfl (all2 (P:=ln) (by decide) hl) (by simp)
def rL (o : Bool) (r : List UInt8) : List UInt8:=if o = true then wL r else [33]
theorem rL_len (o : Bool) (r : List UInt8) : (rL o r).length ≤ 2 * r.length + 1:=by
  unfold rL
  split
  · exact wL_len r
  · simp
theorem rL_32 (o : Bool) (r : List UInt8) : no32 (rL o r):=by
  unfold rL
  split
  · exact wL_32 r
  · exact l_32 (by decide)
theorem code3 {x : S_api_Item} {w r : List UInt8} (hr : script_Right x = some true) (hk : x.f_Kind = 3) (hw : script_word x.f_Bytes = some (bs w)) (hl : ln w) (he : x.f_Result = ob r) (hn : r.length ≤ 7000) : script_Text x = some (bs (jn [l3,w,rL x.f_Ok r]),0):=by
  have hb:=bj [l3,w,rL x.f_Ok r] rfl (all3 (P:=ln) (by decide) hl (by have:=rL_len x.f_Ok r; show _ ≤ _; omega)) (by simp)
  unfold script_Text
  rw [hr,bindM_some,if_neg (by simp),hk,if_neg (by decide),if_neg (by decide),if_pos (by rfl),hw,bindM_some,if_pos (by simp),he]
  revert hb
  unfold rL
  cases x.f_Ok with
  | false =>
    intro hb
    rw [if_pos (by rfl),if_pos (by simp)]
    exact hb
  | true =>
    intro hb
    rw [if_neg (by simp),word_code r (by omega),bindM_some,if_pos (by simp)]
    exact hb
theorem code4 {x : S_api_Item} {h w r : List UInt8} (hr : script_Right x = some true) (hk : x.f_Kind = 4) (hh : hostport_Text x.f_From = some (bs h)) (hm : ln h) (hw : script_word x.f_Bytes = some (bs w)) (hl : ln w) (he : x.f_Result = ob r) (hn : r.length ≤ 7000) : script_Text x = some (bs (jn [l4,h,w,rL x.f_Ok r]),0):=by
  have hb:=bj [l4,h,w,rL x.f_Ok r] rfl (all4 (P:=ln) (by decide) hm hl (by have:=rL_len x.f_Ok r; show _ ≤ _; omega)) (by simp)
  unfold script_Text
  rw [hr,bindM_some,if_neg (by simp),hk,if_neg (by decide),if_neg (by decide),if_neg (by decide),if_pos (by rfl),hh,bindM_some,if_pos (by simp),hw,bindM_some,if_pos (by simp),he]
  revert hb
  unfold rL
  cases x.f_Ok with
  | false =>
    intro hb
    rw [if_pos (by rfl),if_pos (by simp)]
    exact hb
  | true =>
    intro hb
    rw [if_neg (by simp),word_code r (by omega),bindM_some,if_pos (by simp)]
    exact hb
theorem code5 {x : S_api_Item} {v a b c : List UInt8} (hr : script_Right x = some true) (hk : x.f_Kind = 5) (hv : keys_Hex x.f_Key = some (bs v)) (ha : decimal_Text (wr .u64 x.f_Local) = some (bs a)) (hb : decimal_Text (wr .u64 x.f_Remote) = some (bs b)) (hc : decimal_Text x.f_Next = some (bs c)) (vl : ln v) (al : ln a) (bl : ln b) (cl : ln c) : script_Text x = some (bs (jn [l5,v,a,b,c]),0):=by
  unfold script_Text
  rw [hr,bindM_some,if_neg (by simp),hk,if_neg (by decide),if_neg (by decide),if_neg (by decide),if_neg (by decide),if_pos (by rfl),hv,bindM_some,if_pos (by simp),ha,bindM_some,if_pos (by simp),hb,bindM_some,if_pos (by simp),hc,bindM_some,if_pos (by simp)]
  exact bj [l5,v,a,b,c] rfl (all5 (P:=ln) (by decide) vl al bl cl) (by simp)
theorem code6 {x : S_api_Item} {a : List UInt8} (hr : script_Right x = some true) (hk : x.f_Kind = 6) (ha : decimal_Text (wr .u64 x.f_Local) = some (bs a)) (al : ln a) : script_Text x = some (bs (jn [l6,a]),0):=by
  unfold script_Text
  rw [hr,bindM_some,if_neg (by simp),hk,if_neg (by decide),if_neg (by decide),if_neg (by decide),if_neg (by decide),if_neg (by decide),if_pos (by rfl),ha,bindM_some,if_pos (by simp)]
  exact bj [l6,a] rfl (all2 (P:=ln) (by decide) al) (by simp)
theorem ap1 {A B : List UInt8} {α : Type} {f : ByteArray → Option α} (h : A.length + B.length ≤ 1000000) : (if (bs A).size + (bs B).size ≤ 140737488355328 then f (bs A ++ bs B) else none) = f (bs (A ++ B)):=by
  rw [if_pos (by rw [bs_size,bs_size]; omega),Host.bs_app]
theorem ref1 {x : S_api_Item} {w : List UInt8} (hk : x.f_Kind = 1) (hw : crawlwayref50_word x.f_Bytes = some (bs w)) (hl : ln w) : crawlwayref50_Text x = some (bs (jn [l1,w])):=by
  unfold crawlwayref50_Text
  rw [hk,if_pos (by rfl),hw,bindM_some]
  exact ap1 (A:=[115,101,116,32]) (f:=some) (by have : w.length ≤ 20000:=hl; simp only [List.length_cons,List.length_nil]; omega)
theorem ref2 {x : S_api_Item} {w : List UInt8} (hk : x.f_Kind = 2) (hw : crawlwayref50_word x.f_Bytes = some (bs w)) (hl : ln w) : crawlwayref50_Text x = some (bs (jn [l2,w])):=by
  unfold crawlwayref50_Text
  rw [hk,if_neg (by decide),if_pos (by rfl),hw,bindM_some]
  exact ap1 (A:=[108,111,97,100,32]) (f:=some) (by have : w.length ≤ 20000:=hl; simp only [List.length_cons,List.length_nil]; omega)
theorem answer_ref {x : S_api_Item} {r : List UInt8} (he : x.f_Result = ob r) (hn : r.length ≤ 7000) : crawlwayref50_answer x = some (bs (rL x.f_Ok r)):=by
  unfold crawlwayref50_answer rL
  cases x.f_Ok with
  | false=>rw [if_pos (by rfl)]; rfl
  | true=>rw [if_neg (by simp),he,word_ref r (by omega),bindM_some]; rfl
theorem ref3 {x : S_api_Item} {w r : List UInt8} (hk : x.f_Kind = 3) (hw : crawlwayref50_word x.f_Bytes = some (bs w)) (hl : ln w) (he : x.f_Result = ob r) (hn : r.length ≤ 7000) : crawlwayref50_Text x = some (bs (jn [l3,w,rL x.f_Ok r])):=by
  have hR:=rL_len x.f_Ok r
  have hl : w.length ≤ 20000:=hl
  have b1 : (⟨#[111,117,116,32]⟩ : ByteArray) = bs [111,117,116,32]:=rfl
  have b2 : (⟨#[32]⟩ : ByteArray) = bs [32]:=rfl
  unfold crawlwayref50_Text
  rw [hk,if_neg (by decide),if_neg (by decide),if_pos (by rfl),hw,bindM_some,answer_ref he hn,bindM_some,b1,b2]
  rw [if_pos (by simp only [ByteArray.size_append,bs_size,List.length_cons,List.length_nil]; omega),if_pos (by simp only [ByteArray.size_append,bs_size,List.length_cons,List.length_nil]; omega),if_pos (by simp only [ByteArray.size_append,bs_size,List.length_cons,List.length_nil]; omega)]
  simp only [Host.bs_app]
  simp [jn]
theorem ref4 {x : S_api_Item} {h w r : List UInt8} (hk : x.f_Kind = 4) (hh : crawlwayref12_Text x.f_From = some (bs h)) (hm : ln h) (hw : crawlwayref50_word x.f_Bytes = some (bs w)) (hl : ln w) (he : x.f_Result = ob r) (hn : r.length ≤ 7000) : crawlwayref50_Text x = some (bs (jn [l4,h,w,rL x.f_Ok r])):=by
  have hR:=rL_len x.f_Ok r
  have hl : w.length ≤ 20000:=hl
  have hm : h.length ≤ 20000:=hm
  have b1 : (⟨#[105,110,32]⟩ : ByteArray) = bs [105,110,32]:=rfl
  have b2 : (⟨#[32]⟩ : ByteArray) = bs [32]:=rfl
  unfold crawlwayref50_Text
  rw [hk,if_neg (by decide),if_neg (by decide),if_neg (by decide),if_pos (by rfl),hh,bindM_some,hw,bindM_some,answer_ref he hn,bindM_some,b1,b2]
  repeat rw [if_pos (by simp only [ByteArray.size_append,bs_size,List.length_cons,List.length_nil]; omega)]
  simp only [Host.bs_app]
  simp [jn]
theorem ref5 {x : S_api_Item} {v a b c : List UInt8} {V : List Int} (hk : x.f_Kind = 5) (hV : crawlwayref07_Bytes x.f_Key = some V) (hv : crawlwayref05_Encode V = some (bs v)) (ha : crawlwayref03_Text (wr .u64 x.f_Local) = some (bs a)) (hb : crawlwayref03_Text (wr .u64 x.f_Remote) = some (bs b)) (hc : crawlwayref03_Text x.f_Next = some (bs c)) (vl : ln v) (al : ln a) (bl : ln b) (cl : ln c) : crawlwayref50_Text x = some (bs (jn [l5,v,a,b,c])):=by
  have vl : v.length ≤ 20000:=vl
  have al : a.length ≤ 20000:=al
  have bl : b.length ≤ 20000:=bl
  have cl : c.length ≤ 20000:=cl
  have b1 : (⟨#[105,110,115,116,97,108,108,32]⟩ : ByteArray) = bs [105,110,115,116,97,108,108,32]:=rfl
  have b2 : (⟨#[32]⟩ : ByteArray) = bs [32]:=rfl
  unfold crawlwayref50_Text
  rw [hk,if_neg (by decide),if_neg (by decide),if_neg (by decide),if_neg (by decide),if_pos (by rfl),hV,bindM_some,hv,bindM_some,ha,bindM_some,hb,bindM_some,hc,bindM_some,b1,b2]
  repeat rw [if_pos (by simp only [ByteArray.size_append,bs_size,List.length_cons,List.length_nil]; omega)]
  simp only [Host.bs_app]
  simp [jn]
theorem ref6 {x : S_api_Item} {a : List UInt8} (hk : x.f_Kind = 6) (ha : crawlwayref03_Text (wr .u64 x.f_Local) = some (bs a)) (al : ln a) : crawlwayref50_Text x = some (bs (jn [l6,a])):=by
  unfold crawlwayref50_Text
  rw [hk,if_neg (by decide),if_neg (by decide),if_neg (by decide),if_neg (by decide),if_neg (by decide),ha,bindM_some]
  exact ap1 (A:=[102,111,114,103,101,116,32]) (f:=some) (by have : a.length ≤ 20000:=al; simp only [List.length_cons,List.length_nil]; omega)
end Go.Proofs.YtkkmmpofdcccmaaGreatDoor.Scr
namespace Go.Proofs.YtkkmmpofdcccmaaGreatDoor.Scr
open E Go.RowKit
open Adr AdrT
theorem rt_right {x : S_api_Item} (h : Rt x) (w : ok_api_Item x) (hs : smallI x) : script_Right x = some true:=by
  obtain ⟨b,h1,h2,_⟩:=right_both x w hs
  have tl : ∀ {y : S_api_Item},smallI y → y = x → (x.f_Ok = true ∨ x.f_Result = []) → (crawlwayref50_Same y x >>= fun t=>if t = true then (if x.f_Ok = true then (some true) else (some ((x.f_Result.length : Int) == 0))) else (some false)) = some true:=fun hy e ho=>by
    rw [tail_ref hy,decide_eq_true e,Bool.true_and]
    rcases ho with ho | ho
    · rw [ho]; rfl
    · rw [decide_eq_true ho,Bool.or_true]
  have : crawlwayref50_Right x = some true:=by
    cases h with
    | k12 k hk b =>
      unfold crawlwayref50_Right
      rcases hk with rfl | rfl
      · exact tl (y:={ zI with f_Kind:=1,f_Bytes:=b }) hs rfl (.inr rfl)
      · exact tl (y:={ zI with f_Kind:=2,f_Bytes:=b }) hs rfl (.inr rfl)
    | k3n b=>unfold crawlwayref50_Right; exact tl (y:={ zI with f_Kind:=3,f_Bytes:=b }) hs rfl (.inr rfl)
    | k3y b r=>unfold crawlwayref50_Right; exact tl (y:={ zI with f_Kind:=3,f_Bytes:=b,f_Result:=r,f_Ok:=true }) hs rfl (.inl rfl)
    | k4n b e he =>
      obtain ⟨hb,g1,g2⟩:=host_right e w.2.2.1
      obtain rfl : hb = true:=Option.some.inj (g1.symm.trans he)
      unfold crawlwayref50_Right
      show (crawlwayref12_Right e >>= _) = _
      rw [g2,bindM_some,if_neg (by simp)]
      exact tl (y:={ zI with f_Kind:=4,f_From:=e,f_Bytes:=b }) hs rfl (.inr rfl)
    | k4y b r e he =>
      obtain ⟨hb,g1,g2⟩:=host_right e w.2.2.1
      obtain rfl : hb = true:=Option.some.inj (g1.symm.trans he)
      unfold crawlwayref50_Right
      show (crawlwayref12_Right e >>= _) = _
      rw [g2,bindM_some,if_neg (by simp)]
      exact tl (y:={ zI with f_Kind:=4,f_From:=e,f_Bytes:=b,f_Result:=r,f_Ok:=true }) hs rfl (.inl rfl)
    | k5 v a b c=>unfold crawlwayref50_Right; exact tl (y:={ zI with f_Kind:=5,f_Key:=v,f_Local:=a,f_Remote:=b,f_Next:=c }) hs rfl (.inr rfl)
    | k6 a=>unfold crawlwayref50_Right; exact tl (y:={ zI with f_Kind:=6,f_Local:=a }) hs rfl (.inr rfl)
  rw [h1,← h2,this]
theorem out_ok {α : Type} (a : α) (f : α → S_api_Item × Int) : out (a,0) f = f a:=if_pos rfl
theorem ans_rL (x : S_api_Item) (hx : x.f_Ok = false ∧ x.f_Result = []) (o : Bool) (r : List UInt8) (h : o = false → r = []) : ans x (bs (rL o r)) = ({ x with f_Ok:=o,f_Result:=ob r },0):=by
  unfold ans rL
  cases o with
  | false =>
    rw [if_pos (show bs (if false = true then wL r else [33]) = (⟨#[33]⟩ : ByteArray) from rfl),h rfl]
    obtain ⟨e1,e2⟩:=hx
    cases x
    simp only at e1 e2
    subst e1; subst e2; rfl
  | true =>
    have : bs (wL r) ≠ (⟨#[33]⟩ : ByteArray):=bs_ne (k:=[33]) fun e=>by
      unfold wL at e
      split at e
      · cases e
      · have:=Hex.encL_length r
        rw [e] at this
        simp at this; omega
    show (if bs (wL r) = (⟨#[33]⟩ : ByteArray) then _ else out (U (bs (wL r))) _) = _
    rw [if_neg this,U_wL,out_ok]
theorem back1 (b : List UInt8) : pB [bs l1,bs (wL b)] = ({ zI with f_Kind:=1,f_Bytes:=ob b },0):=by
  rw [pB1 (t:=[bs l1,bs (wL b)]) (show knd n1 = 1 by decide +kernel),if_pos (by rfl)]
  show out (U (bs (wL b))) _ = _
  rw [U_wL,out_ok]
theorem back2 (b : List UInt8) : pB [bs l2,bs (wL b)] = ({ zI with f_Kind:=2,f_Bytes:=ob b },0):=by
  rw [pB2 (t:=[bs l2,bs (wL b)]) (show knd n2 = 2 by decide +kernel),if_pos (by rfl)]
  show out (U (bs (wL b))) _ = _
  rw [U_wL,out_ok]
theorem back3 (b r : List UInt8) (o : Bool) (h : o = false → r = []) : pB [bs l3,bs (wL b),bs (rL o r)] = ({ zI with f_Kind:=3,f_Bytes:=ob b,f_Ok:=o,f_Result:=ob r },0):=by
  rw [pB3 (t:=[bs l3,bs (wL b),bs (rL o r)]) (show knd n3 = 3 by decide +kernel),if_pos (by rfl)]
  show out (U (bs (wL b))) (fun b'=>ans { zI with f_Kind:=3,f_Bytes:=b' } (bs (rL o r))) = _
  rw [U_wL,out_ok]
  exact ans_rL _ ⟨rfl,rfl⟩ o r h
theorem back4 (w b r : List UInt8) (e : S_api_Endpoint) (he : H (bs w) = (e,0)) (o : Bool) (h : o = false → r = []) : pB [bs l4,bs w,bs (wL b),bs (rL o r)] = ({ zI with f_Kind:=4,f_From:=e,f_Bytes:=ob b,f_Ok:=o,f_Result:=ob r },0):=by
  rw [pB4 (t:=[bs l4,bs w,bs (wL b),bs (rL o r)]) (show knd n4 = 4 by decide +kernel),if_pos (by rfl)]
  show out (H (bs w)) (fun e'=>out (U (bs (wL b))) fun b'=>ans { zI with f_Kind:=4,f_From:=e',f_Bytes:=b' } (bs (rL o r))) = _
  rw [he,out_ok,U_wL,out_ok]
  exact ans_rL _ ⟨rfl,rfl⟩ o r h
theorem D_dec (n m : Nat) (h : n ≤ m) : D (bs (Lib.decDigits n)) m = ((n : Int),0):=by
  unfold D
  rw [bs_list,rdU_text,if_pos h]; rfl
theorem back5 (v : Vector Int 32) (k : List UInt8) (a b c : Nat) (hk : K (bs k) = (v,0)) (ha : a ≤ M32) (hb : b ≤ M32) (hc : c ≤ M64) : pB [bs l5,bs k,bs (Lib.decDigits a),bs (Lib.decDigits b),bs (Lib.decDigits c)] = ({ zI with f_Kind:=5,f_Key:=v,f_Local:=(a : Int),f_Remote:=(b : Int),f_Next:=(c : Int) },0):=by
  rw [pB5 (t:=[bs l5,bs k,bs (Lib.decDigits a),bs (Lib.decDigits b),bs (Lib.decDigits c)]) (show knd n5 = 5 by decide +kernel),if_pos (by rfl)]
  show out (K (bs k)) (fun v=>out (D (bs (Lib.decDigits a)) M32) fun a=>out (D (bs (Lib.decDigits b)) M32) fun b=>out (D (bs (Lib.decDigits c)) M64) fun c=>({ zI with f_Kind:=5,f_Key:=v,f_Local:=wr .u32 a,f_Remote:=wr .u32 b,f_Next:=c },0)) = _
  unfold M32 at *
  rw [hk,out_ok,D_dec _ _ ha,out_ok,D_dec _ _ hb,out_ok,D_dec _ _ hc,out_ok,wr_u32 (by omega) (by omega),wr_u32 (by omega) (by omega)]
theorem back6 (a : Nat) (ha : a ≤ M32) : pB [bs l6,bs (Lib.decDigits a)] = ({ zI with f_Kind:=6,f_Local:=(a : Int) },0):=by
  rw [pB6 (t:=[bs l6,bs (Lib.decDigits a)]) (show knd n6 = 6 by decide +kernel),if_pos (by rfl)]
  show out (D (bs (Lib.decDigits a)) M32) (fun a=>({ zI with f_Kind:=6,f_Local:=wr .u32 a },0)) = _
  unfold M32 at *
  rw [D_dec _ _ ha,out_ok,wr_u32 (by omega) (by omega)]
theorem key_all {v : Vector Int 32} {l : List UInt8} (hl : v.toList = ob l) (h32 : l.length = 32) : keys_Hex v = some (bs (Hex.encL l)) ∧ crawlwayref07_Bytes v = some v.toList ∧ crawlwayref05_Encode v.toList = some (bs (Hex.encL l)) ∧ K (bs (Hex.encL l)) = (v,0):=by
  refine ⟨?_,Key.bytes_eq v,?_,?_⟩
  · unfold keys_Hex; rw [hl,Hex.encode_eq _ (by omega),bindM_some]; rfl
  · rw [hl,Hex.refEncode_eq _ (by omega)]; rfl
  · unfold K
    have h3 : Hex.dec (bs (Hex.encL l)) = some l:=Hex.dec_enc l
    rw [h3]
    show Key.par (ob l,0) = _
    rw [← hl]
    unfold Key.par
    rw [if_neg (by simp),Key.ofR_vec]
theorem dec_texts (n : Nat) (h : n < 18446744073709551616) : decimal_Text (n : Int) = some (bs (Lib.decDigits n)) ∧ crawlwayref03_Text (n : Int) = some (bs (Lib.decDigits n)) ∧ ln (Lib.decDigits n):=by
  refine ⟨?_,?_,?_⟩
  · rw [text_code n h,Host.fmtU_bs]
  · rw [text_ref n h,Host.fmtU_bs]
  · have:=decDigits_len n h
    show _ ≤ _
    omega
theorem dec_texts32 (n : Nat) (h : n < 4294967296) : decimal_Text (wr .u64 (n : Int)) = some (bs (Lib.decDigits n)) ∧ crawlwayref03_Text (wr .u64 (n : Int)) = some (bs (Lib.decDigits n)) ∧ ln (Lib.decDigits n):=by
  rw [wr_u64 (by omega) (by omega)]
  exact dec_texts n (by omega)
theorem line1 {b : List UInt8} {x : S_api_Item} (e : x = { zI with f_Kind:=1,f_Bytes:=ob b }) (hb : b.length ≤ 6000) (hr : script_Right x = some true) : Line x [l1,wL b]:=by
  have hl : ln (wL b):=by have:=wL_len b; show _ ≤ _; omega
  have hx : x.f_Bytes = ob b:=by rw [e]
  have hk : x.f_Kind = 1:=by rw [e]
  exact ⟨by simp,by simp,all2 (l_32 (by decide)) (wL_32 b),all2 (P:=ln) (by decide) hl,code1 hr hk (by rw [hx]; exact word_code b (by omega)) hl,ref1 hk (by rw [hx]; exact word_ref b (by omega)) hl,by rw [e]; exact back1 b⟩
theorem line2 {b : List UInt8} {x : S_api_Item} (e : x = { zI with f_Kind:=2,f_Bytes:=ob b }) (hb : b.length ≤ 6000) (hr : script_Right x = some true) : Line x [l2,wL b]:=by
  have hl : ln (wL b):=by have:=wL_len b; show _ ≤ _; omega
  have hx : x.f_Bytes = ob b:=by rw [e]
  have hk : x.f_Kind = 2:=by rw [e]
  exact ⟨by simp,by simp,all2 (l_32 (by decide)) (wL_32 b),all2 (P:=ln) (by decide) hl,code2 hr hk (by rw [hx]; exact word_code b (by omega)) hl,ref2 hk (by rw [hx]; exact word_ref b (by omega)) hl,by rw [e]; exact back2 b⟩
theorem line3 {b r : List UInt8} {o : Bool} {x : S_api_Item} (e : x = { zI with f_Kind:=3,f_Bytes:=ob b,f_Ok:=o,f_Result:=ob r }) (ho : o = false → r = []) (hb : b.length ≤ 6000) (hn : r.length ≤ 7000) (hr : script_Right x = some true) : Line x [l3,wL b,rL o r]:=by
  have hl : ln (wL b):=by have:=wL_len b; show _ ≤ _; omega
  have hR : ln (rL o r):=by have:=rL_len o r; show _ ≤ _; omega
  have hx : x.f_Bytes = ob b:=by rw [e]
  have hy : x.f_Result = ob r:=by rw [e]
  have hz : x.f_Ok = o:=by rw [e]
  have hk : x.f_Kind = 3:=by rw [e]
  refine ⟨by simp,by simp,all3 (l_32 (by decide)) (wL_32 b) (rL_32 o r),all3 (P:=ln) (by decide) hl hR,?_,?_,by rw [e]; exact back3 b r o ho⟩
  · rw [← hz]; exact code3 hr hk (by rw [hx]; exact word_code b (by omega)) hl hy hn
  · rw [← hz]; exact ref3 hk (by rw [hx]; exact word_ref b (by omega)) hl hy hn
theorem line4 {V : Int} {l b r : List UInt8} {k : Nat} {o : Bool} {x : S_api_Item} (e : x = { zI with f_Kind:=4,f_From:=Host.mkE (mkA V l) (k : Int),f_Bytes:=ob b,f_Ok:=o,f_Result:=ob r }) (hl16 : l.length = 16) (hR16 : rightL V l = true) (k1 : 1 ≤ k) (k2 : k ≤ 65535) (ho : o = false → r = []) (hb : b.length ≤ 6000) (hn : r.length ≤ 7000) (hr : script_Right x = some true) : Line x [l4,Host.hostL V l k,wL b,rL o r]:=by
  have hl : ln (wL b):=by have:=wL_len b; show _ ≤ _; omega
  have hR : ln (rL o r):=by have:=rL_len o r; show _ ≤ _; omega
  have hH : ln (Host.hostL V l k):=by have:=Host.hostL_len (V:=V) hl16 k k2; show _ ≤ _; omega
  have hE:=HexK.rightE_of hR16 k1 k2
  have t1:=Host.text_code12 (V:=V) (n:=(k : Int)) hl16
  have t2:=Host.text_ref12 (V:=V) (n:=(k : Int)) hl16
  rw [if_pos hE,Int.toNat_natCast] at t1 t2
  have hx : x.f_Bytes = ob b:=by rw [e]
  have hy : x.f_Result = ob r:=by rw [e]
  have hz : x.f_Ok = o:=by rw [e]
  have hf : x.f_From = Host.mkE (mkA V l) (k : Int):=by rw [e]
  have hk : x.f_Kind = 4:=by rw [e]
  have hP : H (bs (Host.hostL V l k)) = (Host.mkE (mkA V l) (k : Int),0):=by unfold H; rw [bs_list]; exact Host.endP_text hl16 hR16 k k1 k2
  refine ⟨by simp,by simp,all4 (l_32 (by decide)) (host_32 hl16 k) (wL_32 b) (rL_32 o r),all4 (P:=ln) (by decide) hH hl hR,?_,?_,by rw [e]; exact back4 _ b r _ hP o ho⟩
  · rw [← hz]; exact code4 hr hk (by rw [hf]; exact t1) hH (by rw [hx]; exact word_code b (by omega)) hl hy hn
  · rw [← hz]; exact ref4 hk (by rw [hf]; exact t2) hH (by rw [hx]; exact word_ref b (by omega)) hl hy hn
theorem line5 {v : Vector Int 32} {l : List UInt8} {a b c : Nat} {x : S_api_Item} (e : x = { zI with f_Kind:=5,f_Key:=v,f_Local:=(a : Int),f_Remote:=(b : Int),f_Next:=(c : Int) }) (hv : v.toList = ob l) (h32 : l.length = 32) (ha : a ≤ M32) (hb : b ≤ M32) (hc : c ≤ M64) (hr : script_Right x = some true) : Line x [l5,Hex.encL l,Lib.decDigits a,Lib.decDigits b,Lib.decDigits c]:=by
  have hl : ln (Hex.encL l):=by have:=Hex.encL_length l; show _ ≤ _; omega
  obtain ⟨k1,k2,k3,k4⟩:=key_all hv h32
  have hV : x.f_Key = v:=by rw [e]
  have hA : x.f_Local = (a : Int):=by rw [e]
  have hB : x.f_Remote = (b : Int):=by rw [e]
  have hC : x.f_Next = (c : Int):=by rw [e]
  have hk : x.f_Kind = 5:=by rw [e]
  have ha':=ha
  have hb':=hb
  have hc':=hc
  unfold M32 at ha' hb'
  unfold M64 at hc'
  obtain ⟨a1,a2,a3⟩:=dec_texts32 a (by omega)
  obtain ⟨b1,b2,b3⟩:=dec_texts32 b (by omega)
  obtain ⟨c1,c2,c3⟩:=dec_texts c (by omega)
  refine ⟨by simp,by simp,all5 (l_32 (by decide)) (encL_32 l) (dec_32 a) (dec_32 b) (dec_32 c),all5 (P:=ln) (by decide) hl a3 b3 c3,?_,?_,by rw [e]; exact back5 v _ a b c k4 ha hb hc⟩
  · exact code5 hr hk (by rw [hV]; exact k1) (by rw [hA]; exact a1) (by rw [hB]; exact b1) (by rw [hC]; exact c1) hl a3 b3 c3
  · exact ref5 (V:=v.toList) hk (by rw [hV]; exact k2) k3 (by rw [hA]; exact a2) (by rw [hB]; exact b2) (by rw [hC]; exact c2) hl a3 b3 c3
theorem line6 {a : Nat} {x : S_api_Item} (e : x = { zI with f_Kind:=6,f_Local:=(a : Int) }) (ha : a ≤ M32) (hr : script_Right x = some true) : Line x [l6,Lib.decDigits a]:=by
  have hA : x.f_Local = (a : Int):=by rw [e]
  have hk : x.f_Kind = 6:=by rw [e]
  have ha':=ha
  unfold M32 at ha'
  obtain ⟨a1,a2,a3⟩:=dec_texts32 a (by omega)
  exact ⟨by simp,by simp,all2 (l_32 (by decide)) (dec_32 a),all2 (P:=ln) (by decide) a3,code6 hr hk (by rw [hA]; exact a1) a3,ref6 hk (by rw [hA]; exact a2) a3,by rw [e]; exact back6 a ha⟩
end Go.Proofs.YtkkmmpofdcccmaaGreatDoor.Scr
namespace Go.Proofs.YtkkmmpofdcccmaaGreatDoor.Scr
open E Go.RowKit
open Adr AdrT
theorem nat_u32 {n : Int} (h : (Lit.int .u32 n).wf = true) : ∃ k : Nat,n = (k : Int) ∧ k ≤ M32:=by
  have h2 : 0 ≤ n ∧ n < 4294967296:=by
    simp [Lit.wf,IntKind.min,IntKind.max,IntKind.signed,IntKind.bits] at h; omega
  refine ⟨n.toNat,by omega,?_⟩
  show _ ≤ 4294967295
  omega
theorem nat_u64 {n : Int} (h : (Lit.int .u64 n).wf = true) : ∃ k : Nat,n = (k : Int) ∧ k ≤ M64:=by
  have h2 : 0 ≤ n ∧ n < 18446744073709551616:=by
    simp [Lit.wf,IntKind.min,IntKind.max,IntKind.signed,IntKind.bits] at h; omega
  refine ⟨n.toNat,by omega,?_⟩
  show _ ≤ 18446744073709551615
  omega
theorem ob_len (l : List UInt8) : (ob l).length = l.length:=by unfold ob; rw [List.length_map]
theorem end_of {e : S_api_Endpoint} (h : hostport_Right e = some true) (w : ok_api_Endpoint e) : ∃ V l k,e = Host.mkE (mkA V l) ((k : Nat) : Int) ∧ l.length = 16 ∧ rightL V l = true ∧ 1 ≤ k ∧ k ≤ 65535:=by
  obtain ⟨V,l,n,rfl,hl,_⟩:=Host.exists_mkE e w
  rw [Host.right_code12 hl] at h
  obtain ⟨h1,k,rfl,h2,h3⟩:=Host.rightE_iff (Option.some.inj h)
  exact ⟨V,l,k,rfl,hl,h1,h2,h3⟩
theorem rt_line {x : S_api_Item} (h : Rt x) (w : ok_api_Item x) (hs : smallI x) : ∃ W,Line x W:=by
  have hr:=rt_right h w hs
  cases h with
  | k12 k hk b =>
    obtain ⟨l,rfl⟩:=exists_ob b w.2.1
    have:=hs.1
    have hl : l.length ≤ 6000:=by rw [← ob_len l]; exact this
    rcases hk with rfl | rfl
    · exact ⟨_,line1 rfl hl hr⟩
    · exact ⟨_,line2 rfl hl hr⟩
  | k3n b =>
    obtain ⟨l,rfl⟩:=exists_ob b w.2.1
    have hl : l.length ≤ 6000:=by rw [← ob_len l]; exact hs.1
    exact ⟨_,line3 (o:=false) (r:=[]) rfl (fun _=>rfl) hl (by simp) hr⟩
  | k3y b r =>
    obtain ⟨l,rfl⟩:=exists_ob b w.2.1
    obtain ⟨m,rfl⟩:=exists_ob r w.2.2.2.1
    have hl : l.length ≤ 6000:=by rw [← ob_len l]; exact hs.1
    have hm : m.length ≤ 7000:=by rw [← ob_len m]; exact hs.2
    exact ⟨_,line3 (o:=true) (r:=m) rfl (fun h=>by cases h) hl hm hr⟩
  | k4n b e he =>
    obtain ⟨l,rfl⟩:=exists_ob b w.2.1
    obtain ⟨V,q,k,rfl,q16,qR,k1,k2⟩:=end_of he w.2.2.1
    have hl : l.length ≤ 6000:=by rw [← ob_len l]; exact hs.1
    exact ⟨_,line4 (o:=false) (r:=[]) rfl q16 qR k1 k2 (fun _=>rfl) hl (by simp) hr⟩
  | k4y b r e he =>
    obtain ⟨l,rfl⟩:=exists_ob b w.2.1
    obtain ⟨m,rfl⟩:=exists_ob r w.2.2.2.1
    obtain ⟨V,q,k,rfl,q16,qR,k1,k2⟩:=end_of he w.2.2.1
    have hl : l.length ≤ 6000:=by rw [← ob_len l]; exact hs.1
    have hm : m.length ≤ 7000:=by rw [← ob_len m]; exact hs.2
    exact ⟨_,line4 (o:=true) (r:=m) rfl q16 qR k1 k2 (fun h=>by cases h) hl hm hr⟩
  | k5 v a b c =>
    obtain ⟨l,hl⟩:=exists_ob v.toList w.2.2.2.2.2.1
    have h32 : l.length = 32:=by rw [← ob_len l,← hl,Vector.length_toList]
    obtain ⟨a,rfl,ha⟩:=nat_u32 w.2.2.2.2.2.2.1
    obtain ⟨b,rfl,hb⟩:=nat_u32 w.2.2.2.2.2.2.2.1
    obtain ⟨c,rfl,hc⟩:=nat_u64 w.2.2.2.2.2.2.2.2
    exact ⟨_,line5 rfl hl h32 ha hb hc hr⟩
  | k6 a =>
    obtain ⟨a,rfl,ha⟩:=nat_u32 w.2.2.2.2.2.2.1
    exact ⟨_,line6 rfl ha hr⟩
theorem line_size {x : S_api_Item} {W : List (List UInt8)} (h : Line x W) : (jn W).length < 1000000:=by
  have h1:=jn_len 20000 W h.sz
  have h2 : W.length * (20000 + 1) ≤ 5 * 20001:=Nat.mul_le_mul_right _ h.len
  omega
theorem parse_both {l : List UInt8} (h : l.length < 1000000) (h5 : (parts 32 l).length ≤ 10000) (hs : ∀ w ∈ parts 32 l,w.length < 100000) : script_Parse (bs l) = some (pB ((parts 32 l).map bs)) ∧ crawlwayref50_Parse (bs l) = some (pB ((parts 32 l).map bs)):=by
  have h0 : 0 < (parts 32 l).length:=List.length_pos_iff.2 (parts_ne 32 l)
  have sz : ∀ s ∈ (parts 32 l).map bs,s.size < 100000:=fun s hm=>by
    obtain ⟨w,hw,rfl⟩:=List.mem_map.1 hm
    rw [bs_size]; exact hs w hw
  have e1:=parts_code 32 l h
  have e2:=parts_ref 32 l h
  rw [show ((32 : UInt8).toNat : Int) = 32 from rfl] at e1 e2
  exact ⟨parse_code _ _ e1 (by rw [List.length_map]; exact h0) (by rw [List.length_map]; exact h5) sz,parse_ref _ _ e2 (by rw [List.length_map]; exact h0) (by rw [List.length_map]; exact h5) sz⟩
theorem line_parse {x : S_api_Item} {W : List (List UInt8)} (h : Line x W) : script_Parse (bs (jn W)) = some (x,0):=by
  have e:=parts_jn W h.ne h.no
  have:=(parse_both (l:=jn W) (line_size h) (by rw [e]; have:=h.len; omega) (by rw [e]; intro w hw; have:=h.sz w hw; omega)).1
  rw [this,e,h.back]
theorem text_bad {x : S_api_Item} (h : script_Right x = some false) : script_Text x = some ((⟨#[]⟩ : ByteArray),1):=by
  unfold script_Text; rw [h]; rfl
theorem ScriptLines_pure (a0 : S_api_Item) (w0 : ok_api_Item a0) : crawlwaylaw50_ScriptLines a0 = some true:=by
  unfold crawlwaylaw50_ScriptLines
  rcases large [a0] with h | ⟨h,_,hs⟩
  · rw [h,bindM_some,if_pos rfl,alive50,bindM_some]
  · have hs:=hs a0 (by simp)
    obtain ⟨b,h1,h2,h3⟩:=right_both a0 w0 hs
    rw [h,bindM_some,if_neg Bool.false_ne_true,h2,bindM_some]
    cases b with
    | false =>
      rw [text_bad h1,bindM_some,h1,bindM_some,if_neg (by simp),if_pos (by simp),if_pos (by exact seq_self _),if_pos (by rfl),alive50,bindM_some]
    | true =>
      obtain ⟨W,hW⟩:=rt_line (h3 rfl) w0 hs
      rw [hW.code,bindM_some,h1,bindM_some,if_neg (by simp),if_neg (by simp),line_parse hW,bindM_some,hW.ref,bindM_some,if_pos (by exact seq_self _),if_pos (by rfl),same_ref _ _ hs,bindM_some,if_pos (by simp),if_pos (by rfl),alive50,bindM_some]
theorem two {t : List ByteArray} (h : t.length = 2) : t = [lget t 0,lget t 1]:=by
  match t,h with
  | [a,b],_=>rfl
end Go.Proofs.YtkkmmpofdcccmaaGreatDoor.Scr
