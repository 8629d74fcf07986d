/- Texts of this claim, those in one that belong together; printed by a program of this project. -/
import Derived.Test.YtkkmmpofdcccmaaGreatDoorProg
import Derived.Test.YtkkmmpofdcccmaaGreatDoorKScriptParses4
set_option linter.unusedVariables false
set_option linter.unusedSimpArgs false
namespace Go.Proofs.YtkkmmpofdcccmaaGreatDoor
open E Go.RowKit _root_.Go.Proofs.Tryz
def crawlwayref50_Right (x0 : S_api_Item) : Option (Bool) :=
 if (x0.f_Kind == 1) = true then (crawlwayref50_Same ({ { ({ f_Kind:=(0 : Int),f_Bytes:=([] : List Int),f_From:=({ f_A:=({ f_V:=(0 : Int),f_B:=(Vector.replicate 16 (0 : Int) : (Vector Int 16)) } : S_api_Addr),f_Port:=(0 : Int) } : S_api_Endpoint),f_Result:=([] : List Int),f_Ok:=false,f_Key:=(Vector.replicate 32 (0 : Int) : (Vector Int 32)),f_Local:=(0 : Int),f_Remote:=(0 : Int),f_Next:=(0 : Int) } : S_api_Item) with f_Kind:=x0.f_Kind } with f_Bytes:=x0.f_Bytes }) x0 >>= fun t4=>if t4 = true then (if x0.f_Ok = true then (some true) else (some ((x0.f_Result.length : Int) == 0))) else (some false)) else (if (x0.f_Kind == 2) = true then (crawlwayref50_Same ({ { ({ f_Kind:=(0 : Int),f_Bytes:=([] : List Int),f_From:=({ f_A:=({ f_V:=(0 : Int),f_B:=(Vector.replicate 16 (0 : Int) : (Vector Int 16)) } : S_api_Addr),f_Port:=(0 : Int) } : S_api_Endpoint),f_Result:=([] : List Int),f_Ok:=false,f_Key:=(Vector.replicate 32 (0 : Int) : (Vector Int 32)),f_Local:=(0 : Int),f_Remote:=(0 : Int),f_Next:=(0 : Int) } : S_api_Item) with f_Kind:=x0.f_Kind } with f_Bytes:=x0.f_Bytes }) x0 >>= fun t8=>if t8 = true then (if x0.f_Ok = true then (some true) else (some ((x0.f_Result.length : Int) == 0))) else (some false)) else (if (x0.f_Kind == 3) = true then (crawlwayref50_Same ({ { { { ({ f_Kind:=(0 : Int),f_Bytes:=([] : List Int),f_From:=({ f_A:=({ f_V:=(0 : Int),f_B:=(Vector.replicate 16 (0 : Int) : (Vector Int 16)) } : S_api_Addr),f_Port:=(0 : Int) } : S_api_Endpoint),f_Result:=([] : List Int),f_Ok:=false,f_Key:=(Vector.replicate 32 (0 : Int) : (Vector Int 32)),f_Local:=(0 : Int),f_Remote:=(0 : Int),f_Next:=(0 : Int) } : S_api_Item) with f_Kind:=x0.f_Kind } with f_Bytes:=x0.f_Bytes } with f_Result:=x0.f_Result } with f_Ok:=x0.f_Ok }) x0 >>= fun t12=>if t12 = true then (if x0.f_Ok = true then (some true) else (some ((x0.f_Result.length : Int) == 0))) else (some false)) else (if (x0.f_Kind == 4) = true then (crawlwayref12_Right x0.f_From >>= fun t16=>if (!t16) = true then (some false) else (crawlwayref50_Same ({ { { { { ({ f_Kind:=(0 : Int),f_Bytes:=([] : List Int),f_From:=({ f_A:=({ f_V:=(0 : Int),f_B:=(Vector.replicate 16 (0 : Int) : (Vector Int 16)) } : S_api_Addr),f_Port:=(0 : Int) } : S_api_Endpoint),f_Result:=([] : List Int),f_Ok:=false,f_Key:=(Vector.replicate 32 (0 : Int) : (Vector Int 32)),f_Local:=(0 : Int),f_Remote:=(0 : Int),f_Next:=(0 : Int) } : S_api_Item) with f_Kind:=x0.f_Kind } with f_Bytes:=x0.f_Bytes } with f_From:=x0.f_From } with f_Result:=x0.f_Result } with f_Ok:=x0.f_Ok }) x0 >>= fun t18=>if t18 = true then (if x0.f_Ok = true then (some true) else (some ((x0.f_Result.length : Int) == 0))) else (some false))) else (if (x0.f_Kind == 5) = true then (crawlwayref50_Same ({ { { { { ({ f_Kind:=(0 : Int),f_Bytes:=([] : List Int),f_From:=({ f_A:=({ f_V:=(0 : Int),f_B:=(Vector.replicate 16 (0 : Int) : (Vector Int 16)) } : S_api_Addr),f_Port:=(0 : Int) } : S_api_Endpoint),f_Result:=([] : List Int),f_Ok:=false,f_Key:=(Vector.replicate 32 (0 : Int) : (Vector Int 32)),f_Local:=(0 : Int),f_Remote:=(0 : Int),f_Next:=(0 : Int) } : S_api_Item) with f_Kind:=x0.f_Kind } with f_Key:=x0.f_Key } with f_Local:=x0.f_Local } with f_Remote:=x0.f_Remote } with f_Next:=x0.f_Next }) x0 >>= fun t22=>if t22 = true then (if x0.f_Ok = true then (some true) else (some ((x0.f_Result.length : Int) == 0))) else (some false)) else (if (x0.f_Kind == 6) = true then (crawlwayref50_Same ({ { ({ f_Kind:=(0 : Int),f_Bytes:=([] : List Int),f_From:=({ f_A:=({ f_V:=(0 : Int),f_B:=(Vector.replicate 16 (0 : Int) : (Vector Int 16)) } : S_api_Addr),f_Port:=(0 : Int) } : S_api_Endpoint),f_Result:=([] : List Int),f_Ok:=false,f_Key:=(Vector.replicate 32 (0 : Int) : (Vector Int 32)),f_Local:=(0 : Int),f_Remote:=(0 : Int),f_Next:=(0 : Int) } : S_api_Item) with f_Kind:=x0.f_Kind } with f_Local:=x0.f_Local }) x0 >>= fun t26=>if t26 = true then (if x0.f_Ok = true then (some true) else (some ((x0.f_Result.length : Int) == 0))) else (some false)) else (some false))))))
def crawlwayref50_Text (x0 : S_api_Item) : Option (ByteArray) :=
 if (x0.f_Kind == 1) = true then (crawlwayref50_word x0.f_Bytes >>= fun t3=>if (⟨#[115,101,116,32]⟩ : ByteArray).size + t3.size ≤ 140737488355328 then some ((⟨#[115,101,116,32]⟩ : ByteArray) ++ t3) else none) else (if (x0.f_Kind == 2) = true then (crawlwayref50_word x0.f_Bytes >>= fun t6=>if (⟨#[108,111,97,100,32]⟩ : ByteArray).size + t6.size ≤ 140737488355328 then some ((⟨#[108,111,97,100,32]⟩ : ByteArray) ++ t6) else none) else (if (x0.f_Kind == 3) = true then (crawlwayref50_word x0.f_Bytes >>= fun t9=>if (⟨#[111,117,116,32]⟩ : ByteArray).size + t9.size ≤ 140737488355328 then if ((⟨#[111,117,116,32]⟩ : ByteArray) ++ t9).size + (⟨#[32]⟩ : ByteArray).size ≤ 140737488355328 then crawlwayref50_answer x0 >>= fun t12=>if (((⟨#[111,117,116,32]⟩ : ByteArray) ++ t9) ++ (⟨#[32]⟩ : ByteArray)).size + t12.size ≤ 140737488355328 then some ((((⟨#[111,117,116,32]⟩ : ByteArray) ++ t9) ++ (⟨#[32]⟩ : ByteArray)) ++ t12) else none else none else none) else (if (x0.f_Kind == 4) = true then (crawlwayref12_Text x0.f_From >>= fun t15=>if (⟨#[105,110,32]⟩ : ByteArray).size + t15.size ≤ 140737488355328 then if ((⟨#[105,110,32]⟩ : ByteArray) ++ t15).size + (⟨#[32]⟩ : ByteArray).size ≤ 140737488355328 then crawlwayref50_word x0.f_Bytes >>= fun t18=>if (((⟨#[105,110,32]⟩ : ByteArray) ++ t15) ++ (⟨#[32]⟩ : ByteArray)).size + t18.size ≤ 140737488355328 then if ((((⟨#[105,110,32]⟩ : ByteArray) ++ t15) ++ (⟨#[32]⟩ : ByteArray)) ++ t18).size + (⟨#[32]⟩ : ByteArray).size ≤ 140737488355328 then crawlwayref50_answer x0 >>= fun t21=>if (((((⟨#[105,110,32]⟩ : ByteArray) ++ t15) ++ (⟨#[32]⟩ : ByteArray)) ++ t18) ++ (⟨#[32]⟩ : ByteArray)).size + t21.size ≤ 140737488355328 then some ((((((⟨#[105,110,32]⟩ : ByteArray) ++ t15) ++ (⟨#[32]⟩ : ByteArray)) ++ t18) ++ (⟨#[32]⟩ : ByteArray)) ++ t21) else none else none else none else none else none) else (if (x0.f_Kind == 5) = true then (crawlwayref07_Bytes x0.f_Key >>= fun t24=>crawlwayref05_Encode t24 >>= fun t27=>if (⟨#[105,110,115,116,97,108,108,32]⟩ : ByteArray).size + t27.size ≤ 140737488355328 then if ((⟨#[105,110,115,116,97,108,108,32]⟩ : ByteArray) ++ t27).size + (⟨#[32]⟩ : ByteArray).size ≤ 140737488355328 then crawlwayref03_Text (wr .u64 x0.f_Local) >>= fun t30=>if (((⟨#[105,110,115,116,97,108,108,32]⟩ : ByteArray) ++ t27) ++ (⟨#[32]⟩ : ByteArray)).size + t30.size ≤ 140737488355328 then if ((((⟨#[105,110,115,116,97,108,108,32]⟩ : ByteArray) ++ t27) ++ (⟨#[32]⟩ : ByteArray)) ++ t30).size + (⟨#[32]⟩ : ByteArray).size ≤ 140737488355328 then crawlwayref03_Text (wr .u64 x0.f_Remote) >>= fun t33=>if (((((⟨#[105,110,115,116,97,108,108,32]⟩ : ByteArray) ++ t27) ++ (⟨#[32]⟩ : ByteArray)) ++ t30) ++ (⟨#[32]⟩ : ByteArray)).size + t33.size ≤ 140737488355328 then if ((((((⟨#[105,110,115,116,97,108,108,32]⟩ : ByteArray) ++ t27) ++ (⟨#[32]⟩ : ByteArray)) ++ t30) ++ (⟨#[32]⟩ : ByteArray)) ++ t33).size + (⟨#[32]⟩ : ByteArray).size ≤ 140737488355328 then crawlwayref03_Text x0.f_Next >>= fun t36=>if (((((((⟨#[105,110,115,116,97,108,108,32]⟩ : ByteArray) ++ t27) ++ (⟨#[32]⟩ : ByteArray)) ++ t30) ++ (⟨#[32]⟩ : ByteArray)) ++ t33) ++ (⟨#[32]⟩ : ByteArray)).size + t36.size ≤ 140737488355328 then some ((((((((⟨#[105,110,115,116,97,108,108,32]⟩ : ByteArray) ++ t27) ++ (⟨#[32]⟩ : ByteArray)) ++ t30) ++ (⟨#[32]⟩ : ByteArray)) ++ t33) ++ (⟨#[32]⟩ : ByteArray)) ++ t36) else none else none else none else none else none else none else none) else (crawlwayref03_Text (wr .u64 x0.f_Local) >>= fun t39=>if (⟨#[102,111,114,103,101,116,32]⟩ : ByteArray).size + t39.size ≤ 140737488355328 then some ((⟨#[102,111,114,103,101,116,32]⟩ : ByteArray) ++ t39) else none)))))
def crawlwayref50_take (x0 : S_api_Item) (x1 : Int) (x2 : ByteArray) : Option (S_api_Item × Int) :=
 if (x0.f_Kind == 4) = true then (if (x1 == 0) = true then (crawlwayref12_Parse x2 >>= fun t5=>some ({ x0 with f_From:=t5.1 },t5.2)) else (if (wr .i64 (x1 - 1) == 0) = true then (crawlwayref50_bytes x2 >>= fun t8=>some ({ x0 with f_Bytes:=t8.1 },t8.2)) else (if (!seq x2 (⟨#[33]⟩ : ByteArray)) = true then (crawlwayref50_bytes x2 >>= fun t15=>some ({ { x0 with f_Ok:=true } with f_Result:=t15.1 },t15.2)) else (some (x0,0))))) else (if (decide (x0.f_Kind ≤ 4)) = true then (if (x1 == 0) = true then (crawlwayref50_bytes x2 >>= fun t23=>some ({ x0 with f_Bytes:=t23.1 },t23.2)) else (if (!seq x2 (⟨#[33]⟩ : ByteArray)) = true then (crawlwayref50_bytes x2 >>= fun t30=>some ({ { x0 with f_Ok:=true } with f_Result:=t30.1 },t30.2)) else (some (x0,0)))) else (if (x0.f_Kind == 5) = true then (if (x1 == 0) = true then (crawlwayref07_ParseHex x2 >>= fun t38=>some ({ x0 with f_Key:=t38.1 },t38.2)) else (if (x1 == 3) = true then (crawlwayref03_Read x2 18446744073709551615 >>= fun t41=>some ({ x0 with f_Next:=t41.1 },t41.2)) else (crawlwayref03_Read x2 4294967295 >>= fun t43=>if (x1 == 2) = true then (some ({ x0 with f_Remote:=wr .u32 t43.1 },t43.2)) else (some ({ x0 with f_Local:=wr .u32 t43.1 },t43.2))))) else (crawlwayref03_Read x2 4294967295 >>= fun t47=>some ({ x0 with f_Local:=wr .u32 t47.1 },t47.2))))
theorem crawlwayref50_take_ok {x0 : S_api_Item} {x1 : Int} {x2 : ByteArray} {r : S_api_Item × Int} (hF : crawlwayref50_take x0 x1 x2 = some r) : ∀ {w0 w : World} {G_ : List Ent} {Z_ : List Nat} {s_ : World} {g0_ : G_api_Item} (hz0 : NK_api_Item (KZ w0 Z_) s_ (g0_,x0)) (hw_ : Wd w0 (frzE w0 Z_ s_::G_) w),
    Calls Tryz.prog 57 #[.agg (Cd.cs c_api_Item (g0_,x0)).toArray,.int .i64 x1,.string x2] w (fun e w'=>∃ (Z' : List Nat) (s' : World) (z : G_api_Item),Mono (KZ w0 Z_) s_ (KZ w0 Z') s' ∧ e = .returned (.tuple #[.agg (Cd.cs c_api_Item (z,r.1)).toArray,.int .i64 r.2]) ∧ (NK_api_Item (KZ w0 Z') s' (z,r.1)) ∧ Wd w0 (frzE w0 Z' s'::G_) w'):=by
 intro w0 w G_ Z_ s_ g0_ hz0 hw_
 unfold crawlwayref50_take at hF
 refine calls_enter (l:=[.agg (Cd.cs c_api_Item (g0_,x0)).toArray,.int .i64 x1,.string x2]) func57 rfl rfl rfl ?_
 refine at_enterF hw_ ?_
 clear hw_
 obtain ⟨Z0_,hZ0_⟩ : ∃ Z0_,Z0_ = Z_:=⟨_,rfl⟩
 obtain ⟨s0_,hs0_⟩ : ∃ s0_,s0_ = s_:=⟨_,rfl⟩
 have hM_ : Mono (KZ w0 Z0_) s0_ (KZ w0 Z_) s_:=by rw [hZ0_,hs0_]; exact Mono.refl _ _
 rw [← hZ0_,← hs0_]
 rw [show frzE w0 Z0_ s0_ = frzE w0 Z_ s_ from by rw [hZ0_,hs0_]]
 refine sr ?_
 refine at_box (cs:=Cd.cs c_api_Item (g0_,x0)) rfl rfl rfl ?_
 intro b1
 refine at_alloc (cs:=Cd.cs c_api_Item zv6) zeroValue33 rfl rfl ?_
 intro b2
 refine aa ?_
 refine ns ?_
 refine aa ?_
 refine ns ?_
 refine am ?_
 refine aa ?_
 refine nt ?_
 refine qs ?_
 refine sr ?_
 refine fa 0 underlying33 rfl sizeOf3 ?_
 refine aw (r_load_cell isAgg3 rfl (lens_cell0 (c:=(cInt .i64)) (y:=x0.f_Kind) (.s .z) (c_api_Item_f_Kind g0_ x0) rfl)) ?_
 refine aw xq ?_
 refine nwq [15,9,8,6,3,2,1] ?_
 rcases oi hF with ⟨h3,hF⟩|⟨h3,hF⟩
 ·refine ct h3 ?_
  refine qr ?_
  refine am ?_
  refine aw (r_isub rfl rfl) ?_
  refine aa ?_
  refine nwq [9,8,6,3,2,1] ?_
  refine qs ?_
  refine sr ?_
  refine fa 0 underlying33 rfl sizeOf3 ?_
  refine aw (r_load_cell isAgg3 rfl (lens_cell0 (c:=(cInt .i64)) (y:=x0.f_Kind) (.s .z) (c_api_Item_f_Kind g0_ x0) rfl)) ?_
  refine aw xq ?_
  refine am ?_
  refine at_fix (g:=21) rfl h3 ?_
  refine gy ?_
  refine am ?_
  refine gy ?_
  refine aw xq ?_
  refine aw xp ?_
  refine nwq [24,9,8,6,3,2,1] ?_
  rcases oi hF with ⟨h4,hF⟩|⟨h4,hF⟩
  ·refine ct h4 ?_
   refine qr ?_
   refine am ?_
   obtain ⟨t5,ht5,hF⟩:=of_bindM hF
   refine at_callB func40 rfl (by kernel_rfl) rfl rfl (fun w hw=>crawlwayref12_Parse_ok _ _ ht5 w) ?_
   refine am ?_
   refine aw xe ?_
   refine aw xe ?_
   refine fa 2 underlying33 rfl sizeOf27 ?_
   refine at_store (c:=c_api_Endpoint) (z:=t5.1) (.s .z) (c_api_Item_f_From g0_ x0) sizeOf27 rfl rfl rfl ?_
   refine aa ?_
   refine ns ?_
   refine aw (r_load_aggc (c:=c_api_Item) (z:=(g0_,{ x0 with f_From:=t5.1 })) isAgg33 sizeOf33 rfl (lens_cell (.s .z) (Lens.whole _ _))) ?_
   refine am ?_
   refine at_store (c:=c_api_Item) (z:=(g0_,{ x0 with f_From:=t5.1 })) .z (Lens.whole _ _) sizeOf33 rfl rfl rfl ?_
   refine aa ?_
   refine qn ?_
   refine at_drop (H:=_) (.s .z) ?_
   refine wq [7,6] ?_
   refine tn ?_
   refine qt ?_
   have hN6 : NK_api_Item (KZ w0 Z_) s_ (g0_,{ x0 with f_From:=t5.1 }):=hz0
   obtain rfl:=of_some hF
   exact at_res2 rfl (res_cell (c:=c_api_Item) (y:=(g0_,{ x0 with f_From:=t5.1 })) rfl .z (Lens.whole _ _) isAgg33 sizeOf33 (.inl rfl)) (res_tmp rfl) (fun w1 hw=>⟨Z_,s_,g0_,hM_,rfl,hN6,hw.pop⟩)
  refine cf h4 ?_
  refine sr ?_
  refine fa 0 underlying33 rfl sizeOf3 ?_
  refine aw (r_load_cell isAgg3 rfl (lens_cell0 (c:=(cInt .i64)) (y:=x0.f_Kind) (.s .z) (c_api_Item_f_Kind g0_ x0) rfl)) ?_
  refine aw (r_ileq rfl rfl) ?_
  refine am ?_
  refine at_fix (g:=34) rfl (kn (f:=fun z_=>decide (z_ ≤ 4)) (bb:=true) h3 (by decide)) ?_
  refine gy ?_
  refine am ?_
  refine gy ?_
  refine aw xq ?_
  refine aw xp ?_
  refine nwq [37,8,6,3,2,1] ?_
  rcases oi hF with ⟨h7,hF⟩|⟨h7,hF⟩
  ·refine ct h7 ?_
   refine qr ?_
   refine am ?_
   obtain ⟨t8,ht8,hF⟩:=of_bindM hF
   refine at_callO (c:=(cInt .u8)) (e:=5) (ys:=t8.1) (V:=fun p cap=>.tuple #[.slice p t8.1.length cap,.int .i64 t8.2]) func89 rfl (by kernel_rfl) rfl rfl (fun w hw=>crawlwayref50_bytes_ok _ _ ht8 w) ?_
   intro p9 c10
   refine am ?_
   refine aw xe ?_
   refine aw xe ?_
   refine fa 1 underlying33 rfl sizeOf22 ?_
   refine at_store (c:=cSv Int) (z:=((p9,c10),t8.1)) (.s (.s .z)) (c_api_Item_f_Bytes_sv g0_ x0) sizeOf22 rfl rfl rfl ?_
   refine aa ?_
   refine ns ?_
   refine aw (r_load_aggc (c:=c_api_Item) (z:=(((p9,c10),(g0_.2.1,g0_.2.2)),{ x0 with f_Bytes:=t8.1 })) isAgg33 sizeOf33 rfl (lens_cell (.s (.s .z)) (Lens.whole _ _))) ?_
   refine am ?_
   refine at_store (c:=c_api_Item) (z:=(((p9,c10),(g0_.2.1,g0_.2.2)),{ x0 with f_Bytes:=t8.1 })) (.s .z) (Lens.whole _ _) sizeOf33 rfl rfl rfl ?_
   refine aa ?_
   refine qn ?_
   refine at_drop (H:=_) (.s (.s .z)) ?_
   refine wq [7,6] ?_
   refine tn ?_
   refine qt ?_
   refine at_freeze (.s .z) ?_
   intro Z_ s_ hm12 hk13
   replace hM_:=Mono.mono hM_ hm12
   replace hz0:=NK_api_Item.mono hz0 hm12
   have hN11 : NK_api_Item (KZ w0 Z_) s_ (((p9,c10),(g0_.2.1,g0_.2.2)),{ x0 with f_Bytes:=t8.1 }):=⟨hk13,hz0.2⟩
   obtain rfl:=of_some hF
   exact at_res2 rfl (res_cell (c:=c_api_Item) (y:=(((p9,c10),(g0_.2.1,g0_.2.2)),{ x0 with f_Bytes:=t8.1 })) rfl .z (Lens.whole _ _) isAgg33 sizeOf33 (.inl rfl)) (res_tmp rfl) (fun w1 hw=>⟨Z_,s_,((p9,c10),(g0_.2.1,g0_.2.2)),hM_,rfl,hN11,hw.pop⟩)
  refine cf h7 ?_
  refine sr ?_
  refine fa 0 underlying33 rfl sizeOf3 ?_
  refine aw (r_load_cell isAgg3 rfl (lens_cell0 (c:=(cInt .i64)) (y:=x0.f_Kind) (.s .z) (c_api_Item_f_Kind g0_ x0) rfl)) ?_
  refine aw (r_ileq rfl rfl) ?_
  refine nwq [46,8,6,3,2,1] ?_
  refine ct (kn (f:=fun z_=>decide (z_ ≤ 4)) (bb:=true) h3 (by decide)) ?_
  refine sr ?_
  refine am ?_
  refine aw (r_sneq rfl rfl) ?_
  refine nwq [48,8,6,3,2] ?_
  rcases oi hF with ⟨h14,hF⟩|⟨h14,hF⟩
  ·refine ct h14 ?_
   refine sr ?_
   refine fa 21 underlying33 rfl sizeOf4 ?_
   refine at_store (c:=cBool) (z:=true) (.s .z) (c_api_Item_f_Ok g0_ x0) sizeOf4 rfl rfl rfl ?_
   refine nt ?_
   refine qr ?_
   refine am ?_
   obtain ⟨t15,ht15,hF⟩:=of_bindM hF
   refine at_callO (c:=(cInt .u8)) (e:=5) (ys:=t15.1) (V:=fun p cap=>.tuple #[.slice p t15.1.length cap,.int .i64 t15.2]) func89 rfl (by kernel_rfl) rfl rfl (fun w hw=>crawlwayref50_bytes_ok _ _ ht15 w) ?_
   intro p16 c17
   refine am ?_
   refine aw xe ?_
   refine aw xe ?_
   refine fa 20 underlying33 rfl sizeOf22 ?_
   refine at_store (c:=cSv Int) (z:=((p16,c17),t15.1)) (.s (.s .z)) (c_api_Item_f_Result_sv g0_ ({ x0 with f_Ok:=true })) sizeOf22 rfl rfl rfl ?_
   refine aa ?_
   refine ns ?_
   refine aw (r_load_aggc (c:=c_api_Item) (z:=(((g0_.1.1,g0_.1.2),(p16,c17)),{ { x0 with f_Ok:=true } with f_Result:=t15.1 })) isAgg33 sizeOf33 rfl (lens_cell (.s (.s .z)) (Lens.whole _ _))) ?_
   refine am ?_
   refine at_store (c:=c_api_Item) (z:=(((g0_.1.1,g0_.1.2),(p16,c17)),{ { x0 with f_Ok:=true } with f_Result:=t15.1 })) (.s .z) (Lens.whole _ _) sizeOf33 rfl rfl rfl ?_
   refine aa ?_
   refine qn ?_
   refine at_drop (H:=_) (.s (.s .z)) ?_
   refine wq [7,6] ?_
   refine tn ?_
   refine qt ?_
   refine at_freeze (.s .z) ?_
   intro Z_ s_ hm19 hk20
   replace hM_:=Mono.mono hM_ hm19
   replace hz0:=NK_api_Item.mono hz0 hm19
   have hN18 : NK_api_Item (KZ w0 Z_) s_ (((g0_.1.1,g0_.1.2),(p16,c17)),{ { x0 with f_Ok:=true } with f_Result:=t15.1 }):=⟨hz0.1,hk20⟩
   obtain rfl:=of_some hF
   exact at_res2 rfl (res_cell (c:=c_api_Item) (y:=(((g0_.1.1,g0_.1.2),(p16,c17)),{ { x0 with f_Ok:=true } with f_Result:=t15.1 })) rfl .z (Lens.whole _ _) isAgg33 sizeOf33 (.inl rfl)) (res_tmp rfl) (fun w1 hw=>⟨Z_,s_,((g0_.1.1,g0_.1.2),(p16,c17)),hM_,rfl,hN18,hw.pop⟩)
  refine cf h14 ?_
  refine sns ?_
  refine aw (r_load_aggc (c:=c_api_Item) (z:=(g0_,x0)) isAgg33 sizeOf33 rfl (lens_cell (.s .z) (Lens.whole _ _))) ?_
  refine am ?_
  refine at_store (c:=c_api_Item) (z:=(g0_,x0)) .z (Lens.whole _ _) sizeOf33 rfl rfl rfl ?_
  refine aa ?_
  refine qn ?_
  refine at_drop (H:=_) (.s .z) ?_
  refine wq [7,6] ?_
  refine tn ?_
  refine qt ?_
  obtain rfl:=of_some hF
  exact at_res2 rfl (res_cell (c:=c_api_Item) (y:=(g0_,x0)) rfl .z (Lens.whole _ _) isAgg33 sizeOf33 (.inl rfl)) (res_tmp rfl) (fun w1 hw=>⟨Z_,s_,g0_,hM_,rfl,hz0,hw.pop⟩)
 refine cf h3 ?_
 refine sn ?_
 refine qs ?_
 refine sr ?_
 refine fa 0 underlying33 rfl sizeOf3 ?_
 refine aw (r_load_cell isAgg3 rfl (lens_cell0 (c:=(cInt .i64)) (y:=x0.f_Kind) (.s .z) (c_api_Item_f_Kind g0_ x0) rfl)) ?_
 refine aw xq ?_
 refine am ?_
 refine at_fix (g:=21) rfl h3 ?_
 refine gn ?_
 refine gn ?_
 refine aw xp ?_
 refine nwq [24,9,8,6,3,2,1] ?_
 refine cf rfl ?_
 refine sr ?_
 refine fa 0 underlying33 rfl sizeOf3 ?_
 refine aw (r_load_cell isAgg3 rfl (lens_cell0 (c:=(cInt .i64)) (y:=x0.f_Kind) (.s .z) (c_api_Item_f_Kind g0_ x0) rfl)) ?_
 refine aw (r_ileq rfl rfl) ?_
 refine am ?_
 rcases oi hF with ⟨h21,hF⟩|⟨h21,hF⟩
 ·refine at_fix (g:=34) rfl h21 ?_
  refine gy ?_
  refine am ?_
  refine gy ?_
  refine aw xq ?_
  refine aw xp ?_
  refine nwq [37,8,6,3,2,1] ?_
  rcases oi hF with ⟨h22,hF⟩|⟨h22,hF⟩
  ·refine ct h22 ?_
   refine qr ?_
   refine am ?_
   obtain ⟨t23,ht23,hF⟩:=of_bindM hF
   refine at_callO (c:=(cInt .u8)) (e:=5) (ys:=t23.1) (V:=fun p cap=>.tuple #[.slice p t23.1.length cap,.int .i64 t23.2]) func89 rfl (by kernel_rfl) rfl rfl (fun w hw=>crawlwayref50_bytes_ok _ _ ht23 w) ?_
   intro p24 c25
   refine am ?_
   refine aw xe ?_
   refine aw xe ?_
   refine fa 1 underlying33 rfl sizeOf22 ?_
   refine at_store (c:=cSv Int) (z:=((p24,c25),t23.1)) (.s (.s .z)) (c_api_Item_f_Bytes_sv g0_ x0) sizeOf22 rfl rfl rfl ?_
   refine aa ?_
   refine ns ?_
   refine aw (r_load_aggc (c:=c_api_Item) (z:=(((p24,c25),(g0_.2.1,g0_.2.2)),{ x0 with f_Bytes:=t23.1 })) isAgg33 sizeOf33 rfl (lens_cell (.s (.s .z)) (Lens.whole _ _))) ?_
   refine am ?_
   refine at_store (c:=c_api_Item) (z:=(((p24,c25),(g0_.2.1,g0_.2.2)),{ x0 with f_Bytes:=t23.1 })) (.s .z) (Lens.whole _ _) sizeOf33 rfl rfl rfl ?_
   refine aa ?_
   refine qn ?_
   refine at_drop (H:=_) (.s (.s .z)) ?_
   refine wq [7,6] ?_
   refine tn ?_
   refine qt ?_
   refine at_freeze (.s .z) ?_
   intro Z_ s_ hm27 hk28
   replace hM_:=Mono.mono hM_ hm27
   replace hz0:=NK_api_Item.mono hz0 hm27
   have hN26 : NK_api_Item (KZ w0 Z_) s_ (((p24,c25),(g0_.2.1,g0_.2.2)),{ x0 with f_Bytes:=t23.1 }):=⟨hk28,hz0.2⟩
   obtain rfl:=of_some hF
   exact at_res2 rfl (res_cell (c:=c_api_Item) (y:=(((p24,c25),(g0_.2.1,g0_.2.2)),{ x0 with f_Bytes:=t23.1 })) rfl .z (Lens.whole _ _) isAgg33 sizeOf33 (.inl rfl)) (res_tmp rfl) (fun w1 hw=>⟨Z_,s_,((p24,c25),(g0_.2.1,g0_.2.2)),hM_,rfl,hN26,hw.pop⟩)
  refine cf h22 ?_
  refine sr ?_
  refine fa 0 underlying33 rfl sizeOf3 ?_
  refine aw (r_load_cell isAgg3 rfl (lens_cell0 (c:=(cInt .i64)) (y:=x0.f_Kind) (.s .z) (c_api_Item_f_Kind g0_ x0) rfl)) ?_
  refine aw (r_ileq rfl rfl) ?_
  refine nwq [46,8,6,3,2,1] ?_
  refine ct h21 ?_
  refine sr ?_
  refine am ?_
  refine aw (r_sneq rfl rfl) ?_
  refine nwq [48,8,6,3,2] ?_
  rcases oi hF with ⟨h29,hF⟩|⟨h29,hF⟩
  ·refine ct h29 ?_
   refine sr ?_
   refine fa 21 underlying33 rfl sizeOf4 ?_
   refine at_store (c:=cBool) (z:=true) (.s .z) (c_api_Item_f_Ok g0_ x0) sizeOf4 rfl rfl rfl ?_
   refine nt ?_
   refine qr ?_
   refine am ?_
   obtain ⟨t30,ht30,hF⟩:=of_bindM hF
   refine at_callO (c:=(cInt .u8)) (e:=5) (ys:=t30.1) (V:=fun p cap=>.tuple #[.slice p t30.1.length cap,.int .i64 t30.2]) func89 rfl (by kernel_rfl) rfl rfl (fun w hw=>crawlwayref50_bytes_ok _ _ ht30 w) ?_
   intro p31 c32
   refine am ?_
   refine aw xe ?_
   refine aw xe ?_
   refine fa 20 underlying33 rfl sizeOf22 ?_
   refine at_store (c:=cSv Int) (z:=((p31,c32),t30.1)) (.s (.s .z)) (c_api_Item_f_Result_sv g0_ ({ x0 with f_Ok:=true })) sizeOf22 rfl rfl rfl ?_
   refine aa ?_
   refine ns ?_
   refine aw (r_load_aggc (c:=c_api_Item) (z:=(((g0_.1.1,g0_.1.2),(p31,c32)),{ { x0 with f_Ok:=true } with f_Result:=t30.1 })) isAgg33 sizeOf33 rfl (lens_cell (.s (.s .z)) (Lens.whole _ _))) ?_
   refine am ?_
   refine at_store (c:=c_api_Item) (z:=(((g0_.1.1,g0_.1.2),(p31,c32)),{ { x0 with f_Ok:=true } with f_Result:=t30.1 })) (.s .z) (Lens.whole _ _) sizeOf33 rfl rfl rfl ?_
   refine aa ?_
   refine qn ?_
   refine at_drop (H:=_) (.s (.s .z)) ?_
   refine wq [7,6] ?_
   refine tn ?_
   refine qt ?_
   refine at_freeze (.s .z) ?_
   intro Z_ s_ hm34 hk35
   replace hM_:=Mono.mono hM_ hm34
   replace hz0:=NK_api_Item.mono hz0 hm34
   have hN33 : NK_api_Item (KZ w0 Z_) s_ (((g0_.1.1,g0_.1.2),(p31,c32)),{ { x0 with f_Ok:=true } with f_Result:=t30.1 }):=⟨hz0.1,hk35⟩
   obtain rfl:=of_some hF
   exact at_res2 rfl (res_cell (c:=c_api_Item) (y:=(((g0_.1.1,g0_.1.2),(p31,c32)),{ { x0 with f_Ok:=true } with f_Result:=t30.1 })) rfl .z (Lens.whole _ _) isAgg33 sizeOf33 (.inl rfl)) (res_tmp rfl) (fun w1 hw=>⟨Z_,s_,((g0_.1.1,g0_.1.2),(p31,c32)),hM_,rfl,hN33,hw.pop⟩)
  refine cf h29 ?_
  refine sns ?_
  refine aw (r_load_aggc (c:=c_api_Item) (z:=(g0_,x0)) isAgg33 sizeOf33 rfl (lens_cell (.s .z) (Lens.whole _ _))) ?_
  refine am ?_
  refine at_store (c:=c_api_Item) (z:=(g0_,x0)) .z (Lens.whole _ _) sizeOf33 rfl rfl rfl ?_
  refine aa ?_
  refine qn ?_
  refine at_drop (H:=_) (.s .z) ?_
  refine wq [7,6] ?_
  refine tn ?_
  refine qt ?_
  obtain rfl:=of_some hF
  exact at_res2 rfl (res_cell (c:=c_api_Item) (y:=(g0_,x0)) rfl .z (Lens.whole _ _) isAgg33 sizeOf33 (.inl rfl)) (res_tmp rfl) (fun w1 hw=>⟨Z_,s_,g0_,hM_,rfl,hz0,hw.pop⟩)
 refine at_fix (g:=34) rfl h21 ?_
 refine gn ?_
 refine gn ?_
 refine aw xp ?_
 refine nwq [37,8,6,3,2,1] ?_
 refine cf rfl ?_
 refine sr ?_
 refine fa 0 underlying33 rfl sizeOf3 ?_
 refine aw (r_load_cell isAgg3 rfl (lens_cell0 (c:=(cInt .i64)) (y:=x0.f_Kind) (.s .z) (c_api_Item_f_Kind g0_ x0) rfl)) ?_
 refine aw (r_ileq rfl rfl) ?_
 refine nwq [46,8,6,3,2,1] ?_
 refine cf h21 ?_
 refine sr ?_
 refine fa 0 underlying33 rfl sizeOf3 ?_
 refine aw (r_load_cell isAgg3 rfl (lens_cell0 (c:=(cInt .i64)) (y:=x0.f_Kind) (.s .z) (c_api_Item_f_Kind g0_ x0) rfl)) ?_
 refine aw xq ?_
 refine am ?_
 rcases oi hF with ⟨h36,hF⟩|⟨h36,hF⟩
 ·refine at_fix (g:=59) rfl h36 ?_
  refine gy ?_
  refine am ?_
  refine gy ?_
  refine aw xq ?_
  refine aw xp ?_
  refine nwq [62,6,3,2,1] ?_
  rcases oi hF with ⟨h37,hF⟩|⟨h37,hF⟩
  ·refine ct h37 ?_
   refine qr ?_
   refine am ?_
   obtain ⟨t38,ht38,hF⟩:=of_bindM hF
   refine at_callB func39 rfl (by kernel_rfl) rfl rfl (fun w hw=>crawlwayref07_ParseHex_ok _ _ ht38 w) ?_
   refine am ?_
   refine aw xe ?_
   refine aw xe ?_
   refine fa 22 underlying33 rfl sizeOf29 ?_
   refine at_store (c:=(cVec (cInt .u8) 32 (by decide))) (z:=t38.1) (.s .z) (c_api_Item_f_Key g0_ x0) sizeOf29 rfl rfl rfl ?_
   refine aa ?_
   refine ns ?_
   refine aw (r_load_aggc (c:=c_api_Item) (z:=(g0_,{ x0 with f_Key:=t38.1 })) isAgg33 sizeOf33 rfl (lens_cell (.s .z) (Lens.whole _ _))) ?_
   refine am ?_
   refine at_store (c:=c_api_Item) (z:=(g0_,{ x0 with f_Key:=t38.1 })) .z (Lens.whole _ _) sizeOf33 rfl rfl rfl ?_
   refine aa ?_
   refine qn ?_
   refine at_drop (H:=_) (.s .z) ?_
   refine wq [7,6] ?_
   refine tn ?_
   refine qt ?_
   have hN39 : NK_api_Item (KZ w0 Z_) s_ (g0_,{ x0 with f_Key:=t38.1 }):=hz0
   obtain rfl:=of_some hF
   exact at_res2 rfl (res_cell (c:=c_api_Item) (y:=(g0_,{ x0 with f_Key:=t38.1 })) rfl .z (Lens.whole _ _) isAgg33 sizeOf33 (.inl rfl)) (res_tmp rfl) (fun w1 hw=>⟨Z_,s_,g0_,hM_,rfl,hN39,hw.pop⟩)
  refine cf h37 ?_
  refine sr ?_
  refine fa 0 underlying33 rfl sizeOf3 ?_
  refine aw (r_load_cell isAgg3 rfl (lens_cell0 (c:=(cInt .i64)) (y:=x0.f_Kind) (.s .z) (c_api_Item_f_Kind g0_ x0) rfl)) ?_
  refine aw xq ?_
  refine am ?_
  refine at_fix (g:=72) rfl h36 ?_
  refine gy ?_
  refine am ?_
  refine gy ?_
  refine aw xq ?_
  refine aw xp ?_
  refine nwq [75,6,3,2,1] ?_
  rcases oi hF with ⟨h40,hF⟩|⟨h40,hF⟩
  ·refine ct h40 ?_
   refine qr ?_
   refine am ?_
   obtain ⟨t41,ht41,hF⟩:=of_bindM hF
   refine at_call0 func43 rfl (by kernel_rfl) rfl rfl (fun w=>crawlwayref03_Read_ok _ _ _ ht41 w) ?_
   refine am ?_
   refine aw xe ?_
   refine aw xe ?_
   refine fa 56 underlying33 rfl sizeOf31 ?_
   refine at_store (c:=(cInt .u64)) (z:=t41.1) (.s .z) (c_api_Item_f_Next g0_ x0) sizeOf31 rfl rfl rfl ?_
   refine aa ?_
   refine ns ?_
   refine aw (r_load_aggc (c:=c_api_Item) (z:=(g0_,{ x0 with f_Next:=t41.1 })) isAgg33 sizeOf33 rfl (lens_cell (.s .z) (Lens.whole _ _))) ?_
   refine am ?_
   refine at_store (c:=c_api_Item) (z:=(g0_,{ x0 with f_Next:=t41.1 })) .z (Lens.whole _ _) sizeOf33 rfl rfl rfl ?_
   refine aa ?_
   refine qn ?_
   refine at_drop (H:=_) (.s .z) ?_
   refine wq [7,6] ?_
   refine tn ?_
   refine qt ?_
   have hN42 : NK_api_Item (KZ w0 Z_) s_ (g0_,{ x0 with f_Next:=t41.1 }):=hz0
   obtain rfl:=of_some hF
   exact at_res2 rfl (res_cell (c:=c_api_Item) (y:=(g0_,{ x0 with f_Next:=t41.1 })) rfl .z (Lens.whole _ _) isAgg33 sizeOf33 (.inl rfl)) (res_tmp rfl) (fun w1 hw=>⟨Z_,s_,g0_,hM_,rfl,hN42,hw.pop⟩)
  refine cf h40 ?_
  refine sr ?_
  refine am ?_
  obtain ⟨t43,ht43,hF⟩:=of_bindM hF
  refine at_call0 func43 rfl (by kernel_rfl) rfl rfl (fun w=>crawlwayref03_Read_ok _ _ _ ht43 w) ?_
  refine am ?_
  refine aw xe ?_
  refine aw xe ?_
  refine aa ?_
  refine aa ?_
  refine ns ?_
  refine am ?_
  refine aa ?_
  refine nwx [10,8,6,3,1] ?_
  refine fa 0 underlying33 rfl sizeOf3 ?_
  refine aw (r_load_cell isAgg3 rfl (lens_cell0 (c:=(cInt .i64)) (y:=x0.f_Kind) (.s .z) (c_api_Item_f_Kind g0_ x0) rfl)) ?_
  refine aw xq ?_
  refine am ?_
  refine at_fix (g:=91) rfl h36 ?_
  refine gy ?_
  refine am ?_
  refine gy ?_
  refine aw xq ?_
  refine aw xp ?_
  refine nwq [94,10,8,6,3] ?_
  rcases oi hF with ⟨h44,hF⟩|⟨h44,hF⟩
  ·refine ct h44 ?_
   refine qr ?_
   refine am ?_
   refine aw (r_conv underlying31 underlying30 rfl) ?_
   refine fa 55 underlying33 rfl sizeOf30 ?_
   refine at_store (c:=(cInt .u32)) (z:=wr .u32 t43.1) (.s .z) (c_api_Item_f_Remote g0_ x0) sizeOf30 rfl rfl rfl ?_
   refine ns ?_
   refine aw (r_load_aggc (c:=c_api_Item) (z:=(g0_,{ x0 with f_Remote:=wr .u32 t43.1 })) isAgg33 sizeOf33 rfl (lens_cell (.s .z) (Lens.whole _ _))) ?_
   refine am ?_
   refine at_store (c:=c_api_Item) (z:=(g0_,{ x0 with f_Remote:=wr .u32 t43.1 })) .z (Lens.whole _ _) sizeOf33 rfl rfl rfl ?_
   refine aa ?_
   refine qn ?_
   refine at_drop (H:=_) (.s .z) ?_
   refine wq [7,6] ?_
   refine tn ?_
   refine qt ?_
   have hN45 : NK_api_Item (KZ w0 Z_) s_ (g0_,{ x0 with f_Remote:=wr .u32 t43.1 }):=hz0
   obtain rfl:=of_some hF
   exact at_res2 rfl (res_cell (c:=c_api_Item) (y:=(g0_,{ x0 with f_Remote:=wr .u32 t43.1 })) rfl .z (Lens.whole _ _) isAgg33 sizeOf33 (.inl rfl)) (res_tmp rfl) (fun w1 hw=>⟨Z_,s_,g0_,hM_,rfl,hN45,hw.pop⟩)
  refine cf h44 ?_
  refine qr ?_
  refine am ?_
  refine aw (r_conv underlying31 underlying30 rfl) ?_
  refine fa 54 underlying33 rfl sizeOf30 ?_
  refine at_store (c:=(cInt .u32)) (z:=wr .u32 t43.1) (.s .z) (c_api_Item_f_Local g0_ x0) sizeOf30 rfl rfl rfl ?_
  refine ns ?_
  refine aw (r_load_aggc (c:=c_api_Item) (z:=(g0_,{ x0 with f_Local:=wr .u32 t43.1 })) isAgg33 sizeOf33 rfl (lens_cell (.s .z) (Lens.whole _ _))) ?_
  refine am ?_
  refine at_store (c:=c_api_Item) (z:=(g0_,{ x0 with f_Local:=wr .u32 t43.1 })) .z (Lens.whole _ _) sizeOf33 rfl rfl rfl ?_
  refine aa ?_
  refine qn ?_
  refine at_drop (H:=_) (.s .z) ?_
  refine wq [7,6] ?_
  refine tn ?_
  refine qt ?_
  have hN46 : NK_api_Item (KZ w0 Z_) s_ (g0_,{ x0 with f_Local:=wr .u32 t43.1 }):=hz0
  obtain rfl:=of_some hF
  exact at_res2 rfl (res_cell (c:=c_api_Item) (y:=(g0_,{ x0 with f_Local:=wr .u32 t43.1 })) rfl .z (Lens.whole _ _) isAgg33 sizeOf33 (.inl rfl)) (res_tmp rfl) (fun w1 hw=>⟨Z_,s_,g0_,hM_,rfl,hN46,hw.pop⟩)
 refine at_fix (g:=59) rfl h36 ?_
 refine gn ?_
 refine gn ?_
 refine aw xp ?_
 refine nwq [62,6,3,2,1] ?_
 refine cf rfl ?_
 refine sr ?_
 refine fa 0 underlying33 rfl sizeOf3 ?_
 refine aw (r_load_cell isAgg3 rfl (lens_cell0 (c:=(cInt .i64)) (y:=x0.f_Kind) (.s .z) (c_api_Item_f_Kind g0_ x0) rfl)) ?_
 refine aw xq ?_
 refine am ?_
 refine at_fix (g:=72) rfl h36 ?_
 refine gn ?_
 refine gn ?_
 refine aw xp ?_
 refine nwq [75,6,3,2,1] ?_
 refine cf rfl ?_
 refine sr ?_
 refine am ?_
 obtain ⟨t47,ht47,hF⟩:=of_bindM hF
 refine at_call0 func43 rfl (by kernel_rfl) rfl rfl (fun w=>crawlwayref03_Read_ok _ _ _ ht47 w) ?_
 refine am ?_
 refine aw xe ?_
 refine aw xe ?_
 refine aa ?_
 refine aa ?_
 refine ns ?_
 refine am ?_
 refine aa ?_
 refine nwx [10,8,6,3,1] ?_
 refine fa 0 underlying33 rfl sizeOf3 ?_
 refine aw (r_load_cell isAgg3 rfl (lens_cell0 (c:=(cInt .i64)) (y:=x0.f_Kind) (.s .z) (c_api_Item_f_Kind g0_ x0) rfl)) ?_
 refine aw xq ?_
 refine am ?_
 refine at_fix (g:=91) rfl h36 ?_
 refine gn ?_
 refine gn ?_
 refine aw xp ?_
 refine nwq [94,10,8,6,3] ?_
 refine cf rfl ?_
 refine qr ?_
 refine am ?_
 refine aw (r_conv underlying31 underlying30 rfl) ?_
 refine fa 54 underlying33 rfl sizeOf30 ?_
 refine at_store (c:=(cInt .u32)) (z:=wr .u32 t47.1) (.s .z) (c_api_Item_f_Local g0_ x0) sizeOf30 rfl rfl rfl ?_
 refine ns ?_
 refine aw (r_load_aggc (c:=c_api_Item) (z:=(g0_,{ x0 with f_Local:=wr .u32 t47.1 })) isAgg33 sizeOf33 rfl (lens_cell (.s .z) (Lens.whole _ _))) ?_
 refine am ?_
 refine at_store (c:=c_api_Item) (z:=(g0_,{ x0 with f_Local:=wr .u32 t47.1 })) .z (Lens.whole _ _) sizeOf33 rfl rfl rfl ?_
 refine aa ?_
 refine qn ?_
 refine at_drop (H:=_) (.s .z) ?_
 refine wq [7,6] ?_
 refine tn ?_
 refine qt ?_
 have hN48 : NK_api_Item (KZ w0 Z_) s_ (g0_,{ x0 with f_Local:=wr .u32 t47.1 }):=hz0
 obtain rfl:=of_some hF
 exact at_res2 rfl (res_cell (c:=c_api_Item) (y:=(g0_,{ x0 with f_Local:=wr .u32 t47.1 })) rfl .z (Lens.whole _ _) isAgg33 sizeOf33 (.inl rfl)) (res_tmp rfl) (fun w1 hw=>⟨Z_,s_,g0_,hM_,rfl,hN48,hw.pop⟩)
end Go.Proofs.YtkkmmpofdcccmaaGreatDoor
namespace Go.Proofs.YtkkmmpofdcccmaaGreatDoor
open E Go.RowKit _root_.Go.Proofs.Tryz
def crawlwayref50_Parse.l0 (t2 : List ByteArray) (i15 : Int) (i16 : S_api_Item) : Option (S_api_Item) :=
 if (decide (i15 ≤ 6)) = true then (if (0 : Int) ≤ i15 ∧ i15 < (([⟨#[]⟩,⟨#[115,101,116]⟩,⟨#[108,111,97,100]⟩,⟨#[111,117,116]⟩,⟨#[105,110]⟩,⟨#[105,110,115,116,97,108,108]⟩,⟨#[102,111,114,103,101,116]⟩] : List ByteArray).length : Int) then if (0 : Int) ≤ 0 ∧ 0 < (t2.length : Int) then if (seq (lget ([⟨#[]⟩,⟨#[115,101,116]⟩,⟨#[108,111,97,100]⟩,⟨#[111,117,116]⟩,⟨#[105,110]⟩,⟨#[105,110,115,116,97,108,108]⟩,⟨#[102,111,114,103,101,116]⟩] : List ByteArray) i15) (lget t2 0)) = true then (crawlwayref50_Parse.l0 t2 (wr .i64 (i15 + 1)) ({ i16 with f_Kind:=i15 })) else (crawlwayref50_Parse.l0 t2 (wr .i64 (i15 + 1)) i16) else none else none) else (some i16)
 partial_fixpoint
def crawlwayref50_Parse.l1 (t2 : List ByteArray) (i49 : Int) (i50 : S_api_Item) : Option (Ctl (S_api_Item × Int) (S_api_Item)) :=
 if (decide (i49 < (t2.length : Int))) = true then (if (0 : Int) ≤ i49 ∧ i49 < (t2.length : Int) then crawlwayref50_take i50 (wr .i64 (i49 - 1)) (lget t2 i49) >>= fun t70=>if (t70.2 != 0) = true then (some (.ret (({ f_Kind:=(0 : Int),f_Bytes:=([] : List Int),f_From:=({ f_A:=({ f_V:=(0 : Int),f_B:=(Vector.replicate 16 (0 : Int) : (Vector Int 16)) } : S_api_Addr),f_Port:=(0 : Int) } : S_api_Endpoint),f_Result:=([] : List Int),f_Ok:=false,f_Key:=(Vector.replicate 32 (0 : Int) : (Vector Int 32)),f_Local:=(0 : Int),f_Remote:=(0 : Int),f_Next:=(0 : Int) } : S_api_Item),t70.2))) else (crawlwayref50_Parse.l1 t2 (wr .i64 (i49 + 1)) t70.1) else none) else (some (.nx i50))
 partial_fixpoint
def crawlwayref50_Parse (x0 : ByteArray) : Option (S_api_Item × Int) :=
 crawlwayref06_Parts x0 32 >>= fun t2=>crawlwayref50_Parse.l0 t2 1 ({ f_Kind:=(0 : Int),f_Bytes:=([] : List Int),f_From:=({ f_A:=({ f_V:=(0 : Int),f_B:=(Vector.replicate 16 (0 : Int) : (Vector Int 16)) } : S_api_Addr),f_Port:=(0 : Int) } : S_api_Endpoint),f_Result:=([] : List Int),f_Ok:=false,f_Key:=(Vector.replicate 32 (0 : Int) : (Vector Int 32)),f_Local:=(0 : Int),f_Remote:=(0 : Int),f_Next:=(0 : Int) } : S_api_Item) >>= fun q14=>if (q14.f_Kind == 0) = true then (some (q14,12)) else (if (0 : Int) ≤ q14.f_Kind ∧ q14.f_Kind < (([0,2,2,3,4,5,2] : List Int).length : Int) then if ((t2.length : Int) != lget ([0,2,2,3,4,5,2] : List Int) q14.f_Kind) = true then (some (({ f_Kind:=(0 : Int),f_Bytes:=([] : List Int),f_From:=({ f_A:=({ f_V:=(0 : Int),f_B:=(Vector.replicate 16 (0 : Int) : (Vector Int 16)) } : S_api_Addr),f_Port:=(0 : Int) } : S_api_Endpoint),f_Result:=([] : List Int),f_Ok:=false,f_Key:=(Vector.replicate 32 (0 : Int) : (Vector Int 32)),f_Local:=(0 : Int),f_Remote:=(0 : Int),f_Next:=(0 : Int) } : S_api_Item),5)) else (crawlwayref50_Parse.l1 t2 1 q14 >>= fun q48=>match q48 with | .ret r'=>some r' | .nx sq48=>(some (sq48,0))) else none)
set_option maxHeartbeats 3200000 in
theorem crawlwayref50_Parse_ok {x0 : ByteArray} {r : S_api_Item × Int} (hF : crawlwayref50_Parse x0 = some r) : ∀ {w0 w : World} {G_ : List Ent} {Z_ : List Nat} {s_ : World} (hw_ : Wd w0 (frzE w0 Z_ s_::G_) w),
    Calls Tryz.prog 27 #[.string x0] w (fun e w'=>∃ (Z' : List Nat) (s' : World) (z : G_api_Item),Mono (KZ w0 Z_) s_ (KZ w0 Z') s' ∧ e = .returned (.tuple #[.agg (Cd.cs c_api_Item (z,r.1)).toArray,.int .i64 r.2]) ∧ (NK_api_Item (KZ w0 Z') s' (z,r.1)) ∧ Wd w0 (frzE w0 Z' s'::G_) w'):=by
 intro w0 w G_ Z_ s_   hw_
 unfold crawlwayref50_Parse at hF
 refine calls_enter (l:=[.string x0]) func27 rfl rfl rfl ?_
 refine at_enterF hw_ ?_
 clear hw_
 obtain ⟨Z0_,hZ0_⟩ : ∃ Z0_,Z0_ = Z_:=⟨_,rfl⟩
 obtain ⟨s0_,hs0_⟩ : ∃ s0_,s0_ = s_:=⟨_,rfl⟩
 have hM_ : Mono (KZ w0 Z0_) s0_ (KZ w0 Z_) s_:=by rw [hZ0_,hs0_]; exact Mono.refl _ _
 rw [← hZ0_,← hs0_]
 rw [show frzE w0 Z0_ s0_ = frzE w0 Z_ s_ from by rw [hZ0_,hs0_]]
 refine sr ?_
 refine at_alloc (cs:=Cd.cs c_api_Item zv6) zeroValue33 rfl rfl ?_
 intro b1
 refine aa ?_
 refine ns ?_
 refine am ?_
 obtain ⟨t2,ht2,hF⟩:=of_bindM hF
 refine at_callO (c:=cStr) (e:=9) (ys:=t2) (V:=fun p cap=>.slice p t2.length cap) func56 rfl (by kernel_rfl) rfl rfl (fun w hw=>crawlwayref06_Parts_ok _ _ _ ht2 w) ?_
 intro p3 c4
 refine aa ?_
 refine ns ?_
 refine at_lit (cs:=cStr.all ([⟨#[]⟩,⟨#[115,101,116]⟩,⟨#[108,111,97,100]⟩,⟨#[111,117,116]⟩,⟨#[105,110]⟩,⟨#[105,110,115,116,97,108,108]⟩,⟨#[102,111,114,103,101,116]⟩] : List ByteArray)) underlying38 sizeOf9 zeroValue9 rfl rfl rfl (by kernel_rfl) rfl ?_
 intro b5
 refine aa ?_
 refine ns ?_
 refine at_lit (cs:=(cInt .i64).all ([0,2,2,3,4,5,2] : List Int)) underlying112 sizeOf3 zeroValue3 rfl rfl rfl (by kernel_rfl) rfl ?_
 intro b6
 refine aa ?_
 refine ns ?_
 refine at_alloc (cs:=Cd.cs c_api_Item zv6) zeroValue33 rfl rfl ?_
 intro b7
 refine nt ?_
 refine qs ?_
 refine sr ?_
 refine aa ?_
 refine nwq [8,7,6,5,4,2] ?_
 refine at_block ?_
 obtain ⟨q14,hq14,hF⟩:=of_bindM hF
 refine wq [8,7,6,5,4,2] ?_
 refine at_loop_n (B:=0) (A:=fun Y=>∀ (p23 : Option Addr) (c24 : Nat) (hk25 : RowK (KZ w0 Z_) (cInt .u8) s_ p23 c24 q14.f_Bytes) (p26 : Option Addr) (c27 : Nat) (hk28 : RowK (KZ w0 Z_) (cInt .u8) s_ p26 c27 q14.f_Result),At 66 [(2,.pointer (some ⟨b1,0,none⟩)),(4,.slice p3 t2.length c4),(6,.slice (some ⟨b6,0,none⟩) ([0,2,2,3,4,5,2] : List Int).length 7),(7,.pointer (some ⟨b7,0,none⟩))] (Wd w0 (cellsE b7 (Cd.cs c_api_Item (((p23,c24),(p26,c27)),q14)) 33::cellsE b6 ((cInt .i64).all ([0,2,2,3,4,5,2] : List Int)) 3::rowE cStr 9 p3 c4 t2::cellsE b1 (Cd.cs c_api_Item zv6) 33::frzE w0 Z_ s_::G_)) Y) ?_ ?_
 ·intro K
  refine crawlwayref50_Parse.l0.partial_correctness t2 (motive:=fun i15 i16 x=>KN (fun Y=>∀ (p23 : Option Addr) (c24 : Nat) (hk25 : RowK (KZ w0 Z_) (cInt .u8) s_ p23 c24 x.f_Bytes) (p26 : Option Addr) (c27 : Nat) (hk28 : RowK (KZ w0 Z_) (cInt .u8) s_ p26 c27 x.f_Result),At 66 [(2,.pointer (some ⟨b1,0,none⟩)),(4,.slice p3 t2.length c4),(6,.slice (some ⟨b6,0,none⟩) ([0,2,2,3,4,5,2] : List Int).length 7),(7,.pointer (some ⟨b7,0,none⟩))] (Wd w0 (cellsE b7 (Cd.cs c_api_Item (((p23,c24),(p26,c27)),x)) 33::cellsE b6 ((cInt .i64).all ([0,2,2,3,4,5,2] : List Int)) 3::rowE cStr 9 p3 c4 t2::cellsE b1 (Cd.cs c_api_Item zv6) 33::frzE w0 Z_ s_::G_)) Y) _ 0 → Round (fun Y=>∀ (p17 : Option Addr) (c18 : Nat) (hk19 : RowK (KZ w0 Z_) (cInt .u8) s_ p17 c18 (i16.f_Bytes)) (p20 : Option Addr) (c21 : Nat) (hk22 : RowK (KZ w0 Z_) (cInt .u8) s_ p20 c21 (i16.f_Result)),At 66 [(2,.pointer (some ⟨b1,0,none⟩)),(4,.slice p3 t2.length c4),(5,.slice (some ⟨b5,0,none⟩) ([⟨#[]⟩,⟨#[115,101,116]⟩,⟨#[108,111,97,100]⟩,⟨#[111,117,116]⟩,⟨#[105,110]⟩,⟨#[105,110,115,116,97,108,108]⟩,⟨#[102,111,114,103,101,116]⟩] : List ByteArray).length 7),(6,.slice (some ⟨b6,0,none⟩) ([0,2,2,3,4,5,2] : List Int).length 7),(7,.pointer (some ⟨b7,0,none⟩)),(8,.int .i64 i15)] (Wd w0 (cellsE b7 (Cd.cs c_api_Item (((p17,c18),(p20,c21)),i16)) 33::cellsE b6 ((cInt .i64).all ([0,2,2,3,4,5,2] : List Int)) 3::cellsE b5 (cStr.all ([⟨#[]⟩,⟨#[115,101,116]⟩,⟨#[108,111,97,100]⟩,⟨#[111,117,116]⟩,⟨#[105,110]⟩,⟨#[105,110,115,116,97,108,108]⟩,⟨#[102,111,114,103,101,116]⟩] : List ByteArray)) 9::rowE cStr 9 p3 c4 t2::cellsE b1 (Cd.cs c_api_Item zv6) 33::frzE w0 Z_ s_::G_)) Y) _ _ _) ?_ _ _ _ hq14 K none 0 (RowK.nil ..) none 0 (RowK.nil ..)
  ·clear K hF
   intro g ih i15 i16 x hF K p17 c18 hk19 p20 c21 hk22
   refine at_round ?_
   refine qs ?_
   refine sr ?_
   refine am ?_
   refine aw (r_ileq rfl rfl) ?_
   refine nwq [17,8,7,6,5,4,2] ?_
   rcases oi hF with ⟨h29,hF⟩|⟨h29,hF⟩
   ·refine ct h29 ?_
    refine sn ?_
    refine qs ?_
    refine at_block ?_
    refine qs ?_
    refine wq [8,7,6,5,4,2] ?_
    obtain ⟨h30,hF⟩:=of_guard hF
    obtain ⟨h31,hF⟩:=of_guard hF
    refine at_pure (φ:=∃ b o,p3 = some ⟨b,o,none⟩) (fun _ hw=>row_ptr (hw.own (.s (.s (.s .z)))).row h31) ?_
    rintro ⟨b33,o34,hp32⟩
    refine at_inv [.q 20 (fun g35=>.slice (some ⟨b5,0,none⟩) ([⟨#[]⟩,⟨#[115,101,116]⟩,⟨#[108,111,97,100]⟩,⟨#[111,117,116]⟩,⟨#[105,110]⟩,⟨#[105,110,115,116,97,108,108]⟩,⟨#[102,111,114,103,101,116]⟩] : List ByteArray).length 7) [] 0 0,.q 21 (fun g35=>.int .i64 i15) [] 0 0,.q 22 (fun g35=>.pointer (some ⟨b5,0 + Int.toNat i15 * 1,none⟩)) [0,1] 0 0,.q 23 (fun g35=>.string (lget ([⟨#[]⟩,⟨#[115,101,116]⟩,⟨#[108,111,97,100]⟩,⟨#[111,117,116]⟩,⟨#[105,110]⟩,⟨#[105,110,115,116,97,108,108]⟩,⟨#[102,111,114,103,101,116]⟩] : List ByteArray) i15)) [2] 0 0,.q 24 (fun g35=>.slice p3 t2.length c4) [] 0 0,.q 25 (fun g35=>.pointer (some ⟨b33,o34 + Int.toNat 0 * 1,none⟩)) [4] 0 0,.q 26 (fun g35=>.string (lget t2 0)) [5] 0 0,.q 27 (fun g35=>.bool (seq (lget ([⟨#[]⟩,⟨#[115,101,116]⟩,⟨#[108,111,97,100]⟩,⟨#[111,117,116]⟩,⟨#[105,110]⟩,⟨#[105,110,115,116,97,108,108]⟩,⟨#[102,111,114,103,101,116]⟩] : List ByteArray) i15) (lget t2 0))) [3,6] 0 0] (fun g35 s=>match s with | _=>(Wd w0 (cellsE b7 (Cd.cs c_api_Item (((p17,c18),(p20,c21)),i16)) 33::cellsE b6 ((cInt .i64).all ([0,2,2,3,4,5,2] : List Int)) 3::cellsE b5 (cStr.all ([⟨#[]⟩,⟨#[115,101,116]⟩,⟨#[108,111,97,100]⟩,⟨#[111,117,116]⟩,⟨#[105,110]⟩,⟨#[105,110,115,116,97,108,108]⟩,⟨#[102,111,114,103,101,116]⟩] : List ByteArray)) 9::rowE cStr 9 p3 c4 t2::cellsE b1 (Cd.cs c_api_Item zv6) 33::frzE w0 Z_ s_::G_))) 0 (by kernel_rfl) (by kernel_rfl) (by kernel_rfl) (by kernel_rfl) (by kernel_rfl) ⟨fun _ _ _=>rfl,fun _ _ _=>rfl,fun _ _ _=>rfl,fun _ _ _=>rfl,fun _ _ _=>rfl,fun _ _ _=>rfl,fun _ _ _=>rfl,fun _ _ _=>rfl,trivial⟩ (by kernel_rfl) (fun w_ h=>⟨fun _=>g3 0 none 0 none w_,h.drew⟩) ⟨?_,?_,?_,?_,?_,?_,?_,?_,trivial⟩ ?_
    ·intro Lx g35 s K hl hh k
     show At 66 ((2,_)::(4,_)::(5,_)::(6,_)::(7,_)::(8,_)::Lx) _ _
     refine am ?_
     exact at_nil k
    ·intro Lx g35 s K hl hh k
     show At 66 ((2,_)::(4,_)::(5,_)::(6,_)::(7,_)::(8,_)::Lx) _ _
     refine am ?_
     exact at_nil k
    ·intro Lx g35 s K hl hh k
     show At 66 ((20,_)::(21,_)::(2,_)::(4,_)::(5,_)::(6,_)::(7,_)::(8,_)::Lx) _ _
     refine aw (r_idx underlying38 sizeOf9 rfl rfl h30 rfl) ?_
     exact at_nil k
    ·intro Lx g35 s K hl hh k
     show At 66 ((22,_)::(2,_)::(4,_)::(5,_)::(6,_)::(7,_)::(8,_)::Lx) _ _
     obtain rfl : s = 0:=by omega
     refine aw (r_load_cell isAgg9 rfl (fun _ hw=>row_cell0 (W:=fun w1=>w1 = _) (fun w1 h=>by subst h; exact Below.refl _ _) (cells_row (hw.ok (Upd.mem (.s (.s .z))))) h30 rfl rfl _ rfl)) ?_
     exact at_nil k
    ·intro Lx g35 s K hl hh k
     show At 66 ((2,_)::(4,_)::(5,_)::(6,_)::(7,_)::(8,_)::Lx) _ _
     refine am ?_
     exact at_nil k
    ·intro Lx g35 s K hl hh k
     show At 66 ((24,_)::(2,_)::(4,_)::(5,_)::(6,_)::(7,_)::(8,_)::Lx) _ _
     refine aw (r_idx underlying38 sizeOf9 rfl rfl h31 hp32) ?_
     exact at_nil k
    ·intro Lx g35 s K hl hh k
     show At 66 ((25,_)::(2,_)::(4,_)::(5,_)::(6,_)::(7,_)::(8,_)::Lx) _ _
     obtain rfl : s = 0:=by omega
     refine aw (r_load_cell isAgg9 rfl (fun _ hw=>row_cell0 (W:=fun w1=>w1 = _) (fun w1 h=>by subst h; exact Below.refl _ _) (hw.own (.s (.s (.s .z)))).row h31 hp32 rfl _ rfl)) ?_
     exact at_nil k
    ·intro Lx g35 s K hl hh k
     show At 66 ((23,_)::(26,_)::(2,_)::(4,_)::(5,_)::(6,_)::(7,_)::(8,_)::Lx) _ _
     refine aw (r_seql rfl rfl) ?_
     exact at_nil k
    intro g35
    show At 66 [(20,_),(21,_),(22,_),(23,_),(24,_),(25,_),(26,_),(27,_),(2,_),(4,_),(5,_),(6,_),(7,_),(8,_)] _ _
    refine wq [27,8,7,6,5,4,2] ?_
    refine tn ?_
    rcases oi hF with ⟨h36,hF⟩|⟨h36,hF⟩
    ·refine ct h36 ?_
     refine qr ?_
     refine am ?_
     refine fa 0 underlying33 rfl sizeOf3 ?_
     refine at_store (c:=(cInt .i64)) (z:=i15) .z (c_api_Item_f_Kind ((p17,c18),(p20,c21)) i16) sizeOf3 rfl rfl rfl ?_
     refine qn ?_
     refine wq [8,7,6,5,4,2] ?_
     refine at_blk_normal (at_then_normal ?_)
     refine qr ?_
     refine am ?_
     refine aw xa ?_
     refine aa ?_
     refine nwq [8,7,6,5,4,2] ?_
     exact at_weak_k (ih _ _ _ hF K p17 c18 hk19 p20 c21 hk22) ⟨rfl,rfl,rfl,rfl,rfl,rfl,trivial⟩
    refine cf h36 ?_
    refine at_skip ?_
    refine at_blk_normal (at_then_normal ?_)
    refine qr ?_
    refine am ?_
    refine aw xa ?_
    refine aa ?_
    refine nwq [8,7,6,5,4,2] ?_
    exact at_weak_k (ih _ _ _ hF K p17 c18 hk19 p20 c21 hk22) ⟨rfl,rfl,rfl,rfl,rfl,rfl,trivial⟩
   refine cf h29 ?_
   refine at_exit ?_
   refine at_then_exit (at_then_exit ?_)
   refine at_drop (H:=_) (.s (.s .z)) ?_
   obtain rfl:=of_some hF
   exact at_weak_k (K p17 c18 hk19 p20 c21 hk22) ⟨rfl,rfl,rfl,rfl,trivial⟩
 skip
 intro p23 c24 hk25 p26 c27 hk28
 refine at_blk_same ?_
 refine tn ?_
 refine qs ?_
 refine sr ?_
 refine fa 0 underlying33 rfl sizeOf3 ?_
 refine aw (r_load_cell isAgg3 rfl (lens_cell0 (c:=(cInt .i64)) (y:=q14.f_Kind) .z (c_api_Item_f_Kind ((p23,c24),(p26,c27)) q14) rfl)) ?_
 refine aw xq ?_
 refine nwq [32,7,6,4,2] ?_
 rcases oi hF with ⟨h37,hF⟩|⟨h37,hF⟩
 ·refine ct h37 ?_
  refine sr ?_
  refine aw (r_load_aggc (c:=c_api_Item) (z:=(((p23,c24),(p26,c27)),q14)) isAgg33 sizeOf33 rfl (lens_cell .z (Lens.whole _ _))) ?_
  refine at_store (c:=c_api_Item) (z:=(((p23,c24),(p26,c27)),q14)) (.s (.s (.s .z))) (Lens.whole _ _) sizeOf33 rfl rfl rfl ?_
  refine aa ?_
  refine qn ?_
  refine dz ?_
  refine dz ?_
  refine dz ?_
  refine wq [3,2] ?_
  refine tn ?_
  refine rt ?_
  have hN38 : NK_api_Item (KZ w0 Z_) s_ (((p23,c24),(p26,c27)),q14):=⟨hk25,hk28⟩
  obtain rfl:=of_some hF
  exact at_res2 rfl (res_cell (c:=c_api_Item) (y:=(((p23,c24),(p26,c27)),q14)) rfl .z (Lens.whole _ _) isAgg33 sizeOf33 (.inl rfl)) (res_tmp rfl) (fun w1 hw=>⟨Z_,s_,((p23,c24),(p26,c27)),hM_,rfl,hN38,hw.pop⟩)
 refine cf h37 ?_
 refine sn ?_
 refine qs ?_
 refine sr ?_
 refine am ?_
 refine aw (r_len_sl underlying38 rfl) ?_
 refine am ?_
 refine fa 0 underlying33 rfl sizeOf3 ?_
 refine aw (r_load_cell isAgg3 rfl (lens_cell0 (c:=(cInt .i64)) (y:=q14.f_Kind) .z (c_api_Item_f_Kind ((p23,c24),(p26,c27)) q14) rfl)) ?_
 obtain ⟨h39,hF⟩:=of_guard hF
 refine aw (r_idx underlying112 sizeOf3 rfl rfl h39 rfl) ?_
 refine aw (r_load_cell isAgg3 rfl (fun _ hw=>row_cell0 (W:=fun w1=>w1 = _) (fun w1 h=>by subst h; exact Below.refl _ _) (cells_row (hw.ok (Upd.mem (.s .z)))) h39 rfl rfl _ rfl)) ?_
 refine aw xn ?_
 refine qn ?_
 refine at_drop (H:=_) (.s .z) ?_
 refine wq [41,7,4,2] ?_
 refine tn ?_
 rcases oi hF with ⟨h40,hF⟩|⟨h40,hF⟩
 ·refine ct h40 ?_
  refine sr ?_
  refine aw (r_build_struct (zs:=Cd.cs c_api_Item zv6) (cs:=Cd.cs c_api_Item zv6) underlying33 zeroValue33 rfl (places_api_Item_33) rfl rfl) ?_
  refine at_store (c:=c_api_Item) (z:=zv6) (.s (.s .z)) (Lens.whole _ _) sizeOf33 rfl rfl rfl ?_
  refine aa ?_
  refine qn ?_
  refine dz ?_
  refine dz ?_
  refine wq [3,2] ?_
  refine tn ?_
  refine rt ?_
  have hN41 : NK_api_Item (KZ w0 Z_) s_ zv6:=⟨RowK.nil ..,RowK.nil ..⟩
  obtain rfl:=of_some hF
  exact at_res2 rfl (res_cell (c:=c_api_Item) (y:=zv6) rfl .z (Lens.whole _ _) isAgg33 sizeOf33 (.inl rfl)) (res_tmp rfl) (fun w1 hw=>⟨Z_,s_,zv5,hM_,rfl,hN41,hw.pop⟩)
 refine cf h40 ?_
 refine sn ?_
 refine qs ?_
 refine sr ?_
 refine aa ?_
 refine nwq [9,7,4,2] ?_
 refine at_block ?_
 obtain ⟨q48,hq48,hF⟩:=of_bindM hF
 refine wq [9,7,4,2] ?_
 refine at_loop_r (B:=2) (r:=r) (q:=q48) (A:=fun sq48 Y=>∀ (Z_ : List Nat) (s_ : World) (hM_ : Mono (KZ w0 Z0_) s0_ (KZ w0 Z_) s_) (hk25 : RowK (KZ w0 Z_) (cInt .u8) s_ p23 c24 q14.f_Bytes) (hk28 : RowK (KZ w0 Z_) (cInt .u8) s_ p26 c27 q14.f_Result) (p57 : Option Addr) (c58 : Nat) (hk59 : RowK (KZ w0 Z_) (cInt .u8) s_ p57 c58 sq48.f_Bytes) (p60 : Option Addr) (c61 : Nat) (hk62 : RowK (KZ w0 Z_) (cInt .u8) s_ p60 c61 sq48.f_Result),At 66 [(2,.pointer (some ⟨b1,0,none⟩)),(7,.pointer (some ⟨b7,0,none⟩))] (Wd w0 (cellsE b7 (Cd.cs c_api_Item (((p57,c58),(p60,c61)),sq48)) 33::cellsE b1 (Cd.cs c_api_Item zv6) 33::frzE w0 Z_ s_::G_)) Y) ?_ ?_
 ·intro K
  refine crawlwayref50_Parse.l1.partial_correctness t2 (motive:=fun i49 i50 x=>KR (fun sq48 Y=>∀ (Z_ : List Nat) (s_ : World) (hM_ : Mono (KZ w0 Z0_) s0_ (KZ w0 Z_) s_) (hk25 : RowK (KZ w0 Z_) (cInt .u8) s_ p23 c24 q14.f_Bytes) (hk28 : RowK (KZ w0 Z_) (cInt .u8) s_ p26 c27 q14.f_Result) (p57 : Option Addr) (c58 : Nat) (hk59 : RowK (KZ w0 Z_) (cInt .u8) s_ p57 c58 sq48.f_Bytes) (p60 : Option Addr) (c61 : Nat) (hk62 : RowK (KZ w0 Z_) (cInt .u8) s_ p60 c61 sq48.f_Result),At 66 [(2,.pointer (some ⟨b1,0,none⟩)),(7,.pointer (some ⟨b7,0,none⟩))] (Wd w0 (cellsE b7 (Cd.cs c_api_Item (((p57,c58),(p60,c61)),sq48)) 33::cellsE b1 (Cd.cs c_api_Item zv6) 33::frzE w0 Z_ s_::G_)) Y) _ 2 r x → Round (fun Y=>∀ (Z_ : List Nat) (s_ : World) (hM_ : Mono (KZ w0 Z0_) s0_ (KZ w0 Z_) s_) (hk25 : RowK (KZ w0 Z_) (cInt .u8) s_ p23 c24 q14.f_Bytes) (hk28 : RowK (KZ w0 Z_) (cInt .u8) s_ p26 c27 q14.f_Result) (p51 : Option Addr) (c52 : Nat) (hk53 : RowK (KZ w0 Z_) (cInt .u8) s_ p51 c52 (i50.f_Bytes)) (p54 : Option Addr) (c55 : Nat) (hk56 : RowK (KZ w0 Z_) (cInt .u8) s_ p54 c55 (i50.f_Result)),At 66 [(2,.pointer (some ⟨b1,0,none⟩)),(4,.slice p3 t2.length c4),(7,.pointer (some ⟨b7,0,none⟩)),(9,.int .i64 i49)] (Wd w0 (cellsE b7 (Cd.cs c_api_Item (((p51,c52),(p54,c55)),i50)) 33::rowE cStr 9 p3 c4 t2::cellsE b1 (Cd.cs c_api_Item zv6) 33::frzE w0 Z_ s_::G_)) Y) _ _ _) ?_ _ _ _ hq48 K Z_ s_ hM_ hk25 hk28 p23 c24 hk25 p26 c27 hk28
  ·clear K hF
   intro g ih i49 i50 x hF K Z_ s_ hM_ hk25 hk28 p51 c52 hk53 p54 c55 hk56
   refine at_round ?_
   refine qs ?_
   refine sr ?_
   refine am ?_
   refine am ?_
   refine aw (r_len_sl underlying38 rfl) ?_
   refine aw xl ?_
   refine nwq [46,9,7,4,2] ?_
   rcases oi hF with ⟨h63,hF⟩|⟨h63,hF⟩
   ·refine ct h63 ?_
    refine sn ?_
    refine qs ?_
    refine at_block ?_
    refine qs ?_
    refine wq [9,7,4,2] ?_
    refine at_optPush (b:=0) (cs:=(Cd.cs c_api_Item zv6)) (t:=33) ?_
    obtain ⟨h65,hF⟩:=of_guard hF
    refine at_pure (φ:=∃ b o,p3 = some ⟨b,o,none⟩) (fun _ hw=>row_ptr (hw.own (.s (.s .z))).row h65) ?_
    rintro ⟨b67,o68,hp66⟩
    obtain ⟨t70,ht70,hF⟩:=of_bindM hF
    refine at_invF [.q 50 (fun g77=>.agg (Cd.cs c_api_Item (((p51,c52),(p54,c55)),i50)).toArray) [] 0 0,.q 51 (fun g77=>.int .i64 i49) [] 0 0,.q 52 (fun g77=>.int .i64 (wr .i64 (i49 - 1))) [1] 0 0,.q 53 (fun g77=>.slice p3 t2.length c4) [] 0 0,.q 54 (fun g77=>.int .i64 i49) [] 0 0,.q 55 (fun g77=>.pointer (some ⟨b67,o68 + Int.toNat i49 * 1,none⟩)) [3,4] 0 0,.q 56 (fun g77=>.string (lget t2 i49)) [5] 0 0,.al 0 57 (fun g77=>.tuple #[.agg (Cd.cs c_api_Item (((((g77 0).2.2.2.2.2.2 0),((g77 0).2.2.2.2.2.2 1))),t70.1)).toArray,.int .i64 t70.2]) [0,2,6],.q 49 (fun g77=>.tuple #[.agg (Cd.cs c_api_Item (((((g77 0).2.2.2.2.2.2 0),((g77 0).2.2.2.2.2.2 1))),t70.1)).toArray,.int .i64 t70.2]) [7] 1 1,.q 58 (fun g77=>.agg (Cd.cs c_api_Item (((((g77 0).2.2.2.2.2.2 0),((g77 0).2.2.2.2.2.2 1))),t70.1)).toArray) [8] 1 1,.q 59 (fun g77=>.int .i64 t70.2) [8] 1 2,.q 10 (fun g77=>.pointer (some ⟨((g77 13).1),0,none⟩)) [] 0 1,.st 1 none [11,9],.q 11 (fun g77=>.int .i64 t70.2) [10] 2 2] (fun g77 s=>match s with | 0=>(Wd w0 (optE ((g77 13).2.2.1) ((g77 13).1) (Cd.cs c_api_Item zv6) 33::cellsE b7 (Cd.cs c_api_Item (((p51,c52),(p54,c55)),i50)) 33::rowE cStr 9 p3 c4 t2::cellsE b1 (Cd.cs c_api_Item zv6) 33::frzE w0 Z_ s_::G_)) | 1=>(Wd w0 (factE (NK_api_Item (KZ w0 ((g77 0).2.2.2.2.1)) ((g77 0).2.2.2.2.2.1) (((((g77 0).2.2.2.2.2.2 0),((g77 0).2.2.2.2.2.2 1))),t70.1))::factE (NK_api_Item (KZ w0 ((g77 0).2.2.2.2.1)) ((g77 0).2.2.2.2.2.1) (((p51,c52),(p54,c55)),i50))::factE (RowK (KZ w0 ((g77 0).2.2.2.2.1)) (cInt .u8) ((g77 0).2.2.2.2.2.1) p54 c55 (i50.f_Result))::factE (RowK (KZ w0 ((g77 0).2.2.2.2.1)) (cInt .u8) ((g77 0).2.2.2.2.2.1) p51 c52 (i50.f_Bytes))::factE (RowK (KZ w0 ((g77 0).2.2.2.2.1)) (cInt .u8) ((g77 0).2.2.2.2.2.1) p26 c27 q14.f_Result)::factE (RowK (KZ w0 ((g77 0).2.2.2.2.1)) (cInt .u8) ((g77 0).2.2.2.2.2.1) p23 c24 q14.f_Bytes)::factE (Mono (KZ w0 Z0_) s0_ (KZ w0 ((g77 0).2.2.2.2.1)) ((g77 0).2.2.2.2.2.1))::frzE w0 ((g77 0).2.2.2.2.1) ((g77 0).2.2.2.2.2.1)::optE ((g77 13).2.2.1) ((g77 13).1) (Cd.cs c_api_Item zv6) 33::cellsE b7 (Cd.cs c_api_Item (((p51,c52),(p54,c55)),i50)) 33::rowE cStr 9 p3 c4 t2::cellsE b1 (Cd.cs c_api_Item zv6) 33::G_)) | _=>(Wd w0 (factE (NK_api_Item (KZ w0 ((g77 0).2.2.2.2.1)) ((g77 0).2.2.2.2.2.1) (((((g77 0).2.2.2.2.2.2 0),((g77 0).2.2.2.2.2.2 1))),t70.1))::factE (NK_api_Item (KZ w0 ((g77 0).2.2.2.2.1)) ((g77 0).2.2.2.2.2.1) (((p51,c52),(p54,c55)),i50))::factE (RowK (KZ w0 ((g77 0).2.2.2.2.1)) (cInt .u8) ((g77 0).2.2.2.2.2.1) p54 c55 (i50.f_Result))::factE (RowK (KZ w0 ((g77 0).2.2.2.2.1)) (cInt .u8) ((g77 0).2.2.2.2.2.1) p51 c52 (i50.f_Bytes))::factE (RowK (KZ w0 ((g77 0).2.2.2.2.1)) (cInt .u8) ((g77 0).2.2.2.2.2.1) p26 c27 q14.f_Result)::factE (RowK (KZ w0 ((g77 0).2.2.2.2.1)) (cInt .u8) ((g77 0).2.2.2.2.2.1) p23 c24 q14.f_Bytes)::factE (Mono (KZ w0 Z0_) s0_ (KZ w0 ((g77 0).2.2.2.2.1)) ((g77 0).2.2.2.2.2.1))::frzE w0 ((g77 0).2.2.2.2.1) ((g77 0).2.2.2.2.2.1)::cellsE ((g77 13).1) (Cd.cs c_api_Item (((((g77 0).2.2.2.2.2.2 0),((g77 0).2.2.2.2.2.2 1))),t70.1)) 33::cellsE b7 (Cd.cs c_api_Item (((p51,c52),(p54,c55)),i50)) 33::rowE cStr 9 p3 c4 t2::cellsE b1 (Cd.cs c_api_Item zv6) 33::G_))) 2 [false,false,false,false,false,false,false,false,false,false,false,true,false,false] [[],[],[],[],[],[],[],[],[],[],[],[],[11],[11]] (by kernel_rfl) (by kernel_rfl) (by kernel_rfl) (by kernel_rfl) (by kernel_rfl) ⟨fun _ _ _ _ _=>rfl,fun _ _ _ _ _=>rfl,fun _ _ _ _ _=>rfl,fun _ _ _ _ _=>rfl,fun _ _ _ _ _=>rfl,fun _ _ _ _ _=>rfl,fun _ _ _ _ _=>rfl,fun g77 g2 h h2 _=>by show (.tuple #[.agg (Cd.cs c_api_Item (((((g77 0).2.2.2.2.2.2 0),((g77 0).2.2.2.2.2.2 1))),t70.1)).toArray,.int .i64 t70.2] : Value) = .tuple #[.agg (Cd.cs c_api_Item (((((g2 0).2.2.2.2.2.2 0),((g2 0).2.2.2.2.2.2 1))),t70.1)).toArray,.int .i64 t70.2]; rw [h 0 (show 0 < 1 by decide)],fun g77 g2 h h2 _=>by show (.tuple #[.agg (Cd.cs c_api_Item (((((g77 0).2.2.2.2.2.2 0),((g77 0).2.2.2.2.2.2 1))),t70.1)).toArray,.int .i64 t70.2] : Value) = .tuple #[.agg (Cd.cs c_api_Item (((((g2 0).2.2.2.2.2.2 0),((g2 0).2.2.2.2.2.2 1))),t70.1)).toArray,.int .i64 t70.2]; rw [h 0 (show 0 < 1 by decide)],fun g77 g2 h h2 _=>by show (.agg (Cd.cs c_api_Item (((((g77 0).2.2.2.2.2.2 0),((g77 0).2.2.2.2.2.2 1))),t70.1)).toArray : Value) = .agg (Cd.cs c_api_Item (((((g2 0).2.2.2.2.2.2 0),((g2 0).2.2.2.2.2.2 1))),t70.1)).toArray; rw [h 0 (show 0 < 1 by decide)],fun _ _ _ _ _=>rfl,fun g77 g2 _ _ h3=>by show (.pointer (some ⟨((g77 13).1),0,none⟩) : Value) = .pointer (some ⟨((g2 13).1),0,none⟩); rw [h3 rfl],fun _ _ _ _ _=>rfl,fun _ _ _ _ _=>rfl,trivial⟩ (by kernel_rfl) (by kernel_rfl) (fun w_ h=>⟨fun _=>g3 0 none 0 none w_,fun _=>Nat.zero_ne_one,h.drew⟩) ⟨?_,?_,?_,?_,?_,?_,?_,?_,?_,?_,?_,?_,?_,?_,trivial⟩ ?_
    ·intro Lx g77 s K hf_ hl hh k
     show At 66 ((2,_)::(4,_)::(7,_)::(9,_)::Lx) _ _
     obtain rfl : s = 0:=by omega
     refine aw (r_load_aggc (c:=c_api_Item) (z:=(((p51,c52),(p54,c55)),i50)) isAgg33 sizeOf33 rfl (lens_cell (.s .z) (Lens.whole _ _))) ?_
     exact at_nil k
    ·intro Lx g77 s K hf_ hl hh k
     show At 66 ((2,_)::(4,_)::(7,_)::(9,_)::Lx) _ _
     refine am ?_
     exact at_nil k
    ·intro Lx g77 s K hf_ hl hh k
     show At 66 ((51,_)::(2,_)::(4,_)::(7,_)::(9,_)::Lx) _ _
     refine aw (r_isub rfl rfl) ?_
     exact at_nil k
    ·intro Lx g77 s K hf_ hl hh k
     show At 66 ((2,_)::(4,_)::(7,_)::(9,_)::Lx) _ _
     refine am ?_
     exact at_nil k
    ·intro Lx g77 s K hf_ hl hh k
     show At 66 ((2,_)::(4,_)::(7,_)::(9,_)::Lx) _ _
     refine am ?_
     exact at_nil k
    ·intro Lx g77 s K hf_ hl hh k
     show At 66 ((53,_)::(54,_)::(2,_)::(4,_)::(7,_)::(9,_)::Lx) _ _
     refine aw (r_idx underlying38 sizeOf9 rfl rfl h65 hp66) ?_
     exact at_nil k
    ·intro Lx g77 s K hf_ hl hh k
     show At 66 ((55,_)::(2,_)::(4,_)::(7,_)::(9,_)::Lx) _ _
     obtain rfl : s = 0:=by omega
     refine aw (r_load_cell isAgg9 rfl (fun _ hw=>row_cell0 (W:=fun w1=>w1 = _) (fun w1 h=>by subst h; exact Below.refl _ _) (hw.own (.s (.s .z))).row h65 hp66 rfl _ rfl)) ?_
     exact at_nil k
    ·intro Lx g77 K hf_ k
     show At 66 ((50,_)::(52,_)::(56,_)::(2,_)::(4,_)::(7,_)::(9,_)::Lx) _ _
     have hN69 : NK_api_Item (KZ w0 Z_) s_ (((p51,c52),(p54,c55)),i50):=⟨hk53,hk56⟩
     refine at_front (.s (.s (.s .z))) ?_
     refine at_front (.s (.s (.s .z))) ?_
     refine at_front (.s (.s (.s .z))) ?_
     refine at_front (.s (.s (.s .z))) ?_
     refine at_front (.s (.s (.s (.s .z)))) ?_
     refine at_callZ (γ:=G_api_Item) (V:=fun z=>.tuple #[.agg (Cd.cs c_api_Item (z,t70.1)).toArray,.int .i64 t70.2]) (Φ:=fun K s z=>NK_api_Item K s (z,t70.1)) func57 rfl (by kernel_rfl) rfl rfl (fun w hw=>crawlwayref50_take_ok ht70 hN69 hw) ?_
     intro Z71 s72 g74 hm73 hk75
     replace hM_:=Mono.mono hM_ hm73
     replace hk25:=RowK.mono hk25 hm73
     replace hk28:=RowK.mono hk28 hm73
     replace hk53:=RowK.mono hk53 hm73
     replace hk56:=RowK.mono hk56 hm73
     replace hN69:=NK_api_Item.mono hN69 hm73
     refine at_fact hM_ ?_
     refine at_fact hk25 ?_
     refine at_fact hk28 ?_
     refine at_fact hk53 ?_
     refine at_fact hk56 ?_
     refine at_fact hN69 ?_
     refine at_fact hk75 ?_
     exact at_nil (k (0,none,0,none,Z71,s72,fun i_=>match i_ with | 0=>g74.1 | 1=>g74.2 | _=>(none,0)))
    ·intro Lx g77 s K hf_ hl hh k
     show At 66 ((57,_)::(2,_)::(4,_)::(7,_)::(9,_)::Lx) _ _
     refine am ?_
     exact at_nil k
    ·intro Lx g77 s K hf_ hl hh k
     show At 66 ((49,_)::(2,_)::(4,_)::(7,_)::(9,_)::Lx) _ _
     refine aw xe ?_
     exact at_nil k
    ·intro Lx g77 s K hf_ hl hh k
     show At 66 ((49,_)::(2,_)::(4,_)::(7,_)::(9,_)::Lx) _ _
     refine aw xe ?_
     exact at_nil k
    ·intro Lx g77 s K hl hf_ k
     show At 66 ((2,_)::(4,_)::(7,_)::(9,_)::Lx) _ _
     rcases (by omega : s = 0 ∨ s = 1) with rfl | rfl
     ·skip
      refine at_alloc (cs:=Cd.cs c_api_Item zv6) zeroValue33 rfl rfl ?_
      intro b76
      refine at_optNew (fl':=1) .z hf_ rfl ?_
      exact at_nil (k (g3 b76 none 1 none w0) rfl)
     skip
     refine at_alloc (cs:=Cd.cs c_api_Item zv6) zeroValue33 rfl rfl ?_
     intro b76
     refine at_optNew (fl':=1) (.s (.s (.s (.s (.s (.s (.s (.s .z)))))))) hf_ rfl ?_
     exact at_nil (k (g3 b76 none 1 none w0) rfl)
    ·intro Lx g77 K hf_ k
     show At 66 ((10,_)::(58,_)::(2,_)::(4,_)::(7,_)::(9,_)::Lx) _ _
     refine at_optIn (.s (.s (.s (.s (.s (.s (.s (.s .z)))))))) (hf_ 11 (by decide)) ?_
     refine at_store (c:=c_api_Item) (z:=(((((g77 0).2.2.2.2.2.2 0),((g77 0).2.2.2.2.2.2 1))),t70.1)) (.s (.s (.s (.s (.s (.s (.s (.s .z)))))))) (Lens.whole _ _) sizeOf33 rfl rfl rfl ?_
     exact at_nil k
    ·intro Lx g77 s K hf_ hl hh k
     show At 66 ((59,_)::(2,_)::(4,_)::(7,_)::(9,_)::Lx) _ _
     refine aa ?_
     exact at_nil k
    intro g77 hf_
    show At 66 [(50,_),(51,_),(52,_),(53,_),(54,_),(55,_),(56,_),(57,_),(49,_),(58,_),(59,_),(10,_),(11,_),(2,_),(4,_),(7,_),(9,_)] _ _
    refine at_pure (φ:=NK_api_Item (KZ w0 ((g77 0).2.2.2.2.1)) ((g77 0).2.2.2.2.2.1) (((((g77 0).2.2.2.2.2.2 0),((g77 0).2.2.2.2.2.2 1))),t70.1)) (fun _ hw=>hw.ok (Upd.mem .z)) ?_
    intro hk75
    refine at_pure (φ:=NK_api_Item (KZ w0 ((g77 0).2.2.2.2.1)) ((g77 0).2.2.2.2.2.1) (((p51,c52),(p54,c55)),i50)) (fun _ hw=>hw.ok (Upd.mem (.s .z))) ?_
    intro hN69
    refine at_pure (φ:=RowK (KZ w0 ((g77 0).2.2.2.2.1)) (cInt .u8) ((g77 0).2.2.2.2.2.1) p54 c55 (i50.f_Result)) (fun _ hw=>hw.ok (Upd.mem (.s (.s .z)))) ?_
    intro hk56
    refine at_pure (φ:=RowK (KZ w0 ((g77 0).2.2.2.2.1)) (cInt .u8) ((g77 0).2.2.2.2.2.1) p51 c52 (i50.f_Bytes)) (fun _ hw=>hw.ok (Upd.mem (.s (.s (.s .z))))) ?_
    intro hk53
    refine at_pure (φ:=RowK (KZ w0 ((g77 0).2.2.2.2.1)) (cInt .u8) ((g77 0).2.2.2.2.2.1) p26 c27 q14.f_Result) (fun _ hw=>hw.ok (Upd.mem (.s (.s (.s (.s .z)))))) ?_
    intro hk28
    refine at_pure (φ:=RowK (KZ w0 ((g77 0).2.2.2.2.1)) (cInt .u8) ((g77 0).2.2.2.2.2.1) p23 c24 q14.f_Bytes) (fun _ hw=>hw.ok (Upd.mem (.s (.s (.s (.s (.s .z))))))) ?_
    intro hk25
    refine at_pure (φ:=Mono (KZ w0 Z0_) s0_ (KZ w0 ((g77 0).2.2.2.2.1)) ((g77 0).2.2.2.2.2.1)) (fun _ hw=>hw.ok (Upd.mem (.s (.s (.s (.s (.s (.s .z)))))))) ?_
    intro hM_
    refine dz ?_
    refine dz ?_
    refine dz ?_
    refine dz ?_
    refine dz ?_
    refine dz ?_
    refine dz ?_
    refine tn ?_
    refine qs ?_
    refine sr ?_
    refine am ?_
    refine aw xn ?_
    refine nwq [61,11,10,9,7,4,2] ?_
    rcases oi hF with ⟨h78,hF⟩|⟨h78,hF⟩
    ·refine ct h78 ?_
     refine sr ?_
     refine aw (r_build_struct (zs:=Cd.cs c_api_Item zv6) (cs:=Cd.cs c_api_Item zv6) underlying33 zeroValue33 rfl (places_api_Item_33) rfl rfl) ?_
     refine am ?_
     refine at_store (c:=c_api_Item) (z:=zv6) (.s (.s (.s (.s .z)))) (Lens.whole _ _) sizeOf33 rfl rfl rfl ?_
     refine aa ?_
     refine qn ?_
     refine at_drop (H:=_) (.s .z) ?_
     refine at_drop (H:=_) (.s .z) ?_
     refine at_drop (H:=_) (.s .z) ?_
     refine wq [3,2] ?_
     refine tn ?_
     refine qt ?_
     refine at_then_ret (at_blk_ret (at_then_ret (at_then_ret (at_blk_ret (at_then_ret ?_)))))
     have hN79 : NK_api_Item (KZ w0 ((g77 0).2.2.2.2.1)) ((g77 0).2.2.2.2.2.1) zv6:=⟨RowK.nil ..,RowK.nil ..⟩
     refine at_front (.s .z) ?_
     obtain rfl:=of_some hF
     subst K
     exact at_res2 rfl (res_cell (c:=c_api_Item) (y:=zv6) rfl .z (Lens.whole _ _) isAgg33 sizeOf33 (.inl rfl)) (res_tmp rfl) (fun w1 hw=>⟨(g77 0).2.2.2.2.1,(g77 0).2.2.2.2.2.1,zv5,hM_,rfl,hN79,hw.pop⟩)
    refine cf h78 ?_
    refine sn ?_
    refine qr ?_
    refine aw (r_load_aggc (c:=c_api_Item) (z:=((((g77 0).2.2.2.2.2.2 0),((g77 0).2.2.2.2.2.2 1)),t70.1)) isAgg33 sizeOf33 rfl (lens_cell (.s .z) (Lens.whole _ _))) ?_
    refine at_store (c:=c_api_Item) (z:=((((g77 0).2.2.2.2.2.2 0),((g77 0).2.2.2.2.2.2 1)),t70.1)) (.s (.s .z)) (Lens.whole _ _) sizeOf33 rfl rfl rfl ?_
    refine qn ?_
    refine at_drop (H:=_) (.s .z) ?_
    refine wq [9,7,4,2] ?_
    refine at_blk_normal (at_then_normal ?_)
    refine qr ?_
    refine am ?_
    refine aw xa ?_
    refine aa ?_
    refine nwq [9,7,4,2] ?_
    refine at_front (.s (.s (.s .z))) ?_
    refine at_front (.s (.s (.s .z))) ?_
    refine at_front (.s (.s (.s .z))) ?_
    exact at_weak_k (ih _ _ _ hF K ((g77 0).2.2.2.2.1) ((g77 0).2.2.2.2.2.1) hM_ hk25 hk28 (((((g77 0).2.2.2.2.2.2 0),((g77 0).2.2.2.2.2.2 1)).1).1) (((((g77 0).2.2.2.2.2.2 0),((g77 0).2.2.2.2.2.2 1)).1).2) hk75.1 (((((g77 0).2.2.2.2.2.2 0),((g77 0).2.2.2.2.2.2 1)).2).1) (((((g77 0).2.2.2.2.2.2 0),((g77 0).2.2.2.2.2.2 1)).2).2) hk75.2) ⟨rfl,rfl,rfl,rfl,trivial⟩
   refine cf h63 ?_
   refine at_exit ?_
   refine at_then_exit (at_then_exit ?_)
   refine at_drop (H:=_) (.s .z) ?_
   obtain rfl:=of_some hF
   exact at_weak_k (K Z_ s_ hM_ hk25 hk28 p51 c52 hk53 p54 c55 hk56) ⟨rfl,rfl,trivial⟩
 cases q48 with
 | ret r'=>exact of_some hF
 | nx sq48 =>
  intro Z_ s_ hM_ hk25 hk28 p57 c58 hk59 p60 c61 hk62
  refine at_blk_same ?_
  refine tn ?_
  refine sr ?_
  refine aw (r_load_aggc (c:=c_api_Item) (z:=(((p57,c58),(p60,c61)),sq48)) isAgg33 sizeOf33 rfl (lens_cell .z (Lens.whole _ _))) ?_
  refine at_store (c:=c_api_Item) (z:=(((p57,c58),(p60,c61)),sq48)) (.s .z) (Lens.whole _ _) sizeOf33 rfl rfl rfl ?_
  refine aa ?_
  refine qn ?_
  refine dz ?_
  refine wq [3,2] ?_
  refine tn ?_
  refine qt ?_
  have hN80 : NK_api_Item (KZ w0 Z_) s_ (((p57,c58),(p60,c61)),sq48):=⟨hk59,hk62⟩
  obtain rfl:=of_some hF
  exact at_res2 rfl (res_cell (c:=c_api_Item) (y:=(((p57,c58),(p60,c61)),sq48)) rfl .z (Lens.whole _ _) isAgg33 sizeOf33 (.inl rfl)) (res_tmp rfl) (fun w1 hw=>⟨Z_,s_,((p57,c58),(p60,c61)),hM_,rfl,hN80,hw.pop⟩)
end Go.Proofs.YtkkmmpofdcccmaaGreatDoor
namespace Go.Proofs.YtkkmmpofdcccmaaGreatDoor
open E Go.RowKit _root_.Go.Proofs.Tryz
def crawlwaylaw50_ScriptParses (x0 : ByteArray) : Option (Bool) :=
 if (decide ((x0.size : Int) > 9000)) = true then (crawlwaylaw50_alive >>= fun t2=>some t2) else (script_Parse x0 >>= fun t3=>crawlwayref50_Parse x0 >>= fun t8=>crawlwayref50_Same t3.1 t8.1 >>= fun t13=>if (!t13) = true then (some false) else (if (t3.2 != t8.2) = true then (some false) else (if (t8.2 != 0) = true then (crawlwaylaw50_alive >>= fun t17=>some t17) else (script_Text t3.1 >>= fun t18=>script_Parse t18.1 >>= fun t19=>script_Right t3.1 >>= fun t24=>if t24 = true then (if (t18.2 == 0) = true then (if (t3.1.f_Kind == 4) = true then (crawlwayref50_Same t19.1 t3.1 >>= fun t28=>if t28 = true then (if (t19.2 == 0) = true then (crawlwaylaw50_alive >>= fun t31=>some t31) else (some false)) else (some false)) else (if (seq t18.1 x0) = true then (crawlwayref50_Same t19.1 t3.1 >>= fun t33=>if t33 = true then (if (t19.2 == 0) = true then (crawlwaylaw50_alive >>= fun t36=>some t36) else (some false)) else (some false)) else (some false))) else (some false)) else (some false)))))
theorem crawlwaylaw50_ScriptParses_ok (x0 : ByteArray) (r : Bool) (hF : crawlwaylaw50_ScriptParses x0 = some r) (w : World) (hg_bytealg_MaxLen : GV_bytealg_MaxLen w) (hg_strconv_ErrRange : GV_strconv_ErrRange w) (hg_strconv_ErrSyntax : GV_strconv_ErrSyntax w) (hg_strconv_uint64pow10 : GV_strconv_uint64pow10 w) :
    Calls Tryz.prog 7 #[.string x0] w (fun e w'=>e = .returned (.bool r) ∧ Below w.heap.size w w'):=by
 unfold crawlwaylaw50_ScriptParses at hF
 refine calls_enter (l:=[.string x0]) func7 rfl rfl rfl ?_
 refine at_start ?_
 refine at_frz0 ?_
 intro Z_ s_ hB_
 refine sr ?_
 refine aa ?_
 refine nt ?_
 refine qs ?_
 refine sr ?_
 refine am ?_
 refine aw (r_len_str underlying9 rfl) ?_
 refine aw (r_igtr rfl rfl) ?_
 refine nwq [13,0] ?_
 rcases oi hF with ⟨h1,hF⟩|⟨h1,hF⟩
 ·refine ct h1 ?_
  refine sr ?_
  obtain ⟨t2,ht2,hF⟩:=of_bindM hF
  refine at_callB func11 rfl (by kernel_rfl) rfl rfl (fun w hw=>crawlwaylaw50_alive_ok  _ ht2 w (hg_bytealg_MaxLen.on hw.below) (hg_strconv_ErrRange.on hw.below) (hg_strconv_ErrSyntax.on hw.below) (hg_strconv_uint64pow10.on hw.below)) ?_
  refine aa ?_
  refine nwq [2] ?_
  refine rt ?_
  obtain rfl:=of_some hF
  exact at_return1 rfl rfl (fun w1 hw=>⟨rfl,hw.below⟩)
 refine cf h1 ?_
 refine sns ?_
 refine am ?_
 obtain ⟨t3,ht3,hF⟩:=of_bindM hF
 refine at_callZ (γ:=G_api_Item) (V:=fun z=>.tuple #[.agg (Cd.cs c_api_Item (z,t3.1)).toArray,.int .i64 t3.2]) (Φ:=fun K s z=>NK_api_Item K s (z,t3.1)) func25 rfl (by kernel_rfl) rfl rfl (fun w hw=>script_Parse_ok ht3 hw hg_bytealg_MaxLen hg_strconv_ErrRange hg_strconv_ErrSyntax hg_strconv_uint64pow10) ?_
 intro Z_ s_ g5 hm4 hk6
 refine am ?_
 refine aw xe ?_
 refine aw xe ?_
 refine at_alloc (cs:=Cd.cs c_api_Item zv6) zeroValue33 rfl rfl ?_
 intro b7
 refine at_store (c:=c_api_Item) (z:=(g5,t3.1)) .z (Lens.whole _ _) sizeOf33 rfl rfl rfl ?_
 refine aa ?_
 refine nwx [4,3,0] ?_
 refine am ?_
 obtain ⟨t8,ht8,hF⟩:=of_bindM hF
 refine at_front (.s .z) ?_
 refine at_callZ (γ:=G_api_Item) (V:=fun z=>.tuple #[.agg (Cd.cs c_api_Item (z,t8.1)).toArray,.int .i64 t8.2]) (Φ:=fun K s z=>NK_api_Item K s (z,t8.1)) func27 rfl (by kernel_rfl) rfl rfl (fun w hw=>crawlwayref50_Parse_ok ht8 hw) ?_
 intro Z_ s_ g10 hm9 hk11
 replace hk6:=NK_api_Item.mono hk6 hm9
 refine am ?_
 refine aw xe ?_
 refine aw xe ?_
 refine at_alloc (cs:=Cd.cs c_api_Item zv6) zeroValue33 rfl rfl ?_
 intro b12
 refine at_store (c:=c_api_Item) (z:=(g10,t8.1)) .z (Lens.whole _ _) sizeOf33 rfl rfl rfl ?_
 refine aa ?_
 refine nwq [6,5,4,3,0] ?_
 refine qs ?_
 refine sr ?_
 refine aw (r_load_aggc (c:=c_api_Item) (z:=(g5,t3.1)) isAgg33 sizeOf33 rfl (lens_cell (.s (.s .z)) (Lens.whole _ _))) ?_
 refine aw (r_load_aggc (c:=c_api_Item) (z:=(g10,t8.1)) isAgg33 sizeOf33 rfl (lens_cell .z (Lens.whole _ _))) ?_
 obtain ⟨t13,ht13,hF⟩:=of_bindM hF
 refine at_callB func13 rfl (by kernel_rfl) rfl rfl (fun w hw=>crawlwayref50_Same_ok _ _ _ _ _ ht13 w (NK_api_Item.n (NK_api_Item.mono hk6 (frz_mono (.s .z) hw))) (NK_api_Item.n (NK_api_Item.mono hk11 (frz_mono (.s .z) hw)))) ?_
 refine aw (r_not rfl) ?_
 refine am ?_
 rcases oi hF with ⟨h14,hF⟩|⟨h14,hF⟩
 ·refine at_fix (g:=29) rfl h14 ?_
  refine gn ?_
  refine gn ?_
  refine gn ?_
  refine aw xp ?_
  refine qn ?_
  refine dz ?_
  refine wq [33,6,3,0] ?_
  refine tn ?_
  refine ct rfl ?_
  refine sr ?_
  refine aa ?_
  refine qn ?_
  refine at_drop (H:=_) (.s .z) ?_
  refine wq [2] ?_
  refine tn ?_
  refine rt ?_
  obtain rfl:=of_some hF
  exact at_return1 rfl rfl (fun w1 hw=>⟨rfl,hw.below⟩)
 refine at_fix (g:=29) rfl h14 ?_
 refine gy ?_
 refine am ?_
 refine gy ?_
 refine am ?_
 refine gy ?_
 refine aw xn ?_
 refine aw xp ?_
 refine qn ?_
 refine dz ?_
 refine wq [33,6,3,0] ?_
 refine tn ?_
 rcases oi hF with ⟨h15,hF⟩|⟨h15,hF⟩
 ·refine ct h15 ?_
  refine sr ?_
  refine aa ?_
  refine qn ?_
  refine at_drop (H:=_) (.s .z) ?_
  refine wq [2] ?_
  refine tn ?_
  refine rt ?_
  obtain rfl:=of_some hF
  exact at_return1 rfl rfl (fun w1 hw=>⟨rfl,hw.below⟩)
 refine cf h15 ?_
 refine sn ?_
 refine qs ?_
 refine sr ?_
 refine am ?_
 refine aw xn ?_
 refine nwq [35,3,0] ?_
 rcases oi hF with ⟨h16,hF⟩|⟨h16,hF⟩
 ·refine ct h16 ?_
  refine sr ?_
  obtain ⟨t17,ht17,hF⟩:=of_bindM hF
  refine at_callB func11 rfl (by kernel_rfl) rfl rfl (fun w hw=>crawlwaylaw50_alive_ok  _ ht17 w (hg_bytealg_MaxLen.on hw.below) (hg_strconv_ErrRange.on hw.below) (hg_strconv_ErrSyntax.on hw.below) (hg_strconv_uint64pow10.on hw.below)) ?_
  refine aa ?_
  refine qn ?_
  refine at_drop (H:=_) (.s .z) ?_
  refine wq [2] ?_
  refine tn ?_
  refine rt ?_
  obtain rfl:=of_some hF
  exact at_return1 rfl rfl (fun w1 hw=>⟨rfl,hw.below⟩)
 refine cf h16 ?_
 refine sns ?_
 refine aw (r_load_aggc (c:=c_api_Item) (z:=(g5,t3.1)) isAgg33 sizeOf33 rfl (lens_cell (.s .z) (Lens.whole _ _))) ?_
 obtain ⟨t18,ht18,hF⟩:=of_bindM hF
 refine at_callB func23 rfl (by kernel_rfl) rfl rfl (fun w hw=>script_Text_ok _ _ _ ht18 w (NK_api_Item.n (NK_api_Item.mono hk6 (frz_mono .z hw))) (hg_bytealg_MaxLen.on hw.below) (hg_strconv_ErrRange.on hw.below) (hg_strconv_ErrSyntax.on hw.below) (hg_strconv_uint64pow10.on hw.below)) ?_
 refine am ?_
 refine aw xe ?_
 refine aw xe ?_
 refine aa ?_
 refine aa ?_
 refine nwx [8,7,3,0] ?_
 refine am ?_
 obtain ⟨t19,ht19,hF⟩:=of_bindM hF
 refine at_callZ (γ:=G_api_Item) (V:=fun z=>.tuple #[.agg (Cd.cs c_api_Item (z,t19.1)).toArray,.int .i64 t19.2]) (Φ:=fun K s z=>NK_api_Item K s (z,t19.1)) func25 rfl (by kernel_rfl) rfl rfl (fun w hw=>script_Parse_ok ht19 hw hg_bytealg_MaxLen hg_strconv_ErrRange hg_strconv_ErrSyntax hg_strconv_uint64pow10) ?_
 intro Z_ s_ g21 hm20 hk22
 replace hk6:=NK_api_Item.mono hk6 hm20
 replace hk11:=NK_api_Item.mono hk11 hm20
 refine am ?_
 refine aw xe ?_
 refine aw xe ?_
 refine at_alloc (cs:=Cd.cs c_api_Item zv6) zeroValue33 rfl rfl ?_
 intro b23
 refine at_store (c:=c_api_Item) (z:=(g21,t19.1)) .z (Lens.whole _ _) sizeOf33 rfl rfl rfl ?_
 refine aa ?_
 refine nwx [10,9,8,7,3,0] ?_
 refine aw (r_load_aggc (c:=c_api_Item) (z:=(g5,t3.1)) isAgg33 sizeOf33 rfl (lens_cell (.s (.s .z)) (Lens.whole _ _))) ?_
 obtain ⟨t24,ht24,hF⟩:=of_bindM hF
 refine at_callB func24 rfl (by kernel_rfl) rfl rfl (fun w hw=>script_Right_ok _ _ _ ht24 w (NK_api_Item.n (NK_api_Item.mono hk6 (frz_mono (.s .z) hw))) (hg_bytealg_MaxLen.on hw.below) (hg_strconv_ErrRange.on hw.below) (hg_strconv_ErrSyntax.on hw.below) (hg_strconv_uint64pow10.on hw.below)) ?_
 refine am ?_
 rcases oi hF with ⟨h25,hF⟩|⟨h25,hF⟩
 ·refine at_fix (g:=49) rfl h25 ?_
  refine gy ?_
  refine am ?_
  refine gy ?_
  refine aw xq ?_
  refine aw xp ?_
  refine am ?_
  rcases oi hF with ⟨h26,hF⟩|⟨h26,hF⟩
  ·refine at_fix (g:=53) rfl h26 ?_
   refine gy ?_
   refine fa 0 underlying33 rfl sizeOf3 ?_
   refine gy ?_
   refine aw (r_load_cell isAgg3 rfl (lens_cell0 (c:=(cInt .i64)) (y:=t3.1.f_Kind) (.s (.s .z)) (c_api_Item_f_Kind g5 t3.1) rfl)) ?_
   refine gy ?_
   refine aw xq ?_
   refine gy ?_
   refine am ?_
   rcases oi hF with ⟨h27,hF⟩|⟨h27,hF⟩
   ·refine at_fix (g:=57) rfl h27 ?_
    refine gn ?_
    refine gn ?_
    refine gn ?_
    refine gy ?_
    refine aw xp ?_
    refine aw xp ?_
    refine am ?_
    refine gy ?_
    refine aw (r_load_aggc (c:=c_api_Item) (z:=(g21,t19.1)) isAgg33 sizeOf33 rfl (lens_cell .z (Lens.whole _ _))) ?_
    refine gy ?_
    refine aw (r_load_aggc (c:=c_api_Item) (z:=(g5,t3.1)) isAgg33 sizeOf33 rfl (lens_cell (.s (.s .z)) (Lens.whole _ _))) ?_
    refine gy ?_
    obtain ⟨t28,ht28,hF⟩:=of_bindM hF
    refine at_callB func13 rfl (by kernel_rfl) rfl rfl (fun w hw=>crawlwayref50_Same_ok _ _ _ _ _ ht28 w (NK_api_Item.n (NK_api_Item.mono hk22 (frz_mono (.s .z) hw))) (NK_api_Item.n (NK_api_Item.mono hk6 (frz_mono (.s .z) hw)))) ?_
    refine aw xp ?_
    refine am ?_
    rcases oi hF with ⟨h29,hF⟩|⟨h29,hF⟩
    ·refine at_fix (g:=68) rfl h29 ?_
     refine gy ?_
     refine am ?_
     refine gy ?_
     refine aw xq ?_
     refine aw xp ?_
     refine am ?_
     rcases oi hF with ⟨h30,hF⟩|⟨h30,hF⟩
     ·refine at_fix (g:=72) rfl h30 ?_
      refine gy ?_
      obtain ⟨t31,ht31,hF⟩:=of_bindM hF
      refine at_callB func11 rfl (by kernel_rfl) rfl rfl (fun w hw=>crawlwaylaw50_alive_ok  _ ht31 w (hg_bytealg_MaxLen.on hw.below) (hg_strconv_ErrRange.on hw.below) (hg_strconv_ErrSyntax.on hw.below) (hg_strconv_uint64pow10.on hw.below)) ?_
      refine aw xp ?_
      refine aa ?_
      refine qn ?_
      refine dz ?_
      refine at_drop (H:=_) (.s .z) ?_
      refine wq [2] ?_
      refine tn ?_
      refine qt ?_
      obtain rfl:=of_some hF
      exact at_return1 rfl rfl (fun w1 hw=>⟨rfl,hw.below⟩)
     refine at_fix (g:=72) rfl h30 ?_
     refine gn ?_
     refine aw xp ?_
     refine aa ?_
     refine qn ?_
     refine dz ?_
     refine at_drop (H:=_) (.s .z) ?_
     refine wq [2] ?_
     refine tn ?_
     refine qt ?_
     obtain rfl:=of_some hF
     exact at_return1 rfl rfl (fun w1 hw=>⟨rfl,hw.below⟩)
    refine at_fix (g:=68) rfl h29 ?_
    refine gn ?_
    refine gn ?_
    refine aw xp ?_
    refine am ?_
    refine gn ?_
    refine aw xp ?_
    refine aa ?_
    refine qn ?_
    refine dz ?_
    refine at_drop (H:=_) (.s .z) ?_
    refine wq [2] ?_
    refine tn ?_
    refine qt ?_
    obtain rfl:=of_some hF
    exact at_return1 rfl rfl (fun w1 hw=>⟨rfl,hw.below⟩)
   refine at_fix (g:=57) rfl h27 ?_
   refine gy ?_
   refine am ?_
   refine gy ?_
   refine am ?_
   refine gy ?_
   refine aw (r_seql rfl rfl) ?_
   refine gy ?_
   refine aw xp ?_
   refine aw xp ?_
   refine am ?_
   rcases oi hF with ⟨h32,hF⟩|⟨h32,hF⟩
   ·refine at_fix (g:=63) rfl h32 ?_
    refine gy ?_
    refine aw (r_load_aggc (c:=c_api_Item) (z:=(g21,t19.1)) isAgg33 sizeOf33 rfl (lens_cell .z (Lens.whole _ _))) ?_
    refine gy ?_
    refine aw (r_load_aggc (c:=c_api_Item) (z:=(g5,t3.1)) isAgg33 sizeOf33 rfl (lens_cell (.s (.s .z)) (Lens.whole _ _))) ?_
    refine gy ?_
    obtain ⟨t33,ht33,hF⟩:=of_bindM hF
    refine at_callB func13 rfl (by kernel_rfl) rfl rfl (fun w hw=>crawlwayref50_Same_ok _ _ _ _ _ ht33 w (NK_api_Item.n (NK_api_Item.mono hk22 (frz_mono (.s .z) hw))) (NK_api_Item.n (NK_api_Item.mono hk6 (frz_mono (.s .z) hw)))) ?_
    refine aw xp ?_
    refine am ?_
    rcases oi hF with ⟨h34,hF⟩|⟨h34,hF⟩
    ·refine at_fix (g:=68) rfl h34 ?_
     refine gy ?_
     refine am ?_
     refine gy ?_
     refine aw xq ?_
     refine aw xp ?_
     refine am ?_
     rcases oi hF with ⟨h35,hF⟩|⟨h35,hF⟩
     ·refine at_fix (g:=72) rfl h35 ?_
      refine gy ?_
      obtain ⟨t36,ht36,hF⟩:=of_bindM hF
      refine at_callB func11 rfl (by kernel_rfl) rfl rfl (fun w hw=>crawlwaylaw50_alive_ok  _ ht36 w (hg_bytealg_MaxLen.on hw.below) (hg_strconv_ErrRange.on hw.below) (hg_strconv_ErrSyntax.on hw.below) (hg_strconv_uint64pow10.on hw.below)) ?_
      refine aw xp ?_
      refine aa ?_
      refine qn ?_
      refine dz ?_
      refine at_drop (H:=_) (.s .z) ?_
      refine wq [2] ?_
      refine tn ?_
      refine qt ?_
      obtain rfl:=of_some hF
      exact at_return1 rfl rfl (fun w1 hw=>⟨rfl,hw.below⟩)
     refine at_fix (g:=72) rfl h35 ?_
     refine gn ?_
     refine aw xp ?_
     refine aa ?_
     refine qn ?_
     refine dz ?_
     refine at_drop (H:=_) (.s .z) ?_
     refine wq [2] ?_
     refine tn ?_
     refine qt ?_
     obtain rfl:=of_some hF
     exact at_return1 rfl rfl (fun w1 hw=>⟨rfl,hw.below⟩)
    refine at_fix (g:=68) rfl h34 ?_
    refine gn ?_
    refine gn ?_
    refine aw xp ?_
    refine am ?_
    refine gn ?_
    refine aw xp ?_
    refine aa ?_
    refine qn ?_
    refine dz ?_
    refine at_drop (H:=_) (.s .z) ?_
    refine wq [2] ?_
    refine tn ?_
    refine qt ?_
    obtain rfl:=of_some hF
    exact at_return1 rfl rfl (fun w1 hw=>⟨rfl,hw.below⟩)
   refine at_fix (g:=63) rfl h32 ?_
   refine gn ?_
   refine gn ?_
   refine gn ?_
   refine aw xp ?_
   refine am ?_
   refine gn ?_
   refine gn ?_
   refine aw xp ?_
   refine am ?_
   refine gn ?_
   refine aw xp ?_
   refine aa ?_
   refine qn ?_
   refine dz ?_
   refine at_drop (H:=_) (.s .z) ?_
   refine wq [2] ?_
   refine tn ?_
   refine qt ?_
   obtain rfl:=of_some hF
   exact at_return1 rfl rfl (fun w1 hw=>⟨rfl,hw.below⟩)
  refine at_fix (g:=53) rfl h26 ?_
  refine gn ?_
  refine gn ?_
  refine gn ?_
  refine gn ?_
  refine at_guard_undef rfl rfl rfl rfl ?_
  refine at_guard_undef rfl rfl rfl rfl ?_
  refine at_guard_undef rfl rfl rfl rfl ?_
  refine gn ?_
  refine aw xp ?_
  refine am ?_
  refine gn ?_
  refine gn ?_
  refine gn ?_
  refine aw xp ?_
  refine am ?_
  refine gn ?_
  refine gn ?_
  refine aw xp ?_
  refine am ?_
  refine gn ?_
  refine aw xp ?_
  refine aa ?_
  refine qn ?_
  refine dz ?_
  refine at_drop (H:=_) (.s .z) ?_
  refine wq [2] ?_
  refine tn ?_
  refine qt ?_
  obtain rfl:=of_some hF
  exact at_return1 rfl rfl (fun w1 hw=>⟨rfl,hw.below⟩)
 refine at_fix (g:=49) rfl h25 ?_
 refine gn ?_
 refine gn ?_
 refine aw xp ?_
 refine am ?_
 refine gn ?_
 refine gn ?_
 refine gn ?_
 refine gn ?_
 refine at_guard_undef rfl rfl rfl rfl ?_
 refine at_guard_undef rfl rfl rfl rfl ?_
 refine at_guard_undef rfl rfl rfl rfl ?_
 refine gn ?_
 refine aw xp ?_
 refine am ?_
 refine gn ?_
 refine gn ?_
 refine gn ?_
 refine aw xp ?_
 refine am ?_
 refine gn ?_
 refine gn ?_
 refine aw xp ?_
 refine am ?_
 refine gn ?_
 refine aw xp ?_
 refine aa ?_
 refine qn ?_
 refine dz ?_
 refine at_drop (H:=_) (.s .z) ?_
 refine wq [2] ?_
 refine tn ?_
 refine qt ?_
 obtain rfl:=of_some hF
 exact at_return1 rfl rfl (fun w1 hw=>⟨rfl,hw.below⟩)
end Go.Proofs.YtkkmmpofdcccmaaGreatDoor
namespace Go.Proofs.YtkkmmpofdcccmaaGreatDoor.Scr
open E Go.RowKit
open Adr AdrT
theorem seq_dec (a b : ByteArray) : seq a b = decide (a = b):=by rw [Bool.eq_iff_iff,seq_iff,decide_eq_true_eq]
def U (s : ByteArray) : List Int × Int:=if s = (⟨#[45]⟩ : ByteArray) then ([],0) else if s = (⟨#[]⟩ : ByteArray) then ([],5) else match Hex.dec s with
 | some k=>(ob k,0)
 | none=>([],5)
theorem unword_code (s : ByteArray) (hs : s.size < 1000000) : script_unword s = some (U s):=by
 unfold script_unword U
 rw [seq_dec,seq_dec,Hex.decode_eq s hs]
 by_cases h1 : s = (⟨#[45]⟩ : ByteArray)
 ·rw [if_pos (decide_eq_true h1),if_pos h1]
 ·rw [if_neg (by simpa using h1),if_neg h1]
  by_cases h2 : s = (⟨#[]⟩ : ByteArray)
  ·rw [if_pos (decide_eq_true h2),if_pos h2]
  ·rw [if_neg (by simpa using h2),if_neg h2,bindM_some]; rfl
theorem dec_empty {s : ByteArray} (h : Hex.dec s = some []) : s = (⟨#[]⟩ : ByteArray):=by
 rw [← Hex.enc_dec s [] h]; rfl
theorem bytes_ref (s : ByteArray) (hs : s.size < 1000000) : crawlwayref50_bytes s = some (U s):=by
 unfold crawlwayref50_bytes U
 rw [seq_dec,Hex.refDecode_eq s hs]
 by_cases h1 : s = (⟨#[45]⟩ : ByteArray)
 ·rw [if_pos (decide_eq_true h1),if_pos h1]
 ·rw [if_neg (by simpa using h1),if_neg h1,bindM_some]
  by_cases h2 : s = (⟨#[]⟩ : ByteArray)
  ·rw [if_pos h2]
   subst h2
   have : Hex.dec (⟨#[]⟩ : ByteArray) = some []:=by decide +kernel
   rw [this]; rfl
  ·rw [if_neg h2]
   cases hd : Hex.dec s with
   | none=>rfl
   | some k =>
    cases k with
    | nil=>exact absurd (dec_empty hd) h2
    | cons a r=>rfl
abbrev n1 : ByteArray:=⟨#[115,101,116]⟩
abbrev n2 : ByteArray:=⟨#[108,111,97,100]⟩
abbrev n3 : ByteArray:=⟨#[111,117,116]⟩
abbrev n4 : ByteArray:=⟨#[105,110]⟩
abbrev n5 : ByteArray:=⟨#[105,110,115,116,97,108,108]⟩
abbrev n6 : ByteArray:=⟨#[102,111,114,103,101,116]⟩
def knd (s : ByteArray) : Int:=if n1 = s then 1 else if n2 = s then 2 else if n3 = s then 3 else if n4 = s then 4 else if n5 = s then 5 else if n6 = s then 6 else 0
theorem kind_code (s : ByteArray) : script_kind s = some (knd s):=by
 unfold script_kind knd
 simp only [seq_dec,decide_eq_true_eq]
 repeat' split
 all_goals first | rfl | contradiction
theorem knd_cases (s : ByteArray) : knd s = 0 ∨ knd s = 1 ∨ knd s = 2 ∨ knd s = 3 ∨ knd s = 4 ∨ knd s = 5 ∨ knd s = 6:=by
 unfold knd
 repeat' split
 all_goals simp
abbrev NM : List ByteArray:=[⟨#[]⟩,n1,n2,n3,n4,n5,n6]
theorem kind_step (t : List ByteArray) (ht : 0 < t.length) (i : Nat) (h1 : 1 ≤ i) (h6 : i ≤ 6) (x : S_api_Item) : crawlwayref50_Parse.l0 t (i : Int) x = crawlwayref50_Parse.l0 t ((i + 1 : Nat) : Int) (if lget NM (i : Int) = lget t 0 then { x with f_Kind:=(i : Int) } else x):=by
 rw [crawlwayref50_Parse.l0.eq_def,if_pos (by rw [decide_eq_true_eq]; omega),if_pos (by show (0 : Int) ≤ (i : Int) ∧ (i : Int) < 7; omega),if_pos (by omega),wr_i i (by omega),seq_dec]
 by_cases h : lget NM (i : Int) = lget t 0
 ·rw [if_pos (decide_eq_true h),if_pos h]
 ·rw [if_neg (by simpa using h),if_neg h]
theorem kind_ref (t : List ByteArray) (ht : 0 < t.length) : crawlwayref50_Parse.l0 t 1 zI = some { zI with f_Kind:=knd (lget t 0) }:=by
 rw [show (1 : Int) = ((1 : Nat) : Int) from rfl,kind_step t ht 1 (by omega) (by omega),kind_step t ht 2 (by omega) (by omega),kind_step t ht 3 (by omega) (by omega),kind_step t ht 4 (by omega) (by omega),kind_step t ht 5 (by omega) (by omega),kind_step t ht 6 (by omega) (by omega),crawlwayref50_Parse.l0.eq_def,if_neg (by decide)]
 congr 1
 show (if n6 = lget t 0 then _ else if n5 = lget t 0 then _ else _) = _
 generalize lget t 0 = w
 unfold knd
 by_cases e1 : n1 = w
 ·subst e1; decide +kernel
 by_cases e2 : n2 = w
 ·subst e2; decide +kernel
 by_cases e3 : n3 = w
 ·subst e3; decide +kernel
 by_cases e4 : n4 = w
 ·subst e4; decide +kernel
 by_cases e5 : n5 = w
 ·subst e5; decide +kernel
 by_cases e6 : n6 = w
 ·subst e6; decide +kernel
 rw [if_neg e6,if_neg e5]
 show (if n4 = w then _ else if n3 = w then _ else if n2 = w then _ else if n1 = w then _ else _) = _
 rw [if_neg e4,if_neg e3,if_neg e2,if_neg e1,if_neg e1,if_neg e2,if_neg e3,if_neg e4,if_neg e5,if_neg e6]; rfl
def K (s : ByteArray) : Vector Int 32 × Int:=Key.par (match Hex.dec s with | some k=>(ob k,0) | none=>([],5))
theorem key_code (s : ByteArray) (hs : s.size < 1000000) : keys_ParseHex s = some (K s):=by
 unfold keys_ParseHex K; rw [Hex.decode_eq s hs,bindM_some]; exact Key.parse_of _ Key.keysOf_eq
theorem key_ref (s : ByteArray) (hs : s.size < 1000000) : crawlwayref07_ParseHex s = some (K s):=by
 unfold crawlwayref07_ParseHex K; rw [Hex.refDecode_eq s hs,bindM_some]; exact Key.parse_ref _
def D (s : ByteArray) (m : Nat) : Int × Int:=iiOf (rdU s.data.toList m)
theorem dec_code (s : ByteArray) (hs : s.size < 1000000) (m : Nat) (hm : m < 18446744073709551616) : decimal_Read s (m : Int) = some (D s m):=read_code s m (by omega) hm
theorem dec_ref (s : ByteArray) (hs : s.size < 1000000) (m : Nat) (hm : m < 18446744073709551616) : crawlwayref03_Read s (m : Int) = some (D s m):=read_ref s m (by omega) hm
def H (s : ByteArray) : S_api_Endpoint × Int:=Host.endP s.data.toList
theorem host_code (s : ByteArray) (hs : s.size < 100000) : hostport_Parse s = some (H s):=by
 have h:=Host.host_parse s.data.toList (by rw [size_toList]; exact hs)
 rw [← eq_bs s] at h; exact h
theorem host_ref (s : ByteArray) (hs : s.size < 100000) : crawlwayref12_Parse s = some (H s):=by
 have h:=Host.ref_parse12 s.data.toList (by rw [size_toList]; exact hs)
 rw [← eq_bs s] at h; exact h
def out {α : Type} (u : α × Int) (f : α → S_api_Item × Int) : S_api_Item × Int:=if u.2 = 0 then f u.1 else (zI,u.2)
def ans (x : S_api_Item) (s : ByteArray) : S_api_Item × Int:=if s = (⟨#[33]⟩ : ByteArray) then (x,0) else out (U s) fun r=>({ x with f_Ok:=true,f_Result:=r },0)
def M32 : Nat:=4294967295
def M64 : Nat:=18446744073709551615
def pB (t : List ByteArray) : S_api_Item × Int :=
 if knd (lget t 0) = 1 then (if t.length = 2 then out (U (lget t 1)) fun b=>({ zI with f_Kind:=1,f_Bytes:=b },0) else (zI,5))
 else if knd (lget t 0) = 2 then (if t.length = 2 then out (U (lget t 1)) fun b=>({ zI with f_Kind:=2,f_Bytes:=b },0) else (zI,5))
 else if knd (lget t 0) = 3 then (if t.length = 3 then out (U (lget t 1)) fun b=>ans { zI with f_Kind:=3,f_Bytes:=b } (lget t 2) else (zI,5))
 else if knd (lget t 0) = 4 then (if t.length = 4 then out (H (lget t 1)) fun e=>out (U (lget t 2)) fun b=>ans { zI with f_Kind:=4,f_From:=e,f_Bytes:=b } (lget t 3) else (zI,5))
 else if knd (lget t 0) = 5 then (if t.length = 5 then out (K (lget t 1)) fun v=>out (D (lget t 2) M32) fun a=>out (D (lget t 3) M32) fun b=>out (D (lget t 4) M64) fun c=>({ zI with f_Kind:=5,f_Key:=v,f_Local:=wr .u32 a,f_Remote:=wr .u32 b,f_Next:=c },0) else (zI,5))
 else if knd (lget t 0) = 6 then (if t.length = 2 then out (D (lget t 1) M32) fun a=>({ zI with f_Kind:=6,f_Local:=wr .u32 a },0) else (zI,5))
 else (zI,12)
theorem out_code {α : Type} {u : α × Int} {A : Option (S_api_Item × Int)} {f : α → S_api_Item × Int} (h : u.2 = 0 → A = some (f u.1)) : (if (u.2 != 0) = true then (some (zI,u.2)) else A) = some (out u f):=by
 unfold out
 by_cases h0 : u.2 = 0
 ·rw [if_neg (by simp [h0]),if_pos h0,h h0]
 ·rw [if_pos (by simpa using h0),if_neg h0]
theorem lget_sz {t : List ByteArray} (hs : ∀ s ∈ t,s.size < 100000) (i : Nat) (h : i < t.length) : (lget t (i : Int)).size < 100000:=hs _ (lget_mem t i h)
theorem wr01 : wr .i64 (0 + 1) = 1:=by decide
theorem wr12 : wr .i64 (1 + 1) = 2:=by decide
theorem wr23 : wr .i64 (2 + 1) = 3:=by decide
theorem wr34 : wr .i64 (3 + 1) = 4:=by decide
theorem cnt {t : List ByteArray} (hn : t.length ≤ 10000) (m : Nat) (hm : m < 100) : (wr .i64 ((t.length : Int) - 1) != (m : Int)) = !decide (t.length = m + 1):=by
 have : wr .i64 ((t.length : Int) - 1) = (t.length : Int) - 1:=by
  by_cases h : t.length = 0
  ·rw [h]; decide
  ·rw [wr_i64 (by omega) (by omega)]
 rw [this,Bool.eq_iff_iff]
 simp
 omega
theorem ans_code {x : S_api_Item} {s : ByteArray} (hs : s.size < 1000000) : (if (seq s (⟨#[33]⟩ : ByteArray)) = true then (some (x,0)) else (script_unword s >>= fun u=>if (u.2 != 0) = true then (some (zI,u.2)) else (some ({ { x with f_Ok:=true } with f_Result:=u.1 },0)))) = some (ans x s):=by
 unfold ans
 rw [seq_dec,unword_code s hs,bindM_some]
 by_cases h : s = (⟨#[33]⟩ : ByteArray)
 ·rw [if_pos (decide_eq_true h),if_pos h]
 ·rw [if_neg (by simpa using h),if_neg h]
  exact out_code (f:=fun r=>({ x with f_Ok:=true,f_Result:=r },0)) fun _=>rfl
theorem pB1 {t : List ByteArray} (h : knd (lget t 0) = 1) : pB t = if t.length = 2 then out (U (lget t 1)) fun b=>({ zI with f_Kind:=1,f_Bytes:=b },0) else (zI,5):=by
 unfold pB; rw [h]; rw [if_pos rfl]
theorem pB2 {t : List ByteArray} (h : knd (lget t 0) = 2) : pB t = if t.length = 2 then out (U (lget t 1)) fun b=>({ zI with f_Kind:=2,f_Bytes:=b },0) else (zI,5):=by
 unfold pB; rw [h]; rw [if_neg (by decide)]; rw [if_pos rfl]
theorem pB3 {t : List ByteArray} (h : knd (lget t 0) = 3) : pB t = if t.length = 3 then out (U (lget t 1)) fun b=>ans { zI with f_Kind:=3,f_Bytes:=b } (lget t 2) else (zI,5):=by
 unfold pB; rw [h]; rw [if_neg (by decide)]; rw [if_neg (by decide)]; rw [if_pos rfl]
theorem pB4 {t : List ByteArray} (h : knd (lget t 0) = 4) : pB t = if t.length = 4 then out (H (lget t 1)) fun e=>out (U (lget t 2)) fun b=>ans { zI with f_Kind:=4,f_From:=e,f_Bytes:=b } (lget t 3) else (zI,5):=by
 unfold pB; rw [h]; rw [if_neg (by decide)]; rw [if_neg (by decide)]; rw [if_neg (by decide)]; rw [if_pos rfl]
theorem pB5 {t : List ByteArray} (h : knd (lget t 0) = 5) : pB t = if t.length = 5 then out (K (lget t 1)) fun v=>out (D (lget t 2) M32) fun a=>out (D (lget t 3) M32) fun b=>out (D (lget t 4) M64) fun c=>({ zI with f_Kind:=5,f_Key:=v,f_Local:=wr .u32 a,f_Remote:=wr .u32 b,f_Next:=c },0) else (zI,5):=by
 unfold pB; rw [h]; rw [if_neg (by decide)]; rw [if_neg (by decide)]; rw [if_neg (by decide)]; rw [if_neg (by decide)]; rw [if_pos rfl]
theorem pB6 {t : List ByteArray} (h : knd (lget t 0) = 6) : pB t = if t.length = 2 then out (D (lget t 1) M32) fun a=>({ zI with f_Kind:=6,f_Local:=wr .u32 a },0) else (zI,5):=by
 unfold pB; rw [h]; rw [if_neg (by decide)]; rw [if_neg (by decide)]; rw [if_neg (by decide)]; rw [if_neg (by decide)]; rw [if_neg (by decide)]; rw [if_pos rfl]
theorem pB0 {t : List ByteArray} (h : knd (lget t 0) = 0) : pB t = (zI,12):=by
 unfold pB; rw [h]; rfl
theorem parse_code (s : ByteArray) (t : List ByteArray) (hp : lines_Parts s 32 = some t) (ht : 0 < t.length) (hn : t.length ≤ 10000) (hs : ∀ s ∈ t,s.size < 100000) : script_Parse s = some (pB t):=by
 have sz:=fun i h=>lget_sz hs i h
 unfold script_Parse
 rw [if_pos (by decide),show bt (⟨#[32]⟩ : ByteArray) 0 = 32 from by decide +kernel,hp,bindM_some,if_pos (by omega),kind_code,bindM_some]
 have c1:=cnt hn 1 (by omega)
 have c2:=cnt hn 2 (by omega)
 have c3:=cnt hn 3 (by omega)
 have c4:=cnt hn 4 (by omega)
 rcases knd_cases (lget t 0) with h | h | h | h | h | h | h
 ·rw [pB0 h,h]; rfl
 ·rw [pB1 h,h,if_pos (by rfl)]
  show (if (wr .i64 ((t.length : Int) - 1) != ((1 : Nat) : Int)) = true then _ else _) = _
  rw [c1]
  by_cases hl : t.length = 2
  ·rw [if_neg (by simp [hl]),if_pos hl,wr01,if_pos (by omega),unword_code _ (by have:=sz 1 (by omega); exact Nat.lt_of_lt_of_le this (by omega)),bindM_some]
   exact out_code fun _=>rfl
  ·rw [if_pos (by simp; omega),if_neg hl]; rfl
 ·rw [pB2 h,h,if_neg (by decide),if_pos (by rfl)]
  show (if (wr .i64 ((t.length : Int) - 1) != ((1 : Nat) : Int)) = true then _ else _) = _
  rw [c1]
  by_cases hl : t.length = 2
  ·rw [if_neg (by simp [hl]),if_pos hl,wr01,if_pos (by omega),unword_code _ (by have:=sz 1 (by omega); exact Nat.lt_of_lt_of_le this (by omega)),bindM_some]
   exact out_code fun _=>rfl
  ·rw [if_pos (by simp; omega),if_neg hl]; rfl
 ·rw [pB3 h,h,if_neg (by decide),if_neg (by decide),if_pos (by rfl)]
  show (if (wr .i64 ((t.length : Int) - 1) != ((2 : Nat) : Int)) = true then _ else _) = _
  rw [c2]
  by_cases hl : t.length = 3
  ·rw [if_neg (by simp [hl]),if_pos hl,wr01,wr12,if_pos (by omega),unword_code _ (by have:=sz 1 (by omega); exact Nat.lt_of_lt_of_le this (by omega)),bindM_some]
   refine out_code fun _=>?_
   rw [if_pos (by omega)]
   exact ans_code (by have:=sz 2 (by omega); exact Nat.lt_of_lt_of_le this (by omega))
  ·rw [if_pos (by simp; omega),if_neg hl]; rfl
 ·rw [pB4 h,h,if_neg (by decide),if_neg (by decide),if_neg (by decide),if_pos (by rfl)]
  show (if (wr .i64 ((t.length : Int) - 1) != ((3 : Nat) : Int)) = true then _ else _) = _
  rw [c3]
  by_cases hl : t.length = 4
  ·rw [if_neg (by simp [hl]),if_pos hl,wr01,wr12,wr23,if_pos (by omega),host_code (lget t 1) (sz 1 (by omega)),bindM_some]
   refine out_code fun _=>?_
   rw [if_pos (by omega),unword_code _ (by have:=sz 2 (by omega); exact Nat.lt_of_lt_of_le this (by omega)),bindM_some]
   refine out_code fun _=>?_
   rw [if_pos (by omega)]
   exact ans_code (by have:=sz 3 (by omega); exact Nat.lt_of_lt_of_le this (by omega))
  ·rw [if_pos (by simp; omega),if_neg hl]; rfl
 ·rw [pB5 h,h,if_neg (by decide),if_neg (by decide),if_neg (by decide),if_neg (by decide),if_pos (by rfl)]
  show (if (wr .i64 ((t.length : Int) - 1) != ((4 : Nat) : Int)) = true then _ else _) = _
  rw [c4]
  have d32:=fun (i : Nat) (h : i < t.length)=>dec_code (lget t (i : Int)) (Nat.lt_of_lt_of_le (sz i h) (by omega)) M32 (by decide)
  have d64:=fun (i : Nat) (h : i < t.length)=>dec_code (lget t (i : Int)) (Nat.lt_of_lt_of_le (sz i h) (by omega)) M64 (by decide)
  by_cases hl : t.length = 5
  ·rw [if_neg (by simp [hl]),if_pos hl,wr01,wr12,wr23,wr34,if_pos (by omega),key_code _ (by have:=sz 1 (by omega); exact Nat.lt_of_lt_of_le this (by omega)),bindM_some]
   refine out_code fun _=>?_
   have e2:=d32 2 (by omega)
   have e3:=d32 3 (by omega)
   have e4:=d64 4 (by omega)
   rw [if_pos (by omega)]
   show (decimal_Read (lget t ((2 : Nat) : Int)) (M32 : Int) >>= _) = _
   rw [e2,bindM_some]
   refine out_code fun _=>?_
   rw [if_pos (by omega)]
   show (decimal_Read (lget t ((3 : Nat) : Int)) (M32 : Int) >>= _) = _
   rw [e3,bindM_some]
   refine out_code fun _=>?_
   rw [if_pos (by omega)]
   show (decimal_Read (lget t ((4 : Nat) : Int)) (M64 : Int) >>= _) = _
   rw [e4,bindM_some]
   exact out_code fun _=>rfl
  ·rw [if_pos (by simp; omega),if_neg hl]; rfl
 ·rw [pB6 h,h,if_neg (by decide),if_neg (by decide),if_neg (by decide),if_neg (by decide),if_neg (by decide),if_pos (by rfl)]
  show (if (wr .i64 ((t.length : Int) - 1) != ((1 : Nat) : Int)) = true then _ else _) = _
  rw [c1]
  have d32:=fun (i : Nat) (h : i < t.length)=>dec_code (lget t (i : Int)) (Nat.lt_of_lt_of_le (sz i h) (by omega)) M32 (by decide)
  by_cases hl : t.length = 2
  ·rw [if_neg (by simp [hl]),if_pos hl,wr01,if_pos (by omega)]
   have e1:=d32 1 (by omega)
   show (decimal_Read (lget t ((1 : Nat) : Int)) (M32 : Int) >>= _) = _
   rw [e1,bindM_some]
   exact out_code fun _=>rfl
  ·rw [if_pos (by simp; omega),if_neg hl]; rfl
theorem take_step (t : List ByteArray) (hn : t.length ≤ 10000) (i : Nat) (h1 : 1 ≤ i) (hi : i < t.length) (x : S_api_Item) (P : S_api_Item × Int) (hP : crawlwayref50_take x ((i - 1 : Nat) : Int) (lget t (i : Int)) = some P) :
  crawlwayref50_Parse.l1 t (i : Int) x = if P.2 = 0 then crawlwayref50_Parse.l1 t ((i + 1 : Nat) : Int) P.1 else some (.ret (zI,P.2)):=by
 have hw : wr .i64 ((i : Int) - 1) = ((i - 1 : Nat) : Int):=by rw [wr_i64 (by omega) (by omega)]; omega
 rw [crawlwayref50_Parse.l1.eq_def,if_pos (by rw [decide_eq_true_eq]; omega),if_pos (by omega),hw,hP,bindM_some,wr_i i (by omega)]
 by_cases h : P.2 = 0
 ·rw [if_neg (by simp [h]),if_pos h]
 ·rw [if_pos (by simpa using h),if_neg h]; rfl
theorem take_end (t : List ByteArray) (x : S_api_Item) : crawlwayref50_Parse.l1 t ((t.length : Nat) : Int) x = some (.nx x):=by
 rw [crawlwayref50_Parse.l1.eq_def,if_neg (by rw [decide_eq_true_eq]; omega)]
def fin (q : Option (Ctl (S_api_Item × Int) S_api_Item)) : Option (S_api_Item × Int):=q >>= fun q=>match q with | .ret r'=>some r' | .nx x=>some (x,0)
theorem fin_step {t : List ByteArray} (hn : t.length ≤ 10000) {i : Nat} (h1 : 1 ≤ i) (hi : i < t.length) {x : S_api_Item} {α : Type} {u : α × Int} {X : S_api_Item} {f : α → S_api_Item × Int} (hP : crawlwayref50_take x ((i - 1 : Nat) : Int) (lget t (i : Int)) = some (X,u.2)) (hf : u.2 = 0 → fin (crawlwayref50_Parse.l1 t ((i + 1 : Nat) : Int) X) = some (f u.1)) :
  fin (crawlwayref50_Parse.l1 t (i : Int) x) = some (out u f):=by
 rw [take_step t hn i h1 hi x _ hP]
 unfold out
 by_cases h : u.2 = 0
 ·rw [if_pos h,if_pos h]; exact hf h
 ·rw [if_neg h,if_neg h]; rfl
theorem fin_end {t : List ByteArray} {i : Nat} (h : t.length = i) (x : S_api_Item) : fin (crawlwayref50_Parse.l1 t (i : Int) x) = some (x,0):=by
 rw [← h,take_end]; rfl
theorem parse_ref (s : ByteArray) (t : List ByteArray) (hp : crawlwayref06_Parts s 32 = some t) (ht : 0 < t.length) (hn : t.length ≤ 10000) (hs : ∀ s ∈ t,s.size < 100000) : crawlwayref50_Parse s = some (pB t):=by
 have sz:=fun (i : Nat) (h : i < t.length)=>lget_sz hs i h
 have bt:=fun (i : Nat) (h : i < t.length)=>bytes_ref (lget t (i : Int)) (Nat.lt_of_lt_of_le (sz i h) (by omega))
 have d32:=fun (i : Nat) (h : i < t.length)=>dec_ref (lget t (i : Int)) (Nat.lt_of_lt_of_le (sz i h) (by omega)) M32 (by decide)
 have d64:=fun (i : Nat) (h : i < t.length)=>dec_ref (lget t (i : Int)) (Nat.lt_of_lt_of_le (sz i h) (by omega)) M64 (by decide)
 have t123 : ∀ (x : S_api_Item),(x.f_Kind = 1 ∨ x.f_Kind = 2 ∨ x.f_Kind = 3) → ∀ (j : Nat) (h : j < t.length),crawlwayref50_take x 0 (lget t (j : Int)) = some ({ x with f_Bytes:=(U (lget t (j : Int))).1 },(U (lget t (j : Int))).2):=fun x hx j h=>by
  unfold crawlwayref50_take
  rw [bt j h]
  rcases hx with e | e | e <;> simp [e]
 have tans : ∀ (x : S_api_Item) (k : Int),(x.f_Kind = 3 ∧ k = 1 ∨ x.f_Kind = 4 ∧ k = 2) → ∀ (j : Nat) (h : j < t.length),crawlwayref50_take x k (lget t (j : Int)) = some (if lget t (j : Int) = (⟨#[33]⟩ : ByteArray) then (x,0) else ({ x with f_Ok:=true,f_Result:=(U (lget t (j : Int))).1 },(U (lget t (j : Int))).2)):=fun x k hx j h=>by
  unfold crawlwayref50_take
  rw [bt j h,seq_dec]
  have w1 : ¬ wr .i64 (1 : Int) = 0:=by decide
  rcases hx with ⟨e,rfl⟩ | ⟨e,rfl⟩
  ·by_cases q : lget t (j : Int) = (⟨#[33]⟩ : ByteArray)
   ·simp [e,q]
   ·simp [e,q]
  ·by_cases q : lget t (j : Int) = (⟨#[33]⟩ : ByteArray)
   ·simp [e,q,w1]
   ·simp [e,q,w1]
 have fans : ∀ (x : S_api_Item) (j : Nat),1 ≤ j → (x.f_Kind = 3 ∧ j = 2 ∨ x.f_Kind = 4 ∧ j = 3) → t.length = j + 1 → fin (crawlwayref50_Parse.l1 t (j : Int) x) = some (ans x (lget t (j : Int))):=fun x j h1 hx hl=>by
  have ht:=tans x ((j - 1 : Nat) : Int) (by rcases hx with ⟨e,rfl⟩ | ⟨e,rfl⟩; exact .inl ⟨e,rfl⟩; exact .inr ⟨e,rfl⟩) j (by omega)
  rw [take_step t hn j h1 (by omega) x _ ht]
  unfold ans
  by_cases q : lget t (j : Int) = (⟨#[33]⟩ : ByteArray)
  ·rw [if_pos q,if_pos q,if_pos rfl]; exact fin_end hl _
  ·rw [if_neg q,if_neg q]
   unfold out
   by_cases h0 : (U (lget t (j : Int))).2 = 0
   ·rw [if_pos h0,if_pos h0]; exact fin_end hl _
   ·rw [if_neg h0,if_neg h0]; rfl
 unfold crawlwayref50_Parse
 rw [hp,bindM_some]
 show (crawlwayref50_Parse.l0 t 1 zI >>= _) = _
 rw [kind_ref t ht,bindM_some]
 have many : ∀ (n : Nat),n < 100 → ((t.length : Int) != (n : Int)) = !decide (t.length = n):=fun n hn=>by
  rw [Bool.eq_iff_iff]; simp; omega
 show (if (knd (lget t 0) == 0) = true then (some ({ zI with f_Kind:=knd (lget t 0) },12)) else (if (0 : Int) ≤ knd (lget t 0) ∧ knd (lget t 0) < 7 then if ((t.length : Int) != lget ([0,2,2,3,4,5,2] : List Int) (knd (lget t 0))) = true then (some (zI,5)) else fin (crawlwayref50_Parse.l1 t ((1 : Nat) : Int) { zI with f_Kind:=knd (lget t 0) }) else none)) = _
 rcases knd_cases (lget t 0) with h | h | h | h | h | h | h
 ·rw [pB0 h,h,if_pos (by rfl)]; rfl
 ·rw [pB1 h,h,if_neg (by decide),if_pos (by decide)]
  show (if ((t.length : Int) != ((2 : Nat) : Int)) = true then _ else _) = _
  rw [many 2 (by omega)]
  by_cases hl : t.length = 2
  ·rw [if_neg (by simp [hl]),if_pos hl]
   exact fin_step hn (by omega) (by omega) (t123 _ (.inl rfl) 1 (by omega)) fun _=>fin_end hl _
  ·rw [if_pos (by simp [hl]),if_neg hl]
 ·rw [pB2 h,h,if_neg (by decide),if_pos (by decide)]
  show (if ((t.length : Int) != ((2 : Nat) : Int)) = true then _ else _) = _
  rw [many 2 (by omega)]
  by_cases hl : t.length = 2
  ·rw [if_neg (by simp [hl]),if_pos hl]
   exact fin_step hn (by omega) (by omega) (t123 _ (.inr (.inl rfl)) 1 (by omega)) fun _=>fin_end hl _
  ·rw [if_pos (by simp [hl]),if_neg hl]
 ·rw [pB3 h,h,if_neg (by decide),if_pos (by decide)]
  show (if ((t.length : Int) != ((3 : Nat) : Int)) = true then _ else _) = _
  rw [many 3 (by omega)]
  by_cases hl : t.length = 3
  ·rw [if_neg (by simp [hl]),if_pos hl]
   exact fin_step hn (by omega) (by omega) (t123 _ (.inr (.inr rfl)) 1 (by omega)) fun _=>fans _ 2 (by omega) (.inl ⟨rfl,rfl⟩) hl
  ·rw [if_pos (by simp [hl]),if_neg hl]
 ·rw [pB4 h,h,if_neg (by decide),if_pos (by decide)]
  show (if ((t.length : Int) != ((4 : Nat) : Int)) = true then _ else _) = _
  rw [many 4 (by omega)]
  by_cases hl : t.length = 4
  ·rw [if_neg (by simp [hl]),if_pos hl]
   have hh:=host_ref (lget t ((1 : Nat) : Int)) (sz 1 (by omega))
   have e1 : crawlwayref50_take { zI with f_Kind:=4 } ((1 - 1 : Nat) : Int) (lget t ((1 : Nat) : Int)) = some ({ zI with f_Kind:=4,f_From:=(H (lget t ((1 : Nat) : Int))).1 },(H (lget t ((1 : Nat) : Int))).2):=by
    unfold crawlwayref50_take
    rw [hh]; rfl
   refine fin_step hn (by omega) (by omega) e1 fun _=>?_
   have e2 : ∀ x : S_api_Item,x.f_Kind = 4 → crawlwayref50_take x ((2 - 1 : Nat) : Int) (lget t ((2 : Nat) : Int)) = some ({ x with f_Bytes:=(U (lget t ((2 : Nat) : Int))).1 },(U (lget t ((2 : Nat) : Int))).2):=fun x e=>by
    unfold crawlwayref50_take
    rw [bt 2 (by omega)]
    have w1 : wr .i64 (0 : Int) = 0:=by decide
    simp [e,w1]
   refine fin_step hn (by omega) (by omega) (e2 _ rfl) fun _=>?_
   exact fans _ 3 (by omega) (.inr ⟨rfl,rfl⟩) hl
  ·rw [if_pos (by simp [hl]),if_neg hl]
 ·rw [pB5 h,h,if_neg (by decide),if_pos (by decide)]
  show (if ((t.length : Int) != ((5 : Nat) : Int)) = true then _ else _) = _
  rw [many 5 (by omega)]
  by_cases hl : t.length = 5
  ·rw [if_neg (by simp [hl]),if_pos hl]
   have hk:=key_ref (lget t ((1 : Nat) : Int)) (by have:=sz 1 (by omega); exact Nat.lt_of_lt_of_le this (by omega))
   have g2:=d32 2 (by omega)
   have g3:=d32 3 (by omega)
   have g4:=d64 4 (by omega)
   unfold M32 at g2 g3
   unfold M64 at g4
   have e1 : crawlwayref50_take { zI with f_Kind:=5 } ((1 - 1 : Nat) : Int) (lget t ((1 : Nat) : Int)) = some ({ zI with f_Kind:=5,f_Key:=(K (lget t ((1 : Nat) : Int))).1 },(K (lget t ((1 : Nat) : Int))).2):=by
    unfold crawlwayref50_take
    rw [hk]; rfl
   refine fin_step hn (by omega) (by omega) e1 fun _=>?_
   have e2 : ∀ x : S_api_Item,x.f_Kind = 5 → crawlwayref50_take x ((2 - 1 : Nat) : Int) (lget t ((2 : Nat) : Int)) = some ({ x with f_Local:=wr .u32 (D (lget t ((2 : Nat) : Int)) M32).1 },(D (lget t ((2 : Nat) : Int)) M32).2):=fun x e=>by
    unfold crawlwayref50_take
    simp [e]
    erw [g2]; rfl
   refine fin_step hn (by omega) (by omega) (e2 _ rfl) fun _=>?_
   have e3 : ∀ x : S_api_Item,x.f_Kind = 5 → crawlwayref50_take x ((3 - 1 : Nat) : Int) (lget t ((3 : Nat) : Int)) = some ({ x with f_Remote:=wr .u32 (D (lget t ((3 : Nat) : Int)) M32).1 },(D (lget t ((3 : Nat) : Int)) M32).2):=fun x e=>by
    unfold crawlwayref50_take
    simp [e]
    erw [g3]; rfl
   refine fin_step hn (by omega) (by omega) (e3 _ rfl) fun _=>?_
   have e4 : ∀ x : S_api_Item,x.f_Kind = 5 → crawlwayref50_take x ((4 - 1 : Nat) : Int) (lget t ((4 : Nat) : Int)) = some ({ x with f_Next:=(D (lget t ((4 : Nat) : Int)) M64).1 },(D (lget t ((4 : Nat) : Int)) M64).2):=fun x e=>by
    unfold crawlwayref50_take
    simp [e]
    erw [g4]; rfl
   exact fin_step hn (by omega) (by omega) (e4 _ rfl) fun _=>fin_end hl _
  ·rw [if_pos (by simp [hl]),if_neg hl]
 ·rw [pB6 h,h,if_neg (by decide),if_pos (by decide)]
  show (if ((t.length : Int) != ((2 : Nat) : Int)) = true then _ else _) = _
  rw [many 2 (by omega)]
  by_cases hl : t.length = 2
  ·rw [if_neg (by simp [hl]),if_pos hl]
   have g1:=d32 1 (by omega)
   unfold M32 at g1
   have e1 : ∀ x : S_api_Item,x.f_Kind = 6 → crawlwayref50_take x ((1 - 1 : Nat) : Int) (lget t ((1 : Nat) : Int)) = some ({ x with f_Local:=wr .u32 (D (lget t ((1 : Nat) : Int)) M32).1 },(D (lget t ((1 : Nat) : Int)) M32).2):=fun x e=>by
    unfold crawlwayref50_take
    simp [e]
    erw [g1]; rfl
   exact fin_step hn (by omega) (by omega) (e1 _ rfl) fun _=>fin_end hl _
  ·rw [if_pos (by simp [hl]),if_neg hl]
end Go.Proofs.YtkkmmpofdcccmaaGreatDoor.Scr
namespace Go.Proofs.YtkkmmpofdcccmaaGreatDoor.Scr
open E Go.RowKit
open Adr AdrT
inductive Rt : S_api_Item → Prop
 | k12 (k : Int) (hk : k = 1 ∨ k = 2) (b : List Int) : Rt { zI with f_Kind:=k,f_Bytes:=b }
 | k3n (b : List Int) : Rt { zI with f_Kind:=3,f_Bytes:=b }
 | k3y (b r : List Int) : Rt { zI with f_Kind:=3,f_Bytes:=b,f_Result:=r,f_Ok:=true }
 | k4n (b : List Int) (e : S_api_Endpoint) (h : hostport_Right e = some true) : Rt { zI with f_Kind:=4,f_From:=e,f_Bytes:=b }
 | k4y (b r : List Int) (e : S_api_Endpoint) (h : hostport_Right e = some true) : Rt { zI with f_Kind:=4,f_From:=e,f_Bytes:=b,f_Result:=r,f_Ok:=true }
 | k5 (v : Vector Int 32) (a b c : Int) : Rt { zI with f_Kind:=5,f_Key:=v,f_Local:=a,f_Remote:=b,f_Next:=c }
 | k6 (a : Int) : Rt { zI with f_Kind:=6,f_Local:=a }
theorem host_right (e : S_api_Endpoint) (h : ok_api_Endpoint e) : ∃ b,hostport_Right e = some b ∧ crawlwayref12_Right e = some b:=by
 obtain ⟨V,l,n,rfl,hl,_⟩:=Host.exists_mkE e h
 exact ⟨_,Host.right_code12 hl,Host.right_ref12 hl⟩
theorem tail_ref {x y : S_api_Item} (h : smallI y) : (crawlwayref50_Same y x >>= fun t=>if t = true then (if x.f_Ok = true then (some true) else (some ((x.f_Result.length : Int) == 0))) else (some false)) = some (decide (y = x) && (x.f_Ok || decide (x.f_Result = []))):=by
 rw [same_ref y x h,bindM_some]
 by_cases e : y = x
 ·rw [if_pos (decide_eq_true e),decide_eq_true e,Bool.true_and]
  cases x.f_Ok with
  | true=>rfl
  | false =>
   rw [if_neg (by simp),Bool.false_or]
   congr 1
   rw [Bool.eq_iff_iff]
   simp
 ·rw [if_neg (by simpa using e),decide_eq_false e,Bool.false_and]
theorem right_both (x : S_api_Item) (w : ok_api_Item x) (hs : smallI x) : ∃ b,script_Right x = some b ∧ crawlwayref50_Right x = some b ∧ (b = true → Rt x):=by
 obtain ⟨k,b,e,r,o,y,l,m,n⟩:=x
 obtain ⟨w1,w2,w3,w4,w5,w6,w7,w8,w9⟩:=w
 have nb : ∀ z ∈ ([] : List Int),(Lit.int .u8 z).wf = true:=by intro z hz; cases hz
 have wz:=ok_kind k w1
 by_cases k1 : k = 1 ∨ k = 2
 ·have c1:=same_code ⟨k,[],e,r,o,y,l,m,n⟩ { zI with f_Kind:=k } ⟨w1,nb,w3,w4,w5,w6,w7,w8,w9⟩ wz
  have c2:=tail_ref (x:=⟨k,b,e,r,o,y,l,m,n⟩) (y:={ zI with f_Kind:=k,f_Bytes:=b }) ⟨hs.1,Nat.zero_le _⟩
  refine ⟨decide ((⟨k,[],e,r,o,y,l,m,n⟩ : S_api_Item) = { zI with f_Kind:=k }),?_,?_,fun h=>?_⟩
  ·unfold script_Right
   rcases k1 with rfl | rfl
   ·show (script_Same ⟨1,[],e,r,o,y,l,m,n⟩ { zI with f_Kind:=1 } >>= _) = _
    rw [c1,bindM_some]
   ·show (script_Same ⟨2,[],e,r,o,y,l,m,n⟩ { zI with f_Kind:=2 } >>= _) = _
    rw [c1,bindM_some]
  ·have : crawlwayref50_Right ⟨k,b,e,r,o,y,l,m,n⟩ = some (decide (({ zI with f_Kind:=k,f_Bytes:=b } : S_api_Item) = ⟨k,b,e,r,o,y,l,m,n⟩) && (o || decide (r = []))):=by
    unfold crawlwayref50_Right
    rcases k1 with rfl | rfl
    ·exact c2
    ·exact c2
   rw [this]
   congr 1
   rw [Bool.eq_iff_iff]
   simp [zI]
   grind
  ·simp only [decide_eq_true_eq,zI,S_api_Item.mk.injEq] at h
   obtain ⟨_,_,rfl,rfl,rfl,rfl,rfl,rfl,rfl⟩:=h
   exact .k12 k k1 b
 by_cases k3 : k = 3
 ·subst k3
  have c2:=tail_ref (x:=⟨3,b,e,r,o,y,l,m,n⟩) (y:={ zI with f_Kind:=3,f_Bytes:=b,f_Result:=r,f_Ok:=o }) hs
  have rf : crawlwayref50_Right ⟨3,b,e,r,o,y,l,m,n⟩ = some (decide (({ zI with f_Kind:=3,f_Bytes:=b,f_Result:=r,f_Ok:=o } : S_api_Item) = ⟨3,b,e,r,o,y,l,m,n⟩) && (o || decide (r = []))):=by
   unfold crawlwayref50_Right
   exact c2
  rw [rf]
  cases o with
  | true =>
   have c1:=same_code ⟨3,[],e,[],false,y,l,m,n⟩ { zI with f_Kind:=3 } ⟨w1,nb,w3,nb,trivial,w6,w7,w8,w9⟩ wz
   refine ⟨decide ((⟨3,[],e,[],false,y,l,m,n⟩ : S_api_Item) = { zI with f_Kind:=3 }),?_,?_,fun h=>?_⟩
   ·unfold script_Right
    show (script_Same ⟨3,[],e,[],false,y,l,m,n⟩ { zI with f_Kind:=3 } >>= _) = _
    rw [c1,bindM_some]
   ·congr 1
    rw [Bool.eq_iff_iff]
    simp [zI]
    grind
   ·simp only [decide_eq_true_eq,zI,S_api_Item.mk.injEq] at h
    obtain ⟨_,_,rfl,_,_,rfl,rfl,rfl,rfl⟩:=h
    exact .k3y b r
  | false =>
   have c1:=same_code ⟨3,[],e,r,false,y,l,m,n⟩ { zI with f_Kind:=3 } ⟨w1,nb,w3,w4,trivial,w6,w7,w8,w9⟩ wz
   refine ⟨decide ((⟨3,[],e,r,false,y,l,m,n⟩ : S_api_Item) = { zI with f_Kind:=3 }),?_,?_,fun h=>?_⟩
   ·unfold script_Right
    show (script_Same ⟨3,[],e,r,false,y,l,m,n⟩ { zI with f_Kind:=3 } >>= _) = _
    rw [c1,bindM_some]
   ·congr 1
    rw [Bool.eq_iff_iff]
    simp [zI]
    grind
   ·simp only [decide_eq_true_eq,zI,S_api_Item.mk.injEq] at h
    obtain ⟨_,_,rfl,rfl,_,rfl,rfl,rfl,rfl⟩:=h
    exact .k3n b
 by_cases k4 : k = 4
 ·subst k4
  obtain ⟨hb,h1,h2⟩:=host_right e w3
  have okz:=ok_zI.2.2.1
  cases hb with
  | false =>
   refine ⟨false,?_,?_,fun h=>by cases h⟩
   ·have ne : ∀ (r' : List Int) (o' : Bool),(∀ z ∈ r',(Lit.int .u8 z).wf = true) → script_Same ⟨4,[],{ e with f_Port:=-1 },r',o',y,l,m,n⟩ { zI with f_Kind:=4 } = some false:=fun r' o' hr=>by
     rw [same_code ⟨4,[],{ e with f_Port:=-1 },r',o',y,l,m,n⟩ { zI with f_Kind:=4 } ⟨w1,nb,⟨w3.1,(show (Lit.int .i64 (-1)).wf = true by decide)⟩,hr,trivial,w6,w7,w8,w9⟩ wz,decide_eq_false]
     simp [zI]
    unfold script_Right
    show (hostport_Right e >>= _) = _
    rw [h1,bindM_some,if_neg (by simp)]
    cases o with
    | true =>
     show (script_Same ⟨4,[],{ e with f_Port:=-1 },[],false,y,l,m,n⟩ { zI with f_Kind:=4 } >>= _) = _
     rw [ne [] false nb,bindM_some]
    | false =>
     show (script_Same ⟨4,[],{ e with f_Port:=-1 },r,false,y,l,m,n⟩ { zI with f_Kind:=4 } >>= _) = _
     rw [ne r false w4,bindM_some]
   ·unfold crawlwayref50_Right
    show (crawlwayref12_Right e >>= _) = _
    rw [h2,bindM_some,if_pos (by rfl)]
  | true =>
   have c2:=tail_ref (x:=⟨4,b,e,r,o,y,l,m,n⟩) (y:={ zI with f_Kind:=4,f_Bytes:=b,f_From:=e,f_Result:=r,f_Ok:=o }) hs
   have rf : crawlwayref50_Right ⟨4,b,e,r,o,y,l,m,n⟩ = some (decide (({ zI with f_Kind:=4,f_Bytes:=b,f_From:=e,f_Result:=r,f_Ok:=o } : S_api_Item) = ⟨4,b,e,r,o,y,l,m,n⟩) && (o || decide (r = []))):=by
    unfold crawlwayref50_Right
    show (crawlwayref12_Right e >>= _) = _
    rw [h2,bindM_some,if_neg (by simp)]
    exact c2
   rw [rf]
   cases o with
   | true =>
    have c1:=same_code ⟨4,[],zI.f_From,[],false,y,l,m,n⟩ { zI with f_Kind:=4 } ⟨w1,nb,okz,nb,trivial,w6,w7,w8,w9⟩ wz
    refine ⟨decide ((⟨4,[],zI.f_From,[],false,y,l,m,n⟩ : S_api_Item) = { zI with f_Kind:=4 }),?_,?_,fun h=>?_⟩
    ·unfold script_Right
     show (hostport_Right e >>= _) = _
     rw [h1,bindM_some,if_pos rfl]
     show (script_Same ⟨4,[],zI.f_From,[],false,y,l,m,n⟩ { zI with f_Kind:=4 } >>= _) = _
     rw [c1,bindM_some]
    ·congr 1
     rw [Bool.eq_iff_iff]
     simp [zI]
     grind
    ·simp only [decide_eq_true_eq,zI,S_api_Item.mk.injEq] at h
     obtain ⟨_,_,_,_,_,rfl,rfl,rfl,rfl⟩:=h
     exact .k4y b r e h1
   | false =>
    have c1:=same_code ⟨4,[],zI.f_From,r,false,y,l,m,n⟩ { zI with f_Kind:=4 } ⟨w1,nb,okz,w4,trivial,w6,w7,w8,w9⟩ wz
    refine ⟨decide ((⟨4,[],zI.f_From,r,false,y,l,m,n⟩ : S_api_Item) = { zI with f_Kind:=4 }),?_,?_,fun h=>?_⟩
    ·unfold script_Right
     show (hostport_Right e >>= _) = _
     rw [h1,bindM_some,if_pos rfl]
     show (script_Same ⟨4,[],zI.f_From,r,false,y,l,m,n⟩ { zI with f_Kind:=4 } >>= _) = _
     rw [c1,bindM_some]
    ·congr 1
     rw [Bool.eq_iff_iff]
     simp [zI]
     grind
    ·simp only [decide_eq_true_eq,zI,S_api_Item.mk.injEq] at h
     obtain ⟨_,_,_,rfl,_,rfl,rfl,rfl,rfl⟩:=h
     exact .k4n b e h1
 by_cases k5 : k = 5
 ·subst k5
  have c1:=same_code ⟨5,b,e,r,o,zI.f_Key,0,0,0⟩ { zI with f_Kind:=5 } ⟨w1,w2,w3,w4,w5,ok_zI.2.2.2.2.2.1,(show (Lit.int .u32 0).wf = true by decide),(show (Lit.int .u32 0).wf = true by decide),(show (Lit.int .u64 0).wf = true by decide)⟩ wz
  have c2:=tail_ref (x:=⟨5,b,e,r,o,y,l,m,n⟩) (y:={ zI with f_Kind:=5,f_Key:=y,f_Local:=l,f_Remote:=m,f_Next:=n }) ⟨Nat.zero_le _,Nat.zero_le _⟩
  refine ⟨decide ((⟨5,b,e,r,o,zI.f_Key,0,0,0⟩ : S_api_Item) = { zI with f_Kind:=5 }),?_,?_,fun h=>?_⟩
  ·unfold script_Right
   show (script_Same ⟨5,b,e,r,o,zI.f_Key,0,0,0⟩ { zI with f_Kind:=5 } >>= _) = _
   rw [c1,bindM_some]
  ·have : crawlwayref50_Right ⟨5,b,e,r,o,y,l,m,n⟩ = some (decide (({ zI with f_Kind:=5,f_Key:=y,f_Local:=l,f_Remote:=m,f_Next:=n } : S_api_Item) = ⟨5,b,e,r,o,y,l,m,n⟩) && (o || decide (r = []))):=by
    unfold crawlwayref50_Right
    exact c2
   rw [this]
   congr 1
   rw [Bool.eq_iff_iff]
   simp [zI]
   grind
  ·simp only [decide_eq_true_eq,zI,S_api_Item.mk.injEq] at h
   obtain ⟨_,rfl,rfl,rfl,rfl,_⟩:=h
   exact .k5 y l m n
 by_cases k6 : k = 6
 ·subst k6
  have c1:=same_code ⟨6,b,e,r,o,y,0,m,n⟩ { zI with f_Kind:=6 } ⟨w1,w2,w3,w4,w5,w6,(show (Lit.int .u32 0).wf = true by decide),w8,w9⟩ wz
  have c2:=tail_ref (x:=⟨6,b,e,r,o,y,l,m,n⟩) (y:={ zI with f_Kind:=6,f_Local:=l }) ⟨Nat.zero_le _,Nat.zero_le _⟩
  refine ⟨decide ((⟨6,b,e,r,o,y,0,m,n⟩ : S_api_Item) = { zI with f_Kind:=6 }),?_,?_,fun h=>?_⟩
  ·unfold script_Right
   show (script_Same ⟨6,b,e,r,o,y,0,m,n⟩ { zI with f_Kind:=6 } >>= _) = _
   rw [c1,bindM_some]
  ·have : crawlwayref50_Right ⟨6,b,e,r,o,y,l,m,n⟩ = some (decide (({ zI with f_Kind:=6,f_Local:=l } : S_api_Item) = ⟨6,b,e,r,o,y,l,m,n⟩) && (o || decide (r = []))):=by
    unfold crawlwayref50_Right
    exact c2
   rw [this]
   congr 1
   rw [Bool.eq_iff_iff]
   simp [zI]
   grind
  ·simp only [decide_eq_true_eq,zI,S_api_Item.mk.injEq] at h
   obtain ⟨_,rfl,rfl,rfl,rfl,rfl,_,rfl,rfl⟩:=h
   exact .k6 l
 ·have q : ∀ j : Int,(j = 1 ∨ j = 2 ∨ j = 3 ∨ j = 4 ∨ j = 5 ∨ j = 6) → ¬ (k == j) = true:=fun j hj=>by
   rw [beq_iff_eq]; rintro rfl
   rcases hj with rfl | rfl | rfl | rfl | rfl | rfl <;> simp_all
  refine ⟨false,?_,?_,fun h=>by cases h⟩
  ·unfold script_Right
   rw [if_neg (q 1 (by simp)),if_neg (q 2 (by simp)),if_neg (q 3 (by simp)),if_neg (q 4 (by simp)),if_neg (q 5 (by simp)),if_neg (q 6 (by simp))]
  ·unfold crawlwayref50_Right
   rw [if_neg (q 1 (by simp)),if_neg (q 2 (by simp)),if_neg (q 3 (by simp)),if_neg (q 4 (by simp)),if_neg (q 5 (by simp)),if_neg (q 6 (by simp))]
end Go.Proofs.YtkkmmpofdcccmaaGreatDoor.Scr
namespace Go.Proofs.YtkkmmpofdcccmaaGreatDoor.Scr
open E Go.RowKit
open Adr AdrT
def jn : List (List UInt8) → List UInt8
 | []=>[]
 | [a]=>a
 | a::b::r=>a ++ 32::jn (b::r)
def no32 (l : List UInt8) : Prop:=∀ x ∈ l,x ≠ 32
theorem parts_jn : ∀ (W : List (List UInt8)),W ≠ [] → (∀ w ∈ W,no32 w) → parts 32 (jn W) = W
 | [],h,_=>absurd rfl h
 | [a],_,h=>parts_none 32 a (h a (by simp))
 | a::b::r,_,h=>by
  show parts 32 (a ++ 32::jn (b::r)) = _
  rw [parts_cons 32 _ a (h a (by simp)),parts_jn (b::r) (by simp) fun w hw=>h w (List.mem_cons_of_mem _ hw)]
theorem jn_parts : ∀ (k : Nat) (l : List UInt8),l.length ≤ k → jn (parts 32 l) = l:=by
 intro k
 induction k with
 | zero =>
  intro l h
  obtain rfl : l = []:=List.eq_nil_of_length_eq_zero (by omega)
  rfl
 | succ k ih =>
  intro l hk
  rcases split_at 32 l with h | ⟨p,r,rfl,h⟩
  ·rw [parts_none 32 l h]; rfl
  ·rw [parts_cons 32 r p h]
   have hr:=ih r (by simp at hk; omega)
   cases hp : parts 32 r with
   | nil=>exact absurd hp (parts_ne 32 r)
   | cons a b =>
    show p ++ 32::jn (a::b) = _
    rw [← hp,hr]
theorem join_jn : ∀ (W : List (List UInt8)),Lib.join W [32] = jn W
 | []=>rfl
 | [a]=>Lib.join_one a [32]
 | a::b::r=>by
  rw [Lib.join_cons]
  show a ++ Lib.joinTail [32] (b::r) = a ++ 32::jn (b::r)
  rw [← join_jn (b::r),Lib.join_cons]
  simp [Lib.joinTail]
theorem bjoin_jn (W : List (List UInt8)) : bjoin (W.map bs) (⟨#[32]⟩ : ByteArray) = bs (jn W):=by
 apply mk_inj
 unfold bjoin
 rw [bs_list,← join_jn]
 show (Lib.join ((W.map bs).map (·.data.toList)) [32]).toArray.toList = _
 rw [List.map_map]
 have : ((fun x : ByteArray=>x.data.toList) ∘ bs) = id:=by funext l; exact bs_list l
 rw [this,List.map_id]
theorem jn_len (m : Nat) : ∀ (W : List (List UInt8)),(∀ w ∈ W,w.length ≤ m) → (jn W).length ≤ W.length * (m + 1)
 | [],_=>Nat.zero_le _
 | [a],h=>by have:=h a (by simp); simp only [jn,List.length_cons,List.length_nil]; omega
 | a::b::r,h=>by
  have h1:=h a (by simp)
  have h2:=jn_len m (b::r) fun w hw=>h w (List.mem_cons_of_mem _ hw)
  show (a ++ 32::jn (b::r)).length ≤ _
  simp only [List.length_append,List.length_cons] at h2 ⊢
  rw [Nat.add_mul,Nat.one_mul]
  omega
theorem dg_32 : ∀ n : Fin 16,Hex.dg n.1 ≠ 32:=by decide +kernel
theorem g1_32 (n : Nat) : ∀ x ∈ Col.g1 n,x ≠ 32:=by
 induction n using Nat.strongRecOn with
 | _ n ih =>
  intro x hx
  unfold Col.g1 Hex.grp at hx
  split at hx
  ·next h =>
   simp only [Hex.dig,List.mem_singleton] at hx
   subst hx
   exact dg_32 ⟨n,h⟩
  ·next h =>
   rw [append_list] at hx
   rcases List.mem_append.1 hx with hx | hx
   ·exact ih _ (show n / 16 < n by omega) x hx
   ·simp only [Hex.dig,List.mem_singleton] at hx
    subst hx
    exact dg_32 ⟨n % 16,by omega⟩
theorem rowL_32 : ∀ (G : List Nat),∀ x ∈ Col.rowL G,x ≠ 32
 | [],x,h=>by cases h
 | [n],x,h=>g1_32 n x h
 | n::m::r,x,h=>by
  rcases List.mem_append.1 h with h | h
  ·exact g1_32 n x h
  ·rcases List.mem_cons.1 h with rfl | h
   ·decide
   ·exact rowL_32 (m::r) x h
theorem textL_32 (G : List Nat) : ∀ x ∈ Col.textL G,x ≠ 32:=by
 intro x h
 unfold Col.textL at h
 split at h
 ·exact rowL_32 _ x h
 ·rcases List.mem_append.1 h with h | h
  ·exact rowL_32 _ x h
  ·rcases List.mem_cons.1 h with rfl | h
   ·decide
   ·rcases List.mem_cons.1 h with rfl | h
    ·decide
    ·exact rowL_32 _ x h
theorem dec_32 (n : Nat) : no32 (Lib.decDigits n):=fun x hx=>by
 have:=dig_iff.1 (List.all_eq_true.1 (decDigits_dig n) x hx)
 intro e; subst e
 have : (32 : UInt8).toNat = 32:=rfl
 omega
theorem qText_32 {m : List UInt8} (hm : m.length = 4) : no32 (qText m):=by
 intro x hx
 match m,hm with
 | [a,b,c,d],_ =>
  have hx' : x ∈ Lib.decDigits a.toNat ++ 46::(Lib.decDigits b.toNat ++ 46::(Lib.decDigits c.toNat ++ 46::Lib.decDigits d.toNat)):=hx
  simp only [List.mem_append,List.mem_cons] at hx'
  rcases hx' with h | h | h | h | h | h | h
  ·exact dec_32 _ x h
  ·subst h; decide
  ·exact dec_32 _ x h
  ·subst h; decide
  ·exact dec_32 _ x h
  ·subst h; decide
  ·exact dec_32 _ x h
theorem adrT_32 {V : Int} {l : List UInt8} (hl : l.length = 16) : no32 (adrT V l):=by
 intro x hx
 unfold adrT at hx
 split at hx
 ·split at hx
  ·exact qText_32 (by rw [List.length_take]; omega) x hx
  ·exact textL_32 _ x hx
 ·cases hx
theorem host_32 {V : Int} {l : List UInt8} (hl : l.length = 16) (k : Nat) : no32 (Host.hostL V l k):=by
 intro x hx
 unfold Host.hostL at hx
 split at hx
 ·simp only [List.mem_append,List.mem_cons] at hx
  rcases hx with h | h | h
  ·exact adrT_32 hl x h
  ·subst h; decide
  ·exact dec_32 _ x h
 ·simp only [List.mem_append,List.mem_cons] at hx
  rcases hx with h | h | h | h | h
  ·subst h; decide
  ·exact adrT_32 hl x h
  ·subst h; decide
  ·subst h; decide
  ·exact dec_32 _ x h
theorem encL_32 (l : List UInt8) : no32 (Hex.encL l):=by
 intro x hx
 unfold Hex.encL at hx
 obtain ⟨b,_,hb⟩:=List.mem_flatMap.1 hx
 have:=b.toNat_lt
 simp only [List.mem_cons,List.not_mem_nil,or_false] at hb
 rcases hb with rfl | rfl
 ·exact dg_32 ⟨b.toNat / 16,by omega⟩
 ·exact dg_32 ⟨b.toNat % 16,by omega⟩
def wL (b : List UInt8) : List UInt8:=if b = [] then [45] else Hex.encL b
theorem wL_32 (b : List UInt8) : no32 (wL b):=by
 unfold wL
 split
 ·intro x hx; simp only [List.mem_singleton] at hx; subst hx; decide
 ·exact encL_32 b
theorem wL_len (b : List UInt8) : (wL b).length ≤ 2 * b.length + 1:=by
 unfold wL
 split
 ·simp
 ·rw [Hex.encL_length]; omega
theorem ob_nil {b : List UInt8} (h : b ≠ []) : ((ob b).length : Int) ≠ 0:=by
 have : 0 < b.length:=List.length_pos_iff.2 h
 unfold ob
 rw [List.length_map]; omega
theorem word_code (b : List UInt8) (hb : b.length < 1000000) : script_word (ob b) = some (bs (wL b)):=by
 unfold script_word wL
 by_cases h : b = []
 ·subst h; rfl
 ·rw [if_neg (by simpa using ob_nil h),if_neg h,Hex.encode_eq b hb,bindM_some]; rfl
theorem word_ref (b : List UInt8) (hb : b.length < 1000000) : crawlwayref50_word (ob b) = some (bs (wL b)):=by
 unfold crawlwayref50_word wL
 by_cases h : b = []
 ·subst h; rfl
 ·rw [if_neg (by simpa using ob_nil h),if_neg h,Hex.refEncode_eq b hb,bindM_some]; rfl
theorem bs_ne {l k : List UInt8} (h : l ≠ k) : bs l ≠ bs k:=fun e=>h (bs_inj e)
theorem U_wL (b : List UInt8) : U (bs (wL b)) = (ob b,0):=by
 unfold U wL
 by_cases h : b = []
 ·subst h; rw [if_pos rfl,if_pos (show bs [45] = (⟨#[45]⟩ : ByteArray) from rfl)]; rfl
 ·have hl:=Hex.encL_length b
  have hp : 0 < b.length:=List.length_pos_iff.2 h
  have h1 : bs (Hex.encL b) ≠ (⟨#[45]⟩ : ByteArray):=bs_ne (k:=[45]) fun e=>by rw [e] at hl; simp at hl; omega
  have h2 : bs (Hex.encL b) ≠ (⟨#[]⟩ : ByteArray):=bs_ne (k:=[]) fun e=>by rw [e] at hl; simp at hl; omega
  have h3 : Hex.dec (bs (Hex.encL b)) = some b:=Hex.dec_enc b
  rw [if_neg h,if_neg h1,if_neg h2,h3]
theorem U_back {s : ByteArray} (h : (U s).2 = 0) : ∃ b,(U s).1 = ob b ∧ s = bs (wL b) ∧ 2 * b.length ≤ s.size:=by
 unfold U at h ⊢
 by_cases h1 : s = (⟨#[45]⟩ : ByteArray)
 ·rw [if_pos h1]; exact ⟨[],rfl,h1,Nat.zero_le _⟩
 ·rw [if_neg h1] at h ⊢
  by_cases h2 : s = (⟨#[]⟩ : ByteArray)
  ·rw [if_pos h2] at h; cases h
  ·rw [if_neg h2] at h ⊢
   cases hd : Hex.dec s with
   | none=>rw [hd] at h; cases h
   | some b =>
    have he:=Hex.enc_dec s b hd
    refine ⟨b,rfl,?_,?_⟩
    ·unfold wL
     rw [if_neg,← he]
     ·rfl
     ·rintro rfl; exact h2 he.symm
    ·have:=congrArg ByteArray.size he
     rw [Hex.str_size,Hex.encL_length] at this
     omega
end Go.Proofs.YtkkmmpofdcccmaaGreatDoor.Scr
namespace Go.Proofs.YtkkmmpofdcccmaaGreatDoor.Scr
open E Go.RowKit
open Adr AdrT
structure Line (x : S_api_Item) (W : List (List UInt8)) : Prop where
 ne : W ≠ []
 len : W.length ≤ 5
 no : ∀ w ∈ W,no32 w
 sz : ∀ w ∈ W,w.length ≤ 20000
 code : script_Text x = some (bs (jn W),0)
 ref : crawlwayref50_Text x = some (bs (jn W))
 back : pB (W.map bs) = (x,0)
theorem bj {L : List ByteArray} (W : List (List UInt8)) (h : L = W.map bs) (hl : ∀ w ∈ W,w.length ≤ 20000) (hn : W.length ≤ 5) : (if List.length L ≤ 140737488355328 then if (bjoin L (⟨#[32]⟩ : ByteArray)).size ≤ 140737488355328 then some (bjoin L (⟨#[32]⟩ : ByteArray),(0 : Int)) else none else none) = some (bs (jn W),0):=by
 subst h
 have h1:=jn_len 20000 W hl
 have h2 : W.length * (20000 + 1) ≤ 5 * 20001:=Nat.mul_le_mul_right _ hn
 rw [bjoin_jn,if_pos (by rw [List.length_map]; omega),if_pos (by rw [bs_size]; omega)]
abbrev l1 : List UInt8:=[115,101,116]
abbrev l2 : List UInt8:=[108,111,97,100]
abbrev l3 : List UInt8:=[111,117,116]
abbrev l4 : List UInt8:=[105,110]
abbrev l5 : List UInt8:=[105,110,115,116,97,108,108]
abbrev l6 : List UInt8:=[102,111,114,103,101,116]
theorem l_32 {l : List UInt8} (h : l.all (fun x=>decide (x ≠ 32)) = true) : no32 l:=fun x hx=>by
 have:=List.all_eq_true.1 h x hx
 simpa using this
theorem all2 {P : List UInt8 → Prop} {a b : List UInt8} (ha : P a) (hb : P b) : ∀ w ∈ [a,b],P w:=by
 intro w hw; simp only [List.mem_cons,List.not_mem_nil,or_false] at hw
 rcases hw with rfl | rfl <;> assumption
theorem all3 {P : List UInt8 → Prop} {a b c : List UInt8} (ha : P a) (hb : P b) (hc : P c) : ∀ w ∈ [a,b,c],P w:=by
 intro w hw; simp only [List.mem_cons,List.not_mem_nil,or_false] at hw
 rcases hw with rfl | rfl | rfl <;> assumption
theorem all4 {P : List UInt8 → Prop} {a b c d : List UInt8} (ha : P a) (hb : P b) (hc : P c) (hd : P d) : ∀ w ∈ [a,b,c,d],P w:=by
 intro w hw; simp only [List.mem_cons,List.not_mem_nil,or_false] at hw
 rcases hw with rfl | rfl | rfl | rfl <;> assumption
theorem all5 {P : List UInt8 → Prop} {a b c d e : List UInt8} (ha : P a) (hb : P b) (hc : P c) (hd : P d) (he : P e) : ∀ w ∈ [a,b,c,d,e],P w:=by
 intro w hw; simp only [List.mem_cons,List.not_mem_nil,or_false] at hw
 rcases hw with rfl | rfl | rfl | rfl | rfl <;> assumption
abbrev ln (w : List UInt8) : Prop:=w.length ≤ 20000
theorem code1 {x : S_api_Item} {w : List UInt8} (hr : script_Right x = some true) (hk : x.f_Kind = 1) (hw : script_word x.f_Bytes = some (bs w)) (hl : ln w) : script_Text x = some (bs (jn [l1,w]),0):=by
 unfold script_Text
 rw [hr,bindM_some,if_neg (by simp),hk,if_pos (by rfl),hw,bindM_some,if_pos (by simp)]
 exact bj [l1,w] rfl (all2 (P:=ln) (by decide) hl) (by simp)
theorem code2 {x : S_api_Item} {w : List UInt8} (hr : script_Right x = some true) (hk : x.f_Kind = 2) (hw : script_word x.f_Bytes = some (bs w)) (hl : ln w) : script_Text x = some (bs (jn [l2,w]),0):=by
 unfold script_Text
 rw [hr,bindM_some,if_neg (by simp),hk,if_neg (by decide),if_pos (by rfl),hw,bindM_some,if_pos (by simp)]
 exact bj [l2,w] rfl (all2 (P:=ln) (by decide) hl) (by simp)
def rL (o : Bool) (r : List UInt8) : List UInt8:=if o = true then wL r else [33]
theorem rL_len (o : Bool) (r : List UInt8) : (rL o r).length ≤ 2 * r.length + 1:=by
 unfold rL
 split
 ·exact wL_len r
 ·simp
theorem rL_32 (o : Bool) (r : List UInt8) : no32 (rL o r):=by
 unfold rL
 split
 ·exact wL_32 r
 ·exact l_32 (by decide)
theorem code3 {x : S_api_Item} {w r : List UInt8} (hr : script_Right x = some true) (hk : x.f_Kind = 3) (hw : script_word x.f_Bytes = some (bs w)) (hl : ln w) (he : x.f_Result = ob r) (hn : r.length ≤ 7000) : script_Text x = some (bs (jn [l3,w,rL x.f_Ok r]),0):=by
 have hb:=bj [l3,w,rL x.f_Ok r] rfl (all3 (P:=ln) (by decide) hl (by have:=rL_len x.f_Ok r; show _ ≤ _; omega)) (by simp)
 unfold script_Text
 rw [hr,bindM_some,if_neg (by simp),hk,if_neg (by decide),if_neg (by decide),if_pos (by rfl),hw,bindM_some,if_pos (by simp),he]
 revert hb
 unfold rL
 cases x.f_Ok with
 | false =>
  intro hb
  rw [if_pos (by rfl),if_pos (by simp)]
  exact hb
 | true =>
  intro hb
  rw [if_neg (by simp),word_code r (by omega),bindM_some,if_pos (by simp)]
  exact hb
theorem code4 {x : S_api_Item} {h w r : List UInt8} (hr : script_Right x = some true) (hk : x.f_Kind = 4) (hh : hostport_Text x.f_From = some (bs h)) (hm : ln h) (hw : script_word x.f_Bytes = some (bs w)) (hl : ln w) (he : x.f_Result = ob r) (hn : r.length ≤ 7000) : script_Text x = some (bs (jn [l4,h,w,rL x.f_Ok r]),0):=by
 have hb:=bj [l4,h,w,rL x.f_Ok r] rfl (all4 (P:=ln) (by decide) hm hl (by have:=rL_len x.f_Ok r; show _ ≤ _; omega)) (by simp)
 unfold script_Text
 rw [hr,bindM_some,if_neg (by simp),hk,if_neg (by decide),if_neg (by decide),if_neg (by decide),if_pos (by rfl),hh,bindM_some,if_pos (by simp),hw,bindM_some,if_pos (by simp),he]
 revert hb
 unfold rL
 cases x.f_Ok with
 | false =>
  intro hb
  rw [if_pos (by rfl),if_pos (by simp)]
  exact hb
 | true =>
  intro hb
  rw [if_neg (by simp),word_code r (by omega),bindM_some,if_pos (by simp)]
  exact hb
theorem code5 {x : S_api_Item} {v a b c : List UInt8} (hr : script_Right x = some true) (hk : x.f_Kind = 5) (hv : keys_Hex x.f_Key = some (bs v)) (ha : decimal_Text (wr .u64 x.f_Local) = some (bs a)) (hb : decimal_Text (wr .u64 x.f_Remote) = some (bs b)) (hc : decimal_Text x.f_Next = some (bs c)) (vl : ln v) (al : ln a) (bl : ln b) (cl : ln c) : script_Text x = some (bs (jn [l5,v,a,b,c]),0):=by
 unfold script_Text
 rw [hr,bindM_some,if_neg (by simp),hk,if_neg (by decide),if_neg (by decide),if_neg (by decide),if_neg (by decide),if_pos (by rfl),hv,bindM_some,if_pos (by simp),ha,bindM_some,if_pos (by simp),hb,bindM_some,if_pos (by simp),hc,bindM_some,if_pos (by simp)]
 exact bj [l5,v,a,b,c] rfl (all5 (P:=ln) (by decide) vl al bl cl) (by simp)
theorem code6 {x : S_api_Item} {a : List UInt8} (hr : script_Right x = some true) (hk : x.f_Kind = 6) (ha : decimal_Text (wr .u64 x.f_Local) = some (bs a)) (al : ln a) : script_Text x = some (bs (jn [l6,a]),0):=by
 unfold script_Text
 rw [hr,bindM_some,if_neg (by simp),hk,if_neg (by decide),if_neg (by decide),if_neg (by decide),if_neg (by decide),if_neg (by decide),if_pos (by rfl),ha,bindM_some,if_pos (by simp)]
 exact bj [l6,a] rfl (all2 (P:=ln) (by decide) al) (by simp)
theorem ap1 {A B : List UInt8} {α : Type} {f : ByteArray → Option α} (h : A.length + B.length ≤ 1000000) : (if (bs A).size + (bs B).size ≤ 140737488355328 then f (bs A ++ bs B) else none) = f (bs (A ++ B)):=by
 rw [if_pos (by rw [bs_size,bs_size]; omega),Host.bs_app]
theorem ref1 {x : S_api_Item} {w : List UInt8} (hk : x.f_Kind = 1) (hw : crawlwayref50_word x.f_Bytes = some (bs w)) (hl : ln w) : crawlwayref50_Text x = some (bs (jn [l1,w])):=by
 unfold crawlwayref50_Text
 rw [hk,if_pos (by rfl),hw,bindM_some]
 exact ap1 (A:=[115,101,116,32]) (f:=some) (by have : w.length ≤ 20000:=hl; simp only [List.length_cons,List.length_nil]; omega)
theorem ref2 {x : S_api_Item} {w : List UInt8} (hk : x.f_Kind = 2) (hw : crawlwayref50_word x.f_Bytes = some (bs w)) (hl : ln w) : crawlwayref50_Text x = some (bs (jn [l2,w])):=by
 unfold crawlwayref50_Text
 rw [hk,if_neg (by decide),if_pos (by rfl),hw,bindM_some]
 exact ap1 (A:=[108,111,97,100,32]) (f:=some) (by have : w.length ≤ 20000:=hl; simp only [List.length_cons,List.length_nil]; omega)
theorem answer_ref {x : S_api_Item} {r : List UInt8} (he : x.f_Result = ob r) (hn : r.length ≤ 7000) : crawlwayref50_answer x = some (bs (rL x.f_Ok r)):=by
 unfold crawlwayref50_answer rL
 cases x.f_Ok with
 | false=>rw [if_pos (by rfl)]; rfl
 | true=>rw [if_neg (by simp),he,word_ref r (by omega),bindM_some]; rfl
theorem ref3 {x : S_api_Item} {w r : List UInt8} (hk : x.f_Kind = 3) (hw : crawlwayref50_word x.f_Bytes = some (bs w)) (hl : ln w) (he : x.f_Result = ob r) (hn : r.length ≤ 7000) : crawlwayref50_Text x = some (bs (jn [l3,w,rL x.f_Ok r])):=by
 have hR:=rL_len x.f_Ok r
 have hl : w.length ≤ 20000:=hl
 have b1 : (⟨#[111,117,116,32]⟩ : ByteArray) = bs [111,117,116,32]:=rfl
 have b2 : (⟨#[32]⟩ : ByteArray) = bs [32]:=rfl
 unfold crawlwayref50_Text
 rw [hk,if_neg (by decide),if_neg (by decide),if_pos (by rfl),hw,bindM_some,answer_ref he hn,bindM_some,b1,b2]
 rw [if_pos (by simp only [ByteArray.size_append,bs_size,List.length_cons,List.length_nil]; omega),if_pos (by simp only [ByteArray.size_append,bs_size,List.length_cons,List.length_nil]; omega),if_pos (by simp only [ByteArray.size_append,bs_size,List.length_cons,List.length_nil]; omega)]
 simp only [Host.bs_app]
 simp [jn]
theorem ref4 {x : S_api_Item} {h w r : List UInt8} (hk : x.f_Kind = 4) (hh : crawlwayref12_Text x.f_From = some (bs h)) (hm : ln h) (hw : crawlwayref50_word x.f_Bytes = some (bs w)) (hl : ln w) (he : x.f_Result = ob r) (hn : r.length ≤ 7000) : crawlwayref50_Text x = some (bs (jn [l4,h,w,rL x.f_Ok r])):=by
 have hR:=rL_len x.f_Ok r
 have hl : w.length ≤ 20000:=hl
 have hm : h.length ≤ 20000:=hm
 have b1 : (⟨#[105,110,32]⟩ : ByteArray) = bs [105,110,32]:=rfl
 have b2 : (⟨#[32]⟩ : ByteArray) = bs [32]:=rfl
 unfold crawlwayref50_Text
 rw [hk,if_neg (by decide),if_neg (by decide),if_neg (by decide),if_pos (by rfl),hh,bindM_some,hw,bindM_some,answer_ref he hn,bindM_some,b1,b2]
 repeat rw [if_pos (by simp only [ByteArray.size_append,bs_size,List.length_cons,List.length_nil]; omega)]
 simp only [Host.bs_app]
 simp [jn]
theorem ref5 {x : S_api_Item} {v a b c : List UInt8} {V : List Int} (hk : x.f_Kind = 5) (hV : crawlwayref07_Bytes x.f_Key = some V) (hv : crawlwayref05_Encode V = some (bs v)) (ha : crawlwayref03_Text (wr .u64 x.f_Local) = some (bs a)) (hb : crawlwayref03_Text (wr .u64 x.f_Remote) = some (bs b)) (hc : crawlwayref03_Text x.f_Next = some (bs c)) (vl : ln v) (al : ln a) (bl : ln b) (cl : ln c) : crawlwayref50_Text x = some (bs (jn [l5,v,a,b,c])):=by
 have vl : v.length ≤ 20000:=vl
 have al : a.length ≤ 20000:=al
 have bl : b.length ≤ 20000:=bl
 have cl : c.length ≤ 20000:=cl
 have b1 : (⟨#[105,110,115,116,97,108,108,32]⟩ : ByteArray) = bs [105,110,115,116,97,108,108,32]:=rfl
 have b2 : (⟨#[32]⟩ : ByteArray) = bs [32]:=rfl
 unfold crawlwayref50_Text
 rw [hk,if_neg (by decide),if_neg (by decide),if_neg (by decide),if_neg (by decide),if_pos (by rfl),hV,bindM_some,hv,bindM_some,ha,bindM_some,hb,bindM_some,hc,bindM_some,b1,b2]
 repeat rw [if_pos (by simp only [ByteArray.size_append,bs_size,List.length_cons,List.length_nil]; omega)]
 simp only [Host.bs_app]
 simp [jn]
theorem ref6 {x : S_api_Item} {a : List UInt8} (hk : x.f_Kind = 6) (ha : crawlwayref03_Text (wr .u64 x.f_Local) = some (bs a)) (al : ln a) : crawlwayref50_Text x = some (bs (jn [l6,a])):=by
 unfold crawlwayref50_Text
 rw [hk,if_neg (by decide),if_neg (by decide),if_neg (by decide),if_neg (by decide),if_neg (by decide),ha,bindM_some]
 exact ap1 (A:=[102,111,114,103,101,116,32]) (f:=some) (by have : a.length ≤ 20000:=al; simp only [List.length_cons,List.length_nil]; omega)
end Go.Proofs.YtkkmmpofdcccmaaGreatDoor.Scr
namespace Go.Proofs.YtkkmmpofdcccmaaGreatDoor.Scr
open E Go.RowKit
open Adr AdrT
theorem rt_right {x : S_api_Item} (h : Rt x) (w : ok_api_Item x) (hs : smallI x) : script_Right x = some true:=by
 obtain ⟨b,h1,h2,_⟩:=right_both x w hs
 have tl : ∀ {y : S_api_Item},smallI y → y = x → (x.f_Ok = true ∨ x.f_Result = []) → (crawlwayref50_Same y x >>= fun t=>if t = true then (if x.f_Ok = true then (some true) else (some ((x.f_Result.length : Int) == 0))) else (some false)) = some true:=fun hy e ho=>by
  rw [tail_ref hy,decide_eq_true e,Bool.true_and]
  rcases ho with ho | ho
  ·rw [ho]; rfl
  ·rw [decide_eq_true ho,Bool.or_true]
 have : crawlwayref50_Right x = some true:=by
  cases h with
  | k12 k hk b =>
   unfold crawlwayref50_Right
   rcases hk with rfl | rfl
   ·exact tl (y:={ zI with f_Kind:=1,f_Bytes:=b }) hs rfl (.inr rfl)
   ·exact tl (y:={ zI with f_Kind:=2,f_Bytes:=b }) hs rfl (.inr rfl)
  | k3n b=>unfold crawlwayref50_Right; exact tl (y:={ zI with f_Kind:=3,f_Bytes:=b }) hs rfl (.inr rfl)
  | k3y b r=>unfold crawlwayref50_Right; exact tl (y:={ zI with f_Kind:=3,f_Bytes:=b,f_Result:=r,f_Ok:=true }) hs rfl (.inl rfl)
  | k4n b e he =>
   obtain ⟨hb,g1,g2⟩:=host_right e w.2.2.1
   obtain rfl : hb = true:=Option.some.inj (g1.symm.trans he)
   unfold crawlwayref50_Right
   show (crawlwayref12_Right e >>= _) = _
   rw [g2,bindM_some,if_neg (by simp)]
   exact tl (y:={ zI with f_Kind:=4,f_From:=e,f_Bytes:=b }) hs rfl (.inr rfl)
  | k4y b r e he =>
   obtain ⟨hb,g1,g2⟩:=host_right e w.2.2.1
   obtain rfl : hb = true:=Option.some.inj (g1.symm.trans he)
   unfold crawlwayref50_Right
   show (crawlwayref12_Right e >>= _) = _
   rw [g2,bindM_some,if_neg (by simp)]
   exact tl (y:={ zI with f_Kind:=4,f_From:=e,f_Bytes:=b,f_Result:=r,f_Ok:=true }) hs rfl (.inl rfl)
  | k5 v a b c=>unfold crawlwayref50_Right; exact tl (y:={ zI with f_Kind:=5,f_Key:=v,f_Local:=a,f_Remote:=b,f_Next:=c }) hs rfl (.inr rfl)
  | k6 a=>unfold crawlwayref50_Right; exact tl (y:={ zI with f_Kind:=6,f_Local:=a }) hs rfl (.inr rfl)
 rw [h1,← h2,this]
theorem out_ok {α : Type} (a : α) (f : α → S_api_Item × Int) : out (a,0) f = f a:=if_pos rfl
theorem ans_rL (x : S_api_Item) (hx : x.f_Ok = false ∧ x.f_Result = []) (o : Bool) (r : List UInt8) (h : o = false → r = []) : ans x (bs (rL o r)) = ({ x with f_Ok:=o,f_Result:=ob r },0):=by
 unfold ans rL
 cases o with
 | false =>
  rw [if_pos (show bs (if false = true then wL r else [33]) = (⟨#[33]⟩ : ByteArray) from rfl),h rfl]
  obtain ⟨e1,e2⟩:=hx
  cases x
  simp only at e1 e2
  subst e1; subst e2; rfl
 | true =>
  have : bs (wL r) ≠ (⟨#[33]⟩ : ByteArray):=bs_ne (k:=[33]) fun e=>by
   unfold wL at e
   split at e
   ·cases e
   ·have:=Hex.encL_length r
    rw [e] at this
    simp at this; omega
  show (if bs (wL r) = (⟨#[33]⟩ : ByteArray) then _ else out (U (bs (wL r))) _) = _
  rw [if_neg this,U_wL,out_ok]
theorem back1 (b : List UInt8) : pB [bs l1,bs (wL b)] = ({ zI with f_Kind:=1,f_Bytes:=ob b },0):=by
 rw [pB1 (t:=[bs l1,bs (wL b)]) (show knd n1 = 1 by decide +kernel),if_pos (by rfl)]
 show out (U (bs (wL b))) _ = _
 rw [U_wL,out_ok]
theorem back2 (b : List UInt8) : pB [bs l2,bs (wL b)] = ({ zI with f_Kind:=2,f_Bytes:=ob b },0):=by
 rw [pB2 (t:=[bs l2,bs (wL b)]) (show knd n2 = 2 by decide +kernel),if_pos (by rfl)]
 show out (U (bs (wL b))) _ = _
 rw [U_wL,out_ok]
theorem back3 (b r : List UInt8) (o : Bool) (h : o = false → r = []) : pB [bs l3,bs (wL b),bs (rL o r)] = ({ zI with f_Kind:=3,f_Bytes:=ob b,f_Ok:=o,f_Result:=ob r },0):=by
 rw [pB3 (t:=[bs l3,bs (wL b),bs (rL o r)]) (show knd n3 = 3 by decide +kernel),if_pos (by rfl)]
 show out (U (bs (wL b))) (fun b'=>ans { zI with f_Kind:=3,f_Bytes:=b' } (bs (rL o r))) = _
 rw [U_wL,out_ok]
 exact ans_rL _ ⟨rfl,rfl⟩ o r h
theorem back4 (w b r : List UInt8) (e : S_api_Endpoint) (he : H (bs w) = (e,0)) (o : Bool) (h : o = false → r = []) : pB [bs l4,bs w,bs (wL b),bs (rL o r)] = ({ zI with f_Kind:=4,f_From:=e,f_Bytes:=ob b,f_Ok:=o,f_Result:=ob r },0):=by
 rw [pB4 (t:=[bs l4,bs w,bs (wL b),bs (rL o r)]) (show knd n4 = 4 by decide +kernel),if_pos (by rfl)]
 show out (H (bs w)) (fun e'=>out (U (bs (wL b))) fun b'=>ans { zI with f_Kind:=4,f_From:=e',f_Bytes:=b' } (bs (rL o r))) = _
 rw [he,out_ok,U_wL,out_ok]
 exact ans_rL _ ⟨rfl,rfl⟩ o r h
theorem D_dec (n m : Nat) (h : n ≤ m) : D (bs (Lib.decDigits n)) m = ((n : Int),0):=by
 unfold D
 rw [bs_list,rdU_text,if_pos h]; rfl
theorem back5 (v : Vector Int 32) (k : List UInt8) (a b c : Nat) (hk : K (bs k) = (v,0)) (ha : a ≤ M32) (hb : b ≤ M32) (hc : c ≤ M64) : pB [bs l5,bs k,bs (Lib.decDigits a),bs (Lib.decDigits b),bs (Lib.decDigits c)] = ({ zI with f_Kind:=5,f_Key:=v,f_Local:=(a : Int),f_Remote:=(b : Int),f_Next:=(c : Int) },0):=by
 rw [pB5 (t:=[bs l5,bs k,bs (Lib.decDigits a),bs (Lib.decDigits b),bs (Lib.decDigits c)]) (show knd n5 = 5 by decide +kernel),if_pos (by rfl)]
 show out (K (bs k)) (fun v=>out (D (bs (Lib.decDigits a)) M32) fun a=>out (D (bs (Lib.decDigits b)) M32) fun b=>out (D (bs (Lib.decDigits c)) M64) fun c=>({ zI with f_Kind:=5,f_Key:=v,f_Local:=wr .u32 a,f_Remote:=wr .u32 b,f_Next:=c },0)) = _
 unfold M32 at *
 rw [hk,out_ok,D_dec _ _ ha,out_ok,D_dec _ _ hb,out_ok,D_dec _ _ hc,out_ok,wr_u32 (by omega) (by omega),wr_u32 (by omega) (by omega)]
theorem back6 (a : Nat) (ha : a ≤ M32) : pB [bs l6,bs (Lib.decDigits a)] = ({ zI with f_Kind:=6,f_Local:=(a : Int) },0):=by
 rw [pB6 (t:=[bs l6,bs (Lib.decDigits a)]) (show knd n6 = 6 by decide +kernel),if_pos (by rfl)]
 show out (D (bs (Lib.decDigits a)) M32) (fun a=>({ zI with f_Kind:=6,f_Local:=wr .u32 a },0)) = _
 unfold M32 at *
 rw [D_dec _ _ ha,out_ok,wr_u32 (by omega) (by omega)]
theorem key_all {v : Vector Int 32} {l : List UInt8} (hl : v.toList = ob l) (h32 : l.length = 32) : keys_Hex v = some (bs (Hex.encL l)) ∧ crawlwayref07_Bytes v = some v.toList ∧ crawlwayref05_Encode v.toList = some (bs (Hex.encL l)) ∧ K (bs (Hex.encL l)) = (v,0):=by
 refine ⟨?_,Key.bytes_eq v,?_,?_⟩
 ·unfold keys_Hex; rw [hl,Hex.encode_eq _ (by omega),bindM_some]; rfl
 ·rw [hl,Hex.refEncode_eq _ (by omega)]; rfl
 ·unfold K
  have h3 : Hex.dec (bs (Hex.encL l)) = some l:=Hex.dec_enc l
  rw [h3]
  show Key.par (ob l,0) = _
  rw [← hl]
  unfold Key.par
  rw [if_neg (by simp),Key.ofR_vec]
theorem dec_texts (n : Nat) (h : n < 18446744073709551616) : decimal_Text (n : Int) = some (bs (Lib.decDigits n)) ∧ crawlwayref03_Text (n : Int) = some (bs (Lib.decDigits n)) ∧ ln (Lib.decDigits n):=by
 refine ⟨?_,?_,?_⟩
 ·rw [text_code n h,Host.fmtU_bs]
 ·rw [text_ref n h,Host.fmtU_bs]
 ·have:=decDigits_len n h
  show _ ≤ _
  omega
theorem dec_texts32 (n : Nat) (h : n < 4294967296) : decimal_Text (wr .u64 (n : Int)) = some (bs (Lib.decDigits n)) ∧ crawlwayref03_Text (wr .u64 (n : Int)) = some (bs (Lib.decDigits n)) ∧ ln (Lib.decDigits n):=by
 rw [wr_u64 (by omega) (by omega)]
 exact dec_texts n (by omega)
theorem line1 {b : List UInt8} {x : S_api_Item} (e : x = { zI with f_Kind:=1,f_Bytes:=ob b }) (hb : b.length ≤ 6000) (hr : script_Right x = some true) : Line x [l1,wL b]:=by
 have hl : ln (wL b):=by have:=wL_len b; show _ ≤ _; omega
 have hx : x.f_Bytes = ob b:=by rw [e]
 have hk : x.f_Kind = 1:=by rw [e]
 exact ⟨by simp,by simp,all2 (l_32 (by decide)) (wL_32 b),all2 (P:=ln) (by decide) hl,code1 hr hk (by rw [hx]; exact word_code b (by omega)) hl,ref1 hk (by rw [hx]; exact word_ref b (by omega)) hl,by rw [e]; exact back1 b⟩
theorem line2 {b : List UInt8} {x : S_api_Item} (e : x = { zI with f_Kind:=2,f_Bytes:=ob b }) (hb : b.length ≤ 6000) (hr : script_Right x = some true) : Line x [l2,wL b]:=by
 have hl : ln (wL b):=by have:=wL_len b; show _ ≤ _; omega
 have hx : x.f_Bytes = ob b:=by rw [e]
 have hk : x.f_Kind = 2:=by rw [e]
 exact ⟨by simp,by simp,all2 (l_32 (by decide)) (wL_32 b),all2 (P:=ln) (by decide) hl,code2 hr hk (by rw [hx]; exact word_code b (by omega)) hl,ref2 hk (by rw [hx]; exact word_ref b (by omega)) hl,by rw [e]; exact back2 b⟩
theorem line3 {b r : List UInt8} {o : Bool} {x : S_api_Item} (e : x = { zI with f_Kind:=3,f_Bytes:=ob b,f_Ok:=o,f_Result:=ob r }) (ho : o = false → r = []) (hb : b.length ≤ 6000) (hn : r.length ≤ 7000) (hr : script_Right x = some true) : Line x [l3,wL b,rL o r]:=by
 have hl : ln (wL b):=by have:=wL_len b; show _ ≤ _; omega
 have hR : ln (rL o r):=by have:=rL_len o r; show _ ≤ _; omega
 have hx : x.f_Bytes = ob b:=by rw [e]
 have hy : x.f_Result = ob r:=by rw [e]
 have hz : x.f_Ok = o:=by rw [e]
 have hk : x.f_Kind = 3:=by rw [e]
 refine ⟨by simp,by simp,all3 (l_32 (by decide)) (wL_32 b) (rL_32 o r),all3 (P:=ln) (by decide) hl hR,?_,?_,by rw [e]; exact back3 b r o ho⟩
 ·rw [← hz]; exact code3 hr hk (by rw [hx]; exact word_code b (by omega)) hl hy hn
 ·rw [← hz]; exact ref3 hk (by rw [hx]; exact word_ref b (by omega)) hl hy hn
theorem line4 {V : Int} {l b r : List UInt8} {k : Nat} {o : Bool} {x : S_api_Item} (e : x = { zI with f_Kind:=4,f_From:=Host.mkE (mkA V l) (k : Int),f_Bytes:=ob b,f_Ok:=o,f_Result:=ob r }) (hl16 : l.length = 16) (hR16 : rightL V l = true) (k1 : 1 ≤ k) (k2 : k ≤ 65535) (ho : o = false → r = []) (hb : b.length ≤ 6000) (hn : r.length ≤ 7000) (hr : script_Right x = some true) : Line x [l4,Host.hostL V l k,wL b,rL o r]:=by
 have hl : ln (wL b):=by have:=wL_len b; show _ ≤ _; omega
 have hR : ln (rL o r):=by have:=rL_len o r; show _ ≤ _; omega
 have hH : ln (Host.hostL V l k):=by have:=Host.hostL_len (V:=V) hl16 k k2; show _ ≤ _; omega
 have hE:=HexK.rightE_of hR16 k1 k2
 have t1:=Host.text_code12 (V:=V) (n:=(k : Int)) hl16
 have t2:=Host.text_ref12 (V:=V) (n:=(k : Int)) hl16
 rw [if_pos hE,Int.toNat_natCast] at t1 t2
 have hx : x.f_Bytes = ob b:=by rw [e]
 have hy : x.f_Result = ob r:=by rw [e]
 have hz : x.f_Ok = o:=by rw [e]
 have hf : x.f_From = Host.mkE (mkA V l) (k : Int):=by rw [e]
 have hk : x.f_Kind = 4:=by rw [e]
 have hP : H (bs (Host.hostL V l k)) = (Host.mkE (mkA V l) (k : Int),0):=by unfold H; rw [bs_list]; exact Host.endP_text hl16 hR16 k k1 k2
 refine ⟨by simp,by simp,all4 (l_32 (by decide)) (host_32 hl16 k) (wL_32 b) (rL_32 o r),all4 (P:=ln) (by decide) hH hl hR,?_,?_,by rw [e]; exact back4 _ b r _ hP o ho⟩
 ·rw [← hz]; exact code4 hr hk (by rw [hf]; exact t1) hH (by rw [hx]; exact word_code b (by omega)) hl hy hn
 ·rw [← hz]; exact ref4 hk (by rw [hf]; exact t2) hH (by rw [hx]; exact word_ref b (by omega)) hl hy hn
theorem line5 {v : Vector Int 32} {l : List UInt8} {a b c : Nat} {x : S_api_Item} (e : x = { zI with f_Kind:=5,f_Key:=v,f_Local:=(a : Int),f_Remote:=(b : Int),f_Next:=(c : Int) }) (hv : v.toList = ob l) (h32 : l.length = 32) (ha : a ≤ M32) (hb : b ≤ M32) (hc : c ≤ M64) (hr : script_Right x = some true) : Line x [l5,Hex.encL l,Lib.decDigits a,Lib.decDigits b,Lib.decDigits c]:=by
 have hl : ln (Hex.encL l):=by have:=Hex.encL_length l; show _ ≤ _; omega
 obtain ⟨k1,k2,k3,k4⟩:=key_all hv h32
 have hV : x.f_Key = v:=by rw [e]
 have hA : x.f_Local = (a : Int):=by rw [e]
 have hB : x.f_Remote = (b : Int):=by rw [e]
 have hC : x.f_Next = (c : Int):=by rw [e]
 have hk : x.f_Kind = 5:=by rw [e]
 have ha':=ha
 have hb':=hb
 have hc':=hc
 unfold M32 at ha' hb'
 unfold M64 at hc'
 obtain ⟨a1,a2,a3⟩:=dec_texts32 a (by omega)
 obtain ⟨b1,b2,b3⟩:=dec_texts32 b (by omega)
 obtain ⟨c1,c2,c3⟩:=dec_texts c (by omega)
 refine ⟨by simp,by simp,all5 (l_32 (by decide)) (encL_32 l) (dec_32 a) (dec_32 b) (dec_32 c),all5 (P:=ln) (by decide) hl a3 b3 c3,?_,?_,by rw [e]; exact back5 v _ a b c k4 ha hb hc⟩
 ·exact code5 hr hk (by rw [hV]; exact k1) (by rw [hA]; exact a1) (by rw [hB]; exact b1) (by rw [hC]; exact c1) hl a3 b3 c3
 ·exact ref5 (V:=v.toList) hk (by rw [hV]; exact k2) k3 (by rw [hA]; exact a2) (by rw [hB]; exact b2) (by rw [hC]; exact c2) hl a3 b3 c3
theorem line6 {a : Nat} {x : S_api_Item} (e : x = { zI with f_Kind:=6,f_Local:=(a : Int) }) (ha : a ≤ M32) (hr : script_Right x = some true) : Line x [l6,Lib.decDigits a]:=by
 have hA : x.f_Local = (a : Int):=by rw [e]
 have hk : x.f_Kind = 6:=by rw [e]
 have ha':=ha
 unfold M32 at ha'
 obtain ⟨a1,a2,a3⟩:=dec_texts32 a (by omega)
 exact ⟨by simp,by simp,all2 (l_32 (by decide)) (dec_32 a),all2 (P:=ln) (by decide) a3,code6 hr hk (by rw [hA]; exact a1) a3,ref6 hk (by rw [hA]; exact a2) a3,by rw [e]; exact back6 a ha⟩
end Go.Proofs.YtkkmmpofdcccmaaGreatDoor.Scr
namespace Go.Proofs.YtkkmmpofdcccmaaGreatDoor.Scr
open E Go.RowKit
open Adr AdrT
theorem ob_len (l : List UInt8) : (ob l).length = l.length:=by unfold ob; rw [List.length_map]
theorem line_size {x : S_api_Item} {W : List (List UInt8)} (h : Line x W) : (jn W).length < 1000000:=by
 have h1:=jn_len 20000 W h.sz
 have h2 : W.length * (20000 + 1) ≤ 5 * 20001:=Nat.mul_le_mul_right _ h.len
 omega
theorem parts_sz : ∀ (l : List UInt8),∀ w ∈ parts 32 l,w.length ≤ l.length
 | [],w,h=>by simp only [parts,List.mem_singleton] at h; subst h; exact Nat.le_refl _
 | x::r,w,h=>by
  have hne:=parts_ne 32 r
  have ih:=parts_sz r
  unfold parts at h
  split at h
  ·rcases List.mem_cons.1 h with rfl | h
   ·exact Nat.zero_le _
   ·have:=ih w h; simp only [List.length_cons]; omega
  ·cases hp : parts 32 r with
   | nil=>exact absurd hp hne
   | cons a b =>
    rw [hp] at h ih
    rcases List.mem_cons.1 h with rfl | h
    ·have:=ih a (by simp); simp only [List.headD_cons,List.length_cons]; omega
    ·have:=ih w (List.mem_cons_of_mem _ h); simp only [List.length_cons]; omega
theorem parse_both {l : List UInt8} (h : l.length < 1000000) (h5 : (parts 32 l).length ≤ 10000) (hs : ∀ w ∈ parts 32 l,w.length < 100000) : script_Parse (bs l) = some (pB ((parts 32 l).map bs)) ∧ crawlwayref50_Parse (bs l) = some (pB ((parts 32 l).map bs)):=by
 have h0 : 0 < (parts 32 l).length:=List.length_pos_iff.2 (parts_ne 32 l)
 have sz : ∀ s ∈ (parts 32 l).map bs,s.size < 100000:=fun s hm=>by
  obtain ⟨w,hw,rfl⟩:=List.mem_map.1 hm
  rw [bs_size]; exact hs w hw
 have e1:=parts_code 32 l h
 have e2:=parts_ref 32 l h
 rw [show ((32 : UInt8).toNat : Int) = 32 from rfl] at e1 e2
 exact ⟨parse_code _ _ e1 (by rw [List.length_map]; exact h0) (by rw [List.length_map]; exact h5) sz,parse_ref _ _ e2 (by rw [List.length_map]; exact h0) (by rw [List.length_map]; exact h5) sz⟩
theorem line_parse {x : S_api_Item} {W : List (List UInt8)} (h : Line x W) : script_Parse (bs (jn W)) = some (x,0):=by
 have e:=parts_jn W h.ne h.no
 have:=(parse_both (l:=jn W) (line_size h) (by rw [e]; have:=h.len; omega) (by rw [e]; intro w hw; have:=h.sz w hw; omega)).1
 rw [this,e,h.back]
theorem out_zero {α : Type} {u : α × Int} {f : α → S_api_Item × Int} (h : (out u f).2 = 0) : u.2 = 0 ∧ out u f = f u.1:=by
 unfold out at h ⊢
 by_cases h0 : u.2 = 0
 ·exact ⟨h0,if_pos h0⟩
 ·rw [if_neg h0] at h; exact absurd h h0
theorem ans_back {x : S_api_Item} (hx : x.f_Ok = false ∧ x.f_Result = []) {s : ByteArray} (h : (ans x s).2 = 0) : ∃ o r,s = bs (rL o r) ∧ (o = false → r = []) ∧ 2 * r.length ≤ s.size:=by
 unfold ans at h
 by_cases hs : s = (⟨#[33]⟩ : ByteArray)
 ·exact ⟨false,[],hs,fun _=>rfl,Nat.zero_le _⟩
 ·rw [if_neg hs] at h
  obtain ⟨b,_,hb,hl⟩:=U_back (out_zero h).1
  exact ⟨true,b,hb,fun h=>(by cases h),hl⟩
theorem K_back {s : ByteArray} (h : (K s).2 = 0) : ∃ l,(K s).1.toList = ob l ∧ l.length = 32 ∧ s = bs (Hex.encL l):=by
 unfold K at h ⊢
 obtain ⟨h1,h2⟩:=Key.par_zero _ h
 cases hd : Hex.dec s with
 | none=>rw [hd] at h1; cases h1
 | some k =>
  rw [hd] at h2
  refine ⟨k,h2,?_,(Hex.enc_dec s k hd).symm⟩
  have:=congrArg List.length h2
  rw [Vector.length_toList,ob_len] at this
  exact this.symm
theorem D_back {s : ByteArray} {m : Nat} (h : (D s m).2 = 0) : ∃ n : Nat,(D s m).1 = (n : Int) ∧ n ≤ m ∧ s = bs (Lib.decDigits n):=by
 unfold D iiOf at h ⊢
 obtain ⟨e1,e2⟩:=rdU_back (l:=s.data.toList) (most:=m) (by simpa using h)
 exact ⟨_,rfl,e2,by rw [e1]; exact eq_bs s⟩
theorem knd_name (s : ByteArray) : (knd s = 1 → s = bs l1) ∧ (knd s = 2 → s = bs l2) ∧ (knd s = 3 → s = bs l3) ∧ (knd s = 4 → s = bs l4) ∧ (knd s = 5 → s = bs l5) ∧ (knd s = 6 → s = bs l6):=by
 unfold knd
 refine ⟨?_,?_,?_,?_,?_,?_⟩
 all_goals
  intro h
  repeat' split at h
  all_goals first | (cases h; done) | (rename_i hh; exact hh.symm) | (exact absurd h (by decide))
theorem ok_bytes (l : List UInt8) : ∀ x ∈ ob l,(fun n : Int=>(Lit.int .u8 n).wf = true) x:=by
 intro x hx
 unfold ob at hx
 obtain ⟨b,_,rfl⟩:=List.mem_map.1 hx
 have:=b.toNat_lt
 show (Lit.int .u8 (b.toNat : Int)).wf = true
 simp [Lit.wf,IntKind.min,IntKind.max,IntKind.signed,IntKind.bits]; omega
theorem ok_u32 {n : Nat} (h : n ≤ M32) : (Lit.int .u32 (n : Int)).wf = true:=by
 unfold M32 at h
 simp [Lit.wf,IntKind.min,IntKind.max,IntKind.signed,IntKind.bits]; omega
theorem ok_u64 {n : Nat} (h : n ≤ M64) : (Lit.int .u64 (n : Int)).wf = true:=by
 unfold M64 at h
 simp [Lit.wf,IntKind.min,IntKind.max,IntKind.signed,IntKind.bits]; omega
theorem two {t : List ByteArray} (h : t.length = 2) : t = [lget t 0,lget t 1]:=by
 match t,h with
 | [a,b],_=>rfl
theorem three {t : List ByteArray} (h : t.length = 3) : t = [lget t 0,lget t 1,lget t 2]:=by
 match t,h with
 | [a,b,c],_=>rfl
theorem five {t : List ByteArray} (h : t.length = 5) : t = [lget t 0,lget t 1,lget t 2,lget t 3,lget t 4]:=by
 match t,h with
 | [a,b,c,d,e],_=>rfl
def Good (t : List ByteArray) : Prop:=ok_api_Item (pB t).1 ∧ smallI (pB t).1 ∧ script_Right (pB t).1 = some true ∧ ∃ W,Line (pB t).1 W ∧ ((pB t).1.f_Kind = 4 ∨ W.map bs = t)
theorem good_of {t : List ByteArray} {x : S_api_Item} (e : (pB t).1 = x) (w : ok_api_Item x) (hs : smallI x) (hr : Rt x) (hl : script_Right x = some true → ∃ W,Line x W ∧ (x.f_Kind = 4 ∨ W.map bs = t)) : Good t:=by
 unfold Good; rw [e]
 have:=rt_right hr w hs
 exact ⟨w,hs,this,hl this⟩
theorem wr_u32n {n : Nat} (h : n ≤ M32) : wr .u32 (n : Int) = (n : Int):=by
 unfold M32 at h
 exact wr_u32 (by omega) (by omega)
end Go.Proofs.YtkkmmpofdcccmaaGreatDoor.Scr
namespace Go.Proofs.YtkkmmpofdcccmaaGreatDoor.Scr
open E Go.RowKit
open Adr AdrT
theorem ok_end {V : Int} {m : List UInt8} {k : Nat} (h16 : m.length = 16) (hr : rightL V m = true) (h2 : k ≤ 65535) : ok_api_Endpoint (Host.mkE (mkA V m) (k : Int)):=by
 refine ⟨⟨?_,?_⟩,?_⟩
 ·show (Lit.int .i64 V).wf = true
  unfold rightL at hr
  simp only [Bool.or_eq_true,Bool.and_eq_true,beq_iff_eq] at hr
  rcases hr with rfl | ⟨rfl,_⟩ <;> decide
 ·show ∀ x ∈ (vb m).toList,(fun n : Int=>(Lit.int .u8 n).wf = true) x
  rw [vb_toList h16]
  exact ok_bytes m
 ·show (Lit.int .i64 (k : Int)).wf = true
  simp [Lit.wf,IntKind.min,IntKind.max,IntKind.signed,IntKind.bits]; omega
theorem lg_sz {t : List ByteArray} {m : Nat} (hs : ∀ s ∈ t,s.size ≤ m) (i : Nat) (h : i < t.length) : (lget t (i : Int)).size ≤ m:=hs _ (lget_mem t i h)
theorem good1 {t : List ByteArray} (hs : ∀ s ∈ t,s.size ≤ 9000) (hk : knd (lget t 0) = 1) (h : (pB t).2 = 0) : Good t:=by
 rw [pB1 hk] at h
 by_cases h2 : t.length = 2
 ·rw [if_pos h2] at h
  obtain ⟨u,e⟩:=out_zero h
  obtain ⟨b,hb,hw,hl⟩:=U_back u
  have sz : (lget t 1).size ≤ 9000:=lg_sz hs 1 (by omega)
  have e1 : (pB t).1 = { zI with f_Kind:=1,f_Bytes:=ob b }:=by rw [pB1 hk,if_pos h2,e,hb]
  refine good_of e1 ⟨(show (Lit.int .i64 1).wf = true by decide),ok_bytes b,ok_zI.2.2⟩ ⟨by show (ob b).length ≤ 6000; rw [ob_len]; omega,by show ([] : List Int).length ≤ 7000; simp⟩ (.k12 1 (.inl rfl) _) fun hr=>⟨_,line1 rfl (by omega) hr,.inr ?_⟩
  rw [two h2,(knd_name _).1 hk,hw]; rfl
 ·rw [if_neg h2] at h; cases h
theorem good2 {t : List ByteArray} (hs : ∀ s ∈ t,s.size ≤ 9000) (hk : knd (lget t 0) = 2) (h : (pB t).2 = 0) : Good t:=by
 rw [pB2 hk] at h
 by_cases h2 : t.length = 2
 ·rw [if_pos h2] at h
  obtain ⟨u,e⟩:=out_zero h
  obtain ⟨b,hb,hw,hl⟩:=U_back u
  have sz : (lget t 1).size ≤ 9000:=lg_sz hs 1 (by omega)
  have e1 : (pB t).1 = { zI with f_Kind:=2,f_Bytes:=ob b }:=by rw [pB2 hk,if_pos h2,e,hb]
  refine good_of e1 ⟨(show (Lit.int .i64 2).wf = true by decide),ok_bytes b,ok_zI.2.2⟩ ⟨by show (ob b).length ≤ 6000; rw [ob_len]; omega,by show ([] : List Int).length ≤ 7000; simp⟩ (.k12 2 (.inr rfl) _) fun hr=>⟨_,line2 rfl (by omega) hr,.inr ?_⟩
  rw [two h2,(knd_name _).2.1 hk,hw]; rfl
 ·rw [if_neg h2] at h; cases h
theorem good3 {t : List ByteArray} (hs : ∀ s ∈ t,s.size ≤ 9000) (hk : knd (lget t 0) = 3) (h : (pB t).2 = 0) : Good t:=by
 rw [pB3 hk] at h
 by_cases h2 : t.length = 3
 ·rw [if_pos h2] at h
  obtain ⟨u,e⟩:=out_zero h
  obtain ⟨b,hb,hw,hl⟩:=U_back u
  rw [e] at h
  obtain ⟨o,r,ho,hn,hq⟩:=ans_back ⟨rfl,rfl⟩ h
  have sz : (lget t 1).size ≤ 9000:=lg_sz hs 1 (by omega)
  have sz2 : (lget t 2).size ≤ 9000:=lg_sz hs 2 (by omega)
  have e1 : (pB t).1 = { zI with f_Kind:=3,f_Bytes:=ob b,f_Ok:=o,f_Result:=ob r }:=by
   rw [pB3 hk,if_pos h2,e,hb,ho,ans_rL _ ⟨rfl,rfl⟩ o r hn]
  refine good_of e1 ⟨(show (Lit.int .i64 3).wf = true by decide),ok_bytes b,ok_zI.2.2.1,ok_bytes r,trivial,ok_zI.2.2.2.2.2⟩ ⟨by show (ob b).length ≤ 6000; rw [ob_len]; omega,by show (ob r).length ≤ 7000; rw [ob_len]; omega⟩ ?_ fun hr=>⟨_,line3 rfl hn (by omega) (by omega) hr,.inr ?_⟩
  ·cases o with
   | false=>rw [hn rfl]; exact .k3n _
   | true=>exact .k3y _ _
  ·rw [three h2,(knd_name _).2.2.1 hk,hw,ho]; rfl
 ·rw [if_neg h2] at h; cases h
theorem good4 {t : List ByteArray} (hs : ∀ s ∈ t,s.size ≤ 9000) (hk : knd (lget t 0) = 4) (h : (pB t).2 = 0) : Good t:=by
 rw [pB4 hk] at h
 by_cases h2 : t.length = 4
 ·rw [if_pos h2] at h
  obtain ⟨u0,e0⟩:=out_zero h
  rw [e0] at h
  obtain ⟨u,e⟩:=out_zero h
  obtain ⟨b,hb,hw,hl⟩:=U_back u
  rw [e] at h
  obtain ⟨o,r,ho,hn,hq⟩:=ans_back ⟨rfl,rfl⟩ h
  obtain ⟨V,m,k,hE,m16,mR,k1,k2⟩:=HexK.endP_ok (l:=(lget t 1).data.toList) u0
  have hE : (H (lget t 1)).1 = Host.mkE (mkA V m) (k : Int):=hE
  have sz : (lget t 2).size ≤ 9000:=lg_sz hs 2 (by omega)
  have sz2 : (lget t 3).size ≤ 9000:=lg_sz hs 3 (by omega)
  have hE4 : hostport_Right (Host.mkE (mkA V m) (k : Int)) = some true:=by rw [Host.right_code12 m16,HexK.rightE_of mR k1 k2]
  have e1 : (pB t).1 = { zI with f_Kind:=4,f_From:=Host.mkE (mkA V m) (k : Int),f_Bytes:=ob b,f_Ok:=o,f_Result:=ob r }:=by
   rw [pB4 hk,if_pos h2,e0,e,hb,hE,ho,ans_rL _ ⟨rfl,rfl⟩ o r hn]
  refine good_of e1 ⟨(show (Lit.int .i64 4).wf = true by decide),ok_bytes b,ok_end m16 mR k2,ok_bytes r,trivial,ok_zI.2.2.2.2.2⟩ ⟨by show (ob b).length ≤ 6000; rw [ob_len]; omega,by show (ob r).length ≤ 7000; rw [ob_len]; omega⟩ ?_ fun hr=>⟨_,line4 rfl m16 mR k1 k2 hn (by omega) (by omega) hr,.inl rfl⟩
  cases o with
  | false=>rw [hn rfl]; exact .k4n _ _ hE4
  | true=>exact .k4y _ _ _ hE4
 ·rw [if_neg h2] at h; cases h
theorem good5 {t : List ByteArray} (hs : ∀ s ∈ t,s.size ≤ 9000) (hk : knd (lget t 0) = 5) (h : (pB t).2 = 0) : Good t:=by
 rw [pB5 hk] at h
 by_cases h2 : t.length = 5
 ·rw [if_pos h2] at h
  obtain ⟨u0,e0⟩:=out_zero h
  rw [e0] at h
  obtain ⟨u1,e1⟩:=out_zero h
  rw [e1] at h
  obtain ⟨u2,e2⟩:=out_zero h
  rw [e2] at h
  obtain ⟨u3,e3⟩:=out_zero h
  obtain ⟨l,hl,l32,hK⟩:=K_back u0
  obtain ⟨a,ha,am,hA⟩:=D_back u1
  obtain ⟨b,hb,bm,hB⟩:=D_back u2
  obtain ⟨c,hc,cm,hC⟩:=D_back u3
  have e9 : (pB t).1 = { zI with f_Kind:=5,f_Key:=(K (lget t 1)).1,f_Local:=(a : Int),f_Remote:=(b : Int),f_Next:=(c : Int) }:=by
   rw [pB5 hk,if_pos h2,e0,e1,e2,e3,ha,hb,hc,wr_u32n am,wr_u32n bm]
  refine good_of e9 ⟨(show (Lit.int .i64 5).wf = true by decide),ok_zI.2.1,ok_zI.2.2.1,ok_zI.2.2.2.1,trivial,?_,ok_u32 am,ok_u32 bm,ok_u64 cm⟩ ⟨by show ([] : List Int).length ≤ 6000; simp,by show ([] : List Int).length ≤ 7000; simp⟩ (.k5 _ _ _ _) fun hr=>⟨_,line5 rfl hl l32 am bm cm hr,.inr ?_⟩
  ·show ∀ x ∈ (K (lget t 1)).1.toList,(fun n : Int=>(Lit.int .u8 n).wf = true) x
   rw [hl]; exact ok_bytes l
  ·rw [five h2,(knd_name _).2.2.2.2.1 hk]
   show [bs l5,bs (Hex.encL l),bs (Lib.decDigits a),bs (Lib.decDigits b),bs (Lib.decDigits c)] = _
   rw [← hK,← hA,← hB,← hC]
 ·rw [if_neg h2] at h; cases h
theorem good6 {t : List ByteArray} (hs : ∀ s ∈ t,s.size ≤ 9000) (hk : knd (lget t 0) = 6) (h : (pB t).2 = 0) : Good t:=by
 rw [pB6 hk] at h
 by_cases h2 : t.length = 2
 ·rw [if_pos h2] at h
  obtain ⟨u1,e1⟩:=out_zero h
  obtain ⟨a,ha,am,hA⟩:=D_back u1
  have e9 : (pB t).1 = { zI with f_Kind:=6,f_Local:=(a : Int) }:=by
   rw [pB6 hk,if_pos h2,e1,ha,wr_u32n am]
  refine good_of e9 ⟨(show (Lit.int .i64 6).wf = true by decide),ok_zI.2.1,ok_zI.2.2.1,ok_zI.2.2.2.1,trivial,ok_zI.2.2.2.2.2.1,ok_u32 am,ok_zI.2.2.2.2.2.2.2⟩ ⟨by show ([] : List Int).length ≤ 6000; simp,by show ([] : List Int).length ≤ 7000; simp⟩ (.k6 _) fun hr=>⟨_,line6 rfl am hr,.inr ?_⟩
  rw [two h2,(knd_name _).2.2.2.2.2 hk,hA]; rfl
 ·rw [if_neg h2] at h; cases h
theorem good {t : List ByteArray} (hs : ∀ s ∈ t,s.size ≤ 9000) (h : (pB t).2 = 0) : Good t:=by
 rcases knd_cases (lget t 0) with k | k | k | k | k | k | k
 ·rw [pB0 k] at h; cases h
 ·exact good1 hs k h
 ·exact good2 hs k h
 ·exact good3 hs k h
 ·exact good4 hs k h
 ·exact good5 hs k h
 ·exact good6 hs k h
def Bz (p : S_api_Item × Int) : Prop:=p.2 ≠ 0 → p.1 = zI
theorem bz_out {α : Type} {u : α × Int} {f : α → S_api_Item × Int} (hf : ∀ a,Bz (f a)) : Bz (out u f):=by
 unfold out
 by_cases h0 : u.2 = 0
 ·rw [if_pos h0]; exact hf _
 ·rw [if_neg h0]; exact fun _=>rfl
theorem bz_ok (x : S_api_Item) : Bz (x,0):=fun h=>absurd rfl h
theorem bz_bad (e : Int) : Bz (zI,e):=fun _=>rfl
theorem bz_ans (x : S_api_Item) (s : ByteArray) : Bz (ans x s):=by
 unfold ans
 split
 ·exact bz_ok _
 ·exact bz_out fun _=>bz_ok _
theorem bz (t : List ByteArray) : Bz (pB t):=by
 rcases knd_cases (lget t 0) with k | k | k | k | k | k | k
 ·rw [pB0 k]; exact bz_bad _
 ·rw [pB1 k]; split <;> first | exact bz_out fun _=>bz_ok _ | exact bz_bad _
 ·rw [pB2 k]; split <;> first | exact bz_out fun _=>bz_ok _ | exact bz_bad _
 ·rw [pB3 k]; split <;> first | exact bz_out fun _=>bz_ans _ _ | exact bz_bad _
 ·rw [pB4 k]; split <;> first | exact bz_out fun _=>bz_out fun _=>bz_ans _ _ | exact bz_bad _
 ·rw [pB5 k]; split <;> first | exact bz_out fun _=>bz_out fun _=>bz_out fun _=>bz_out fun _=>bz_ok _ | exact bz_bad _
 ·rw [pB6 k]; split <;> first | exact bz_out fun _=>bz_ok _ | exact bz_bad _
theorem bad_zI {t : List ByteArray} (h : (pB t).2 ≠ 0) : smallI (pB t).1:=by
 rw [bz t h]; exact ⟨Nat.zero_le _,Nat.zero_le _⟩
theorem ScriptParses_pure (a0 : ByteArray) (w0 : a0.size ≤ maxLen) : crawlwaylaw50_ScriptParses a0 = some true:=by
 unfold crawlwaylaw50_ScriptParses
 by_cases hz : (a0.size : Int) > 9000
 ·rw [if_pos (by simpa using hz),alive50,bindM_some]
 ·rw [if_neg (by simpa using hz)]
  have hl : a0.data.toList.length ≤ 9000:=by rw [size_toList]; omega
  have hn:=parts_len 32 a0.data.toList
  have hp:=parts_sz a0.data.toList
  obtain ⟨e1,e2⟩:=parse_both (l:=a0.data.toList) (by omega) (by omega) (fun w hw=>by have:=hp w hw; omega)
  rw [← eq_bs a0] at e1 e2
  have hs : ∀ s ∈ (parts 32 a0.data.toList).map bs,s.size ≤ 9000:=fun s hm=>by
   obtain ⟨w,hw,rfl⟩:=List.mem_map.1 hm
   rw [bs_size]; have:=hp w hw; omega
  have hj:=jn_parts _ a0.data.toList (Nat.le_refl _)
  rw [e1,bindM_some,e2,bindM_some]
  generalize hT : (parts 32 a0.data.toList).map bs = t at *
  by_cases h0 : (pB t).2 = 0
  ·obtain ⟨w,hs2,hr,W,hW,hk⟩:=good hs h0
   rw [same_ref _ _ hs2,bindM_some,if_neg (by simp),if_neg (by simp),if_neg (by simp [h0]),hW.code,bindM_some,line_parse hW,bindM_some,hr,bindM_some,if_pos rfl,if_pos (by rfl)]
   rcases hk with hk | hk
   ·rw [if_pos (by simp [hk]),same_ref _ _ hs2,bindM_some,if_pos (by simp),if_pos (by rfl),alive50,bindM_some]
   ·have : bs (jn W) = a0:=by
     have : W = parts 32 a0.data.toList:=by
      rw [← hT] at hk
      exact (List.map_inj_right (fun a b=>bs_inj)).1 hk
     rw [this,hj,← eq_bs]
    by_cases h4 : ((pB t).1.f_Kind == 4) = true
    ·rw [if_pos h4,same_ref _ _ hs2,bindM_some,if_pos (by simp),if_pos (by rfl),alive50,bindM_some]
    ·rw [if_neg h4,if_pos (by rw [this]; exact seq_self _),same_ref _ _ hs2,bindM_some,if_pos (by simp),if_pos (by rfl),alive50,bindM_some]
  ·rw [same_ref _ _ (bad_zI h0),bindM_some,if_neg (by simp),if_neg (by simp),if_pos (by simp [h0]),alive50,bindM_some]
end Go.Proofs.YtkkmmpofdcccmaaGreatDoor.Scr
