/- Texts of this claim, those in one that belong together; printed by a program of this project. -/
import Derived.Test.YtkkmmpofdcccmaaGreatDoorProg
import Derived.Test.YtkkmmpofdcccmaaGreatDoorKScriptSame1
set_option linter.unusedVariables false
set_option linter.unusedSimpArgs false
namespace Go.Proofs.YtkkmmpofdcccmaaGreatDoor
open E Go.RowKit
theorem infoSC9_is : (Tryz.prog.info? 9).isSome = true := by kernel_rfl
noncomputable def infoSC9_v : TypeInfo := (Tryz.prog.info? 9).get infoSC9_is
theorem infoSC9 : Tryz.prog.info? 9 = some infoSC9_v := (Option.some_get _).symm
def script_Text (x0 : S_api_Item) : Option (ByteArray × Int) :=
  script_Right x0 >>= fun t2 => if (!t2) = true then (some (⟨#[]⟩, 1)) else (if (x0.f_Kind == 1) = true then (script_word x0.f_Bytes >>= fun t18 => if (([⟨#[115, 101, 116]⟩] : List ByteArray).length + 1) * 16 ≤ 140737488355328 then if List.length (([⟨#[115, 101, 116]⟩] : List ByteArray) ++ [t18]) ≤ 140737488355328 then if (bjoin (([⟨#[115, 101, 116]⟩] : List ByteArray) ++ [t18]) (⟨#[32]⟩ : ByteArray)).size ≤ 140737488355328 then some (bjoin (([⟨#[115, 101, 116]⟩] : List ByteArray) ++ [t18]) (⟨#[32]⟩ : ByteArray), 0) else none else none else none) else (if (x0.f_Kind == 2) = true then (script_word x0.f_Bytes >>= fun t32 => if (([⟨#[108, 111, 97, 100]⟩] : List ByteArray).length + 1) * 16 ≤ 140737488355328 then if List.length (([⟨#[108, 111, 97, 100]⟩] : List ByteArray) ++ [t32]) ≤ 140737488355328 then if (bjoin (([⟨#[108, 111, 97, 100]⟩] : List ByteArray) ++ [t32]) (⟨#[32]⟩ : ByteArray)).size ≤ 140737488355328 then some (bjoin (([⟨#[108, 111, 97, 100]⟩] : List ByteArray) ++ [t32]) (⟨#[32]⟩ : ByteArray), 0) else none else none else none) else (if (x0.f_Kind == 3) = true then (script_word x0.f_Bytes >>= fun t47 => if (([⟨#[111, 117, 116]⟩] : List ByteArray).length + 1) * 16 ≤ 140737488355328 then if (!x0.f_Ok) = true then (if ((([⟨#[111, 117, 116]⟩] : List ByteArray) ++ [t47]).length + 1) * 16 ≤ 140737488355328 then if List.length ((([⟨#[111, 117, 116]⟩] : List ByteArray) ++ [t47]) ++ [⟨#[33]⟩]) ≤ 140737488355328 then if (bjoin ((([⟨#[111, 117, 116]⟩] : List ByteArray) ++ [t47]) ++ [⟨#[33]⟩]) (⟨#[32]⟩ : ByteArray)).size ≤ 140737488355328 then some (bjoin ((([⟨#[111, 117, 116]⟩] : List ByteArray) ++ [t47]) ++ [⟨#[33]⟩]) (⟨#[32]⟩ : ByteArray), 0) else none else none else none) else (script_word x0.f_Result >>= fun t61 => if ((([⟨#[111, 117, 116]⟩] : List ByteArray) ++ [t47]).length + 1) * 16 ≤ 140737488355328 then if List.length ((([⟨#[111, 117, 116]⟩] : List ByteArray) ++ [t47]) ++ [t61]) ≤ 140737488355328 then if (bjoin ((([⟨#[111, 117, 116]⟩] : List ByteArray) ++ [t47]) ++ [t61]) (⟨#[32]⟩ : ByteArray)).size ≤ 140737488355328 then some (bjoin ((([⟨#[111, 117, 116]⟩] : List ByteArray) ++ [t47]) ++ [t61]) (⟨#[32]⟩ : ByteArray), 0) else none else none else none) else none) else (if (x0.f_Kind == 4) = true then (hostport_Text x0.f_From >>= fun t77 => if (([⟨#[105, 110]⟩] : List ByteArray).length + 1) * 16 ≤ 140737488355328 then script_word x0.f_Bytes >>= fun t84 => if ((([⟨#[105, 110]⟩] : List ByteArray) ++ [t77]).length + 1) * 16 ≤ 140737488355328 then if (!x0.f_Ok) = true then (if (((([⟨#[105, 110]⟩] : List ByteArray) ++ [t77]) ++ [t84]).length + 1) * 16 ≤ 140737488355328 then if List.length (((([⟨#[105, 110]⟩] : List ByteArray) ++ [t77]) ++ [t84]) ++ [⟨#[33]⟩]) ≤ 140737488355328 then if (bjoin (((([⟨#[105, 110]⟩] : List ByteArray) ++ [t77]) ++ [t84]) ++ [⟨#[33]⟩]) (⟨#[32]⟩ : ByteArray)).size ≤ 140737488355328 then some (bjoin (((([⟨#[105, 110]⟩] : List ByteArray) ++ [t77]) ++ [t84]) ++ [⟨#[33]⟩]) (⟨#[32]⟩ : ByteArray), 0) else none else none else none) else (script_word x0.f_Result >>= fun t98 => if (((([⟨#[105, 110]⟩] : List ByteArray) ++ [t77]) ++ [t84]).length + 1) * 16 ≤ 140737488355328 then if List.length (((([⟨#[105, 110]⟩] : List ByteArray) ++ [t77]) ++ [t84]) ++ [t98]) ≤ 140737488355328 then if (bjoin (((([⟨#[105, 110]⟩] : List ByteArray) ++ [t77]) ++ [t84]) ++ [t98]) (⟨#[32]⟩ : ByteArray)).size ≤ 140737488355328 then some (bjoin (((([⟨#[105, 110]⟩] : List ByteArray) ++ [t77]) ++ [t84]) ++ [t98]) (⟨#[32]⟩ : ByteArray), 0) else none else none else none) else none else none) else (if (x0.f_Kind == 5) = true then (keys_Hex x0.f_Key >>= fun t112 => if (([⟨#[105, 110, 115, 116, 97, 108, 108]⟩] : List ByteArray).length + 1) * 16 ≤ 140737488355328 then decimal_Text (wr .u64 x0.f_Local) >>= fun t119 => if ((([⟨#[105, 110, 115, 116, 97, 108, 108]⟩] : List ByteArray) ++ [t112]).length + 1) * 16 ≤ 140737488355328 then decimal_Text (wr .u64 x0.f_Remote) >>= fun t126 => if (((([⟨#[105, 110, 115, 116, 97, 108, 108]⟩] : List ByteArray) ++ [t112]) ++ [t119]).length + 1) * 16 ≤ 140737488355328 then decimal_Text x0.f_Next >>= fun t133 => if ((((([⟨#[105, 110, 115, 116, 97, 108, 108]⟩] : List ByteArray) ++ [t112]) ++ [t119]) ++ [t126]).length + 1) * 16 ≤ 140737488355328 then if List.length ((((([⟨#[105, 110, 115, 116, 97, 108, 108]⟩] : List ByteArray) ++ [t112]) ++ [t119]) ++ [t126]) ++ [t133]) ≤ 140737488355328 then if (bjoin ((((([⟨#[105, 110, 115, 116, 97, 108, 108]⟩] : List ByteArray) ++ [t112]) ++ [t119]) ++ [t126]) ++ [t133]) (⟨#[32]⟩ : ByteArray)).size ≤ 140737488355328 then some (bjoin ((((([⟨#[105, 110, 115, 116, 97, 108, 108]⟩] : List ByteArray) ++ [t112]) ++ [t119]) ++ [t126]) ++ [t133]) (⟨#[32]⟩ : ByteArray), 0) else none else none else none else none else none else none) else (if (x0.f_Kind == 6) = true then (decimal_Text (wr .u64 x0.f_Local) >>= fun t146 => if (([⟨#[102, 111, 114, 103, 101, 116]⟩] : List ByteArray).length + 1) * 16 ≤ 140737488355328 then if List.length (([⟨#[102, 111, 114, 103, 101, 116]⟩] : List ByteArray) ++ [t146]) ≤ 140737488355328 then if (bjoin (([⟨#[102, 111, 114, 103, 101, 116]⟩] : List ByteArray) ++ [t146]) (⟨#[32]⟩ : ByteArray)).size ≤ 140737488355328 then some (bjoin (([⟨#[102, 111, 114, 103, 101, 116]⟩] : List ByteArray) ++ [t146]) (⟨#[32]⟩ : ByteArray), 0) else none else none else none) else (if List.length ([⟨#[]⟩] : List ByteArray) ≤ 140737488355328 then if (bjoin ([⟨#[]⟩] : List ByteArray) (⟨#[32]⟩ : ByteArray)).size ≤ 140737488355328 then some (bjoin ([⟨#[]⟩] : List ByteArray) (⟨#[32]⟩ : ByteArray), 0) else none else none)))))))
set_option maxHeartbeats 3200000 in
theorem script_Text_ok (g0_ : G_api_Item) (x0 : S_api_Item) (r : ByteArray × Int) (hF : script_Text x0 = some r) (w : World) (hn0 : N_api_Item w (g0_, x0)) (hg_bytealg_MaxLen : GV_bytealg_MaxLen w) (hg_strconv_ErrRange : GV_strconv_ErrRange w) (hg_strconv_ErrSyntax : GV_strconv_ErrSyntax w) (hg_strconv_uint64pow10 : GV_strconv_uint64pow10 w) :
    Calls Tryz.prog 23 #[.agg (Cd.cs c_api_Item (g0_, x0)).toArray] w (fun e w' => e = .returned (.tuple #[.string r.1, .int .i64 r.2]) ∧ Below w.heap.size w w') := by
 unfold script_Text at hF
 refine calls_enter (l := [.agg (Cd.cs c_api_Item (g0_, x0)).toArray]) Tryz.func23 rfl rfl rfl ?_
 refine at_start ?_
 refine at_weak [(0, _)] ⟨rfl, trivial⟩ ?_
 refine sr ?_
 refine at_box (cs := Cd.cs c_api_Item (g0_, x0)) rfl rfl rfl ?_
 intro b1
 refine av rfl (r_assign rfl) ?_
 refine av rfl (r_assign rfl) ?_
 refine nwt [(1, _)] ⟨rfl, trivial⟩ ?_
 refine at_seq ?_
 refine sr ?_
 refine av rfl (r_load_aggc (c := c_api_Item) (z := (g0_, x0)) Tryz.isAgg33 Tryz.sizeOf33 rfl (lens_cell .z (Lens.whole _ _))) ?_
 obtain ⟨t2, ht2, hF⟩ := of_bindM hF
 refine at_callB Tryz.func24 rfl (by kernel_rfl) rfl rfl (fun w hw => script_Right_ok _ _ _ ht2 w (N_api_Item.below hn0 hw.below)) ?_
 refine av rfl (r_not rfl) ?_
 refine nwt [(1, _), (11, _)] ⟨rfl, rfl, trivial⟩ ?_
 rcases of_ite hF with ⟨h3, hF⟩ | ⟨h3, hF⟩
 ·refine at_cond_true rfl h3 ?_
  refine sr ?_
  refine av rfl (r_assign rfl) ?_
  refine av rfl (r_assign rfl) ?_
  refine at_nil ?_
  refine at_drop (H := _) .z ?_
  refine at_weak [(2, _), (3, _)] ⟨rfl, rfl, trivial⟩ ?_
  refine at_then_normal ?_
  refine rt ?_
  have K := of_some hF
  subst K
  exact at_return2 rfl rfl rfl (fun w1 hw => ⟨rfl, hw.below⟩)
 ·refine at_cond_false rfl h3 ?_
  refine sns ?_
  refine av rfl (r_fieldAddr (fo := 0) Tryz.underlying33 rfl rfl (fun w => ⟨_, Tryz.sizeOf3 w⟩) rfl) ?_
  refine av rfl (r_load_cell Tryz.isAgg3 rfl (lens_cell0 (c := (cInt .i64)) (y := x0.f_Kind) .z (c_api_Item_f_Kind g0_ x0) rfl)) ?_
  refine at_callI Tryz.func46 rfl (by kernel_rfl) rfl rfl rfl rfl ?_
  refine at_weak [(0, _)] ⟨rfl, trivial⟩ ?_
  refine sr ?_
  refine at_alloc (cs := [.string (⟨#[]⟩), .slice none 0 0]) Tryz.zeroValue98 rfl rfl ?_
  intro b4
  refine av rfl (r_assign rfl) ?_
  refine nws [(0, _), (2, _)] ⟨rfl, rfl, trivial⟩ ?_
  refine at_callI Tryz.func75 rfl (by kernel_rfl) rfl rfl rfl rfl ?_
  refine at_weak [(0, _)] ⟨rfl, trivial⟩ ?_
  refine sr ?_
  refine at_box (cs := [.func (.func 76) #[] #[]]) rfl rfl rfl ?_
  intro b5
  refine at_alloc (cs := [.nilFunc, .nilFunc, .nilFunc]) Tryz.zeroValue104 rfl rfl ?_
  intro b6
  refine nws [(1, _), (2, _)] ⟨rfl, rfl, trivial⟩ ?_
  refine av rfl (r_makeFunc rfl) ?_
  refine av rfl (r_makeFunc rfl) ?_
  refine av rfl (r_makeFunc rfl) ?_
  refine av rfl (r_build_struct (zs := [.nilFunc, .nilFunc, .nilFunc]) (cs := [.func (.func 122) #[] #[.pointer (some ⟨b5, 0, none⟩)], .func (.func 123) #[] #[.pointer (some ⟨b5, 0, none⟩)], .func (.func 124) #[] #[.pointer (some ⟨b5, 0, none⟩)]]) Tryz.underlying104 Tryz.zeroValue104 rfl placesR_104 rfl rfl) ?_
  refine at_storeAll (k := 3) (cs := [.func (.func 122) #[] #[.pointer (some ⟨b5, 0, none⟩)], .func (.func 123) #[] #[.pointer (some ⟨b5, 0, none⟩)], .func (.func 124) #[] #[.pointer (some ⟨b5, 0, none⟩)]]) .z (by decide) ⟨rfl, by simp [Value.oneCell']⟩ ⟨rfl, by simp [Value.oneCell']⟩ Tryz.sizeOf104 rfl rfl rfl ?_
  refine nwt [(2, _)] ⟨rfl, trivial⟩ ?_
  refine at_ret ?_
  refine at_resI1 rfl (res_cell (c := cK 3 (by decide)) (y := ⟨[.func (.func 122) #[] #[.pointer (some ⟨b5, 0, none⟩)], .func (.func 123) #[] #[.pointer (some ⟨b5, 0, none⟩)], .func (.func 124) #[] #[.pointer (some ⟨b5, 0, none⟩)]], rfl, by simp [Value.oneCell']⟩) rfl .z (Lens.whole _ _) Tryz.isAgg104 Tryz.sizeOf104 (.inl rfl)) ?_
  refine at_alloc (cs := [.nilFunc, .nilFunc, .nilFunc]) Tryz.zeroValue104 rfl rfl ?_
  intro b7
  refine at_storeAll (k := 3) (cs := [.func (.func 122) #[] #[.pointer (some ⟨b5, 0, none⟩)], .func (.func 123) #[] #[.pointer (some ⟨b5, 0, none⟩)], .func (.func 124) #[] #[.pointer (some ⟨b5, 0, none⟩)]]) .z (by decide) ⟨rfl, by simp [Value.oneCell']⟩ ⟨rfl, by simp [Value.oneCell']⟩ Tryz.sizeOf104 rfl rfl rfl ?_
  refine at_nil ?_
  refine at_drop (H := _) (.s .z) ?_
  refine at_weak [(0, _), (2, _), (4, _)] ⟨rfl, rfl, rfl, trivial⟩ ?_
  refine at_then_normal ?_
  refine sr ?_
  refine at_callI Tryz.func75 rfl (by kernel_rfl) rfl rfl rfl rfl ?_
  refine at_weak [(0, _)] ⟨rfl, trivial⟩ ?_
  refine sr ?_
  refine at_box (cs := [.func (.func 77) #[] #[]]) rfl rfl rfl ?_
  intro b8
  refine at_alloc (cs := [.nilFunc, .nilFunc, .nilFunc]) Tryz.zeroValue104 rfl rfl ?_
  intro b9
  refine nws [(1, _), (2, _)] ⟨rfl, rfl, trivial⟩ ?_
  refine av rfl (r_makeFunc rfl) ?_
  refine av rfl (r_makeFunc rfl) ?_
  refine av rfl (r_makeFunc rfl) ?_
  refine av rfl (r_build_struct (zs := [.nilFunc, .nilFunc, .nilFunc]) (cs := [.func (.func 122) #[] #[.pointer (some ⟨b8, 0, none⟩)], .func (.func 123) #[] #[.pointer (some ⟨b8, 0, none⟩)], .func (.func 124) #[] #[.pointer (some ⟨b8, 0, none⟩)]]) Tryz.underlying104 Tryz.zeroValue104 rfl placesR_104 rfl rfl) ?_
  refine at_storeAll (k := 3) (cs := [.func (.func 122) #[] #[.pointer (some ⟨b8, 0, none⟩)], .func (.func 123) #[] #[.pointer (some ⟨b8, 0, none⟩)], .func (.func 124) #[] #[.pointer (some ⟨b8, 0, none⟩)]]) .z (by decide) ⟨rfl, by simp [Value.oneCell']⟩ ⟨rfl, by simp [Value.oneCell']⟩ Tryz.sizeOf104 rfl rfl rfl ?_
  refine nwt [(2, _)] ⟨rfl, trivial⟩ ?_
  refine at_ret ?_
  refine at_resI1 rfl (res_cell (c := cK 3 (by decide)) (y := ⟨[.func (.func 122) #[] #[.pointer (some ⟨b8, 0, none⟩)], .func (.func 123) #[] #[.pointer (some ⟨b8, 0, none⟩)], .func (.func 124) #[] #[.pointer (some ⟨b8, 0, none⟩)]], rfl, by simp [Value.oneCell']⟩) rfl .z (Lens.whole _ _) Tryz.isAgg104 Tryz.sizeOf104 (.inl rfl)) ?_
  refine at_alloc (cs := [.nilFunc, .nilFunc, .nilFunc]) Tryz.zeroValue104 rfl rfl ?_
  intro b10
  refine at_storeAll (k := 3) (cs := [.func (.func 122) #[] #[.pointer (some ⟨b8, 0, none⟩)], .func (.func 123) #[] #[.pointer (some ⟨b8, 0, none⟩)], .func (.func 124) #[] #[.pointer (some ⟨b8, 0, none⟩)]]) .z (by decide) ⟨rfl, by simp [Value.oneCell']⟩ ⟨rfl, by simp [Value.oneCell']⟩ Tryz.sizeOf104 rfl rfl rfl ?_
  refine at_nil ?_
  refine at_drop (H := _) (.s .z) ?_
  refine at_weak [(0, _), (2, _), (4, _), (5, _)] ⟨rfl, rfl, rfl, rfl, trivial⟩ ?_
  refine at_then_normal ?_
  refine at_seq ?_
  refine sr ?_
  refine av rfl (r_move rfl) ?_
  refine nwt [(2, _), (4, _), (5, _), (8, _)] ⟨rfl, rfl, rfl, rfl, trivial⟩ ?_
  refine at_block ?_
  refine sr ?_
  refine av rfl (r_ieql rfl rfl) ?_
  refine av rfl (r_assign rfl) ?_
  refine nwt [(2, _), (4, _), (5, _), (8, _), (9, _)] ⟨rfl, rfl, rfl, rfl, rfl, trivial⟩ ?_
  rcases of_ite hF with ⟨h11, hF⟩ | ⟨h11, hF⟩
  ·refine at_cond_true rfl h11 ?_
   refine sr ?_
   refine at_callI Tryz.func78 rfl (by kernel_rfl) rfl rfl rfl rfl ?_
   refine at_drop (H := _) .z ?_
   refine at_drop (H := _) .z ?_
   refine at_drop (H := _) .z ?_
   refine at_drop (H := _) .z ?_
   refine at_weak [] trivial ?_
   refine sr ?_
   refine at_alloc (cs := [.nilFunc, .nilFunc, .nilFunc]) Tryz.zeroValue104 rfl rfl ?_
   intro b12
   refine nws [(0, _)] ⟨rfl, trivial⟩ ?_
   refine av rfl (r_build_struct (zs := [.nilFunc, .nilFunc, .nilFunc]) (cs := [.func (.func 125) #[] #[], .func (.func 127) #[] #[], .func (.func 129) #[] #[]]) Tryz.underlying104 Tryz.zeroValue104 rfl placesR_104 rfl rfl) ?_
   refine at_storeAll (k := 3) (cs := [.func (.func 125) #[] #[], .func (.func 127) #[] #[], .func (.func 129) #[] #[]]) .z (by decide) ⟨rfl, by simp [Value.oneCell']⟩ ⟨rfl, by simp [Value.oneCell']⟩ Tryz.sizeOf104 rfl rfl rfl ?_
   refine nwt [(0, _)] ⟨rfl, trivial⟩ ?_
   refine at_ret ?_
   refine at_resI1 rfl (res_cell (c := cK 3 (by decide)) (y := ⟨[.func (.func 125) #[] #[], .func (.func 127) #[] #[], .func (.func 129) #[] #[]], rfl, by simp [Value.oneCell']⟩) rfl .z (Lens.whole _ _) Tryz.isAgg104 Tryz.sizeOf104 (.inl rfl)) ?_
   refine at_litG (cs := [.func (.func 125) #[] #[], .func (.func 127) #[] #[], .func (.func 129) #[] #[]]) Tryz.underlying96 Tryz.sizeOf104 Tryz.zeroValue104 rfl rfl rfl (by kernel_rfl) rfl ?_
   intro b13
   refine av rfl (r_build_struct (zs := [.string (⟨#[]⟩), .slice none 0 0]) (cs := [.string (⟨#[115, 101, 116]⟩), .slice (some ⟨b13, 0, none⟩) 1 1]) Tryz.underlying98 Tryz.zeroValue98 rfl placesR_98 rfl rfl) ?_
   refine at_storeAll (k := 2) (cs := [.string (⟨#[115, 101, 116]⟩), .slice (some ⟨b13, 0, none⟩) 1 1]) (.s (.s .z)) (by decide) ⟨rfl, by simp [Value.oneCell']⟩ ⟨rfl, by simp [Value.oneCell']⟩ Tryz.sizeOf98 rfl rfl rfl ?_
   refine av rfl (r_assign rfl) ?_
   refine at_nil ?_
   refine at_drop (H := _) (.s .z) ?_
   refine at_weak [(2, _), (3, _)] ⟨rfl, rfl, trivial⟩ ?_
   refine at_then_normal ?_
   refine at_ret ?_
   refine at_blk_ret (at_then_ret ?_)
   refine at_resI2 rfl (res_cell (c := cK 2 (by decide)) (y := ⟨[.string (⟨#[115, 101, 116]⟩), .slice (some ⟨b13, 0, none⟩) 1 1], rfl, by simp [Value.oneCell']⟩) rfl (.s .z) (Lens.whole _ _) Tryz.isAgg98 Tryz.sizeOf98 (.inl rfl)) (res_tmp rfl) ?_
   refine av rfl (r_move rfl) ?_
   refine av rfl (r_extract rfl rfl) ?_
   refine av rfl (r_extract rfl rfl) ?_
   refine at_alloc (cs := [.string (⟨#[]⟩), .slice none 0 0]) Tryz.zeroValue98 rfl rfl ?_
   intro b14
   refine at_storeAll (k := 2) (cs := [.string (⟨#[115, 101, 116]⟩), .slice (some ⟨b13, 0, none⟩) 1 1]) .z (by decide) ⟨rfl, by simp [Value.oneCell']⟩ ⟨rfl, by simp [Value.oneCell']⟩ Tryz.sizeOf98 rfl rfl rfl ?_
   refine av rfl (r_assign rfl) ?_
   refine at_nil ?_
   refine at_drop (H := _) (.s (.s .z)) ?_
   refine at_weak [(1, _), (4, _)] ⟨rfl, rfl, trivial⟩ ?_
   refine at_then_normal ?_
   refine sr ?_
   refine av rfl (r_fieldAddr (fo := 0) Tryz.underlying98 rfl rfl (fun w => ⟨_, Tryz.sizeOf9 w⟩) rfl) ?_
   refine av rfl (r_load_cell Tryz.isAgg9 rfl (fun w1 hw => cells_get (hw.ok (Upd.mem .z)) 0 _ rfl)) ?_
   refine at_lit (cs := cStr.all ([⟨#[115, 101, 116]⟩] : List ByteArray)) Tryz.underlying38 Tryz.sizeOf9 Tryz.zeroValue9 rfl rfl rfl (by kernel_rfl) rfl ?_
   intro b15
   refine av rfl (r_assign rfl) ?_
   refine nwt [(1, _), (4, _), (6, _)] ⟨rfl, rfl, rfl, trivial⟩ ?_
   refine at_seq ?_
   refine sr ?_
   refine av rfl (r_fieldAddr (fo := 1) Tryz.underlying98 rfl rfl (fun w => ⟨_, Tryz.sizeOf96 w⟩) rfl) ?_
   refine av rfl (r_load_cell Tryz.isAgg96 rfl (fun w1 hw => cells_get (hw.ok (Upd.mem (.s .z))) 1 _ rfl)) ?_
   refine av rfl (r_len_sl Tryz.underlying96 rfl) ?_
   refine av rfl (r_move rfl) ?_
   refine at_nil ?_
   refine at_drop (H := _) (.s .z) ?_
   refine at_weak [(1, _), (6, _), (22, _), (23, _), (24, _)] ⟨rfl, rfl, rfl, rfl, rfl, trivial⟩ ?_
   refine at_then_normal ?_
   refine at_block ?_
   refine at_weak [(1, _), (6, _), (22, _), (23, _), (24, _)] ⟨rfl, rfl, rfl, rfl, rfl, trivial⟩ ?_
   refine at_loop ?_
   refine at_round ?_
   refine sr ?_
   refine av rfl (r_ilss rfl rfl) ?_
   refine at_fix (g := 25) rfl (show (decide (0 < 1)) = true from by decide) ?_
   refine nwt [(1, _), (6, _), (22, _), (23, _), (24, _), (25, _)] ⟨rfl, rfl, rfl, rfl, rfl, rfl, trivial⟩ ?_
   refine at_seq ?_
   refine at_cond_true rfl rfl ?_
   refine sn ?_
   refine at_seq ?_
   refine at_block ?_
   refine sr ?_
   refine av rfl (r_idx Tryz.underlying96 Tryz.sizeOf104 rfl rfl (by decide) rfl) ?_
   refine av rfl (r_load_agg (l := [.func (.func 125) #[] #[], .func (.func 127) #[] #[], .func (.func 129) #[] #[]]) Tryz.isAgg104 Tryz.sizeOf104 rfl rfl (fun w1 hw => cells_mid (pre := []) (suf := []) (hw.ok (Upd.mem (.s .z))) rfl rfl)) ?_
   refine at_alloc (cs := [.nilFunc, .nilFunc, .nilFunc]) Tryz.zeroValue104 rfl rfl ?_
   intro b16
   refine at_storeAll (k := 3) (cs := [.func (.func 125) #[] #[], .func (.func 127) #[] #[], .func (.func 129) #[] #[]]) .z (by decide) ⟨rfl, by simp [Value.oneCell']⟩ ⟨rfl, by simp [Value.oneCell']⟩ Tryz.sizeOf104 rfl rfl rfl ?_
   refine nwt [(1, _), (6, _), (8, _), (22, _), (23, _), (24, _)] ⟨rfl, rfl, rfl, rfl, rfl, rfl, trivial⟩ ?_
   refine at_region ?_
   refine av rfl (r_move rfl) ?_
   refine av rfl (r_fieldAddr (fo := 0) Tryz.underlying104 rfl rfl (fun w => ⟨_, Tryz.sizeOf62 w⟩) rfl) ?_
   refine av rfl (r_load_cell Tryz.isAgg62 rfl (fun w1 hw => cells_get (hw.ok (Upd.mem .z)) 0 _ rfl)) ?_
   refine av rfl (r_load_aggc (c := c_api_Item) (z := (g0_, x0)) Tryz.isAgg33 Tryz.sizeOf33 rfl (lens_cell (.s (.s (.s .z))) (Lens.whole _ _))) ?_
   refine at_callee rfl ?_
   refine at_callI Tryz.func125 rfl (by kernel_rfl) rfl rfl rfl rfl ?_
   refine at_drop (H := _) .z ?_
   refine at_weak [(0, _)] ⟨rfl, trivial⟩ ?_
   refine sr ?_
   refine at_box (cs := Cd.cs c_api_Item (g0_, x0)) rfl rfl rfl ?_
   intro b17
   refine av rfl (r_assign rfl) ?_
   refine nws [(1, _)] ⟨rfl, trivial⟩ ?_
   refine av rfl (r_fieldAddr (fo := 1) Tryz.underlying33 rfl rfl (fun w => ⟨_, Tryz.sizeOf22 w⟩) rfl) ?_
   refine av rfl (r_load_cell Tryz.isAgg22 rfl (lens_cell0 (c := cHd) (y := ⟨g0_.1.1, List.length x0.f_Bytes, g0_.1.2⟩) .z (c_api_Item_f_Bytes g0_ x0) rfl)) ?_
   obtain ⟨t18, ht18, hF⟩ := of_bindM hF
   refine at_callB Tryz.func126 rfl (by kernel_rfl) rfl rfl (fun w hw => script_word_ok _ _ _ _ ht18 w ((hn0).1.below hw.below)) ?_
   refine av rfl (r_assign rfl) ?_
   refine at_nil ?_
   refine at_drop (H := _) .z ?_
   refine at_weak [(2, _)] ⟨rfl, trivial⟩ ?_
   refine at_then_normal ?_
   refine at_ret ?_
   refine at_retI1 rfl rfl ?_
   refine at_lit (cs := cStr.all ([t18] : List ByteArray)) Tryz.underlying38 Tryz.sizeOf9 Tryz.zeroValue9 rfl rfl rfl (by kernel_rfl) rfl ?_
   intro b19
   refine at_lit_row (c := cStr) (xs := ([⟨#[115, 101, 116]⟩] : List ByteArray)) (m := 1) (.s .z) rfl rfl ?_
   obtain ⟨h20, hF⟩ := of_guard hF
   refine at_append (z := .string ⟨#[]⟩) (c := cStr) (ys := ([t18] : List ByteArray)) (.s .z) Tryz.underlying38 infoSC9 (by kernel_rfl) (by kernel_rfl) rfl rfl rfl rfl (fun _ hw => cells_src (hw.ok (Upd.mem .z))) (by kernel_rfl) h20 (app_small h20) rfl ?_
   intro p21 c22
   refine av rfl (r_assign rfl) ?_
   refine at_nil ?_
   refine at_drop (H := _) .z ?_
   refine at_weak [(1, _), (6, _), (22, _), (23, _), (24, _)] ⟨rfl, rfl, rfl, rfl, rfl, trivial⟩ ?_
   refine at_blk_normal (at_then_normal ?_)
   refine at_region ?_
   refine av rfl (r_iadd rfl rfl) ?_
   refine at_ov (t := 35) rfl (show Value.int .i64 (wr .i64 (0 + 1)) = .int .i64 1 from by rfl) ?_
   refine av rfl (r_move rfl) ?_
   refine nwt [(1, _), (6, _), (22, _), (23, _), (24, _)] ⟨rfl, rfl, rfl, rfl, rfl, trivial⟩ ?_
   refine at_weak [(1, _), (6, _), (22, _), (23, _), (24, _)] ⟨rfl, rfl, rfl, rfl, rfl, trivial⟩ ?_
   refine at_round ?_
   refine sr ?_
   refine av rfl (r_ilss rfl rfl) ?_
   refine at_fix (g := 25) rfl (show (decide (1 < 1)) = false from by decide) ?_
   refine nwt [(1, _), (6, _), (22, _), (23, _), (24, _), (25, _)] ⟨rfl, rfl, rfl, rfl, rfl, rfl, trivial⟩ ?_
   refine at_seq ?_
   refine at_cond_false rfl rfl ?_
   refine at_exit ?_
   refine at_then_exit (at_then_exit ?_)
   refine at_blk_same ?_
   refine at_drop (H := _) (.s .z) ?_
   refine at_drop (H := _) (.s .z) ?_
   refine at_weak [(6, _)] ⟨rfl, trivial⟩ ?_
   refine at_then_normal ?_
   refine sr ?_
   refine av rfl (r_move rfl) ?_
   obtain ⟨h23, hF⟩ := of_guard hF
   obtain ⟨h24, hF⟩ := of_guard hF
   refine at_callB Tryz.func47 rfl (by kernel_rfl) rfl rfl (fun w1 hw => join_ok _ _ h23 h24 _ _ w1 (hw.own .z).row) ?_
   refine av rfl (r_assign rfl) ?_
   refine av rfl (r_assign rfl) ?_
   refine at_nil ?_
   refine at_drop (H := _) .z ?_
   refine at_weak [(2, _), (3, _)] ⟨rfl, rfl, trivial⟩ ?_
   refine at_then_normal ?_
   refine at_ret ?_
   have K := of_some hF
   subst K
   exact at_return2 rfl rfl rfl (fun w1 hw => ⟨rfl, hw.below⟩)
  ·refine at_cond_false rfl h11 ?_
   refine sr ?_
   refine av rfl (r_ieql rfl rfl) ?_
   refine av rfl (r_assign rfl) ?_
   refine nwt [(2, _), (4, _), (5, _), (8, _), (14, _)] ⟨rfl, rfl, rfl, rfl, rfl, trivial⟩ ?_
   rcases of_ite hF with ⟨h25, hF⟩ | ⟨h25, hF⟩
   ·refine at_cond_true rfl h25 ?_
    refine sr ?_
    refine at_callI Tryz.func78 rfl (by kernel_rfl) rfl rfl rfl rfl ?_
    refine at_drop (H := _) .z ?_
    refine at_drop (H := _) .z ?_
    refine at_drop (H := _) .z ?_
    refine at_drop (H := _) .z ?_
    refine at_weak [] trivial ?_
    refine sr ?_
    refine at_alloc (cs := [.nilFunc, .nilFunc, .nilFunc]) Tryz.zeroValue104 rfl rfl ?_
    intro b26
    refine nws [(0, _)] ⟨rfl, trivial⟩ ?_
    refine av rfl (r_build_struct (zs := [.nilFunc, .nilFunc, .nilFunc]) (cs := [.func (.func 125) #[] #[], .func (.func 127) #[] #[], .func (.func 129) #[] #[]]) Tryz.underlying104 Tryz.zeroValue104 rfl placesR_104 rfl rfl) ?_
    refine at_storeAll (k := 3) (cs := [.func (.func 125) #[] #[], .func (.func 127) #[] #[], .func (.func 129) #[] #[]]) .z (by decide) ⟨rfl, by simp [Value.oneCell']⟩ ⟨rfl, by simp [Value.oneCell']⟩ Tryz.sizeOf104 rfl rfl rfl ?_
    refine nwt [(0, _)] ⟨rfl, trivial⟩ ?_
    refine at_ret ?_
    refine at_resI1 rfl (res_cell (c := cK 3 (by decide)) (y := ⟨[.func (.func 125) #[] #[], .func (.func 127) #[] #[], .func (.func 129) #[] #[]], rfl, by simp [Value.oneCell']⟩) rfl .z (Lens.whole _ _) Tryz.isAgg104 Tryz.sizeOf104 (.inl rfl)) ?_
    refine at_litG (cs := [.func (.func 125) #[] #[], .func (.func 127) #[] #[], .func (.func 129) #[] #[]]) Tryz.underlying96 Tryz.sizeOf104 Tryz.zeroValue104 rfl rfl rfl (by kernel_rfl) rfl ?_
    intro b27
    refine av rfl (r_build_struct (zs := [.string (⟨#[]⟩), .slice none 0 0]) (cs := [.string (⟨#[108, 111, 97, 100]⟩), .slice (some ⟨b27, 0, none⟩) 1 1]) Tryz.underlying98 Tryz.zeroValue98 rfl placesR_98 rfl rfl) ?_
    refine at_storeAll (k := 2) (cs := [.string (⟨#[108, 111, 97, 100]⟩), .slice (some ⟨b27, 0, none⟩) 1 1]) (.s (.s .z)) (by decide) ⟨rfl, by simp [Value.oneCell']⟩ ⟨rfl, by simp [Value.oneCell']⟩ Tryz.sizeOf98 rfl rfl rfl ?_
    refine av rfl (r_assign rfl) ?_
    refine at_nil ?_
    refine at_drop (H := _) (.s .z) ?_
    refine at_weak [(2, _), (3, _)] ⟨rfl, rfl, trivial⟩ ?_
    refine at_then_normal ?_
    refine at_ret ?_
    refine at_blk_ret (at_then_ret ?_)
    refine at_resI2 rfl (res_cell (c := cK 2 (by decide)) (y := ⟨[.string (⟨#[108, 111, 97, 100]⟩), .slice (some ⟨b27, 0, none⟩) 1 1], rfl, by simp [Value.oneCell']⟩) rfl (.s .z) (Lens.whole _ _) Tryz.isAgg98 Tryz.sizeOf98 (.inl rfl)) (res_tmp rfl) ?_
    refine av rfl (r_move rfl) ?_
    refine av rfl (r_extract rfl rfl) ?_
    refine av rfl (r_extract rfl rfl) ?_
    refine at_alloc (cs := [.string (⟨#[]⟩), .slice none 0 0]) Tryz.zeroValue98 rfl rfl ?_
    intro b28
    refine at_storeAll (k := 2) (cs := [.string (⟨#[108, 111, 97, 100]⟩), .slice (some ⟨b27, 0, none⟩) 1 1]) .z (by decide) ⟨rfl, by simp [Value.oneCell']⟩ ⟨rfl, by simp [Value.oneCell']⟩ Tryz.sizeOf98 rfl rfl rfl ?_
    refine av rfl (r_assign rfl) ?_
    refine at_nil ?_
    refine at_drop (H := _) (.s (.s .z)) ?_
    refine at_weak [(1, _), (4, _)] ⟨rfl, rfl, trivial⟩ ?_
    refine at_then_normal ?_
    refine sr ?_
    refine av rfl (r_fieldAddr (fo := 0) Tryz.underlying98 rfl rfl (fun w => ⟨_, Tryz.sizeOf9 w⟩) rfl) ?_
    refine av rfl (r_load_cell Tryz.isAgg9 rfl (fun w1 hw => cells_get (hw.ok (Upd.mem .z)) 0 _ rfl)) ?_
    refine at_lit (cs := cStr.all ([⟨#[108, 111, 97, 100]⟩] : List ByteArray)) Tryz.underlying38 Tryz.sizeOf9 Tryz.zeroValue9 rfl rfl rfl (by kernel_rfl) rfl ?_
    intro b29
    refine av rfl (r_assign rfl) ?_
    refine nwt [(1, _), (4, _), (6, _)] ⟨rfl, rfl, rfl, trivial⟩ ?_
    refine at_seq ?_
    refine sr ?_
    refine av rfl (r_fieldAddr (fo := 1) Tryz.underlying98 rfl rfl (fun w => ⟨_, Tryz.sizeOf96 w⟩) rfl) ?_
    refine av rfl (r_load_cell Tryz.isAgg96 rfl (fun w1 hw => cells_get (hw.ok (Upd.mem (.s .z))) 1 _ rfl)) ?_
    refine av rfl (r_len_sl Tryz.underlying96 rfl) ?_
    refine av rfl (r_move rfl) ?_
    refine at_nil ?_
    refine at_drop (H := _) (.s .z) ?_
    refine at_weak [(1, _), (6, _), (22, _), (23, _), (24, _)] ⟨rfl, rfl, rfl, rfl, rfl, trivial⟩ ?_
    refine at_then_normal ?_
    refine at_block ?_
    refine at_weak [(1, _), (6, _), (22, _), (23, _), (24, _)] ⟨rfl, rfl, rfl, rfl, rfl, trivial⟩ ?_
    refine at_loop ?_
    refine at_round ?_
    refine sr ?_
    refine av rfl (r_ilss rfl rfl) ?_
    refine at_fix (g := 25) rfl (show (decide (0 < 1)) = true from by decide) ?_
    refine nwt [(1, _), (6, _), (22, _), (23, _), (24, _), (25, _)] ⟨rfl, rfl, rfl, rfl, rfl, rfl, trivial⟩ ?_
    refine at_seq ?_
    refine at_cond_true rfl rfl ?_
    refine sn ?_
    refine at_seq ?_
    refine at_block ?_
    refine sr ?_
    refine av rfl (r_idx Tryz.underlying96 Tryz.sizeOf104 rfl rfl (by decide) rfl) ?_
    refine av rfl (r_load_agg (l := [.func (.func 125) #[] #[], .func (.func 127) #[] #[], .func (.func 129) #[] #[]]) Tryz.isAgg104 Tryz.sizeOf104 rfl rfl (fun w1 hw => cells_mid (pre := []) (suf := []) (hw.ok (Upd.mem (.s .z))) rfl rfl)) ?_
    refine at_alloc (cs := [.nilFunc, .nilFunc, .nilFunc]) Tryz.zeroValue104 rfl rfl ?_
    intro b30
    refine at_storeAll (k := 3) (cs := [.func (.func 125) #[] #[], .func (.func 127) #[] #[], .func (.func 129) #[] #[]]) .z (by decide) ⟨rfl, by simp [Value.oneCell']⟩ ⟨rfl, by simp [Value.oneCell']⟩ Tryz.sizeOf104 rfl rfl rfl ?_
    refine nwt [(1, _), (6, _), (8, _), (22, _), (23, _), (24, _)] ⟨rfl, rfl, rfl, rfl, rfl, rfl, trivial⟩ ?_
    refine at_region ?_
    refine av rfl (r_move rfl) ?_
    refine av rfl (r_fieldAddr (fo := 0) Tryz.underlying104 rfl rfl (fun w => ⟨_, Tryz.sizeOf62 w⟩) rfl) ?_
    refine av rfl (r_load_cell Tryz.isAgg62 rfl (fun w1 hw => cells_get (hw.ok (Upd.mem .z)) 0 _ rfl)) ?_
    refine av rfl (r_load_aggc (c := c_api_Item) (z := (g0_, x0)) Tryz.isAgg33 Tryz.sizeOf33 rfl (lens_cell (.s (.s (.s .z))) (Lens.whole _ _))) ?_
    refine at_callee rfl ?_
    refine at_callI Tryz.func125 rfl (by kernel_rfl) rfl rfl rfl rfl ?_
    refine at_drop (H := _) .z ?_
    refine at_weak [(0, _)] ⟨rfl, trivial⟩ ?_
    refine sr ?_
    refine at_box (cs := Cd.cs c_api_Item (g0_, x0)) rfl rfl rfl ?_
    intro b31
    refine av rfl (r_assign rfl) ?_
    refine nws [(1, _)] ⟨rfl, trivial⟩ ?_
    refine av rfl (r_fieldAddr (fo := 1) Tryz.underlying33 rfl rfl (fun w => ⟨_, Tryz.sizeOf22 w⟩) rfl) ?_
    refine av rfl (r_load_cell Tryz.isAgg22 rfl (lens_cell0 (c := cHd) (y := ⟨g0_.1.1, List.length x0.f_Bytes, g0_.1.2⟩) .z (c_api_Item_f_Bytes g0_ x0) rfl)) ?_
    obtain ⟨t32, ht32, hF⟩ := of_bindM hF
    refine at_callB Tryz.func126 rfl (by kernel_rfl) rfl rfl (fun w hw => script_word_ok _ _ _ _ ht32 w ((hn0).1.below hw.below)) ?_
    refine av rfl (r_assign rfl) ?_
    refine at_nil ?_
    refine at_drop (H := _) .z ?_
    refine at_weak [(2, _)] ⟨rfl, trivial⟩ ?_
    refine at_then_normal ?_
    refine at_ret ?_
    refine at_retI1 rfl rfl ?_
    refine at_lit (cs := cStr.all ([t32] : List ByteArray)) Tryz.underlying38 Tryz.sizeOf9 Tryz.zeroValue9 rfl rfl rfl (by kernel_rfl) rfl ?_
    intro b33
    refine at_lit_row (c := cStr) (xs := ([⟨#[108, 111, 97, 100]⟩] : List ByteArray)) (m := 1) (.s .z) rfl rfl ?_
    obtain ⟨h34, hF⟩ := of_guard hF
    refine at_append (z := .string ⟨#[]⟩) (c := cStr) (ys := ([t32] : List ByteArray)) (.s .z) Tryz.underlying38 infoSC9 (by kernel_rfl) (by kernel_rfl) rfl rfl rfl rfl (fun _ hw => cells_src (hw.ok (Upd.mem .z))) (by kernel_rfl) h34 (app_small h34) rfl ?_
    intro p35 c36
    refine av rfl (r_assign rfl) ?_
    refine at_nil ?_
    refine at_drop (H := _) .z ?_
    refine at_weak [(1, _), (6, _), (22, _), (23, _), (24, _)] ⟨rfl, rfl, rfl, rfl, rfl, trivial⟩ ?_
    refine at_blk_normal (at_then_normal ?_)
    refine at_region ?_
    refine av rfl (r_iadd rfl rfl) ?_
    refine at_ov (t := 35) rfl (show Value.int .i64 (wr .i64 (0 + 1)) = .int .i64 1 from by rfl) ?_
    refine av rfl (r_move rfl) ?_
    refine nwt [(1, _), (6, _), (22, _), (23, _), (24, _)] ⟨rfl, rfl, rfl, rfl, rfl, trivial⟩ ?_
    refine at_weak [(1, _), (6, _), (22, _), (23, _), (24, _)] ⟨rfl, rfl, rfl, rfl, rfl, trivial⟩ ?_
    refine at_round ?_
    refine sr ?_
    refine av rfl (r_ilss rfl rfl) ?_
    refine at_fix (g := 25) rfl (show (decide (1 < 1)) = false from by decide) ?_
    refine nwt [(1, _), (6, _), (22, _), (23, _), (24, _), (25, _)] ⟨rfl, rfl, rfl, rfl, rfl, rfl, trivial⟩ ?_
    refine at_seq ?_
    refine at_cond_false rfl rfl ?_
    refine at_exit ?_
    refine at_then_exit (at_then_exit ?_)
    refine at_blk_same ?_
    refine at_drop (H := _) (.s .z) ?_
    refine at_drop (H := _) (.s .z) ?_
    refine at_weak [(6, _)] ⟨rfl, trivial⟩ ?_
    refine at_then_normal ?_
    refine sr ?_
    refine av rfl (r_move rfl) ?_
    obtain ⟨h37, hF⟩ := of_guard hF
    obtain ⟨h38, hF⟩ := of_guard hF
    refine at_callB Tryz.func47 rfl (by kernel_rfl) rfl rfl (fun w1 hw => join_ok _ _ h37 h38 _ _ w1 (hw.own .z).row) ?_
    refine av rfl (r_assign rfl) ?_
    refine av rfl (r_assign rfl) ?_
    refine at_nil ?_
    refine at_drop (H := _) .z ?_
    refine at_weak [(2, _), (3, _)] ⟨rfl, rfl, trivial⟩ ?_
    refine at_then_normal ?_
    refine at_ret ?_
    have K := of_some hF
    subst K
    exact at_return2 rfl rfl rfl (fun w1 hw => ⟨rfl, hw.below⟩)
   ·refine at_cond_false rfl h25 ?_
    refine sr ?_
    refine av rfl (r_ieql rfl rfl) ?_
    refine av rfl (r_assign rfl) ?_
    refine nwt [(2, _), (4, _), (5, _), (8, _), (19, _)] ⟨rfl, rfl, rfl, rfl, rfl, trivial⟩ ?_
    rcases of_ite hF with ⟨h39, hF⟩ | ⟨h39, hF⟩
    ·refine at_cond_true rfl h39 ?_
     refine sr ?_
     refine at_callI Tryz.func78 rfl (by kernel_rfl) rfl rfl rfl rfl ?_
     refine at_drop (H := _) .z ?_
     refine at_drop (H := _) .z ?_
     refine at_drop (H := _) .z ?_
     refine at_drop (H := _) .z ?_
     refine at_weak [] trivial ?_
     refine sr ?_
     refine at_alloc (cs := [.nilFunc, .nilFunc, .nilFunc]) Tryz.zeroValue104 rfl rfl ?_
     intro b40
     refine nws [(0, _)] ⟨rfl, trivial⟩ ?_
     refine av rfl (r_build_struct (zs := [.nilFunc, .nilFunc, .nilFunc]) (cs := [.func (.func 125) #[] #[], .func (.func 127) #[] #[], .func (.func 129) #[] #[]]) Tryz.underlying104 Tryz.zeroValue104 rfl placesR_104 rfl rfl) ?_
     refine at_storeAll (k := 3) (cs := [.func (.func 125) #[] #[], .func (.func 127) #[] #[], .func (.func 129) #[] #[]]) .z (by decide) ⟨rfl, by simp [Value.oneCell']⟩ ⟨rfl, by simp [Value.oneCell']⟩ Tryz.sizeOf104 rfl rfl rfl ?_
     refine nwt [(0, _)] ⟨rfl, trivial⟩ ?_
     refine at_ret ?_
     refine at_resI1 rfl (res_cell (c := cK 3 (by decide)) (y := ⟨[.func (.func 125) #[] #[], .func (.func 127) #[] #[], .func (.func 129) #[] #[]], rfl, by simp [Value.oneCell']⟩) rfl .z (Lens.whole _ _) Tryz.isAgg104 Tryz.sizeOf104 (.inl rfl)) ?_
     refine at_callI Tryz.func79 rfl (by kernel_rfl) rfl rfl rfl rfl ?_
     refine at_drop (H := _) .z ?_
     refine at_weak [] trivial ?_
     refine sr ?_
     refine at_alloc (cs := [.nilFunc, .nilFunc, .nilFunc]) Tryz.zeroValue104 rfl rfl ?_
     intro b41
     refine nws [(0, _)] ⟨rfl, trivial⟩ ?_
     refine av rfl (r_build_struct (zs := [.nilFunc, .nilFunc, .nilFunc]) (cs := [.func (.func 130) #[] #[], .func (.func 131) #[] #[], .func (.func 132) #[] #[]]) Tryz.underlying104 Tryz.zeroValue104 rfl placesR_104 rfl rfl) ?_
     refine at_storeAll (k := 3) (cs := [.func (.func 130) #[] #[], .func (.func 131) #[] #[], .func (.func 132) #[] #[]]) .z (by decide) ⟨rfl, by simp [Value.oneCell']⟩ ⟨rfl, by simp [Value.oneCell']⟩ Tryz.sizeOf104 rfl rfl rfl ?_
     refine nwt [(0, _)] ⟨rfl, trivial⟩ ?_
     refine at_ret ?_
     refine at_resI1 rfl (res_cell (c := cK 3 (by decide)) (y := ⟨[.func (.func 130) #[] #[], .func (.func 131) #[] #[], .func (.func 132) #[] #[]], rfl, by simp [Value.oneCell']⟩) rfl .z (Lens.whole _ _) Tryz.isAgg104 Tryz.sizeOf104 (.inl rfl)) ?_
     refine at_litG (cs := [.func (.func 125) #[] #[], .func (.func 127) #[] #[], .func (.func 129) #[] #[], .func (.func 130) #[] #[], .func (.func 131) #[] #[], .func (.func 132) #[] #[]]) Tryz.underlying96 Tryz.sizeOf104 Tryz.zeroValue104 rfl rfl rfl (by kernel_rfl) rfl ?_
     intro b42
     refine av rfl (r_build_struct (zs := [.string (⟨#[]⟩), .slice none 0 0]) (cs := [.string (⟨#[111, 117, 116]⟩), .slice (some ⟨b42, 0, none⟩) 2 2]) Tryz.underlying98 Tryz.zeroValue98 rfl placesR_98 rfl rfl) ?_
     refine at_storeAll (k := 2) (cs := [.string (⟨#[111, 117, 116]⟩), .slice (some ⟨b42, 0, none⟩) 2 2]) (.s (.s .z)) (by decide) ⟨rfl, by simp [Value.oneCell']⟩ ⟨rfl, by simp [Value.oneCell']⟩ Tryz.sizeOf98 rfl rfl rfl ?_
     refine av rfl (r_assign rfl) ?_
     refine at_nil ?_
     refine at_drop (H := _) (.s .z) ?_
     refine at_weak [(2, _), (3, _)] ⟨rfl, rfl, trivial⟩ ?_
     refine at_then_normal ?_
     refine at_ret ?_
     refine at_blk_ret (at_then_ret ?_)
     refine at_resI2 rfl (res_cell (c := cK 2 (by decide)) (y := ⟨[.string (⟨#[111, 117, 116]⟩), .slice (some ⟨b42, 0, none⟩) 2 2], rfl, by simp [Value.oneCell']⟩) rfl (.s .z) (Lens.whole _ _) Tryz.isAgg98 Tryz.sizeOf98 (.inl rfl)) (res_tmp rfl) ?_
     refine av rfl (r_move rfl) ?_
     refine av rfl (r_extract rfl rfl) ?_
     refine av rfl (r_extract rfl rfl) ?_
     refine at_alloc (cs := [.string (⟨#[]⟩), .slice none 0 0]) Tryz.zeroValue98 rfl rfl ?_
     intro b43
     refine at_storeAll (k := 2) (cs := [.string (⟨#[111, 117, 116]⟩), .slice (some ⟨b42, 0, none⟩) 2 2]) .z (by decide) ⟨rfl, by simp [Value.oneCell']⟩ ⟨rfl, by simp [Value.oneCell']⟩ Tryz.sizeOf98 rfl rfl rfl ?_
     refine av rfl (r_assign rfl) ?_
     refine at_nil ?_
     refine at_drop (H := _) (.s (.s .z)) ?_
     refine at_weak [(1, _), (4, _)] ⟨rfl, rfl, trivial⟩ ?_
     refine at_then_normal ?_
     refine sr ?_
     refine av rfl (r_fieldAddr (fo := 0) Tryz.underlying98 rfl rfl (fun w => ⟨_, Tryz.sizeOf9 w⟩) rfl) ?_
     refine av rfl (r_load_cell Tryz.isAgg9 rfl (fun w1 hw => cells_get (hw.ok (Upd.mem .z)) 0 _ rfl)) ?_
     refine at_lit (cs := cStr.all ([⟨#[111, 117, 116]⟩] : List ByteArray)) Tryz.underlying38 Tryz.sizeOf9 Tryz.zeroValue9 rfl rfl rfl (by kernel_rfl) rfl ?_
     intro b44
     refine av rfl (r_assign rfl) ?_
     refine nwt [(1, _), (4, _), (6, _)] ⟨rfl, rfl, rfl, trivial⟩ ?_
     refine at_seq ?_
     refine sr ?_
     refine av rfl (r_fieldAddr (fo := 1) Tryz.underlying98 rfl rfl (fun w => ⟨_, Tryz.sizeOf96 w⟩) rfl) ?_
     refine av rfl (r_load_cell Tryz.isAgg96 rfl (fun w1 hw => cells_get (hw.ok (Upd.mem (.s .z))) 1 _ rfl)) ?_
     refine av rfl (r_len_sl Tryz.underlying96 rfl) ?_
     refine av rfl (r_move rfl) ?_
     refine at_nil ?_
     refine at_drop (H := _) (.s .z) ?_
     refine at_weak [(1, _), (6, _), (22, _), (23, _), (24, _)] ⟨rfl, rfl, rfl, rfl, rfl, trivial⟩ ?_
     refine at_then_normal ?_
     refine at_block ?_
     refine at_weak [(1, _), (6, _), (22, _), (23, _), (24, _)] ⟨rfl, rfl, rfl, rfl, rfl, trivial⟩ ?_
     refine at_loop ?_
     refine at_round ?_
     refine sr ?_
     refine av rfl (r_ilss rfl rfl) ?_
     refine at_fix (g := 25) rfl (show (decide (0 < 2)) = true from by decide) ?_
     refine nwt [(1, _), (6, _), (22, _), (23, _), (24, _), (25, _)] ⟨rfl, rfl, rfl, rfl, rfl, rfl, trivial⟩ ?_
     refine at_seq ?_
     refine at_cond_true rfl rfl ?_
     refine sn ?_
     refine at_seq ?_
     refine at_block ?_
     refine sr ?_
     refine av rfl (r_idx Tryz.underlying96 Tryz.sizeOf104 rfl rfl (by decide) rfl) ?_
     refine av rfl (r_load_agg (l := [.func (.func 125) #[] #[], .func (.func 127) #[] #[], .func (.func 129) #[] #[]]) Tryz.isAgg104 Tryz.sizeOf104 rfl rfl (fun w1 hw => cells_mid (pre := []) (suf := [.func (.func 130) #[] #[], .func (.func 131) #[] #[], .func (.func 132) #[] #[]]) (hw.ok (Upd.mem (.s .z))) rfl rfl)) ?_
     refine at_alloc (cs := [.nilFunc, .nilFunc, .nilFunc]) Tryz.zeroValue104 rfl rfl ?_
     intro b45
     refine at_storeAll (k := 3) (cs := [.func (.func 125) #[] #[], .func (.func 127) #[] #[], .func (.func 129) #[] #[]]) .z (by decide) ⟨rfl, by simp [Value.oneCell']⟩ ⟨rfl, by simp [Value.oneCell']⟩ Tryz.sizeOf104 rfl rfl rfl ?_
     refine nwt [(1, _), (6, _), (8, _), (22, _), (23, _), (24, _)] ⟨rfl, rfl, rfl, rfl, rfl, rfl, trivial⟩ ?_
     refine at_region ?_
     refine av rfl (r_move rfl) ?_
     refine av rfl (r_fieldAddr (fo := 0) Tryz.underlying104 rfl rfl (fun w => ⟨_, Tryz.sizeOf62 w⟩) rfl) ?_
     refine av rfl (r_load_cell Tryz.isAgg62 rfl (fun w1 hw => cells_get (hw.ok (Upd.mem .z)) 0 _ rfl)) ?_
     refine av rfl (r_load_aggc (c := c_api_Item) (z := (g0_, x0)) Tryz.isAgg33 Tryz.sizeOf33 rfl (lens_cell (.s (.s (.s .z))) (Lens.whole _ _))) ?_
     refine at_callee rfl ?_
     refine at_callI Tryz.func125 rfl (by kernel_rfl) rfl rfl rfl rfl ?_
     refine at_drop (H := _) .z ?_
     refine at_weak [(0, _)] ⟨rfl, trivial⟩ ?_
     refine sr ?_
     refine at_box (cs := Cd.cs c_api_Item (g0_, x0)) rfl rfl rfl ?_
     intro b46
     refine av rfl (r_assign rfl) ?_
     refine nws [(1, _)] ⟨rfl, trivial⟩ ?_
     refine av rfl (r_fieldAddr (fo := 1) Tryz.underlying33 rfl rfl (fun w => ⟨_, Tryz.sizeOf22 w⟩) rfl) ?_
     refine av rfl (r_load_cell Tryz.isAgg22 rfl (lens_cell0 (c := cHd) (y := ⟨g0_.1.1, List.length x0.f_Bytes, g0_.1.2⟩) .z (c_api_Item_f_Bytes g0_ x0) rfl)) ?_
     obtain ⟨t47, ht47, hF⟩ := of_bindM hF
     refine at_callB Tryz.func126 rfl (by kernel_rfl) rfl rfl (fun w hw => script_word_ok _ _ _ _ ht47 w ((hn0).1.below hw.below)) ?_
     refine av rfl (r_assign rfl) ?_
     refine at_nil ?_
     refine at_drop (H := _) .z ?_
     refine at_weak [(2, _)] ⟨rfl, trivial⟩ ?_
     refine at_then_normal ?_
     refine at_ret ?_
     refine at_retI1 rfl rfl ?_
     refine at_lit (cs := cStr.all ([t47] : List ByteArray)) Tryz.underlying38 Tryz.sizeOf9 Tryz.zeroValue9 rfl rfl rfl (by kernel_rfl) rfl ?_
     intro b48
     refine at_lit_row (c := cStr) (xs := ([⟨#[111, 117, 116]⟩] : List ByteArray)) (m := 1) (.s .z) rfl rfl ?_
     obtain ⟨h49, hF⟩ := of_guard hF
     refine at_append (z := .string ⟨#[]⟩) (c := cStr) (ys := ([t47] : List ByteArray)) (.s .z) Tryz.underlying38 infoSC9 (by kernel_rfl) (by kernel_rfl) rfl rfl rfl rfl (fun _ hw => cells_src (hw.ok (Upd.mem .z))) (by kernel_rfl) h49 (app_small h49) rfl ?_
     intro p50 c51
     refine av rfl (r_assign rfl) ?_
     refine at_nil ?_
     refine at_drop (H := _) .z ?_
     refine at_weak [(1, _), (6, _), (22, _), (23, _), (24, _)] ⟨rfl, rfl, rfl, rfl, rfl, trivial⟩ ?_
     refine at_blk_normal (at_then_normal ?_)
     refine at_region ?_
     refine av rfl (r_iadd rfl rfl) ?_
     refine at_ov (t := 35) rfl (show Value.int .i64 (wr .i64 (0 + 1)) = .int .i64 1 from by rfl) ?_
     refine av rfl (r_move rfl) ?_
     refine nwt [(1, _), (6, _), (22, _), (23, _), (24, _)] ⟨rfl, rfl, rfl, rfl, rfl, trivial⟩ ?_
     refine at_weak [(1, _), (6, _), (22, _), (23, _), (24, _)] ⟨rfl, rfl, rfl, rfl, rfl, trivial⟩ ?_
     refine at_round ?_
     refine sr ?_
     refine av rfl (r_ilss rfl rfl) ?_
     refine at_fix (g := 25) rfl (show (decide (1 < 2)) = true from by decide) ?_
     refine nwt [(1, _), (6, _), (22, _), (23, _), (24, _), (25, _)] ⟨rfl, rfl, rfl, rfl, rfl, rfl, trivial⟩ ?_
     refine at_seq ?_
     refine at_cond_true rfl rfl ?_
     refine sn ?_
     refine at_seq ?_
     refine at_block ?_
     refine sr ?_
     refine av rfl (r_idx Tryz.underlying96 Tryz.sizeOf104 rfl rfl (by decide) rfl) ?_
     refine av rfl (r_load_agg (l := [.func (.func 130) #[] #[], .func (.func 131) #[] #[], .func (.func 132) #[] #[]]) Tryz.isAgg104 Tryz.sizeOf104 rfl rfl (fun w1 hw => cells_mid (pre := [.func (.func 125) #[] #[], .func (.func 127) #[] #[], .func (.func 129) #[] #[]]) (suf := []) (hw.ok (Upd.mem (.s .z))) rfl rfl)) ?_
     refine at_alloc (cs := [.nilFunc, .nilFunc, .nilFunc]) Tryz.zeroValue104 rfl rfl ?_
     intro b52
     refine at_storeAll (k := 3) (cs := [.func (.func 130) #[] #[], .func (.func 131) #[] #[], .func (.func 132) #[] #[]]) .z (by decide) ⟨rfl, by simp [Value.oneCell']⟩ ⟨rfl, by simp [Value.oneCell']⟩ Tryz.sizeOf104 rfl rfl rfl ?_
     refine nwt [(1, _), (6, _), (8, _), (22, _), (23, _), (24, _)] ⟨rfl, rfl, rfl, rfl, rfl, rfl, trivial⟩ ?_
     refine at_region ?_
     refine av rfl (r_move rfl) ?_
     refine av rfl (r_fieldAddr (fo := 0) Tryz.underlying104 rfl rfl (fun w => ⟨_, Tryz.sizeOf62 w⟩) rfl) ?_
     refine av rfl (r_load_cell Tryz.isAgg62 rfl (fun w1 hw => cells_get (hw.ok (Upd.mem .z)) 0 _ rfl)) ?_
     refine av rfl (r_load_aggc (c := c_api_Item) (z := (g0_, x0)) Tryz.isAgg33 Tryz.sizeOf33 rfl (lens_cell (.s (.s (.s .z))) (Lens.whole _ _))) ?_
     refine at_callee rfl ?_
     refine at_callI Tryz.func130 rfl (by kernel_rfl) rfl rfl rfl rfl ?_
     refine at_drop (H := _) .z ?_
     refine at_weak [(0, _)] ⟨rfl, trivial⟩ ?_
     refine sr ?_
     refine at_box (cs := Cd.cs c_api_Item (g0_, x0)) rfl rfl rfl ?_
     intro b53
     refine av rfl (r_assign rfl) ?_
     refine nwt [(1, _)] ⟨rfl, trivial⟩ ?_
     refine at_seq ?_
     refine sr ?_
     refine av rfl (r_fieldAddr (fo := 21) Tryz.underlying33 rfl rfl (fun w => ⟨_, Tryz.sizeOf4 w⟩) rfl) ?_
     refine av rfl (r_load_cell Tryz.isAgg4 rfl (lens_cell0 (c := cBool) (y := x0.f_Ok) .z (c_api_Item_f_Ok g0_ x0) rfl)) ?_
     refine av rfl (r_not rfl) ?_
     refine nwt [(1, _), (5, _)] ⟨rfl, rfl, trivial⟩ ?_
     rcases of_ite hF with ⟨h54, hF⟩ | ⟨h54, hF⟩
     ·refine at_cond_true rfl h54 ?_
      refine sr ?_
      refine av rfl (r_assign rfl) ?_
      refine at_nil ?_
      refine at_drop (H := _) .z ?_
      refine at_weak [(2, _)] ⟨rfl, trivial⟩ ?_
      refine at_then_normal ?_
      refine rt ?_
      refine at_retI1 rfl rfl ?_
      refine at_lit (cs := cStr.all ([⟨#[33]⟩] : List ByteArray)) Tryz.underlying38 Tryz.sizeOf9 Tryz.zeroValue9 rfl rfl rfl (by kernel_rfl) rfl ?_
      intro b55
      obtain ⟨h56, hF⟩ := of_guard hF
      refine at_append (z := .string ⟨#[]⟩) (c := cStr) (ys := ([⟨#[33]⟩] : List ByteArray)) (.s .z) Tryz.underlying38 infoSC9 (by kernel_rfl) (by kernel_rfl) rfl rfl rfl rfl (fun _ hw => cells_src (hw.ok (Upd.mem .z))) (by kernel_rfl) h56 (app_small h56) rfl ?_
      intro p57 c58
      refine av rfl (r_assign rfl) ?_
      refine at_nil ?_
      refine at_drop (H := _) .z ?_
      refine at_weak [(1, _), (6, _), (22, _), (23, _), (24, _)] ⟨rfl, rfl, rfl, rfl, rfl, trivial⟩ ?_
      refine at_blk_normal (at_then_normal ?_)
      refine at_region ?_
      refine av rfl (r_iadd rfl rfl) ?_
      refine at_ov (t := 35) rfl (show Value.int .i64 (wr .i64 (1 + 1)) = .int .i64 2 from by rfl) ?_
      refine av rfl (r_move rfl) ?_
      refine nwt [(1, _), (6, _), (22, _), (23, _), (24, _)] ⟨rfl, rfl, rfl, rfl, rfl, trivial⟩ ?_
      refine at_weak [(1, _), (6, _), (22, _), (23, _), (24, _)] ⟨rfl, rfl, rfl, rfl, rfl, trivial⟩ ?_
      refine at_round ?_
      refine sr ?_
      refine av rfl (r_ilss rfl rfl) ?_
      refine at_fix (g := 25) rfl (show (decide (2 < 2)) = false from by decide) ?_
      refine nwt [(1, _), (6, _), (22, _), (23, _), (24, _), (25, _)] ⟨rfl, rfl, rfl, rfl, rfl, rfl, trivial⟩ ?_
      refine at_seq ?_
      refine at_cond_false rfl rfl ?_
      refine at_exit ?_
      refine at_then_exit (at_then_exit ?_)
      refine at_blk_same ?_
      refine at_drop (H := _) (.s .z) ?_
      refine at_drop (H := _) (.s .z) ?_
      refine at_weak [(6, _)] ⟨rfl, trivial⟩ ?_
      refine at_then_normal ?_
      refine sr ?_
      refine av rfl (r_move rfl) ?_
      obtain ⟨h59, hF⟩ := of_guard hF
      obtain ⟨h60, hF⟩ := of_guard hF
      refine at_callB Tryz.func47 rfl (by kernel_rfl) rfl rfl (fun w1 hw => join_ok _ _ h59 h60 _ _ w1 (hw.own .z).row) ?_
      refine av rfl (r_assign rfl) ?_
      refine av rfl (r_assign rfl) ?_
      refine at_nil ?_
      refine at_drop (H := _) .z ?_
      refine at_weak [(2, _), (3, _)] ⟨rfl, rfl, trivial⟩ ?_
      refine at_then_normal ?_
      refine at_ret ?_
      have K := of_some hF
      subst K
      exact at_return2 rfl rfl rfl (fun w1 hw => ⟨rfl, hw.below⟩)
     ·refine at_cond_false rfl h54 ?_
      refine sns ?_
      refine av rfl (r_fieldAddr (fo := 20) Tryz.underlying33 rfl rfl (fun w => ⟨_, Tryz.sizeOf22 w⟩) rfl) ?_
      refine av rfl (r_load_cell Tryz.isAgg22 rfl (lens_cell0 (c := cHd) (y := ⟨g0_.2.1, List.length x0.f_Result, g0_.2.2⟩) .z (c_api_Item_f_Result g0_ x0) rfl)) ?_
      obtain ⟨t61, ht61, hF⟩ := of_bindM hF
      refine at_callB Tryz.func126 rfl (by kernel_rfl) rfl rfl (fun w hw => script_word_ok _ _ _ _ ht61 w ((hn0).2.below hw.below)) ?_
      refine av rfl (r_assign rfl) ?_
      refine at_nil ?_
      refine at_drop (H := _) .z ?_
      refine at_weak [(2, _)] ⟨rfl, trivial⟩ ?_
      refine at_then_normal ?_
      refine at_ret ?_
      refine at_retI1 rfl rfl ?_
      refine at_lit (cs := cStr.all ([t61] : List ByteArray)) Tryz.underlying38 Tryz.sizeOf9 Tryz.zeroValue9 rfl rfl rfl (by kernel_rfl) rfl ?_
      intro b62
      obtain ⟨h63, hF⟩ := of_guard hF
      refine at_append (z := .string ⟨#[]⟩) (c := cStr) (ys := ([t61] : List ByteArray)) (.s .z) Tryz.underlying38 infoSC9 (by kernel_rfl) (by kernel_rfl) rfl rfl rfl rfl (fun _ hw => cells_src (hw.ok (Upd.mem .z))) (by kernel_rfl) h63 (app_small h63) rfl ?_
      intro p64 c65
      refine av rfl (r_assign rfl) ?_
      refine at_nil ?_
      refine at_drop (H := _) .z ?_
      refine at_weak [(1, _), (6, _), (22, _), (23, _), (24, _)] ⟨rfl, rfl, rfl, rfl, rfl, trivial⟩ ?_
      refine at_blk_normal (at_then_normal ?_)
      refine at_region ?_
      refine av rfl (r_iadd rfl rfl) ?_
      refine at_ov (t := 35) rfl (show Value.int .i64 (wr .i64 (1 + 1)) = .int .i64 2 from by rfl) ?_
      refine av rfl (r_move rfl) ?_
      refine nwt [(1, _), (6, _), (22, _), (23, _), (24, _)] ⟨rfl, rfl, rfl, rfl, rfl, trivial⟩ ?_
      refine at_weak [(1, _), (6, _), (22, _), (23, _), (24, _)] ⟨rfl, rfl, rfl, rfl, rfl, trivial⟩ ?_
      refine at_round ?_
      refine sr ?_
      refine av rfl (r_ilss rfl rfl) ?_
      refine at_fix (g := 25) rfl (show (decide (2 < 2)) = false from by decide) ?_
      refine nwt [(1, _), (6, _), (22, _), (23, _), (24, _), (25, _)] ⟨rfl, rfl, rfl, rfl, rfl, rfl, trivial⟩ ?_
      refine at_seq ?_
      refine at_cond_false rfl rfl ?_
      refine at_exit ?_
      refine at_then_exit (at_then_exit ?_)
      refine at_blk_same ?_
      refine at_drop (H := _) (.s .z) ?_
      refine at_drop (H := _) (.s .z) ?_
      refine at_weak [(6, _)] ⟨rfl, trivial⟩ ?_
      refine at_then_normal ?_
      refine sr ?_
      refine av rfl (r_move rfl) ?_
      obtain ⟨h66, hF⟩ := of_guard hF
      obtain ⟨h67, hF⟩ := of_guard hF
      refine at_callB Tryz.func47 rfl (by kernel_rfl) rfl rfl (fun w1 hw => join_ok _ _ h66 h67 _ _ w1 (hw.own .z).row) ?_
      refine av rfl (r_assign rfl) ?_
      refine av rfl (r_assign rfl) ?_
      refine at_nil ?_
      refine at_drop (H := _) .z ?_
      refine at_weak [(2, _), (3, _)] ⟨rfl, rfl, trivial⟩ ?_
      refine at_then_normal ?_
      refine at_ret ?_
      have K := of_some hF
      subst K
      exact at_return2 rfl rfl rfl (fun w1 hw => ⟨rfl, hw.below⟩)
    ·refine at_cond_false rfl h39 ?_
     refine sr ?_
     refine av rfl (r_ieql rfl rfl) ?_
     refine av rfl (r_assign rfl) ?_
     refine nwt [(2, _), (4, _), (5, _), (8, _), (25, _)] ⟨rfl, rfl, rfl, rfl, rfl, trivial⟩ ?_
     rcases of_ite hF with ⟨h68, hF⟩ | ⟨h68, hF⟩
     ·refine at_cond_true rfl h68 ?_
      refine sr ?_
      refine at_callI Tryz.func80 rfl (by kernel_rfl) rfl rfl rfl rfl ?_
      refine at_drop (H := _) .z ?_
      refine at_drop (H := _) .z ?_
      refine at_drop (H := _) .z ?_
      refine at_drop (H := _) .z ?_
      refine at_weak [] trivial ?_
      refine sr ?_
      refine at_alloc (cs := [.nilFunc, .nilFunc, .nilFunc]) Tryz.zeroValue104 rfl rfl ?_
      intro b69
      refine nws [(0, _)] ⟨rfl, trivial⟩ ?_
      refine av rfl (r_build_struct (zs := [.nilFunc, .nilFunc, .nilFunc]) (cs := [.func (.func 133) #[] #[], .func (.func 134) #[] #[], .func (.func 135) #[] #[]]) Tryz.underlying104 Tryz.zeroValue104 rfl placesR_104 rfl rfl) ?_
      refine at_storeAll (k := 3) (cs := [.func (.func 133) #[] #[], .func (.func 134) #[] #[], .func (.func 135) #[] #[]]) .z (by decide) ⟨rfl, by simp [Value.oneCell']⟩ ⟨rfl, by simp [Value.oneCell']⟩ Tryz.sizeOf104 rfl rfl rfl ?_
      refine nwt [(0, _)] ⟨rfl, trivial⟩ ?_
      refine at_ret ?_
      refine at_resI1 rfl (res_cell (c := cK 3 (by decide)) (y := ⟨[.func (.func 133) #[] #[], .func (.func 134) #[] #[], .func (.func 135) #[] #[]], rfl, by simp [Value.oneCell']⟩) rfl .z (Lens.whole _ _) Tryz.isAgg104 Tryz.sizeOf104 (.inl rfl)) ?_
      refine at_callI Tryz.func78 rfl (by kernel_rfl) rfl rfl rfl rfl ?_
      refine at_drop (H := _) .z ?_
      refine at_weak [] trivial ?_
      refine sr ?_
      refine at_alloc (cs := [.nilFunc, .nilFunc, .nilFunc]) Tryz.zeroValue104 rfl rfl ?_
      intro b70
      refine nws [(0, _)] ⟨rfl, trivial⟩ ?_
      refine av rfl (r_build_struct (zs := [.nilFunc, .nilFunc, .nilFunc]) (cs := [.func (.func 125) #[] #[], .func (.func 127) #[] #[], .func (.func 129) #[] #[]]) Tryz.underlying104 Tryz.zeroValue104 rfl placesR_104 rfl rfl) ?_
      refine at_storeAll (k := 3) (cs := [.func (.func 125) #[] #[], .func (.func 127) #[] #[], .func (.func 129) #[] #[]]) .z (by decide) ⟨rfl, by simp [Value.oneCell']⟩ ⟨rfl, by simp [Value.oneCell']⟩ Tryz.sizeOf104 rfl rfl rfl ?_
      refine nwt [(0, _)] ⟨rfl, trivial⟩ ?_
      refine at_ret ?_
      refine at_resI1 rfl (res_cell (c := cK 3 (by decide)) (y := ⟨[.func (.func 125) #[] #[], .func (.func 127) #[] #[], .func (.func 129) #[] #[]], rfl, by simp [Value.oneCell']⟩) rfl .z (Lens.whole _ _) Tryz.isAgg104 Tryz.sizeOf104 (.inl rfl)) ?_
      refine at_callI Tryz.func79 rfl (by kernel_rfl) rfl rfl rfl rfl ?_
      refine at_drop (H := _) .z ?_
      refine at_weak [] trivial ?_
      refine sr ?_
      refine at_alloc (cs := [.nilFunc, .nilFunc, .nilFunc]) Tryz.zeroValue104 rfl rfl ?_
      intro b71
      refine nws [(0, _)] ⟨rfl, trivial⟩ ?_
      refine av rfl (r_build_struct (zs := [.nilFunc, .nilFunc, .nilFunc]) (cs := [.func (.func 130) #[] #[], .func (.func 131) #[] #[], .func (.func 132) #[] #[]]) Tryz.underlying104 Tryz.zeroValue104 rfl placesR_104 rfl rfl) ?_
      refine at_storeAll (k := 3) (cs := [.func (.func 130) #[] #[], .func (.func 131) #[] #[], .func (.func 132) #[] #[]]) .z (by decide) ⟨rfl, by simp [Value.oneCell']⟩ ⟨rfl, by simp [Value.oneCell']⟩ Tryz.sizeOf104 rfl rfl rfl ?_
      refine nwt [(0, _)] ⟨rfl, trivial⟩ ?_
      refine at_ret ?_
      refine at_resI1 rfl (res_cell (c := cK 3 (by decide)) (y := ⟨[.func (.func 130) #[] #[], .func (.func 131) #[] #[], .func (.func 132) #[] #[]], rfl, by simp [Value.oneCell']⟩) rfl .z (Lens.whole _ _) Tryz.isAgg104 Tryz.sizeOf104 (.inl rfl)) ?_
      refine at_litG (cs := [.func (.func 133) #[] #[], .func (.func 134) #[] #[], .func (.func 135) #[] #[], .func (.func 125) #[] #[], .func (.func 127) #[] #[], .func (.func 129) #[] #[], .func (.func 130) #[] #[], .func (.func 131) #[] #[], .func (.func 132) #[] #[]]) Tryz.underlying96 Tryz.sizeOf104 Tryz.zeroValue104 rfl rfl rfl (by kernel_rfl) rfl ?_
      intro b72
      refine av rfl (r_build_struct (zs := [.string (⟨#[]⟩), .slice none 0 0]) (cs := [.string (⟨#[105, 110]⟩), .slice (some ⟨b72, 0, none⟩) 3 3]) Tryz.underlying98 Tryz.zeroValue98 rfl placesR_98 rfl rfl) ?_
      refine at_storeAll (k := 2) (cs := [.string (⟨#[105, 110]⟩), .slice (some ⟨b72, 0, none⟩) 3 3]) (.s (.s .z)) (by decide) ⟨rfl, by simp [Value.oneCell']⟩ ⟨rfl, by simp [Value.oneCell']⟩ Tryz.sizeOf98 rfl rfl rfl ?_
      refine av rfl (r_assign rfl) ?_
      refine at_nil ?_
      refine at_drop (H := _) (.s .z) ?_
      refine at_weak [(2, _), (3, _)] ⟨rfl, rfl, trivial⟩ ?_
      refine at_then_normal ?_
      refine at_ret ?_
      refine at_blk_ret (at_then_ret ?_)
      refine at_resI2 rfl (res_cell (c := cK 2 (by decide)) (y := ⟨[.string (⟨#[105, 110]⟩), .slice (some ⟨b72, 0, none⟩) 3 3], rfl, by simp [Value.oneCell']⟩) rfl (.s .z) (Lens.whole _ _) Tryz.isAgg98 Tryz.sizeOf98 (.inl rfl)) (res_tmp rfl) ?_
      refine av rfl (r_move rfl) ?_
      refine av rfl (r_extract rfl rfl) ?_
      refine av rfl (r_extract rfl rfl) ?_
      refine at_alloc (cs := [.string (⟨#[]⟩), .slice none 0 0]) Tryz.zeroValue98 rfl rfl ?_
      intro b73
      refine at_storeAll (k := 2) (cs := [.string (⟨#[105, 110]⟩), .slice (some ⟨b72, 0, none⟩) 3 3]) .z (by decide) ⟨rfl, by simp [Value.oneCell']⟩ ⟨rfl, by simp [Value.oneCell']⟩ Tryz.sizeOf98 rfl rfl rfl ?_
      refine av rfl (r_assign rfl) ?_
      refine at_nil ?_
      refine at_drop (H := _) (.s (.s .z)) ?_
      refine at_weak [(1, _), (4, _)] ⟨rfl, rfl, trivial⟩ ?_
      refine at_then_normal ?_
      refine sr ?_
      refine av rfl (r_fieldAddr (fo := 0) Tryz.underlying98 rfl rfl (fun w => ⟨_, Tryz.sizeOf9 w⟩) rfl) ?_
      refine av rfl (r_load_cell Tryz.isAgg9 rfl (fun w1 hw => cells_get (hw.ok (Upd.mem .z)) 0 _ rfl)) ?_
      refine at_lit (cs := cStr.all ([⟨#[105, 110]⟩] : List ByteArray)) Tryz.underlying38 Tryz.sizeOf9 Tryz.zeroValue9 rfl rfl rfl (by kernel_rfl) rfl ?_
      intro b74
      refine av rfl (r_assign rfl) ?_
      refine nwt [(1, _), (4, _), (6, _)] ⟨rfl, rfl, rfl, trivial⟩ ?_
      refine at_seq ?_
      refine sr ?_
      refine av rfl (r_fieldAddr (fo := 1) Tryz.underlying98 rfl rfl (fun w => ⟨_, Tryz.sizeOf96 w⟩) rfl) ?_
      refine av rfl (r_load_cell Tryz.isAgg96 rfl (fun w1 hw => cells_get (hw.ok (Upd.mem (.s .z))) 1 _ rfl)) ?_
      refine av rfl (r_len_sl Tryz.underlying96 rfl) ?_
      refine av rfl (r_move rfl) ?_
      refine at_nil ?_
      refine at_drop (H := _) (.s .z) ?_
      refine at_weak [(1, _), (6, _), (22, _), (23, _), (24, _)] ⟨rfl, rfl, rfl, rfl, rfl, trivial⟩ ?_
      refine at_then_normal ?_
      refine at_block ?_
      refine at_weak [(1, _), (6, _), (22, _), (23, _), (24, _)] ⟨rfl, rfl, rfl, rfl, rfl, trivial⟩ ?_
      refine at_loop ?_
      refine at_round ?_
      refine sr ?_
      refine av rfl (r_ilss rfl rfl) ?_
      refine at_fix (g := 25) rfl (show (decide (0 < 3)) = true from by decide) ?_
      refine nwt [(1, _), (6, _), (22, _), (23, _), (24, _), (25, _)] ⟨rfl, rfl, rfl, rfl, rfl, rfl, trivial⟩ ?_
      refine at_seq ?_
      refine at_cond_true rfl rfl ?_
      refine sn ?_
      refine at_seq ?_
      refine at_block ?_
      refine sr ?_
      refine av rfl (r_idx Tryz.underlying96 Tryz.sizeOf104 rfl rfl (by decide) rfl) ?_
      refine av rfl (r_load_agg (l := [.func (.func 133) #[] #[], .func (.func 134) #[] #[], .func (.func 135) #[] #[]]) Tryz.isAgg104 Tryz.sizeOf104 rfl rfl (fun w1 hw => cells_mid (pre := []) (suf := [.func (.func 125) #[] #[], .func (.func 127) #[] #[], .func (.func 129) #[] #[], .func (.func 130) #[] #[], .func (.func 131) #[] #[], .func (.func 132) #[] #[]]) (hw.ok (Upd.mem (.s .z))) rfl rfl)) ?_
      refine at_alloc (cs := [.nilFunc, .nilFunc, .nilFunc]) Tryz.zeroValue104 rfl rfl ?_
      intro b75
      refine at_storeAll (k := 3) (cs := [.func (.func 133) #[] #[], .func (.func 134) #[] #[], .func (.func 135) #[] #[]]) .z (by decide) ⟨rfl, by simp [Value.oneCell']⟩ ⟨rfl, by simp [Value.oneCell']⟩ Tryz.sizeOf104 rfl rfl rfl ?_
      refine nwt [(1, _), (6, _), (8, _), (22, _), (23, _), (24, _)] ⟨rfl, rfl, rfl, rfl, rfl, rfl, trivial⟩ ?_
      refine at_region ?_
      refine av rfl (r_move rfl) ?_
      refine av rfl (r_fieldAddr (fo := 0) Tryz.underlying104 rfl rfl (fun w => ⟨_, Tryz.sizeOf62 w⟩) rfl) ?_
      refine av rfl (r_load_cell Tryz.isAgg62 rfl (fun w1 hw => cells_get (hw.ok (Upd.mem .z)) 0 _ rfl)) ?_
      refine av rfl (r_load_aggc (c := c_api_Item) (z := (g0_, x0)) Tryz.isAgg33 Tryz.sizeOf33 rfl (lens_cell (.s (.s (.s .z))) (Lens.whole _ _))) ?_
      refine at_callee rfl ?_
      refine at_callI Tryz.func133 rfl (by kernel_rfl) rfl rfl rfl rfl ?_
      refine at_drop (H := _) .z ?_
      refine at_weak [(0, _)] ⟨rfl, trivial⟩ ?_
      refine sr ?_
      refine at_box (cs := Cd.cs c_api_Item (g0_, x0)) rfl rfl rfl ?_
      intro b76
      refine av rfl (r_assign rfl) ?_
      refine nws [(1, _)] ⟨rfl, trivial⟩ ?_
      refine av rfl (r_fieldAddr (fo := 2) Tryz.underlying33 rfl rfl (fun w => ⟨_, Tryz.sizeOf27 w⟩) rfl) ?_
      refine av rfl (r_load_aggc (c := c_api_Endpoint) (z := x0.f_From) Tryz.isAgg27 Tryz.sizeOf27 rfl (lens_cell .z (c_api_Item_f_From g0_ x0))) ?_
      obtain ⟨t77, ht77, hF⟩ := of_bindM hF
      refine at_callB Tryz.func101 rfl (by kernel_rfl) rfl rfl (fun w hw => hostport_Text_ok _ _ ht77 w (hg_strconv_uint64pow10.on hw.below)) ?_
      refine av rfl (r_assign rfl) ?_
      refine at_nil ?_
      refine at_drop (H := _) .z ?_
      refine at_weak [(2, _)] ⟨rfl, trivial⟩ ?_
      refine at_then_normal ?_
      refine at_ret ?_
      refine at_retI1 rfl rfl ?_
      refine at_lit (cs := cStr.all ([t77] : List ByteArray)) Tryz.underlying38 Tryz.sizeOf9 Tryz.zeroValue9 rfl rfl rfl (by kernel_rfl) rfl ?_
      intro b78
      refine at_lit_row (c := cStr) (xs := ([⟨#[105, 110]⟩] : List ByteArray)) (m := 1) (.s .z) rfl rfl ?_
      obtain ⟨h79, hF⟩ := of_guard hF
      refine at_append (z := .string ⟨#[]⟩) (c := cStr) (ys := ([t77] : List ByteArray)) (.s .z) Tryz.underlying38 infoSC9 (by kernel_rfl) (by kernel_rfl) rfl rfl rfl rfl (fun _ hw => cells_src (hw.ok (Upd.mem .z))) (by kernel_rfl) h79 (app_small h79) rfl ?_
      intro p80 c81
      refine av rfl (r_assign rfl) ?_
      refine at_nil ?_
      refine at_drop (H := _) .z ?_
      refine at_weak [(1, _), (6, _), (22, _), (23, _), (24, _)] ⟨rfl, rfl, rfl, rfl, rfl, trivial⟩ ?_
      refine at_blk_normal (at_then_normal ?_)
      refine at_region ?_
      refine av rfl (r_iadd rfl rfl) ?_
      refine at_ov (t := 35) rfl (show Value.int .i64 (wr .i64 (0 + 1)) = .int .i64 1 from by rfl) ?_
      refine av rfl (r_move rfl) ?_
      refine nwt [(1, _), (6, _), (22, _), (23, _), (24, _)] ⟨rfl, rfl, rfl, rfl, rfl, trivial⟩ ?_
      refine at_weak [(1, _), (6, _), (22, _), (23, _), (24, _)] ⟨rfl, rfl, rfl, rfl, rfl, trivial⟩ ?_
      refine at_round ?_
      refine sr ?_
      refine av rfl (r_ilss rfl rfl) ?_
      refine at_fix (g := 25) rfl (show (decide (1 < 3)) = true from by decide) ?_
      refine nwt [(1, _), (6, _), (22, _), (23, _), (24, _), (25, _)] ⟨rfl, rfl, rfl, rfl, rfl, rfl, trivial⟩ ?_
      refine at_seq ?_
      refine at_cond_true rfl rfl ?_
      refine sn ?_
      refine at_seq ?_
      refine at_block ?_
      refine sr ?_
      refine av rfl (r_idx Tryz.underlying96 Tryz.sizeOf104 rfl rfl (by decide) rfl) ?_
      refine av rfl (r_load_agg (l := [.func (.func 125) #[] #[], .func (.func 127) #[] #[], .func (.func 129) #[] #[]]) Tryz.isAgg104 Tryz.sizeOf104 rfl rfl (fun w1 hw => cells_mid (pre := [.func (.func 133) #[] #[], .func (.func 134) #[] #[], .func (.func 135) #[] #[]]) (suf := [.func (.func 130) #[] #[], .func (.func 131) #[] #[], .func (.func 132) #[] #[]]) (hw.ok (Upd.mem (.s .z))) rfl rfl)) ?_
      refine at_alloc (cs := [.nilFunc, .nilFunc, .nilFunc]) Tryz.zeroValue104 rfl rfl ?_
      intro b82
      refine at_storeAll (k := 3) (cs := [.func (.func 125) #[] #[], .func (.func 127) #[] #[], .func (.func 129) #[] #[]]) .z (by decide) ⟨rfl, by simp [Value.oneCell']⟩ ⟨rfl, by simp [Value.oneCell']⟩ Tryz.sizeOf104 rfl rfl rfl ?_
      refine nwt [(1, _), (6, _), (8, _), (22, _), (23, _), (24, _)] ⟨rfl, rfl, rfl, rfl, rfl, rfl, trivial⟩ ?_
      refine at_region ?_
      refine av rfl (r_move rfl) ?_
      refine av rfl (r_fieldAddr (fo := 0) Tryz.underlying104 rfl rfl (fun w => ⟨_, Tryz.sizeOf62 w⟩) rfl) ?_
      refine av rfl (r_load_cell Tryz.isAgg62 rfl (fun w1 hw => cells_get (hw.ok (Upd.mem .z)) 0 _ rfl)) ?_
      refine av rfl (r_load_aggc (c := c_api_Item) (z := (g0_, x0)) Tryz.isAgg33 Tryz.sizeOf33 rfl (lens_cell (.s (.s (.s .z))) (Lens.whole _ _))) ?_
      refine at_callee rfl ?_
      refine at_callI Tryz.func125 rfl (by kernel_rfl) rfl rfl rfl rfl ?_
      refine at_drop (H := _) .z ?_
      refine at_weak [(0, _)] ⟨rfl, trivial⟩ ?_
      refine sr ?_
      refine at_box (cs := Cd.cs c_api_Item (g0_, x0)) rfl rfl rfl ?_
      intro b83
      refine av rfl (r_assign rfl) ?_
      refine nws [(1, _)] ⟨rfl, trivial⟩ ?_
      refine av rfl (r_fieldAddr (fo := 1) Tryz.underlying33 rfl rfl (fun w => ⟨_, Tryz.sizeOf22 w⟩) rfl) ?_
      refine av rfl (r_load_cell Tryz.isAgg22 rfl (lens_cell0 (c := cHd) (y := ⟨g0_.1.1, List.length x0.f_Bytes, g0_.1.2⟩) .z (c_api_Item_f_Bytes g0_ x0) rfl)) ?_
      obtain ⟨t84, ht84, hF⟩ := of_bindM hF
      refine at_callB Tryz.func126 rfl (by kernel_rfl) rfl rfl (fun w hw => script_word_ok _ _ _ _ ht84 w ((hn0).1.below hw.below)) ?_
      refine av rfl (r_assign rfl) ?_
      refine at_nil ?_
      refine at_drop (H := _) .z ?_
      refine at_weak [(2, _)] ⟨rfl, trivial⟩ ?_
      refine at_then_normal ?_
      refine at_ret ?_
      refine at_retI1 rfl rfl ?_
      refine at_lit (cs := cStr.all ([t84] : List ByteArray)) Tryz.underlying38 Tryz.sizeOf9 Tryz.zeroValue9 rfl rfl rfl (by kernel_rfl) rfl ?_
      intro b85
      obtain ⟨h86, hF⟩ := of_guard hF
      refine at_append (z := .string ⟨#[]⟩) (c := cStr) (ys := ([t84] : List ByteArray)) (.s .z) Tryz.underlying38 infoSC9 (by kernel_rfl) (by kernel_rfl) rfl rfl rfl rfl (fun _ hw => cells_src (hw.ok (Upd.mem .z))) (by kernel_rfl) h86 (app_small h86) rfl ?_
      intro p87 c88
      refine av rfl (r_assign rfl) ?_
      refine at_nil ?_
      refine at_drop (H := _) .z ?_
      refine at_weak [(1, _), (6, _), (22, _), (23, _), (24, _)] ⟨rfl, rfl, rfl, rfl, rfl, trivial⟩ ?_
      refine at_blk_normal (at_then_normal ?_)
      refine at_region ?_
      refine av rfl (r_iadd rfl rfl) ?_
      refine at_ov (t := 35) rfl (show Value.int .i64 (wr .i64 (1 + 1)) = .int .i64 2 from by rfl) ?_
      refine av rfl (r_move rfl) ?_
      refine nwt [(1, _), (6, _), (22, _), (23, _), (24, _)] ⟨rfl, rfl, rfl, rfl, rfl, trivial⟩ ?_
      refine at_weak [(1, _), (6, _), (22, _), (23, _), (24, _)] ⟨rfl, rfl, rfl, rfl, rfl, trivial⟩ ?_
      refine at_round ?_
      refine sr ?_
      refine av rfl (r_ilss rfl rfl) ?_
      refine at_fix (g := 25) rfl (show (decide (2 < 3)) = true from by decide) ?_
      refine nwt [(1, _), (6, _), (22, _), (23, _), (24, _), (25, _)] ⟨rfl, rfl, rfl, rfl, rfl, rfl, trivial⟩ ?_
      refine at_seq ?_
      refine at_cond_true rfl rfl ?_
      refine sn ?_
      refine at_seq ?_
      refine at_block ?_
      refine sr ?_
      refine av rfl (r_idx Tryz.underlying96 Tryz.sizeOf104 rfl rfl (by decide) rfl) ?_
      refine av rfl (r_load_agg (l := [.func (.func 130) #[] #[], .func (.func 131) #[] #[], .func (.func 132) #[] #[]]) Tryz.isAgg104 Tryz.sizeOf104 rfl rfl (fun w1 hw => cells_mid (pre := [.func (.func 133) #[] #[], .func (.func 134) #[] #[], .func (.func 135) #[] #[], .func (.func 125) #[] #[], .func (.func 127) #[] #[], .func (.func 129) #[] #[]]) (suf := []) (hw.ok (Upd.mem (.s .z))) rfl rfl)) ?_
      refine at_alloc (cs := [.nilFunc, .nilFunc, .nilFunc]) Tryz.zeroValue104 rfl rfl ?_
      intro b89
      refine at_storeAll (k := 3) (cs := [.func (.func 130) #[] #[], .func (.func 131) #[] #[], .func (.func 132) #[] #[]]) .z (by decide) ⟨rfl, by simp [Value.oneCell']⟩ ⟨rfl, by simp [Value.oneCell']⟩ Tryz.sizeOf104 rfl rfl rfl ?_
      refine nwt [(1, _), (6, _), (8, _), (22, _), (23, _), (24, _)] ⟨rfl, rfl, rfl, rfl, rfl, rfl, trivial⟩ ?_
      refine at_region ?_
      refine av rfl (r_move rfl) ?_
      refine av rfl (r_fieldAddr (fo := 0) Tryz.underlying104 rfl rfl (fun w => ⟨_, Tryz.sizeOf62 w⟩) rfl) ?_
      refine av rfl (r_load_cell Tryz.isAgg62 rfl (fun w1 hw => cells_get (hw.ok (Upd.mem .z)) 0 _ rfl)) ?_
      refine av rfl (r_load_aggc (c := c_api_Item) (z := (g0_, x0)) Tryz.isAgg33 Tryz.sizeOf33 rfl (lens_cell (.s (.s (.s .z))) (Lens.whole _ _))) ?_
      refine at_callee rfl ?_
      refine at_callI Tryz.func130 rfl (by kernel_rfl) rfl rfl rfl rfl ?_
      refine at_drop (H := _) .z ?_
      refine at_weak [(0, _)] ⟨rfl, trivial⟩ ?_
      refine sr ?_
      refine at_box (cs := Cd.cs c_api_Item (g0_, x0)) rfl rfl rfl ?_
      intro b90
      refine av rfl (r_assign rfl) ?_
      refine nwt [(1, _)] ⟨rfl, trivial⟩ ?_
      refine at_seq ?_
      refine sr ?_
      refine av rfl (r_fieldAddr (fo := 21) Tryz.underlying33 rfl rfl (fun w => ⟨_, Tryz.sizeOf4 w⟩) rfl) ?_
      refine av rfl (r_load_cell Tryz.isAgg4 rfl (lens_cell0 (c := cBool) (y := x0.f_Ok) .z (c_api_Item_f_Ok g0_ x0) rfl)) ?_
      refine av rfl (r_not rfl) ?_
      refine nwt [(1, _), (5, _)] ⟨rfl, rfl, trivial⟩ ?_
      rcases of_ite hF with ⟨h91, hF⟩ | ⟨h91, hF⟩
      ·refine at_cond_true rfl h91 ?_
       refine sr ?_
       refine av rfl (r_assign rfl) ?_
       refine at_nil ?_
       refine at_drop (H := _) .z ?_
       refine at_weak [(2, _)] ⟨rfl, trivial⟩ ?_
       refine at_then_normal ?_
       refine rt ?_
       refine at_retI1 rfl rfl ?_
       refine at_lit (cs := cStr.all ([⟨#[33]⟩] : List ByteArray)) Tryz.underlying38 Tryz.sizeOf9 Tryz.zeroValue9 rfl rfl rfl (by kernel_rfl) rfl ?_
       intro b92
       obtain ⟨h93, hF⟩ := of_guard hF
       refine at_append (z := .string ⟨#[]⟩) (c := cStr) (ys := ([⟨#[33]⟩] : List ByteArray)) (.s .z) Tryz.underlying38 infoSC9 (by kernel_rfl) (by kernel_rfl) rfl rfl rfl rfl (fun _ hw => cells_src (hw.ok (Upd.mem .z))) (by kernel_rfl) h93 (app_small h93) rfl ?_
       intro p94 c95
       refine av rfl (r_assign rfl) ?_
       refine at_nil ?_
       refine at_drop (H := _) .z ?_
       refine at_weak [(1, _), (6, _), (22, _), (23, _), (24, _)] ⟨rfl, rfl, rfl, rfl, rfl, trivial⟩ ?_
       refine at_blk_normal (at_then_normal ?_)
       refine at_region ?_
       refine av rfl (r_iadd rfl rfl) ?_
       refine at_ov (t := 35) rfl (show Value.int .i64 (wr .i64 (2 + 1)) = .int .i64 3 from by rfl) ?_
       refine av rfl (r_move rfl) ?_
       refine nwt [(1, _), (6, _), (22, _), (23, _), (24, _)] ⟨rfl, rfl, rfl, rfl, rfl, trivial⟩ ?_
       refine at_weak [(1, _), (6, _), (22, _), (23, _), (24, _)] ⟨rfl, rfl, rfl, rfl, rfl, trivial⟩ ?_
       refine at_round ?_
       refine sr ?_
       refine av rfl (r_ilss rfl rfl) ?_
       refine at_fix (g := 25) rfl (show (decide (3 < 3)) = false from by decide) ?_
       refine nwt [(1, _), (6, _), (22, _), (23, _), (24, _), (25, _)] ⟨rfl, rfl, rfl, rfl, rfl, rfl, trivial⟩ ?_
       refine at_seq ?_
       refine at_cond_false rfl rfl ?_
       refine at_exit ?_
       refine at_then_exit (at_then_exit ?_)
       refine at_blk_same ?_
       refine at_drop (H := _) (.s .z) ?_
       refine at_drop (H := _) (.s .z) ?_
       refine at_weak [(6, _)] ⟨rfl, trivial⟩ ?_
       refine at_then_normal ?_
       refine sr ?_
       refine av rfl (r_move rfl) ?_
       obtain ⟨h96, hF⟩ := of_guard hF
       obtain ⟨h97, hF⟩ := of_guard hF
       refine at_callB Tryz.func47 rfl (by kernel_rfl) rfl rfl (fun w1 hw => join_ok _ _ h96 h97 _ _ w1 (hw.own .z).row) ?_
       refine av rfl (r_assign rfl) ?_
       refine av rfl (r_assign rfl) ?_
       refine at_nil ?_
       refine at_drop (H := _) .z ?_
       refine at_weak [(2, _), (3, _)] ⟨rfl, rfl, trivial⟩ ?_
       refine at_then_normal ?_
       refine at_ret ?_
       have K := of_some hF
       subst K
       exact at_return2 rfl rfl rfl (fun w1 hw => ⟨rfl, hw.below⟩)
      ·refine at_cond_false rfl h91 ?_
       refine sns ?_
       refine av rfl (r_fieldAddr (fo := 20) Tryz.underlying33 rfl rfl (fun w => ⟨_, Tryz.sizeOf22 w⟩) rfl) ?_
       refine av rfl (r_load_cell Tryz.isAgg22 rfl (lens_cell0 (c := cHd) (y := ⟨g0_.2.1, List.length x0.f_Result, g0_.2.2⟩) .z (c_api_Item_f_Result g0_ x0) rfl)) ?_
       obtain ⟨t98, ht98, hF⟩ := of_bindM hF
       refine at_callB Tryz.func126 rfl (by kernel_rfl) rfl rfl (fun w hw => script_word_ok _ _ _ _ ht98 w ((hn0).2.below hw.below)) ?_
       refine av rfl (r_assign rfl) ?_
       refine at_nil ?_
       refine at_drop (H := _) .z ?_
       refine at_weak [(2, _)] ⟨rfl, trivial⟩ ?_
       refine at_then_normal ?_
       refine at_ret ?_
       refine at_retI1 rfl rfl ?_
       refine at_lit (cs := cStr.all ([t98] : List ByteArray)) Tryz.underlying38 Tryz.sizeOf9 Tryz.zeroValue9 rfl rfl rfl (by kernel_rfl) rfl ?_
       intro b99
       obtain ⟨h100, hF⟩ := of_guard hF
       refine at_append (z := .string ⟨#[]⟩) (c := cStr) (ys := ([t98] : List ByteArray)) (.s .z) Tryz.underlying38 infoSC9 (by kernel_rfl) (by kernel_rfl) rfl rfl rfl rfl (fun _ hw => cells_src (hw.ok (Upd.mem .z))) (by kernel_rfl) h100 (app_small h100) rfl ?_
       intro p101 c102
       refine av rfl (r_assign rfl) ?_
       refine at_nil ?_
       refine at_drop (H := _) .z ?_
       refine at_weak [(1, _), (6, _), (22, _), (23, _), (24, _)] ⟨rfl, rfl, rfl, rfl, rfl, trivial⟩ ?_
       refine at_blk_normal (at_then_normal ?_)
       refine at_region ?_
       refine av rfl (r_iadd rfl rfl) ?_
       refine at_ov (t := 35) rfl (show Value.int .i64 (wr .i64 (2 + 1)) = .int .i64 3 from by rfl) ?_
       refine av rfl (r_move rfl) ?_
       refine nwt [(1, _), (6, _), (22, _), (23, _), (24, _)] ⟨rfl, rfl, rfl, rfl, rfl, trivial⟩ ?_
       refine at_weak [(1, _), (6, _), (22, _), (23, _), (24, _)] ⟨rfl, rfl, rfl, rfl, rfl, trivial⟩ ?_
       refine at_round ?_
       refine sr ?_
       refine av rfl (r_ilss rfl rfl) ?_
       refine at_fix (g := 25) rfl (show (decide (3 < 3)) = false from by decide) ?_
       refine nwt [(1, _), (6, _), (22, _), (23, _), (24, _), (25, _)] ⟨rfl, rfl, rfl, rfl, rfl, rfl, trivial⟩ ?_
       refine at_seq ?_
       refine at_cond_false rfl rfl ?_
       refine at_exit ?_
       refine at_then_exit (at_then_exit ?_)
       refine at_blk_same ?_
       refine at_drop (H := _) (.s .z) ?_
       refine at_drop (H := _) (.s .z) ?_
       refine at_weak [(6, _)] ⟨rfl, trivial⟩ ?_
       refine at_then_normal ?_
       refine sr ?_
       refine av rfl (r_move rfl) ?_
       obtain ⟨h103, hF⟩ := of_guard hF
       obtain ⟨h104, hF⟩ := of_guard hF
       refine at_callB Tryz.func47 rfl (by kernel_rfl) rfl rfl (fun w1 hw => join_ok _ _ h103 h104 _ _ w1 (hw.own .z).row) ?_
       refine av rfl (r_assign rfl) ?_
       refine av rfl (r_assign rfl) ?_
       refine at_nil ?_
       refine at_drop (H := _) .z ?_
       refine at_weak [(2, _), (3, _)] ⟨rfl, rfl, trivial⟩ ?_
       refine at_then_normal ?_
       refine at_ret ?_
       have K := of_some hF
       subst K
       exact at_return2 rfl rfl rfl (fun w1 hw => ⟨rfl, hw.below⟩)
     ·refine at_cond_false rfl h68 ?_
      refine sr ?_
      refine av rfl (r_ieql rfl rfl) ?_
      refine av rfl (r_assign rfl) ?_
      refine nwt [(2, _), (4, _), (5, _), (8, _), (32, _)] ⟨rfl, rfl, rfl, rfl, rfl, trivial⟩ ?_
      rcases of_ite hF with ⟨h105, hF⟩ | ⟨h105, hF⟩
      ·refine at_cond_true rfl h105 ?_
       refine at_seq ?_
       refine at_weak [(2, _), (4, _), (5, _)] ⟨rfl, rfl, rfl, trivial⟩ ?_
       refine at_inv [.q 34 (fun g107 => .agg #[.func (.func 136) #[] #[], .func (.func 137) #[] #[], .func (.func 138) #[] #[]]) [] 0 0, .q 35 (fun g107 => .agg #[.func (.func 122) #[] #[.pointer (some ⟨b5, 0, none⟩)], .func (.func 123) #[] #[.pointer (some ⟨b5, 0, none⟩)], .func (.func 124) #[] #[.pointer (some ⟨b5, 0, none⟩)]]) [] 0 0, .q 36 (fun g107 => .agg #[.func (.func 122) #[] #[.pointer (some ⟨b8, 0, none⟩)], .func (.func 123) #[] #[.pointer (some ⟨b8, 0, none⟩)], .func (.func 124) #[] #[.pointer (some ⟨b8, 0, none⟩)]]) [] 0 0, .q 37 (fun g107 => .agg #[.func (.func 139) #[] #[], .func (.func 140) #[] #[], .func (.func 141) #[] #[]]) [] 0 0, .al 0 38 (fun g107 => .slice (some ⟨((g107 0).1), 0, none⟩) 4 4) [0, 1, 2, 3], .q 39 (fun g107 => .agg #[.string (⟨#[105, 110, 115, 116, 97, 108, 108]⟩), .slice (some ⟨((g107 0).1), 0, none⟩) 4 4]) [4] 1 1, .st 1 none [5], .q 3 (fun g107 => .bool true) [] 2 2] (fun g107 s => match s with | 0 => (Wd w [cellsE b10 [.func (.func 122) #[] #[.pointer (some ⟨b8, 0, none⟩)], .func (.func 123) #[] #[.pointer (some ⟨b8, 0, none⟩)], .func (.func 124) #[] #[.pointer (some ⟨b8, 0, none⟩)]] 104, cellsE b8 [.func (.func 77) #[] #[]] 133, cellsE b7 [.func (.func 122) #[] #[.pointer (some ⟨b5, 0, none⟩)], .func (.func 123) #[] #[.pointer (some ⟨b5, 0, none⟩)], .func (.func 124) #[] #[.pointer (some ⟨b5, 0, none⟩)]] 104, cellsE b5 [.func (.func 76) #[] #[]] 133, cellsE b4 [.string (⟨#[]⟩), .slice none 0 0] 98, cellsE b1 (Cd.cs c_api_Item (g0_, x0)) 33]) | 1 => (Wd w [cellsE ((g107 0).1) [.func (.func 136) #[] #[], .func (.func 137) #[] #[], .func (.func 138) #[] #[], .func (.func 122) #[] #[.pointer (some ⟨b5, 0, none⟩)], .func (.func 123) #[] #[.pointer (some ⟨b5, 0, none⟩)], .func (.func 124) #[] #[.pointer (some ⟨b5, 0, none⟩)], .func (.func 122) #[] #[.pointer (some ⟨b8, 0, none⟩)], .func (.func 123) #[] #[.pointer (some ⟨b8, 0, none⟩)], .func (.func 124) #[] #[.pointer (some ⟨b8, 0, none⟩)], .func (.func 139) #[] #[], .func (.func 140) #[] #[], .func (.func 141) #[] #[]] 104, cellsE b10 [.func (.func 122) #[] #[.pointer (some ⟨b8, 0, none⟩)], .func (.func 123) #[] #[.pointer (some ⟨b8, 0, none⟩)], .func (.func 124) #[] #[.pointer (some ⟨b8, 0, none⟩)]] 104, cellsE b8 [.func (.func 77) #[] #[]] 133, cellsE b7 [.func (.func 122) #[] #[.pointer (some ⟨b5, 0, none⟩)], .func (.func 123) #[] #[.pointer (some ⟨b5, 0, none⟩)], .func (.func 124) #[] #[.pointer (some ⟨b5, 0, none⟩)]] 104, cellsE b5 [.func (.func 76) #[] #[]] 133, cellsE b4 [.string (⟨#[]⟩), .slice none 0 0] 98, cellsE b1 (Cd.cs c_api_Item (g0_, x0)) 33]) | _ => (Wd w [cellsE ((g107 0).1) [.func (.func 136) #[] #[], .func (.func 137) #[] #[], .func (.func 138) #[] #[], .func (.func 122) #[] #[.pointer (some ⟨b5, 0, none⟩)], .func (.func 123) #[] #[.pointer (some ⟨b5, 0, none⟩)], .func (.func 124) #[] #[.pointer (some ⟨b5, 0, none⟩)], .func (.func 122) #[] #[.pointer (some ⟨b8, 0, none⟩)], .func (.func 123) #[] #[.pointer (some ⟨b8, 0, none⟩)], .func (.func 124) #[] #[.pointer (some ⟨b8, 0, none⟩)], .func (.func 139) #[] #[], .func (.func 140) #[] #[], .func (.func 141) #[] #[]] 104, cellsE b10 [.func (.func 122) #[] #[.pointer (some ⟨b8, 0, none⟩)], .func (.func 123) #[] #[.pointer (some ⟨b8, 0, none⟩)], .func (.func 124) #[] #[.pointer (some ⟨b8, 0, none⟩)]] 104, cellsE b8 [.func (.func 77) #[] #[]] 133, cellsE b7 [.func (.func 122) #[] #[.pointer (some ⟨b5, 0, none⟩)], .func (.func 123) #[] #[.pointer (some ⟨b5, 0, none⟩)], .func (.func 124) #[] #[.pointer (some ⟨b5, 0, none⟩)]] 104, cellsE b5 [.func (.func 76) #[] #[]] 133, cellsE b4 [.string (⟨#[105, 110, 115, 116, 97, 108, 108]⟩), .slice (some ⟨((g107 0).1), 0, none⟩) 4 4] 98, cellsE b1 (Cd.cs c_api_Item (g0_, x0)) 33])) 2 (by kernel_rfl) (by kernel_rfl) (by kernel_rfl) (by kernel_rfl) (by kernel_rfl) ⟨fun _ _ _ => rfl, fun _ _ _ => rfl, fun _ _ _ => rfl, fun _ _ _ => rfl, fun g107 g2 h => by show (.slice (some ⟨((g107 0).1), 0, none⟩) 4 4 : Value) = .slice (some ⟨((g2 0).1), 0, none⟩) 4 4; rw [h 0 (show 0 < 1 by decide)], fun g107 g2 h => by show (.agg #[.string (⟨#[105, 110, 115, 116, 97, 108, 108]⟩), .slice (some ⟨((g107 0).1), 0, none⟩) 4 4] : Value) = .agg #[.string (⟨#[105, 110, 115, 116, 97, 108, 108]⟩), .slice (some ⟨((g2 0).1), 0, none⟩) 4 4]; rw [h 0 (show 0 < 1 by decide)], fun _ _ _ => rfl, fun _ _ _ => rfl, trivial⟩ (by kernel_rfl) (fun w_ h => ⟨fun _ => g3 0 none 0 none w_, h.drew⟩) ⟨?_, ?_, ?_, ?_, ?_, ?_, ?_, ?_, trivial⟩ ?_
       ·intro Lx g107 s K hl hh k
        show At 46 ((2, _) :: (4, _) :: (5, _) :: Lx) _ _
        obtain rfl : s = 0 := by omega
        refine at_callB Tryz.func81 rfl (by kernel_rfl) rfl rfl (fun w1 hw => script_key_ok () rfl w1) ?_
        exact at_nil k
       ·intro Lx g107 s K hl hh k
        show At 46 ((2, _) :: (4, _) :: (5, _) :: Lx) _ _
        obtain rfl : s = 0 := by omega
        refine av rfl (r_load_agg (l := [.func (.func 122) #[] #[.pointer (some ⟨b5, 0, none⟩)], .func (.func 123) #[] #[.pointer (some ⟨b5, 0, none⟩)], .func (.func 124) #[] #[.pointer (some ⟨b5, 0, none⟩)]]) Tryz.isAgg104 Tryz.sizeOf104 rfl rfl (fun w1 hw => cells_mid (pre := []) (suf := []) (hw.ok (Upd.mem (.s (.s .z)))) (List.append_nil _).symm rfl)) ?_
        exact at_nil k
       ·intro Lx g107 s K hl hh k
        show At 46 ((2, _) :: (4, _) :: (5, _) :: Lx) _ _
        obtain rfl : s = 0 := by omega
        refine av rfl (r_load_agg (l := [.func (.func 122) #[] #[.pointer (some ⟨b8, 0, none⟩)], .func (.func 123) #[] #[.pointer (some ⟨b8, 0, none⟩)], .func (.func 124) #[] #[.pointer (some ⟨b8, 0, none⟩)]]) Tryz.isAgg104 Tryz.sizeOf104 rfl rfl (fun w1 hw => cells_mid (pre := []) (suf := []) (hw.ok (Upd.mem .z)) (List.append_nil _).symm rfl)) ?_
        exact at_nil k
       ·intro Lx g107 s K hl hh k
        show At 46 ((2, _) :: (4, _) :: (5, _) :: Lx) _ _
        obtain rfl : s = 0 := by omega
        refine at_callB Tryz.func82 rfl (by kernel_rfl) rfl rfl (fun w1 hw => script_next_ok () rfl w1) ?_
        exact at_nil k
       ·intro Lx g107 K k
        show At 46 ((34, _) :: (35, _) :: (36, _) :: (37, _) :: (2, _) :: (4, _) :: (5, _) :: Lx) _ _
        refine at_litG (cs := [.func (.func 136) #[] #[], .func (.func 137) #[] #[], .func (.func 138) #[] #[], .func (.func 122) #[] #[.pointer (some ⟨b5, 0, none⟩)], .func (.func 123) #[] #[.pointer (some ⟨b5, 0, none⟩)], .func (.func 124) #[] #[.pointer (some ⟨b5, 0, none⟩)], .func (.func 122) #[] #[.pointer (some ⟨b8, 0, none⟩)], .func (.func 123) #[] #[.pointer (some ⟨b8, 0, none⟩)], .func (.func 124) #[] #[.pointer (some ⟨b8, 0, none⟩)], .func (.func 139) #[] #[], .func (.func 140) #[] #[], .func (.func 141) #[] #[]]) Tryz.underlying96 Tryz.sizeOf104 Tryz.zeroValue104 rfl rfl rfl (by kernel_rfl) rfl ?_
        intro b106
        exact at_nil (k (g3 b106 none 0 none w))
       ·intro Lx g107 s K hl hh k
        show At 46 ((38, _) :: (2, _) :: (4, _) :: (5, _) :: Lx) _ _
        obtain rfl : s = 1 := by omega
        refine av rfl (r_build_struct (zs := [.string (⟨#[]⟩), .slice none 0 0]) (cs := [.string (⟨#[105, 110, 115, 116, 97, 108, 108]⟩), .slice (some ⟨((g107 0).1), 0, none⟩) 4 4]) Tryz.underlying98 Tryz.zeroValue98 rfl placesR_98 rfl rfl) ?_
        exact at_nil k
       ·intro Lx g107 K k
        show At 46 ((39, _) :: (2, _) :: (4, _) :: (5, _) :: Lx) _ _
        refine at_storeAll (k := 2) (cs := [.string (⟨#[105, 110, 115, 116, 97, 108, 108]⟩), .slice (some ⟨((g107 0).1), 0, none⟩) 4 4]) (.s (.s (.s (.s (.s .z))))) (by decide) ⟨rfl, by simp [Value.oneCell']⟩ ⟨rfl, by simp [Value.oneCell']⟩ Tryz.sizeOf98 rfl rfl rfl ?_
        exact at_nil k
       ·intro Lx g107 s K hl hh k
        show At 46 ((2, _) :: (4, _) :: (5, _) :: Lx) _ _
        refine av rfl (r_assign rfl) ?_
        exact at_nil k
       intro g107
       show At 46 [(34, _), (35, _), (36, _), (37, _), (38, _), (39, _), (3, _), (2, _), (4, _), (5, _)] _ _
       refine at_drop (H := _) (.s .z) ?_
       refine at_drop (H := _) (.s (.s .z)) ?_
       refine at_weak [(2, _), (3, _)] ⟨rfl, rfl, trivial⟩ ?_
       refine at_then_normal ?_
       refine at_ret ?_
       refine at_blk_ret (at_then_ret ?_)
       refine at_resI2 rfl (res_cell (c := cK 2 (by decide)) (y := ⟨[.string (⟨#[105, 110, 115, 116, 97, 108, 108]⟩), .slice (some ⟨(g107 0).1, 0, none⟩) 4 4], rfl, by simp [Value.oneCell']⟩) rfl (.s (.s (.s .z))) (Lens.whole _ _) Tryz.isAgg98 Tryz.sizeOf98 (.inl rfl)) (res_tmp rfl) ?_
       refine av rfl (r_move rfl) ?_
       refine av rfl (r_extract rfl rfl) ?_
       refine av rfl (r_extract rfl rfl) ?_
       refine at_alloc (cs := [.string (⟨#[]⟩), .slice none 0 0]) Tryz.zeroValue98 rfl rfl ?_
       intro b108
       refine at_storeAll (k := 2) (cs := [.string (⟨#[105, 110, 115, 116, 97, 108, 108]⟩), .slice (some ⟨(g107 0).1, 0, none⟩) 4 4]) .z (by decide) ⟨rfl, by simp [Value.oneCell']⟩ ⟨rfl, by simp [Value.oneCell']⟩ Tryz.sizeOf98 rfl rfl rfl ?_
       refine av rfl (r_assign rfl) ?_
       refine at_nil ?_
       refine at_drop (H := _) (.s (.s (.s (.s .z)))) ?_
       refine at_weak [(1, _), (4, _)] ⟨rfl, rfl, trivial⟩ ?_
       refine at_then_normal ?_
       refine sr ?_
       refine av rfl (r_fieldAddr (fo := 0) Tryz.underlying98 rfl rfl (fun w => ⟨_, Tryz.sizeOf9 w⟩) rfl) ?_
       refine av rfl (r_load_cell Tryz.isAgg9 rfl (fun w1 hw => cells_get (hw.ok (Upd.mem .z)) 0 _ rfl)) ?_
       refine at_lit (cs := cStr.all ([⟨#[105, 110, 115, 116, 97, 108, 108]⟩] : List ByteArray)) Tryz.underlying38 Tryz.sizeOf9 Tryz.zeroValue9 rfl rfl rfl (by kernel_rfl) rfl ?_
       intro b109
       refine av rfl (r_assign rfl) ?_
       refine nwt [(1, _), (4, _), (6, _)] ⟨rfl, rfl, rfl, trivial⟩ ?_
       refine at_seq ?_
       refine sr ?_
       refine av rfl (r_fieldAddr (fo := 1) Tryz.underlying98 rfl rfl (fun w => ⟨_, Tryz.sizeOf96 w⟩) rfl) ?_
       refine av rfl (r_load_cell Tryz.isAgg96 rfl (fun w1 hw => cells_get (hw.ok (Upd.mem (.s .z))) 1 _ rfl)) ?_
       refine av rfl (r_len_sl Tryz.underlying96 rfl) ?_
       refine av rfl (r_move rfl) ?_
       refine at_nil ?_
       refine at_drop (H := _) (.s .z) ?_
       refine at_weak [(1, _), (6, _), (22, _), (23, _), (24, _)] ⟨rfl, rfl, rfl, rfl, rfl, trivial⟩ ?_
       refine at_then_normal ?_
       refine at_block ?_
       refine at_weak [(1, _), (6, _), (22, _), (23, _), (24, _)] ⟨rfl, rfl, rfl, rfl, rfl, trivial⟩ ?_
       refine at_loop ?_
       refine at_round ?_
       refine sr ?_
       refine av rfl (r_ilss rfl rfl) ?_
       refine at_fix (g := 25) rfl (show (decide (0 < 4)) = true from by decide) ?_
       refine nwt [(1, _), (6, _), (22, _), (23, _), (24, _), (25, _)] ⟨rfl, rfl, rfl, rfl, rfl, rfl, trivial⟩ ?_
       refine at_seq ?_
       refine at_cond_true rfl rfl ?_
       refine sn ?_
       refine at_seq ?_
       refine at_block ?_
       refine sr ?_
       refine av rfl (r_idx Tryz.underlying96 Tryz.sizeOf104 rfl rfl (by decide) rfl) ?_
       refine av rfl (r_load_agg (l := [.func (.func 136) #[] #[], .func (.func 137) #[] #[], .func (.func 138) #[] #[]]) Tryz.isAgg104 Tryz.sizeOf104 rfl rfl (fun w1 hw => cells_mid (pre := []) (suf := [.func (.func 122) #[] #[.pointer (some ⟨b5, 0, none⟩)], .func (.func 123) #[] #[.pointer (some ⟨b5, 0, none⟩)], .func (.func 124) #[] #[.pointer (some ⟨b5, 0, none⟩)], .func (.func 122) #[] #[.pointer (some ⟨b8, 0, none⟩)], .func (.func 123) #[] #[.pointer (some ⟨b8, 0, none⟩)], .func (.func 124) #[] #[.pointer (some ⟨b8, 0, none⟩)], .func (.func 139) #[] #[], .func (.func 140) #[] #[], .func (.func 141) #[] #[]]) (hw.ok (Upd.mem (.s .z))) rfl rfl)) ?_
       refine at_alloc (cs := [.nilFunc, .nilFunc, .nilFunc]) Tryz.zeroValue104 rfl rfl ?_
       intro b110
       refine at_storeAll (k := 3) (cs := [.func (.func 136) #[] #[], .func (.func 137) #[] #[], .func (.func 138) #[] #[]]) .z (by decide) ⟨rfl, by simp [Value.oneCell']⟩ ⟨rfl, by simp [Value.oneCell']⟩ Tryz.sizeOf104 rfl rfl rfl ?_
       refine nwt [(1, _), (6, _), (8, _), (22, _), (23, _), (24, _)] ⟨rfl, rfl, rfl, rfl, rfl, rfl, trivial⟩ ?_
       refine at_region ?_
       refine av rfl (r_move rfl) ?_
       refine av rfl (r_fieldAddr (fo := 0) Tryz.underlying104 rfl rfl (fun w => ⟨_, Tryz.sizeOf62 w⟩) rfl) ?_
       refine av rfl (r_load_cell Tryz.isAgg62 rfl (fun w1 hw => cells_get (hw.ok (Upd.mem .z)) 0 _ rfl)) ?_
       refine av rfl (r_load_aggc (c := c_api_Item) (z := (g0_, x0)) Tryz.isAgg33 Tryz.sizeOf33 rfl (lens_cell (.s (.s (.s (.s (.s .z))))) (Lens.whole _ _))) ?_
       refine at_callee rfl ?_
       refine at_callI Tryz.func136 rfl (by kernel_rfl) rfl rfl rfl rfl ?_
       refine at_drop (H := _) .z ?_
       refine at_weak [(0, _)] ⟨rfl, trivial⟩ ?_
       refine sr ?_
       refine at_box (cs := Cd.cs c_api_Item (g0_, x0)) rfl rfl rfl ?_
       intro b111
       refine av rfl (r_assign rfl) ?_
       refine nws [(1, _)] ⟨rfl, trivial⟩ ?_
       refine av rfl (r_fieldAddr (fo := 22) Tryz.underlying33 rfl rfl (fun w => ⟨_, Tryz.sizeOf29 w⟩) rfl) ?_
       refine av rfl (r_load_aggc (c := (cVec (cInt .u8) 32 (by decide))) (z := x0.f_Key) Tryz.isAgg29 Tryz.sizeOf29 rfl (lens_cell .z (c_api_Item_f_Key g0_ x0))) ?_
       obtain ⟨t112, ht112, hF⟩ := of_bindM hF
       refine at_callB Tryz.func96 rfl (by kernel_rfl) rfl rfl (fun w hw => keys_Hex_ok _ _ ht112 w) ?_
       refine av rfl (r_assign rfl) ?_
       refine at_nil ?_
       refine at_drop (H := _) .z ?_
       refine at_weak [(2, _)] ⟨rfl, trivial⟩ ?_
       refine at_then_normal ?_
       refine at_ret ?_
       refine at_retI1 rfl rfl ?_
       refine at_lit (cs := cStr.all ([t112] : List ByteArray)) Tryz.underlying38 Tryz.sizeOf9 Tryz.zeroValue9 rfl rfl rfl (by kernel_rfl) rfl ?_
       intro b113
       refine at_lit_row (c := cStr) (xs := ([⟨#[105, 110, 115, 116, 97, 108, 108]⟩] : List ByteArray)) (m := 1) (.s .z) rfl rfl ?_
       obtain ⟨h114, hF⟩ := of_guard hF
       refine at_append (z := .string ⟨#[]⟩) (c := cStr) (ys := ([t112] : List ByteArray)) (.s .z) Tryz.underlying38 infoSC9 (by kernel_rfl) (by kernel_rfl) rfl rfl rfl rfl (fun _ hw => cells_src (hw.ok (Upd.mem .z))) (by kernel_rfl) h114 (app_small h114) rfl ?_
       intro p115 c116
       refine av rfl (r_assign rfl) ?_
       refine at_nil ?_
       refine at_drop (H := _) .z ?_
       refine at_weak [(1, _), (6, _), (22, _), (23, _), (24, _)] ⟨rfl, rfl, rfl, rfl, rfl, trivial⟩ ?_
       refine at_blk_normal (at_then_normal ?_)
       refine at_region ?_
       refine av rfl (r_iadd rfl rfl) ?_
       refine at_ov (t := 35) rfl (show Value.int .i64 (wr .i64 (0 + 1)) = .int .i64 1 from by rfl) ?_
       refine av rfl (r_move rfl) ?_
       refine nwt [(1, _), (6, _), (22, _), (23, _), (24, _)] ⟨rfl, rfl, rfl, rfl, rfl, trivial⟩ ?_
       refine at_weak [(1, _), (6, _), (22, _), (23, _), (24, _)] ⟨rfl, rfl, rfl, rfl, rfl, trivial⟩ ?_
       refine at_round ?_
       refine sr ?_
       refine av rfl (r_ilss rfl rfl) ?_
       refine at_fix (g := 25) rfl (show (decide (1 < 4)) = true from by decide) ?_
       refine nwt [(1, _), (6, _), (22, _), (23, _), (24, _), (25, _)] ⟨rfl, rfl, rfl, rfl, rfl, rfl, trivial⟩ ?_
       refine at_seq ?_
       refine at_cond_true rfl rfl ?_
       refine sn ?_
       refine at_seq ?_
       refine at_block ?_
       refine sr ?_
       refine av rfl (r_idx Tryz.underlying96 Tryz.sizeOf104 rfl rfl (by decide) rfl) ?_
       refine av rfl (r_load_agg (l := [.func (.func 122) #[] #[.pointer (some ⟨b5, 0, none⟩)], .func (.func 123) #[] #[.pointer (some ⟨b5, 0, none⟩)], .func (.func 124) #[] #[.pointer (some ⟨b5, 0, none⟩)]]) Tryz.isAgg104 Tryz.sizeOf104 rfl rfl (fun w1 hw => cells_mid (pre := [.func (.func 136) #[] #[], .func (.func 137) #[] #[], .func (.func 138) #[] #[]]) (suf := [.func (.func 122) #[] #[.pointer (some ⟨b8, 0, none⟩)], .func (.func 123) #[] #[.pointer (some ⟨b8, 0, none⟩)], .func (.func 124) #[] #[.pointer (some ⟨b8, 0, none⟩)], .func (.func 139) #[] #[], .func (.func 140) #[] #[], .func (.func 141) #[] #[]]) (hw.ok (Upd.mem (.s .z))) rfl rfl)) ?_
       refine at_alloc (cs := [.nilFunc, .nilFunc, .nilFunc]) Tryz.zeroValue104 rfl rfl ?_
       intro b117
       refine at_storeAll (k := 3) (cs := [.func (.func 122) #[] #[.pointer (some ⟨b5, 0, none⟩)], .func (.func 123) #[] #[.pointer (some ⟨b5, 0, none⟩)], .func (.func 124) #[] #[.pointer (some ⟨b5, 0, none⟩)]]) .z (by decide) ⟨rfl, by simp [Value.oneCell']⟩ ⟨rfl, by simp [Value.oneCell']⟩ Tryz.sizeOf104 rfl rfl rfl ?_
       refine nwt [(1, _), (6, _), (8, _), (22, _), (23, _), (24, _)] ⟨rfl, rfl, rfl, rfl, rfl, rfl, trivial⟩ ?_
       refine at_region ?_
       refine av rfl (r_move rfl) ?_
       refine av rfl (r_fieldAddr (fo := 0) Tryz.underlying104 rfl rfl (fun w => ⟨_, Tryz.sizeOf62 w⟩) rfl) ?_
       refine av rfl (r_load_cell Tryz.isAgg62 rfl (fun w1 hw => cells_get (hw.ok (Upd.mem .z)) 0 _ rfl)) ?_
       refine av rfl (r_load_aggc (c := c_api_Item) (z := (g0_, x0)) Tryz.isAgg33 Tryz.sizeOf33 rfl (lens_cell (.s (.s (.s (.s (.s .z))))) (Lens.whole _ _))) ?_
       refine at_calleeC (caps := [.pointer (some ⟨b5, 0, none⟩)]) rfl ?_
       refine at_callI Tryz.func122 rfl (by kernel_rfl) rfl rfl rfl rfl ?_
       refine at_drop (H := _) .z ?_
       refine at_weak [(0, _), (1, _)] ⟨rfl, rfl, trivial⟩ ?_
       refine sr ?_
       refine at_box (cs := Cd.cs c_api_Item (g0_, x0)) rfl rfl rfl ?_
       intro b118
       refine av rfl (r_assign rfl) ?_
       refine nws [(1, _), (2, _)] ⟨rfl, rfl, trivial⟩ ?_
       refine av rfl (r_load_cell Tryz.isAgg133 rfl (fun w1 hw => cells_get (hw.ok (Upd.mem (.s (.s (.s (.s .z)))))) 0 _ rfl)) ?_
       refine at_callee rfl ?_
       refine at_callI Tryz.func76 rfl (by kernel_rfl) rfl rfl rfl rfl ?_
       refine at_weak [(0, _)] ⟨rfl, trivial⟩ ?_
       refine sr ?_
       refine av rfl (r_assign rfl) ?_
       refine nws [(0, _)] ⟨rfl, trivial⟩ ?_
       refine av rfl (r_move rfl) ?_
       refine av rfl (r_nilCheck rfl) ?_
       refine av rfl (r_fieldAddr (fo := 54) Tryz.underlying33 rfl rfl (fun w => ⟨_, Tryz.sizeOf30 w⟩) rfl) ?_
       refine av rfl (r_assign rfl) ?_
       refine nwt [(2, _)] ⟨rfl, trivial⟩ ?_
       refine at_ret ?_
       refine at_retI1 rfl rfl ?_
       refine av rfl (r_nilCheck rfl) ?_
       refine av rfl (r_load_cell Tryz.isAgg30 rfl (lens_cell0 (c := (cInt .u32)) (y := x0.f_Local) .z (c_api_Item_f_Local g0_ x0) rfl)) ?_
       refine av rfl (r_conv Tryz.underlying30 Tryz.underlying31 rfl) ?_
       obtain ⟨t119, ht119, hF⟩ := of_bindM hF
       refine at_callB Tryz.func113 rfl (by kernel_rfl) rfl rfl (fun w hw => decimal_Text_ok _ _ ht119 w (hg_strconv_uint64pow10.on hw.below)) ?_
       refine av rfl (r_assign rfl) ?_
       refine at_nil ?_
       refine at_drop (H := _) .z ?_
       refine at_weak [(3, _)] ⟨rfl, trivial⟩ ?_
       refine at_then_normal ?_
       refine at_ret ?_
       refine at_retI1 rfl rfl ?_
       refine at_lit (cs := cStr.all ([t119] : List ByteArray)) Tryz.underlying38 Tryz.sizeOf9 Tryz.zeroValue9 rfl rfl rfl (by kernel_rfl) rfl ?_
       intro b120
       obtain ⟨h121, hF⟩ := of_guard hF
       refine at_append (z := .string ⟨#[]⟩) (c := cStr) (ys := ([t119] : List ByteArray)) (.s .z) Tryz.underlying38 infoSC9 (by kernel_rfl) (by kernel_rfl) rfl rfl rfl rfl (fun _ hw => cells_src (hw.ok (Upd.mem .z))) (by kernel_rfl) h121 (app_small h121) rfl ?_
       intro p122 c123
       refine av rfl (r_assign rfl) ?_
       refine at_nil ?_
       refine at_drop (H := _) .z ?_
       refine at_weak [(1, _), (6, _), (22, _), (23, _), (24, _)] ⟨rfl, rfl, rfl, rfl, rfl, trivial⟩ ?_
       refine at_blk_normal (at_then_normal ?_)
       refine at_region ?_
       refine av rfl (r_iadd rfl rfl) ?_
       refine at_ov (t := 35) rfl (show Value.int .i64 (wr .i64 (1 + 1)) = .int .i64 2 from by rfl) ?_
       refine av rfl (r_move rfl) ?_
       refine nwt [(1, _), (6, _), (22, _), (23, _), (24, _)] ⟨rfl, rfl, rfl, rfl, rfl, trivial⟩ ?_
       refine at_weak [(1, _), (6, _), (22, _), (23, _), (24, _)] ⟨rfl, rfl, rfl, rfl, rfl, trivial⟩ ?_
       refine at_round ?_
       refine sr ?_
       refine av rfl (r_ilss rfl rfl) ?_
       refine at_fix (g := 25) rfl (show (decide (2 < 4)) = true from by decide) ?_
       refine nwt [(1, _), (6, _), (22, _), (23, _), (24, _), (25, _)] ⟨rfl, rfl, rfl, rfl, rfl, rfl, trivial⟩ ?_
       refine at_seq ?_
       refine at_cond_true rfl rfl ?_
       refine sn ?_
       refine at_seq ?_
       refine at_block ?_
       refine sr ?_
       refine av rfl (r_idx Tryz.underlying96 Tryz.sizeOf104 rfl rfl (by decide) rfl) ?_
       refine av rfl (r_load_agg (l := [.func (.func 122) #[] #[.pointer (some ⟨b8, 0, none⟩)], .func (.func 123) #[] #[.pointer (some ⟨b8, 0, none⟩)], .func (.func 124) #[] #[.pointer (some ⟨b8, 0, none⟩)]]) Tryz.isAgg104 Tryz.sizeOf104 rfl rfl (fun w1 hw => cells_mid (pre := [.func (.func 136) #[] #[], .func (.func 137) #[] #[], .func (.func 138) #[] #[], .func (.func 122) #[] #[.pointer (some ⟨b5, 0, none⟩)], .func (.func 123) #[] #[.pointer (some ⟨b5, 0, none⟩)], .func (.func 124) #[] #[.pointer (some ⟨b5, 0, none⟩)]]) (suf := [.func (.func 139) #[] #[], .func (.func 140) #[] #[], .func (.func 141) #[] #[]]) (hw.ok (Upd.mem (.s .z))) rfl rfl)) ?_
       refine at_alloc (cs := [.nilFunc, .nilFunc, .nilFunc]) Tryz.zeroValue104 rfl rfl ?_
       intro b124
       refine at_storeAll (k := 3) (cs := [.func (.func 122) #[] #[.pointer (some ⟨b8, 0, none⟩)], .func (.func 123) #[] #[.pointer (some ⟨b8, 0, none⟩)], .func (.func 124) #[] #[.pointer (some ⟨b8, 0, none⟩)]]) .z (by decide) ⟨rfl, by simp [Value.oneCell']⟩ ⟨rfl, by simp [Value.oneCell']⟩ Tryz.sizeOf104 rfl rfl rfl ?_
       refine nwt [(1, _), (6, _), (8, _), (22, _), (23, _), (24, _)] ⟨rfl, rfl, rfl, rfl, rfl, rfl, trivial⟩ ?_
       refine at_region ?_
       refine av rfl (r_move rfl) ?_
       refine av rfl (r_fieldAddr (fo := 0) Tryz.underlying104 rfl rfl (fun w => ⟨_, Tryz.sizeOf62 w⟩) rfl) ?_
       refine av rfl (r_load_cell Tryz.isAgg62 rfl (fun w1 hw => cells_get (hw.ok (Upd.mem .z)) 0 _ rfl)) ?_
       refine av rfl (r_load_aggc (c := c_api_Item) (z := (g0_, x0)) Tryz.isAgg33 Tryz.sizeOf33 rfl (lens_cell (.s (.s (.s (.s (.s .z))))) (Lens.whole _ _))) ?_
       refine at_calleeC (caps := [.pointer (some ⟨b8, 0, none⟩)]) rfl ?_
       refine at_callI Tryz.func122 rfl (by kernel_rfl) rfl rfl rfl rfl ?_
       refine at_drop (H := _) .z ?_
       refine at_weak [(0, _), (1, _)] ⟨rfl, rfl, trivial⟩ ?_
       refine sr ?_
       refine at_box (cs := Cd.cs c_api_Item (g0_, x0)) rfl rfl rfl ?_
       intro b125
       refine av rfl (r_assign rfl) ?_
       refine nws [(1, _), (2, _)] ⟨rfl, rfl, trivial⟩ ?_
       refine av rfl (r_load_cell Tryz.isAgg133 rfl (fun w1 hw => cells_get (hw.ok (Upd.mem (.s (.s (.s .z))))) 0 _ rfl)) ?_
       refine at_callee rfl ?_
       refine at_callI Tryz.func77 rfl (by kernel_rfl) rfl rfl rfl rfl ?_
       refine at_weak [(0, _)] ⟨rfl, trivial⟩ ?_
       refine sr ?_
       refine av rfl (r_assign rfl) ?_
       refine nws [(0, _)] ⟨rfl, trivial⟩ ?_
       refine av rfl (r_move rfl) ?_
       refine av rfl (r_nilCheck rfl) ?_
       refine av rfl (r_fieldAddr (fo := 55) Tryz.underlying33 rfl rfl (fun w => ⟨_, Tryz.sizeOf30 w⟩) rfl) ?_
       refine av rfl (r_assign rfl) ?_
       refine nwt [(2, _)] ⟨rfl, trivial⟩ ?_
       refine at_ret ?_
       refine at_retI1 rfl rfl ?_
       refine av rfl (r_nilCheck rfl) ?_
       refine av rfl (r_load_cell Tryz.isAgg30 rfl (lens_cell0 (c := (cInt .u32)) (y := x0.f_Remote) .z (c_api_Item_f_Remote g0_ x0) rfl)) ?_
       refine av rfl (r_conv Tryz.underlying30 Tryz.underlying31 rfl) ?_
       obtain ⟨t126, ht126, hF⟩ := of_bindM hF
       refine at_callB Tryz.func113 rfl (by kernel_rfl) rfl rfl (fun w hw => decimal_Text_ok _ _ ht126 w (hg_strconv_uint64pow10.on hw.below)) ?_
       refine av rfl (r_assign rfl) ?_
       refine at_nil ?_
       refine at_drop (H := _) .z ?_
       refine at_weak [(3, _)] ⟨rfl, trivial⟩ ?_
       refine at_then_normal ?_
       refine at_ret ?_
       refine at_retI1 rfl rfl ?_
       refine at_lit (cs := cStr.all ([t126] : List ByteArray)) Tryz.underlying38 Tryz.sizeOf9 Tryz.zeroValue9 rfl rfl rfl (by kernel_rfl) rfl ?_
       intro b127
       obtain ⟨h128, hF⟩ := of_guard hF
       refine at_append (z := .string ⟨#[]⟩) (c := cStr) (ys := ([t126] : List ByteArray)) (.s .z) Tryz.underlying38 infoSC9 (by kernel_rfl) (by kernel_rfl) rfl rfl rfl rfl (fun _ hw => cells_src (hw.ok (Upd.mem .z))) (by kernel_rfl) h128 (app_small h128) rfl ?_
       intro p129 c130
       refine av rfl (r_assign rfl) ?_
       refine at_nil ?_
       refine at_drop (H := _) .z ?_
       refine at_weak [(1, _), (6, _), (22, _), (23, _), (24, _)] ⟨rfl, rfl, rfl, rfl, rfl, trivial⟩ ?_
       refine at_blk_normal (at_then_normal ?_)
       refine at_region ?_
       refine av rfl (r_iadd rfl rfl) ?_
       refine at_ov (t := 35) rfl (show Value.int .i64 (wr .i64 (2 + 1)) = .int .i64 3 from by rfl) ?_
       refine av rfl (r_move rfl) ?_
       refine nwt [(1, _), (6, _), (22, _), (23, _), (24, _)] ⟨rfl, rfl, rfl, rfl, rfl, trivial⟩ ?_
       refine at_weak [(1, _), (6, _), (22, _), (23, _), (24, _)] ⟨rfl, rfl, rfl, rfl, rfl, trivial⟩ ?_
       refine at_round ?_
       refine sr ?_
       refine av rfl (r_ilss rfl rfl) ?_
       refine at_fix (g := 25) rfl (show (decide (3 < 4)) = true from by decide) ?_
       refine nwt [(1, _), (6, _), (22, _), (23, _), (24, _), (25, _)] ⟨rfl, rfl, rfl, rfl, rfl, rfl, trivial⟩ ?_
       refine at_seq ?_
       refine at_cond_true rfl rfl ?_
       refine sn ?_
       refine at_seq ?_
       refine at_block ?_
       refine sr ?_
       refine av rfl (r_idx Tryz.underlying96 Tryz.sizeOf104 rfl rfl (by decide) rfl) ?_
       refine av rfl (r_load_agg (l := [.func (.func 139) #[] #[], .func (.func 140) #[] #[], .func (.func 141) #[] #[]]) Tryz.isAgg104 Tryz.sizeOf104 rfl rfl (fun w1 hw => cells_mid (pre := [.func (.func 136) #[] #[], .func (.func 137) #[] #[], .func (.func 138) #[] #[], .func (.func 122) #[] #[.pointer (some ⟨b5, 0, none⟩)], .func (.func 123) #[] #[.pointer (some ⟨b5, 0, none⟩)], .func (.func 124) #[] #[.pointer (some ⟨b5, 0, none⟩)], .func (.func 122) #[] #[.pointer (some ⟨b8, 0, none⟩)], .func (.func 123) #[] #[.pointer (some ⟨b8, 0, none⟩)], .func (.func 124) #[] #[.pointer (some ⟨b8, 0, none⟩)]]) (suf := []) (hw.ok (Upd.mem (.s .z))) rfl rfl)) ?_
       refine at_alloc (cs := [.nilFunc, .nilFunc, .nilFunc]) Tryz.zeroValue104 rfl rfl ?_
       intro b131
       refine at_storeAll (k := 3) (cs := [.func (.func 139) #[] #[], .func (.func 140) #[] #[], .func (.func 141) #[] #[]]) .z (by decide) ⟨rfl, by simp [Value.oneCell']⟩ ⟨rfl, by simp [Value.oneCell']⟩ Tryz.sizeOf104 rfl rfl rfl ?_
       refine nwt [(1, _), (6, _), (8, _), (22, _), (23, _), (24, _)] ⟨rfl, rfl, rfl, rfl, rfl, rfl, trivial⟩ ?_
       refine at_region ?_
       refine av rfl (r_move rfl) ?_
       refine av rfl (r_fieldAddr (fo := 0) Tryz.underlying104 rfl rfl (fun w => ⟨_, Tryz.sizeOf62 w⟩) rfl) ?_
       refine av rfl (r_load_cell Tryz.isAgg62 rfl (fun w1 hw => cells_get (hw.ok (Upd.mem .z)) 0 _ rfl)) ?_
       refine av rfl (r_load_aggc (c := c_api_Item) (z := (g0_, x0)) Tryz.isAgg33 Tryz.sizeOf33 rfl (lens_cell (.s (.s (.s (.s (.s .z))))) (Lens.whole _ _))) ?_
       refine at_callee rfl ?_
       refine at_callI Tryz.func139 rfl (by kernel_rfl) rfl rfl rfl rfl ?_
       refine at_drop (H := _) .z ?_
       refine at_weak [(0, _)] ⟨rfl, trivial⟩ ?_
       refine sr ?_
       refine at_box (cs := Cd.cs c_api_Item (g0_, x0)) rfl rfl rfl ?_
       intro b132
       refine av rfl (r_assign rfl) ?_
       refine nws [(1, _)] ⟨rfl, trivial⟩ ?_
       refine av rfl (r_fieldAddr (fo := 56) Tryz.underlying33 rfl rfl (fun w => ⟨_, Tryz.sizeOf31 w⟩) rfl) ?_
       refine av rfl (r_load_cell Tryz.isAgg31 rfl (lens_cell0 (c := (cInt .u64)) (y := x0.f_Next) .z (c_api_Item_f_Next g0_ x0) rfl)) ?_
       obtain ⟨t133, ht133, hF⟩ := of_bindM hF
       refine at_callB Tryz.func113 rfl (by kernel_rfl) rfl rfl (fun w hw => decimal_Text_ok _ _ ht133 w (hg_strconv_uint64pow10.on hw.below)) ?_
       refine av rfl (r_assign rfl) ?_
       refine at_nil ?_
       refine at_drop (H := _) .z ?_
       refine at_weak [(2, _)] ⟨rfl, trivial⟩ ?_
       refine at_then_normal ?_
       refine at_ret ?_
       refine at_retI1 rfl rfl ?_
       refine at_lit (cs := cStr.all ([t133] : List ByteArray)) Tryz.underlying38 Tryz.sizeOf9 Tryz.zeroValue9 rfl rfl rfl (by kernel_rfl) rfl ?_
       intro b134
       obtain ⟨h135, hF⟩ := of_guard hF
       refine at_append (z := .string ⟨#[]⟩) (c := cStr) (ys := ([t133] : List ByteArray)) (.s .z) Tryz.underlying38 infoSC9 (by kernel_rfl) (by kernel_rfl) rfl rfl rfl rfl (fun _ hw => cells_src (hw.ok (Upd.mem .z))) (by kernel_rfl) h135 (app_small h135) rfl ?_
       intro p136 c137
       refine av rfl (r_assign rfl) ?_
       refine at_nil ?_
       refine at_drop (H := _) .z ?_
       refine at_weak [(1, _), (6, _), (22, _), (23, _), (24, _)] ⟨rfl, rfl, rfl, rfl, rfl, trivial⟩ ?_
       refine at_blk_normal (at_then_normal ?_)
       refine at_region ?_
       refine av rfl (r_iadd rfl rfl) ?_
       refine at_ov (t := 35) rfl (show Value.int .i64 (wr .i64 (3 + 1)) = .int .i64 4 from by rfl) ?_
       refine av rfl (r_move rfl) ?_
       refine nwt [(1, _), (6, _), (22, _), (23, _), (24, _)] ⟨rfl, rfl, rfl, rfl, rfl, trivial⟩ ?_
       refine at_weak [(1, _), (6, _), (22, _), (23, _), (24, _)] ⟨rfl, rfl, rfl, rfl, rfl, trivial⟩ ?_
       refine at_round ?_
       refine sr ?_
       refine av rfl (r_ilss rfl rfl) ?_
       refine at_fix (g := 25) rfl (show (decide (4 < 4)) = false from by decide) ?_
       refine nwt [(1, _), (6, _), (22, _), (23, _), (24, _), (25, _)] ⟨rfl, rfl, rfl, rfl, rfl, rfl, trivial⟩ ?_
       refine at_seq ?_
       refine at_cond_false rfl rfl ?_
       refine at_exit ?_
       refine at_then_exit (at_then_exit ?_)
       refine at_blk_same ?_
       refine at_drop (H := _) (.s .z) ?_
       refine at_drop (H := _) (.s .z) ?_
       refine at_drop (H := _) (.s .z) ?_
       refine at_drop (H := _) (.s .z) ?_
       refine at_weak [(6, _)] ⟨rfl, trivial⟩ ?_
       refine at_then_normal ?_
       refine sr ?_
       refine av rfl (r_move rfl) ?_
       obtain ⟨h138, hF⟩ := of_guard hF
       obtain ⟨h139, hF⟩ := of_guard hF
       refine at_callB Tryz.func47 rfl (by kernel_rfl) rfl rfl (fun w1 hw => join_ok _ _ h138 h139 _ _ w1 (hw.own .z).row) ?_
       refine av rfl (r_assign rfl) ?_
       refine av rfl (r_assign rfl) ?_
       refine at_nil ?_
       refine at_drop (H := _) .z ?_
       refine at_weak [(2, _), (3, _)] ⟨rfl, rfl, trivial⟩ ?_
       refine at_then_normal ?_
       refine at_ret ?_
       have K := of_some hF
       subst K
       exact at_return2 rfl rfl rfl (fun w1 hw => ⟨rfl, hw.below⟩)
      ·refine at_cond_false rfl h105 ?_
       refine sr ?_
       refine av rfl (r_ieql rfl rfl) ?_
       refine av rfl (r_assign rfl) ?_
       refine at_nil ?_
       refine at_drop (H := _) .z ?_
       refine at_drop (H := _) .z ?_
       refine at_weak [(2, _), (4, _), (40, _)] ⟨rfl, rfl, rfl, trivial⟩ ?_
       refine at_then_normal ?_
       rcases of_ite hF with ⟨h140, hF⟩ | ⟨h140, hF⟩
       ·refine at_cond_true rfl h140 ?_
        refine sr ?_
        refine av rfl (r_load_agg (l := [.func (.func 122) #[] #[.pointer (some ⟨b5, 0, none⟩)], .func (.func 123) #[] #[.pointer (some ⟨b5, 0, none⟩)], .func (.func 124) #[] #[.pointer (some ⟨b5, 0, none⟩)]]) Tryz.isAgg104 Tryz.sizeOf104 rfl rfl (fun w1 hw => cells_mid (pre := []) (suf := []) (hw.ok (Upd.mem .z)) (List.append_nil _).symm rfl)) ?_
        refine at_litG (cs := [.func (.func 122) #[] #[.pointer (some ⟨b5, 0, none⟩)], .func (.func 123) #[] #[.pointer (some ⟨b5, 0, none⟩)], .func (.func 124) #[] #[.pointer (some ⟨b5, 0, none⟩)]]) Tryz.underlying96 Tryz.sizeOf104 Tryz.zeroValue104 rfl rfl rfl (by kernel_rfl) rfl ?_
        intro b141
        refine av rfl (r_build_struct (zs := [.string (⟨#[]⟩), .slice none 0 0]) (cs := [.string (⟨#[102, 111, 114, 103, 101, 116]⟩), .slice (some ⟨b141, 0, none⟩) 1 1]) Tryz.underlying98 Tryz.zeroValue98 rfl placesR_98 rfl rfl) ?_
        refine at_storeAll (k := 2) (cs := [.string (⟨#[102, 111, 114, 103, 101, 116]⟩), .slice (some ⟨b141, 0, none⟩) 1 1]) (.s (.s (.s .z))) (by decide) ⟨rfl, by simp [Value.oneCell']⟩ ⟨rfl, by simp [Value.oneCell']⟩ Tryz.sizeOf98 rfl rfl rfl ?_
        refine av rfl (r_assign rfl) ?_
        refine at_nil ?_
        refine at_drop (H := _) (.s .z) ?_
        refine at_weak [(2, _), (3, _)] ⟨rfl, rfl, trivial⟩ ?_
        refine at_then_normal ?_
        refine at_ret ?_
        refine at_blk_ret (at_then_ret ?_)
        refine at_resI2 rfl (res_cell (c := cK 2 (by decide)) (y := ⟨[.string (⟨#[102, 111, 114, 103, 101, 116]⟩), .slice (some ⟨b141, 0, none⟩) 1 1], rfl, by simp [Value.oneCell']⟩) rfl (.s (.s .z)) (Lens.whole _ _) Tryz.isAgg98 Tryz.sizeOf98 (.inl rfl)) (res_tmp rfl) ?_
        refine av rfl (r_move rfl) ?_
        refine av rfl (r_extract rfl rfl) ?_
        refine av rfl (r_extract rfl rfl) ?_
        refine at_alloc (cs := [.string (⟨#[]⟩), .slice none 0 0]) Tryz.zeroValue98 rfl rfl ?_
        intro b142
        refine at_storeAll (k := 2) (cs := [.string (⟨#[102, 111, 114, 103, 101, 116]⟩), .slice (some ⟨b141, 0, none⟩) 1 1]) .z (by decide) ⟨rfl, by simp [Value.oneCell']⟩ ⟨rfl, by simp [Value.oneCell']⟩ Tryz.sizeOf98 rfl rfl rfl ?_
        refine av rfl (r_assign rfl) ?_
        refine at_nil ?_
        refine at_drop (H := _) (.s (.s (.s .z))) ?_
        refine at_weak [(1, _), (4, _)] ⟨rfl, rfl, trivial⟩ ?_
        refine at_then_normal ?_
        refine sr ?_
        refine av rfl (r_fieldAddr (fo := 0) Tryz.underlying98 rfl rfl (fun w => ⟨_, Tryz.sizeOf9 w⟩) rfl) ?_
        refine av rfl (r_load_cell Tryz.isAgg9 rfl (fun w1 hw => cells_get (hw.ok (Upd.mem .z)) 0 _ rfl)) ?_
        refine at_lit (cs := cStr.all ([⟨#[102, 111, 114, 103, 101, 116]⟩] : List ByteArray)) Tryz.underlying38 Tryz.sizeOf9 Tryz.zeroValue9 rfl rfl rfl (by kernel_rfl) rfl ?_
        intro b143
        refine av rfl (r_assign rfl) ?_
        refine nwt [(1, _), (4, _), (6, _)] ⟨rfl, rfl, rfl, trivial⟩ ?_
        refine at_seq ?_
        refine sr ?_
        refine av rfl (r_fieldAddr (fo := 1) Tryz.underlying98 rfl rfl (fun w => ⟨_, Tryz.sizeOf96 w⟩) rfl) ?_
        refine av rfl (r_load_cell Tryz.isAgg96 rfl (fun w1 hw => cells_get (hw.ok (Upd.mem (.s .z))) 1 _ rfl)) ?_
        refine av rfl (r_len_sl Tryz.underlying96 rfl) ?_
        refine av rfl (r_move rfl) ?_
        refine at_nil ?_
        refine at_drop (H := _) (.s .z) ?_
        refine at_weak [(1, _), (6, _), (22, _), (23, _), (24, _)] ⟨rfl, rfl, rfl, rfl, rfl, trivial⟩ ?_
        refine at_then_normal ?_
        refine at_block ?_
        refine at_weak [(1, _), (6, _), (22, _), (23, _), (24, _)] ⟨rfl, rfl, rfl, rfl, rfl, trivial⟩ ?_
        refine at_loop ?_
        refine at_round ?_
        refine sr ?_
        refine av rfl (r_ilss rfl rfl) ?_
        refine at_fix (g := 25) rfl (show (decide (0 < 1)) = true from by decide) ?_
        refine nwt [(1, _), (6, _), (22, _), (23, _), (24, _), (25, _)] ⟨rfl, rfl, rfl, rfl, rfl, rfl, trivial⟩ ?_
        refine at_seq ?_
        refine at_cond_true rfl rfl ?_
        refine sn ?_
        refine at_seq ?_
        refine at_block ?_
        refine sr ?_
        refine av rfl (r_idx Tryz.underlying96 Tryz.sizeOf104 rfl rfl (by decide) rfl) ?_
        refine av rfl (r_load_agg (l := [.func (.func 122) #[] #[.pointer (some ⟨b5, 0, none⟩)], .func (.func 123) #[] #[.pointer (some ⟨b5, 0, none⟩)], .func (.func 124) #[] #[.pointer (some ⟨b5, 0, none⟩)]]) Tryz.isAgg104 Tryz.sizeOf104 rfl rfl (fun w1 hw => cells_mid (pre := []) (suf := []) (hw.ok (Upd.mem (.s .z))) rfl rfl)) ?_
        refine at_alloc (cs := [.nilFunc, .nilFunc, .nilFunc]) Tryz.zeroValue104 rfl rfl ?_
        intro b144
        refine at_storeAll (k := 3) (cs := [.func (.func 122) #[] #[.pointer (some ⟨b5, 0, none⟩)], .func (.func 123) #[] #[.pointer (some ⟨b5, 0, none⟩)], .func (.func 124) #[] #[.pointer (some ⟨b5, 0, none⟩)]]) .z (by decide) ⟨rfl, by simp [Value.oneCell']⟩ ⟨rfl, by simp [Value.oneCell']⟩ Tryz.sizeOf104 rfl rfl rfl ?_
        refine nwt [(1, _), (6, _), (8, _), (22, _), (23, _), (24, _)] ⟨rfl, rfl, rfl, rfl, rfl, rfl, trivial⟩ ?_
        refine at_region ?_
        refine av rfl (r_move rfl) ?_
        refine av rfl (r_fieldAddr (fo := 0) Tryz.underlying104 rfl rfl (fun w => ⟨_, Tryz.sizeOf62 w⟩) rfl) ?_
        refine av rfl (r_load_cell Tryz.isAgg62 rfl (fun w1 hw => cells_get (hw.ok (Upd.mem .z)) 0 _ rfl)) ?_
        refine av rfl (r_load_aggc (c := c_api_Item) (z := (g0_, x0)) Tryz.isAgg33 Tryz.sizeOf33 rfl (lens_cell (.s (.s (.s (.s .z)))) (Lens.whole _ _))) ?_
        refine at_calleeC (caps := [.pointer (some ⟨b5, 0, none⟩)]) rfl ?_
        refine at_callI Tryz.func122 rfl (by kernel_rfl) rfl rfl rfl rfl ?_
        refine at_drop (H := _) .z ?_
        refine at_weak [(0, _), (1, _)] ⟨rfl, rfl, trivial⟩ ?_
        refine sr ?_
        refine at_box (cs := Cd.cs c_api_Item (g0_, x0)) rfl rfl rfl ?_
        intro b145
        refine av rfl (r_assign rfl) ?_
        refine nws [(1, _), (2, _)] ⟨rfl, rfl, trivial⟩ ?_
        refine av rfl (r_load_cell Tryz.isAgg133 rfl (fun w1 hw => cells_get (hw.ok (Upd.mem (.s (.s (.s .z))))) 0 _ rfl)) ?_
        refine at_callee rfl ?_
        refine at_callI Tryz.func76 rfl (by kernel_rfl) rfl rfl rfl rfl ?_
        refine at_weak [(0, _)] ⟨rfl, trivial⟩ ?_
        refine sr ?_
        refine av rfl (r_assign rfl) ?_
        refine nws [(0, _)] ⟨rfl, trivial⟩ ?_
        refine av rfl (r_move rfl) ?_
        refine av rfl (r_nilCheck rfl) ?_
        refine av rfl (r_fieldAddr (fo := 54) Tryz.underlying33 rfl rfl (fun w => ⟨_, Tryz.sizeOf30 w⟩) rfl) ?_
        refine av rfl (r_assign rfl) ?_
        refine nwt [(2, _)] ⟨rfl, trivial⟩ ?_
        refine at_ret ?_
        refine at_retI1 rfl rfl ?_
        refine av rfl (r_nilCheck rfl) ?_
        refine av rfl (r_load_cell Tryz.isAgg30 rfl (lens_cell0 (c := (cInt .u32)) (y := x0.f_Local) .z (c_api_Item_f_Local g0_ x0) rfl)) ?_
        refine av rfl (r_conv Tryz.underlying30 Tryz.underlying31 rfl) ?_
        obtain ⟨t146, ht146, hF⟩ := of_bindM hF
        refine at_callB Tryz.func113 rfl (by kernel_rfl) rfl rfl (fun w hw => decimal_Text_ok _ _ ht146 w (hg_strconv_uint64pow10.on hw.below)) ?_
        refine av rfl (r_assign rfl) ?_
        refine at_nil ?_
        refine at_drop (H := _) .z ?_
        refine at_weak [(3, _)] ⟨rfl, trivial⟩ ?_
        refine at_then_normal ?_
        refine at_ret ?_
        refine at_retI1 rfl rfl ?_
        refine at_lit (cs := cStr.all ([t146] : List ByteArray)) Tryz.underlying38 Tryz.sizeOf9 Tryz.zeroValue9 rfl rfl rfl (by kernel_rfl) rfl ?_
        intro b147
        refine at_lit_row (c := cStr) (xs := ([⟨#[102, 111, 114, 103, 101, 116]⟩] : List ByteArray)) (m := 1) (.s .z) rfl rfl ?_
        obtain ⟨h148, hF⟩ := of_guard hF
        refine at_append (z := .string ⟨#[]⟩) (c := cStr) (ys := ([t146] : List ByteArray)) (.s .z) Tryz.underlying38 infoSC9 (by kernel_rfl) (by kernel_rfl) rfl rfl rfl rfl (fun _ hw => cells_src (hw.ok (Upd.mem .z))) (by kernel_rfl) h148 (app_small h148) rfl ?_
        intro p149 c150
        refine av rfl (r_assign rfl) ?_
        refine at_nil ?_
        refine at_drop (H := _) .z ?_
        refine at_weak [(1, _), (6, _), (22, _), (23, _), (24, _)] ⟨rfl, rfl, rfl, rfl, rfl, trivial⟩ ?_
        refine at_blk_normal (at_then_normal ?_)
        refine at_region ?_
        refine av rfl (r_iadd rfl rfl) ?_
        refine at_ov (t := 35) rfl (show Value.int .i64 (wr .i64 (0 + 1)) = .int .i64 1 from by rfl) ?_
        refine av rfl (r_move rfl) ?_
        refine nwt [(1, _), (6, _), (22, _), (23, _), (24, _)] ⟨rfl, rfl, rfl, rfl, rfl, trivial⟩ ?_
        refine at_weak [(1, _), (6, _), (22, _), (23, _), (24, _)] ⟨rfl, rfl, rfl, rfl, rfl, trivial⟩ ?_
        refine at_round ?_
        refine sr ?_
        refine av rfl (r_ilss rfl rfl) ?_
        refine at_fix (g := 25) rfl (show (decide (1 < 1)) = false from by decide) ?_
        refine nwt [(1, _), (6, _), (22, _), (23, _), (24, _), (25, _)] ⟨rfl, rfl, rfl, rfl, rfl, rfl, trivial⟩ ?_
        refine at_seq ?_
        refine at_cond_false rfl rfl ?_
        refine at_exit ?_
        refine at_then_exit (at_then_exit ?_)
        refine at_blk_same ?_
        refine at_drop (H := _) (.s .z) ?_
        refine at_drop (H := _) (.s .z) ?_
        refine at_drop (H := _) (.s .z) ?_
        refine at_weak [(6, _)] ⟨rfl, trivial⟩ ?_
        refine at_then_normal ?_
        refine sr ?_
        refine av rfl (r_move rfl) ?_
        obtain ⟨h151, hF⟩ := of_guard hF
        obtain ⟨h152, hF⟩ := of_guard hF
        refine at_callB Tryz.func47 rfl (by kernel_rfl) rfl rfl (fun w1 hw => join_ok _ _ h151 h152 _ _ w1 (hw.own .z).row) ?_
        refine av rfl (r_assign rfl) ?_
        refine av rfl (r_assign rfl) ?_
        refine at_nil ?_
        refine at_drop (H := _) .z ?_
        refine at_weak [(2, _), (3, _)] ⟨rfl, rfl, trivial⟩ ?_
        refine at_then_normal ?_
        refine at_ret ?_
        have K := of_some hF
        subst K
        exact at_return2 rfl rfl rfl (fun w1 hw => ⟨rfl, hw.below⟩)
       ·refine at_cond_false rfl h140 ?_
        refine at_skip ?_
        refine at_blk_normal (at_then_normal ?_)
        refine sr ?_
        refine av rfl (r_build_struct (zs := [.string (⟨#[]⟩), .slice none 0 0]) (cs := [.string (⟨#[]⟩), .slice none 0 0]) Tryz.underlying98 Tryz.zeroValue98 rfl placesR_98 rfl rfl) ?_
        refine at_storeAll (k := 2) (cs := [.string (⟨#[]⟩), .slice none 0 0]) (.s (.s .z)) (by decide) ⟨rfl, by simp [Value.oneCell']⟩ ⟨rfl, by simp [Value.oneCell']⟩ Tryz.sizeOf98 rfl rfl rfl ?_
        refine av rfl (r_assign rfl) ?_
        refine at_nil ?_
        refine at_drop (H := _) .z ?_
        refine at_drop (H := _) .z ?_
        refine at_weak [(2, _), (3, _)] ⟨rfl, rfl, trivial⟩ ?_
        refine at_then_normal ?_
        refine at_ret ?_
        refine at_resI2 rfl (res_cell (c := cK 2 (by decide)) (y := ⟨[.string (⟨#[]⟩), .slice none 0 0], rfl, by simp [Value.oneCell']⟩) rfl .z (Lens.whole _ _) Tryz.isAgg98 Tryz.sizeOf98 (.inl rfl)) (res_tmp rfl) ?_
        refine av rfl (r_move rfl) ?_
        refine av rfl (r_extract rfl rfl) ?_
        refine av rfl (r_extract rfl rfl) ?_
        refine at_alloc (cs := [.string (⟨#[]⟩), .slice none 0 0]) Tryz.zeroValue98 rfl rfl ?_
        intro b153
        refine at_storeAll (k := 2) (cs := [.string (⟨#[]⟩), .slice none 0 0]) .z (by decide) ⟨rfl, by simp [Value.oneCell']⟩ ⟨rfl, by simp [Value.oneCell']⟩ Tryz.sizeOf98 rfl rfl rfl ?_
        refine av rfl (r_assign rfl) ?_
        refine at_nil ?_
        refine at_drop (H := _) (.s .z) ?_
        refine at_weak [(1, _), (4, _)] ⟨rfl, rfl, trivial⟩ ?_
        refine at_then_normal ?_
        refine sr ?_
        refine av rfl (r_fieldAddr (fo := 0) Tryz.underlying98 rfl rfl (fun w => ⟨_, Tryz.sizeOf9 w⟩) rfl) ?_
        refine av rfl (r_load_cell Tryz.isAgg9 rfl (fun w1 hw => cells_get (hw.ok (Upd.mem .z)) 0 _ rfl)) ?_
        refine at_lit (cs := cStr.all ([⟨#[]⟩] : List ByteArray)) Tryz.underlying38 Tryz.sizeOf9 Tryz.zeroValue9 rfl rfl rfl (by kernel_rfl) rfl ?_
        intro b154
        refine av rfl (r_assign rfl) ?_
        refine nwt [(1, _), (4, _), (6, _)] ⟨rfl, rfl, rfl, trivial⟩ ?_
        refine at_seq ?_
        refine sr ?_
        refine av rfl (r_fieldAddr (fo := 1) Tryz.underlying98 rfl rfl (fun w => ⟨_, Tryz.sizeOf96 w⟩) rfl) ?_
        refine av rfl (r_load_cell Tryz.isAgg96 rfl (fun w1 hw => cells_get (hw.ok (Upd.mem (.s .z))) 1 _ rfl)) ?_
        refine av rfl (r_len_sl Tryz.underlying96 rfl) ?_
        refine av rfl (r_move rfl) ?_
        refine at_nil ?_
        refine at_drop (H := _) (.s .z) ?_
        refine at_weak [(1, _), (6, _), (22, _), (23, _), (24, _)] ⟨rfl, rfl, rfl, rfl, rfl, trivial⟩ ?_
        refine at_then_normal ?_
        refine at_block ?_
        refine at_weak [(1, _), (6, _), (22, _), (23, _), (24, _)] ⟨rfl, rfl, rfl, rfl, rfl, trivial⟩ ?_
        refine at_loop ?_
        refine at_round ?_
        refine sr ?_
        refine av rfl (r_ilss rfl rfl) ?_
        refine at_fix (g := 25) rfl (show (decide (0 < 0)) = false from by decide) ?_
        refine nwt [(1, _), (6, _), (22, _), (23, _), (24, _), (25, _)] ⟨rfl, rfl, rfl, rfl, rfl, rfl, trivial⟩ ?_
        refine at_seq ?_
        refine at_cond_false rfl rfl ?_
        refine at_exit ?_
        refine at_then_exit (at_then_exit ?_)
        refine at_blk_same ?_
        refine at_drop (H := _) (.s .z) ?_
        refine at_weak [(6, _)] ⟨rfl, trivial⟩ ?_
        refine at_then_normal ?_
        refine sr ?_
        refine av rfl (r_move rfl) ?_
        obtain ⟨h155, hF⟩ := of_guard hF
        obtain ⟨h156, hF⟩ := of_guard hF
        refine at_callB Tryz.func47 rfl (by kernel_rfl) rfl rfl (fun w1 hw => join_ok _ _ h155 h156 _ _ w1 (cells_row (hw.ok (Upd.mem .z)))) ?_
        refine av rfl (r_assign rfl) ?_
        refine av rfl (r_assign rfl) ?_
        refine at_nil ?_
        refine at_drop (H := _) .z ?_
        refine at_weak [(2, _), (3, _)] ⟨rfl, rfl, trivial⟩ ?_
        refine at_then_normal ?_
        refine at_ret ?_
        have K := of_some hF
        subst K
        exact at_return2 rfl rfl rfl (fun w1 hw => ⟨rfl, hw.below⟩)
end Go.Proofs.YtkkmmpofdcccmaaGreatDoor
namespace Go.Proofs.YtkkmmpofdcccmaaGreatDoor
open E Go.RowKit
abbrev zqSG_0 : S_api_Endpoint := ({ f_A := ({ f_V := (0 : Int), f_B := (Vector.replicate 16 (0 : Int) : (Vector Int 16)) } : S_api_Addr), f_Port := (0 : Int) } : S_api_Endpoint)
def crawlwaylaw50_alive : Option (Bool) :=
  script_Text ({ { ({ f_Kind := (0 : Int), f_Bytes := ([] : List Int), f_From := ({ f_A := ({ f_V := (0 : Int), f_B := (Vector.replicate 16 (0 : Int) : (Vector Int 16)) } : S_api_Addr), f_Port := (0 : Int) } : S_api_Endpoint), f_Result := ([] : List Int), f_Ok := false, f_Key := (Vector.replicate 32 (0 : Int) : (Vector Int 32)), f_Local := (0 : Int), f_Remote := (0 : Int), f_Next := (0 : Int) } : S_api_Item) with f_Kind := 6 } with f_Local := 7 }) >>= fun t1 => if (t1.2 == 0) = true then (some (seq t1.1 (⟨#[102, 111, 114, 103, 101, 116, 32, 55]⟩ : ByteArray))) else (some false)
theorem crawlwaylaw50_alive_ok (r : Bool) (hF : crawlwaylaw50_alive  = some r) (w : World) (hg_bytealg_MaxLen : GV_bytealg_MaxLen w) (hg_strconv_ErrRange : GV_strconv_ErrRange w) (hg_strconv_ErrSyntax : GV_strconv_ErrSyntax w) (hg_strconv_uint64pow10 : GV_strconv_uint64pow10 w) :
    Calls Tryz.prog 11 #[] w (fun e w' => e = .returned (.bool r) ∧ Below w.heap.size w w') := by
 unfold crawlwaylaw50_alive at hF
 refine calls_enter (l := []) Tryz.func11 rfl rfl rfl ?_
 refine at_start ?_
 refine at_weak [] trivial ?_
 refine sr ?_
 refine av rfl (r_assign rfl) ?_
 refine nws [] trivial ?_
 refine av rfl (r_build_struct (zs := Cd.cs c_api_Item ((((none : Option Addr), (0 : Nat)), ((none : Option Addr), (0 : Nat))), ({ f_Kind := (0 : Int), f_Bytes := ([] : List Int), f_From := zqSG_0, f_Result := ([] : List Int), f_Ok := false, f_Key := (Vector.replicate 32 (0 : Int) : (Vector Int 32)), f_Local := (0 : Int), f_Remote := (0 : Int), f_Next := (0 : Int) } : S_api_Item))) (cs := Cd.cs c_api_Item ((((none : Option Addr), (0 : Nat)), ((none : Option Addr), (0 : Nat))), { { ({ f_Kind := (0 : Int), f_Bytes := ([] : List Int), f_From := zqSG_0, f_Result := ([] : List Int), f_Ok := false, f_Key := (Vector.replicate 32 (0 : Int) : (Vector Int 32)), f_Local := (0 : Int), f_Remote := (0 : Int), f_Next := (0 : Int) } : S_api_Item) with f_Kind := 6 } with f_Local := 7 })) Tryz.underlying33 Tryz.zeroValue33 rfl (places_api_Item_33) rfl (fill_step (c := (cInt .i64)) (z := 6) rfl (c_api_Item_f_Kind (((none : Option Addr), (0 : Nat)), ((none : Option Addr), (0 : Nat))) ({ f_Kind := (0 : Int), f_Bytes := ([] : List Int), f_From := zqSG_0, f_Result := ([] : List Int), f_Ok := false, f_Key := (Vector.replicate 32 (0 : Int) : (Vector Int 32)), f_Local := (0 : Int), f_Remote := (0 : Int), f_Next := (0 : Int) } : S_api_Item)) rfl (fill_step (c := (cInt .u32)) (z := 7) rfl (c_api_Item_f_Local (((none : Option Addr), (0 : Nat)), ((none : Option Addr), (0 : Nat))) ({ ({ f_Kind := (0 : Int), f_Bytes := ([] : List Int), f_From := zqSG_0, f_Result := ([] : List Int), f_Ok := false, f_Key := (Vector.replicate 32 (0 : Int) : (Vector Int 32)), f_Local := (0 : Int), f_Remote := (0 : Int), f_Next := (0 : Int) } : S_api_Item) with f_Kind := 6 })) rfl rfl))) ?_
 obtain ⟨t1, ht1, hF⟩ := of_bindM hF
 refine at_callB Tryz.func23 rfl (by kernel_rfl) rfl rfl (fun w hw => script_Text_ok _ _ _ ht1 w ⟨(Row.nil ..), (Row.nil ..)⟩ (hg_bytealg_MaxLen.on hw.below) (hg_strconv_ErrRange.on hw.below) (hg_strconv_ErrSyntax.on hw.below) (hg_strconv_uint64pow10.on hw.below)) ?_
 refine av rfl (r_move rfl) ?_
 refine av rfl (r_extract rfl rfl) ?_
 refine av rfl (r_extract rfl rfl) ?_
 refine av rfl (r_assign rfl) ?_
 refine av rfl (r_assign rfl) ?_
 refine nws [(1, _), (2, _)] ⟨rfl, rfl, trivial⟩ ?_
 refine av rfl (r_move rfl) ?_
 refine av rfl (r_ieql rfl rfl) ?_
 refine av rfl (r_move rfl) ?_
 rcases of_ite hF with ⟨h2, hF⟩ | ⟨h2, hF⟩
 ·refine at_fix (g := 10) rfl h2 ?_
  refine at_guard_yes rfl rfl rfl ?_
  refine av rfl (r_move rfl) ?_
  refine at_guard_yes rfl rfl rfl ?_
  refine av rfl (r_seql rfl rfl) ?_
  refine av rfl (r_pick rfl rfl rfl) ?_
  refine av rfl (r_assign rfl) ?_
  refine nwt [(0, _)] ⟨rfl, trivial⟩ ?_
  refine at_ret ?_
  have K := of_some hF
  subst K
  exact at_return1 rfl rfl (fun w1 hw => ⟨rfl, hw.below⟩)
 ·refine at_fix (g := 10) rfl h2 ?_
  refine at_guard_no rfl rfl rfl rfl rfl ?_
  refine at_guard_no rfl rfl rfl rfl rfl ?_
  refine av rfl (r_pick rfl rfl rfl) ?_
  refine av rfl (r_assign rfl) ?_
  refine nwt [(0, _)] ⟨rfl, trivial⟩ ?_
  refine at_ret ?_
  have K := of_some hF
  subst K
  exact at_return1 rfl rfl (fun w1 hw => ⟨rfl, hw.below⟩)
def crawlwaylaw50_ScriptSame (x0 : S_api_Item) (x1 : S_api_Item) : Option (Bool) :=
  crawlwayref49_Large ([x0, x1]) >>= fun t4 => if t4 = true then (crawlwaylaw50_alive >>= fun t6 => some t6) else (script_Same x0 x1 >>= fun t7 => crawlwayref50_Same x0 x1 >>= fun t8 => if (t7 == t8) = true then (script_Same x0 x0 >>= fun t10 => if t10 = true then (crawlwaylaw50_alive >>= fun t12 => some t12) else (some false)) else (some false))
theorem crawlwaylaw50_ScriptSame_ok (g0_ : G_api_Item) (x0 : S_api_Item) (g1_ : G_api_Item) (x1 : S_api_Item) (r : Bool) (hF : crawlwaylaw50_ScriptSame x0 x1 = some r) (w : World) (hn0 : N_api_Item w (g0_, x0)) (hn1 : N_api_Item w (g1_, x1)) (hg_bytealg_MaxLen : GV_bytealg_MaxLen w) (hg_strconv_ErrRange : GV_strconv_ErrRange w) (hg_strconv_ErrSyntax : GV_strconv_ErrSyntax w) (hg_strconv_uint64pow10 : GV_strconv_uint64pow10 w) :
    Calls Tryz.prog 3 #[.agg (Cd.cs c_api_Item (g0_, x0)).toArray, .agg (Cd.cs c_api_Item (g1_, x1)).toArray] w (fun e w' => e = .returned (.bool r) ∧ Below w.heap.size w w') := by
 unfold crawlwaylaw50_ScriptSame at hF
 refine calls_enter (l := [.agg (Cd.cs c_api_Item (g0_, x0)).toArray, .agg (Cd.cs c_api_Item (g1_, x1)).toArray]) Tryz.func3 rfl rfl rfl ?_
 refine at_start ?_
 refine at_weak [(0, _), (1, _)] ⟨rfl, rfl, trivial⟩ ?_
 refine sr ?_
 refine at_box (cs := Cd.cs c_api_Item (g0_, x0)) rfl rfl rfl ?_
 intro b1
 refine at_box (cs := Cd.cs c_api_Item (g1_, x1)) rfl rfl rfl ?_
 intro b2
 refine av rfl (r_assign rfl) ?_
 refine nwt [(2, _), (3, _)] ⟨rfl, rfl, trivial⟩ ?_
 refine at_seq ?_
 refine sr ?_
 refine av rfl (r_load_aggc (c := c_api_Item) (z := (g0_, x0)) Tryz.isAgg33 Tryz.sizeOf33 rfl (lens_cell (.s .z) (Lens.whole _ _))) ?_
 refine av rfl (r_load_aggc (c := c_api_Item) (z := (g1_, x1)) Tryz.isAgg33 Tryz.sizeOf33 rfl (lens_cell .z (Lens.whole _ _))) ?_
 refine at_litL (c := c_api_Item) ([((((none : Option Addr), (0 : Nat)), ((none : Option Addr), (0 : Nat))), ({ f_Kind := (0 : Int), f_Bytes := ([] : List Int), f_From := zqSG_0, f_Result := ([] : List Int), f_Ok := false, f_Key := (Vector.replicate 32 (0 : Int) : (Vector Int 32)), f_Local := (0 : Int), f_Remote := (0 : Int), f_Next := (0 : Int) } : S_api_Item)), ((((none : Option Addr), (0 : Nat)), ((none : Option Addr), (0 : Nat))), ({ f_Kind := (0 : Int), f_Bytes := ([] : List Int), f_From := zqSG_0, f_Result := ([] : List Int), f_Ok := false, f_Key := (Vector.replicate 32 (0 : Int) : (Vector Int 32)), f_Local := (0 : Int), f_Remote := (0 : Int), f_Next := (0 : Int) } : S_api_Item))] : List (G_api_Item × S_api_Item)) ([(g0_, x0), (g1_, x1)] : List (G_api_Item × S_api_Item)) Tryz.underlying35 Tryz.sizeOf33 Tryz.zeroValue33 rfl rfl rfl (by kernel_rfl) (fill_step (c := c_api_Item) (z := (g0_, x0)) rfl (Lens.all c_api_Item ([((((none : Option Addr), (0 : Nat)), ((none : Option Addr), (0 : Nat))), ({ f_Kind := (0 : Int), f_Bytes := ([] : List Int), f_From := zqSG_0, f_Result := ([] : List Int), f_Ok := false, f_Key := (Vector.replicate 32 (0 : Int) : (Vector Int 32)), f_Local := (0 : Int), f_Remote := (0 : Int), f_Next := (0 : Int) } : S_api_Item)), ((((none : Option Addr), (0 : Nat)), ((none : Option Addr), (0 : Nat))), ({ f_Kind := (0 : Int), f_Bytes := ([] : List Int), f_From := zqSG_0, f_Result := ([] : List Int), f_Ok := false, f_Key := (Vector.replicate 32 (0 : Int) : (Vector Int 32)), f_Local := (0 : Int), f_Remote := (0 : Int), f_Next := (0 : Int) } : S_api_Item))] : List (G_api_Item × S_api_Item)) 0 (by first | decide | exact Nat.le_of_ble_eq_true rfl)) rfl (fill_step (c := c_api_Item) (z := (g1_, x1)) rfl (Lens.all c_api_Item ([(g0_, x0), ((((none : Option Addr), (0 : Nat)), ((none : Option Addr), (0 : Nat))), ({ f_Kind := (0 : Int), f_Bytes := ([] : List Int), f_From := zqSG_0, f_Result := ([] : List Int), f_Ok := false, f_Key := (Vector.replicate 32 (0 : Int) : (Vector Int 32)), f_Local := (0 : Int), f_Remote := (0 : Int), f_Next := (0 : Int) } : S_api_Item))] : List (G_api_Item × S_api_Item)) 1 (by first | decide | exact Nat.le_of_ble_eq_true rfl)) rfl rfl)) rfl ?_
 intro b3
 obtain ⟨t4, ht4, hF⟩ := of_bindM hF
 refine at_callB Tryz.func10 rfl (by kernel_rfl) rfl rfl (fun w hw => callB_of_call0 (crawlwayref49_Large_ok _ _ _ _ ht4 w ⟨([(g0_, x0), (g1_, x1)] : List (G_api_Item × S_api_Item)), rfl, cells_row (hw.ok (Upd.mem .z)), (all_cons (N_api_Item.below hn0 hw.below) (all_cons (N_api_Item.below hn1 hw.below) all_nil))⟩)) ?_
 refine at_nil ?_
 refine at_drop (H := _) .z ?_
 refine at_weak [(2, _), (3, _), (8, _)] ⟨rfl, rfl, rfl, trivial⟩ ?_
 refine at_then_normal ?_
 rcases of_ite hF with ⟨h5, hF⟩ | ⟨h5, hF⟩
 ·refine at_cond_true rfl h5 ?_
  refine sr ?_
  obtain ⟨t6, ht6, hF⟩ := of_bindM hF
  refine at_callB Tryz.func11 rfl (by kernel_rfl) rfl rfl (fun w hw => crawlwaylaw50_alive_ok  _ ht6 w (hg_bytealg_MaxLen.on hw.below) (hg_strconv_ErrRange.on hw.below) (hg_strconv_ErrSyntax.on hw.below) (hg_strconv_uint64pow10.on hw.below)) ?_
  refine av rfl (r_assign rfl) ?_
  refine at_nil ?_
  refine at_drop (H := _) .z ?_
  refine at_drop (H := _) .z ?_
  refine at_weak [(4, _)] ⟨rfl, trivial⟩ ?_
  refine at_then_normal ?_
  refine rt ?_
  have K := of_some hF
  subst K
  exact at_return1 rfl rfl (fun w1 hw => ⟨rfl, hw.below⟩)
 ·refine at_cond_false rfl h5 ?_
  refine sn ?_
  refine at_seq ?_
  refine at_draw (by kernel_rfl) (by kernel_rfl) (fun _ h => h.drew) ?_
  refine atq_val rfl rfl rfl (r_load_aggc (c := c_api_Item) (z := (g0_, x0)) Tryz.isAgg33 Tryz.sizeOf33 rfl (lens_cell (.s .z) (Lens.whole _ _))) ?_
  refine atq_val rfl rfl rfl (r_load_aggc (c := c_api_Item) (z := (g1_, x1)) Tryz.isAgg33 Tryz.sizeOf33 rfl (lens_cell .z (Lens.whole _ _))) ?_
  obtain ⟨t7, ht7, hF⟩ := of_bindM hF
  refine atq_call Tryz.func12 rfl (by kernel_rfl) rfl rfl (fun w hw => (script_Same_ok _ _ _ _ _ ht7 w (N_api_Item.below hn0 hw.below) (N_api_Item.below hn1 hw.below)).mono fun _ _ h => ⟨h.1, hw.call h.2⟩) ?_
  refine atq_val rfl rfl rfl (r_load_aggc (c := c_api_Item) (z := (g0_, x0)) Tryz.isAgg33 Tryz.sizeOf33 rfl (lens_cell (.s .z) (Lens.whole _ _))) ?_
  refine atq_val rfl rfl rfl (r_load_aggc (c := c_api_Item) (z := (g1_, x1)) Tryz.isAgg33 Tryz.sizeOf33 rfl (lens_cell .z (Lens.whole _ _))) ?_
  obtain ⟨t8, ht8, hF⟩ := of_bindM hF
  refine atq_call Tryz.func13 rfl (by kernel_rfl) rfl rfl (fun w hw => (crawlwayref50_Same_ok _ _ _ _ _ ht8 w (N_api_Item.below hn0 hw.below) (N_api_Item.below hn1 hw.below)).mono fun _ _ h => ⟨h.1, hw.call h.2⟩) ?_
  refine atq_val rfl rfl rfl (r_bool Tryz.underlying4 rfl rfl (.inl rfl) rfl) ?_
  refine atq_val rfl rfl rfl (r_move rfl) ?_
  rcases of_ite hF with ⟨h9, hF⟩ | ⟨h9, hF⟩
  ·refine atq_fix (g := 17) rfl h9 ?_
   refine atq_guard_yes rfl rfl rfl ?_
   refine atq_val rfl rfl rfl (r_load_aggc (c := c_api_Item) (z := (g0_, x0)) Tryz.isAgg33 Tryz.sizeOf33 rfl (lens_cell (.s .z) (Lens.whole _ _))) ?_
   refine atq_guard_yes rfl rfl rfl ?_
   refine atq_val rfl rfl rfl (r_load_aggc (c := c_api_Item) (z := (g0_, x0)) Tryz.isAgg33 Tryz.sizeOf33 rfl (lens_cell (.s .z) (Lens.whole _ _))) ?_
   refine atq_guard_yes rfl rfl rfl ?_
   obtain ⟨t10, ht10, hF⟩ := of_bindM hF
   refine atq_call Tryz.func12 rfl (by kernel_rfl) rfl rfl (fun w hw => (script_Same_ok _ _ _ _ _ ht10 w (N_api_Item.below hn0 hw.below) (N_api_Item.below hn0 hw.below)).mono fun _ _ h => ⟨h.1, hw.call h.2⟩) ?_
   refine atq_val rfl rfl rfl (r_pick rfl rfl rfl) ?_
   refine atq_val rfl rfl rfl (r_move rfl) ?_
   rcases of_ite hF with ⟨h11, hF⟩ | ⟨h11, hF⟩
   ·refine atq_fix (g := 22) rfl h11 ?_
    refine atq_guard_yes rfl rfl rfl ?_
    obtain ⟨t12, ht12, hF⟩ := of_bindM hF
    refine atq_call Tryz.func11 rfl (by kernel_rfl) rfl rfl (fun w hw => (crawlwaylaw50_alive_ok  _ ht12 w (hg_bytealg_MaxLen.on hw.below) (hg_strconv_ErrRange.on hw.below) (hg_strconv_ErrSyntax.on hw.below) (hg_strconv_uint64pow10.on hw.below)).mono fun _ _ h => ⟨h.1, hw.call h.2⟩) ?_
    refine atq_val rfl rfl rfl (r_pick rfl rfl rfl) ?_
    refine atq_val rfl rfl rfl (r_assign rfl) ?_
    refine atq_nil ?_
    refine at_drop (H := _) .z ?_
    refine at_drop (H := _) .z ?_
    refine at_weak [(4, _)] ⟨rfl, trivial⟩ ?_
    refine at_then_normal ?_
    refine at_ret ?_
    have K := of_some hF
    subst K
    exact at_return1 rfl rfl (fun w1 hw => ⟨rfl, hw.below⟩)
   ·refine atq_fix (g := 22) rfl h11 ?_
    refine atq_guard_no rfl rfl rfl rfl rfl ?_
    refine atq_val rfl rfl rfl (r_pick rfl rfl rfl) ?_
    refine atq_val rfl rfl rfl (r_assign rfl) ?_
    refine atq_nil ?_
    refine at_drop (H := _) .z ?_
    refine at_drop (H := _) .z ?_
    refine at_weak [(4, _)] ⟨rfl, trivial⟩ ?_
    refine at_then_normal ?_
    refine at_ret ?_
    have K := of_some hF
    subst K
    exact at_return1 rfl rfl (fun w1 hw => ⟨rfl, hw.below⟩)
  ·refine atq_fix (g := 17) rfl h9 ?_
   refine atq_guard_no rfl rfl rfl rfl rfl ?_
   refine atq_guard_no rfl rfl rfl rfl rfl ?_
   refine atq_guard_no rfl rfl rfl rfl rfl ?_
   refine atq_val rfl rfl rfl (r_pick rfl rfl rfl) ?_
   refine atq_val rfl rfl rfl (r_move rfl) ?_
   refine atq_guard_no rfl rfl rfl rfl rfl ?_
   refine atq_val rfl rfl rfl (r_pick rfl rfl rfl) ?_
   refine atq_val rfl rfl rfl (r_assign rfl) ?_
   refine atq_nil ?_
   refine at_drop (H := _) .z ?_
   refine at_drop (H := _) .z ?_
   refine at_weak [(4, _)] ⟨rfl, trivial⟩ ?_
   refine at_then_normal ?_
   refine at_ret ?_
   have K := of_some hF
   subst K
   exact at_return1 rfl rfl (fun w1 hw => ⟨rfl, hw.below⟩)
end Go.Proofs.YtkkmmpofdcccmaaGreatDoor
namespace Go.Proofs.YtkkmmpofdcccmaaGreatDoor
open E
theorem text_code (n : Nat) (h : n < 18446744073709551616) : decimal_Text (n : Int) = some (fmtU n) := by
  unfold decimal_Text
  rw [if_pos (by omega)]
end Go.Proofs.YtkkmmpofdcccmaaGreatDoor
namespace Go.Proofs.YtkkmmpofdcccmaaGreatDoor.Scr
open E Go.RowKit
theorem wr_i (i : Nat) (h : i < 1000000) : wr .i64 ((i : Int) + 1) = ((i + 1 : Nat) : Int) := by rw [wr_i64 (by omega) (by omega)]; omega
theorem lget_at {α : Type} [Inhabited α] (l : List α) (i : Nat) (h : i < l.length) : lget l (i : Int) = l[i] := by
  unfold lget
  rw [Int.toNat_natCast, List.getD_eq_getElem?_getD, List.getElem?_eq_getElem h]; rfl
theorem drop_at {α : Type} [Inhabited α] (l : List α) (i : Nat) (h : i < l.length) : l.drop i = lget l (i : Int) :: l.drop (i + 1) := by
  rw [lget_at l i h]; exact List.drop_eq_getElem_cons h
theorem same01_loop (l m : List Int) (hl : l.length < 100000) (hlm : l.length = m.length) : ∀ (k i : Nat), i + k = l.length → crawlwayref01_Same.l0 l m (i : Int) = some (if l.drop i = m.drop i then .nx () else .ret false)
  | 0, i, h => by
    rw [crawlwayref01_Same.l0.eq_def, decide_eq_false (by omega), if_neg Bool.false_ne_true, List.drop_eq_nil_of_le (by omega), List.drop_eq_nil_of_le (by omega), if_pos rfl]
  | k + 1, i, h => by
    rw [crawlwayref01_Same.l0.eq_def, decide_eq_true (by omega : (i : Int) < (l.length : Int)), if_pos rfl, if_pos (by omega), if_pos (by omega), wr_i i (by omega), same01_loop l m hl hlm k (i + 1) (by omega), drop_at l i (by omega), drop_at m i (by omega)]
    by_cases e : lget l (i : Int) = lget m (i : Int)
    · rw [if_neg (by simp [e]), e]
      by_cases e2 : l.drop (i + 1) = m.drop (i + 1)
      · rw [if_pos e2, e2, if_pos rfl]
      · rw [if_neg e2, if_neg (by intro h; injection h with _ h; exact e2 h)]
    · rw [if_pos (by simpa using e), if_neg (by intro h; injection h with h _; exact e h)]
theorem same01 (l m : List Int) (hl : l.length < 100000) : crawlwayref01_Same l m = some (decide (l = m)) := by
  unfold crawlwayref01_Same
  by_cases hlm : l.length = m.length
  · rw [if_neg (by simp [hlm]), show (0 : Int) = ((0 : Nat) : Int) from rfl, same01_loop l m hl hlm l.length 0 (by omega), bindM_some, List.drop_zero, List.drop_zero]
    by_cases e : l = m
    · rw [if_pos e, decide_eq_true e]
    · rw [if_neg e, decide_eq_false e]
  · rw [if_pos (by simp; omega), decide_eq_false (fun e => hlm (by rw [e]))]
theorem unb_ob (l : List UInt8) : unb (ob l) = l := by
  unfold unb ob
  rw [List.map_map]
  conv => rhs; rw [← List.map_id l]
  apply List.map_congr_left
  intro x _
  simp
theorem equal_code (l m : List Int) (hl : ∀ x ∈ l, (Lit.int .u8 x).wf = true) (hm : ∀ x ∈ m, (Lit.int .u8 x).wf = true) : bytes_Equal l m = some (decide (l = m)) := by
  obtain ⟨a, rfl⟩ := exists_ob l hl
  obtain ⟨b, rfl⟩ := exists_ob m hm
  unfold bytes_Equal
  rw [unb_ob, unb_ob]
  congr 1
  rw [Bool.eq_iff_iff, seq_iff, decide_eq_true_eq]
  constructor
  · intro h
    have h2 := congrArg (fun x : ByteArray => x.data.toList) h
    simp only [List.toList_toArray] at h2
    rw [h2]
  · intro h
    rw [ob_inj h]
def itB (k b f r o y l m n : Bool) : Bool := k && b && f && r && o && y && l && m && n
def itemE (a b : S_api_Item) : Bool := itB (a.f_Kind == b.f_Kind) (decide (a.f_Bytes = b.f_Bytes)) (decide (a.f_From = b.f_From)) (decide (a.f_Result = b.f_Result)) (a.f_Ok == b.f_Ok) (decide (a.f_Key = b.f_Key)) (a.f_Local == b.f_Local) (a.f_Remote == b.f_Remote) (a.f_Next == b.f_Next)
theorem itemE_iff (a b : S_api_Item) : itemE a b = true ↔ a = b := by
  cases a; cases b
  simp [itemE, itB, and_assoc]
theorem itemE_eq (a b : S_api_Item) : itemE a b = decide (a = b) := by rw [Bool.eq_iff_iff, itemE_iff, decide_eq_true_eq]
theorem same_code (a b : S_api_Item) (ha : ok_api_Item a) (hb : ok_api_Item b) : script_Same a b = some (decide (a = b)) := by
  have e1 := equal_code a.f_Bytes b.f_Bytes ha.2.1 hb.2.1
  have e2 := equal_code a.f_Result b.f_Result ha.2.2.2.1 hb.2.2.2.1
  rw [← itemE_eq]
  unfold script_Same itemE
  rw [e1, e2]
  generalize (a.f_Kind == b.f_Kind) = k
  generalize (decide (a.f_Bytes = b.f_Bytes)) = b1
  generalize (decide (a.f_From = b.f_From)) = b2
  generalize (decide (a.f_Result = b.f_Result)) = b3
  generalize (a.f_Ok == b.f_Ok) = b4
  generalize (decide (a.f_Key = b.f_Key)) = b5
  generalize (a.f_Local == b.f_Local) = b6
  generalize (a.f_Remote == b.f_Remote) = b7
  generalize (a.f_Next == b.f_Next) = b8
  clear e1 e2
  revert k b1 b2 b3 b4 b5 b6 b7 b8
  decide +kernel
def smallI (a : S_api_Item) : Prop := a.f_Bytes.length ≤ 6000 ∧ a.f_Result.length ≤ 7000
theorem same_ref (a b : S_api_Item) (ha : smallI a) : crawlwayref50_Same a b = some (decide (a = b)) := by
  have e1 := same01 a.f_Bytes b.f_Bytes (by have := ha.1; omega)
  have e2 := same01 a.f_Result b.f_Result (by have := ha.2; omega)
  rw [← itemE_eq]
  unfold crawlwayref50_Same itemE
  rw [e1, e2]
  generalize (a.f_Kind == b.f_Kind) = k
  generalize (decide (a.f_Bytes = b.f_Bytes)) = b1
  generalize (decide (a.f_From = b.f_From)) = b2
  generalize (decide (a.f_Result = b.f_Result)) = b3
  generalize (a.f_Ok == b.f_Ok) = b4
  generalize (decide (a.f_Key = b.f_Key)) = b5
  generalize (a.f_Local == b.f_Local) = b6
  generalize (a.f_Remote == b.f_Remote) = b7
  generalize (a.f_Next == b.f_Next) = b8
  clear e1 e2
  revert k b1 b2 b3 b4 b5 b6 b7 b8
  decide +kernel
theorem large_loop (l : List S_api_Item) (hl : l.length ≤ 40) : ∀ (k i : Nat), i + k = l.length → (crawlwayref49_Large.l0 l (i : Int) = some (.ret true)) ∨ (crawlwayref49_Large.l0 l (i : Int) = some (.nx ()) ∧ ∀ x ∈ l.drop i, smallI x)
  | 0, i, h => by
    right
    refine ⟨by rw [crawlwayref49_Large.l0.eq_def, decide_eq_false (by omega), if_neg Bool.false_ne_true], ?_⟩
    rw [List.drop_eq_nil_of_le (by omega)]; simp
  | k + 1, i, h => by
    rw [crawlwayref49_Large.l0.eq_def, decide_eq_true (by omega : (i : Int) < (l.length : Int)), if_pos rfl, if_pos (by omega)]
    by_cases h1 : (lget l (i : Int)).f_Bytes.length ≤ 6000
    · rw [if_neg (by rw [decide_eq_true_eq]; omega), if_pos (by omega), wr_i i (by omega)]
      by_cases h2 : (lget l (i : Int)).f_Result.length ≤ 7000
      · rw [if_neg (by rw [decide_eq_true_eq]; omega)]
        rcases large_loop l hl k (i + 1) (by omega) with ih | ⟨ih, hx⟩
        · exact .inl ih
        · refine .inr ⟨ih, fun x hxm => ?_⟩
          rw [drop_at l i (by omega)] at hxm
          rcases List.mem_cons.1 hxm with rfl | hxm
          · exact ⟨h1, h2⟩
          · exact hx x hxm
      · rw [if_pos (by rw [decide_eq_true_eq]; omega)]; exact .inl rfl
    · rw [if_pos (by rw [decide_eq_true_eq]; omega)]; exact .inl rfl
theorem large (l : List S_api_Item) : crawlwayref49_Large l = some true ∨ (crawlwayref49_Large l = some false ∧ l.length ≤ 40 ∧ ∀ x ∈ l, smallI x) := by
  unfold crawlwayref49_Large
  by_cases h : l.length ≤ 40
  · rw [if_neg (by rw [decide_eq_true_eq]; omega), show (0 : Int) = ((0 : Nat) : Int) from rfl]
    rcases large_loop l h l.length 0 (by omega) with e | ⟨e, hx⟩
    · left; rw [e, bindM_some]
    · right; rw [List.drop_zero] at hx; exact ⟨by rw [e, bindM_some], h, hx⟩
  · left; rw [if_pos (by rw [decide_eq_true_eq]; omega)]
def zA : S_api_Addr := { f_V := (0 : Int), f_B := (Vector.replicate 16 (0 : Int) : (Vector Int 16)) }
def zI : S_api_Item := { f_Kind := (0 : Int), f_Bytes := ([] : List Int), f_From := ({ f_A := zA, f_Port := (0 : Int) } : S_api_Endpoint), f_Result := ([] : List Int), f_Ok := false, f_Key := (Vector.replicate 32 (0 : Int) : (Vector Int 32)), f_Local := (0 : Int), f_Remote := (0 : Int), f_Next := (0 : Int) }
theorem ok_zI : ok_api_Item zI := by
  refine ⟨by decide, (by intro x hx; cases hx), ⟨⟨by decide, ?_⟩, by decide⟩, (by intro x hx; cases hx), trivial, ?_, by decide, by decide, by decide⟩
  · show ∀ x ∈ (Vector.replicate 16 (0 : Int)).toList, (fun n : Int => (Lit.int .u8 n).wf = true) x
    decide
  · show ∀ x ∈ (Vector.replicate 32 (0 : Int)).toList, (fun n : Int => (Lit.int .u8 n).wf = true) x
    decide
theorem ok_kind (k : Int) (h : (Lit.int .i64 k).wf = true) : ok_api_Item { zI with f_Kind := k } := ⟨h, ok_zI.2⟩
theorem alive50 : crawlwaylaw50_alive = some true := by
  have hr : script_Right { zI with f_Kind := 6, f_Local := 7 } = some true := by
    unfold script_Right
    show (script_Same { zI with f_Kind := 6 } { zI with f_Kind := 6 } >>= fun t => some t) = _
    rw [same_code _ _ (ok_kind 6 (by decide)) (ok_kind 6 (by decide)), bindM_some, decide_eq_true rfl]
  have ht := text_code 7 (by omega)
  have hw : wr .u64 7 = ((7 : Nat) : Int) := by decide
  unfold crawlwaylaw50_alive
  show (script_Text { zI with f_Kind := 6, f_Local := 7 } >>= _) = _
  unfold script_Text
  rw [hr, bindM_some, if_neg (by simp)]
  show ((decimal_Text (wr .u64 7) >>= _) >>= _) = _
  rw [hw, ht, bindM_some]
  decide +kernel
theorem ScriptSame_pure (a0 : S_api_Item) (w0 : ok_api_Item a0) (a1 : S_api_Item) (w1 : ok_api_Item a1) : crawlwaylaw50_ScriptSame a0 a1 = some true := by
  unfold crawlwaylaw50_ScriptSame
  rcases large [a0, a1] with h | ⟨h, _, hs⟩
  · rw [h, bindM_some, if_pos rfl, alive50, bindM_some]
  · rw [h, bindM_some, if_neg Bool.false_ne_true, same_code _ _ w0 w1, bindM_some, same_ref _ _ (hs a0 (by simp)), bindM_some, if_pos (by simp), same_code _ _ w0 w0, bindM_some, decide_eq_true rfl, if_pos rfl, alive50, bindM_some]
end Go.Proofs.YtkkmmpofdcccmaaGreatDoor.Scr
