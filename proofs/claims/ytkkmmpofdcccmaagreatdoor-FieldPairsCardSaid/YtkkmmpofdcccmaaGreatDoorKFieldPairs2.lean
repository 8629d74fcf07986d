/- Texts of this claim, those in one that belong together; printed by a program of this project. -/
import Derived.Test.YtkkmmpofdcccmaaGreatDoorProg
import Derived.Test.YtkkmmpofdcccmaaGreatDoorKFieldPairs1
set_option linter.unusedVariables false
set_option linter.unusedSimpArgs false
namespace Go.Proofs.YtkkmmpofdcccmaaGreatDoor
open E Go.RowKit
abbrev zqG6_0 : S_api_Endpoint := ({ f_A := ({ f_V := (0 : Int), f_B := (Vector.replicate 16 (0 : Int) : (Vector Int 16)) } : S_api_Addr), f_Port := (0 : Int) } : S_api_Endpoint)
def stringslite_CutPrefix (x0 : ByteArray) (x1 : ByteArray) : Option (ByteArray × Bool) :=
  stringslite_HasPrefix x0 x1 >>= fun t1 => if (!t1) = true then (some (x0, false)) else (if (0 : Int) ≤ (x1.size : Int) ∧ (x1.size : Int) ≤ (x0.size : Int) ∧ (x0.size : Int) ≤ (x0.size : Int) then some (x0.extract (Int.toNat (x1.size : Int)) (Int.toNat (x0.size : Int)), true) else none)
theorem stringslite_CutPrefix_ok (x0 : ByteArray) (x1 : ByteArray) (r : ByteArray × Bool) (hF : stringslite_CutPrefix x0 x1 = some r) (w : World) :
    Calls Tryz.prog 195 #[.string x0, .string x1] w (fun e w' => e = .returned (.tuple #[.string r.1, .bool r.2]) ∧ w' = w) := by
 unfold stringslite_CutPrefix at hF
 refine calls_enter (l := [.string x0, .string x1]) Tryz.func195 rfl rfl rfl ?_
 refine at_weak [(0, _), (1, _)] ⟨rfl, rfl, trivial⟩ ?_
 refine sr ?_
 refine av rfl (r_assign rfl) ?_
 refine av rfl (r_assign rfl) ?_
 refine nwt [(0, _), (1, _)] ⟨rfl, rfl, trivial⟩ ?_
 refine at_seq ?_
 refine sr ?_
 refine av rfl (r_move rfl) ?_
 refine av rfl (r_move rfl) ?_
 obtain ⟨t1, ht1, hF⟩ := of_bindM hF
 refine at_call0 Tryz.func216 rfl (by kernel_rfl) rfl rfl (fun w => stringslite_HasPrefix_ok _ _ _ ht1 w) ?_
 refine av rfl (r_not rfl) ?_
 refine nwt [(0, _), (1, _), (9, _)] ⟨rfl, rfl, rfl, trivial⟩ ?_
 rcases of_ite hF with ⟨h2, hF⟩ | ⟨h2, hF⟩
 ·refine at_cond_true rfl h2 ?_
  refine sr ?_
  refine av rfl (r_move rfl) ?_
  refine av rfl (r_assign rfl) ?_
  refine av rfl (r_assign rfl) ?_
  refine nwt [(4, _), (5, _)] ⟨rfl, rfl, trivial⟩ ?_
  refine rt ?_
  have K := of_some hF
  subst K
  exact at_return2 rfl rfl rfl (fun w1 hw => ⟨rfl, hw⟩)
 ·refine at_cond_false rfl h2 ?_
  refine sns ?_
  refine av rfl (r_move rfl) ?_
  refine av rfl (r_move rfl) ?_
  refine av rfl (r_len_str Tryz.underlying9 rfl) ?_
  obtain ⟨h3, hF⟩ := of_guard hF
  refine av rfl (r_slice_str Tryz.underlying9 rfl ⟨_, rfl⟩ rfl h3) ?_
  refine av rfl (r_assign rfl) ?_
  refine av rfl (r_assign rfl) ?_
  refine nwt [(4, _), (5, _)] ⟨rfl, rfl, trivial⟩ ?_
  refine at_ret ?_
  have K := of_some hF
  subst K
  exact at_return2 rfl rfl rfl (fun w1 hw => ⟨rfl, hw⟩)
def strings_CutPrefix (x0 : ByteArray) (x1 : ByteArray) : Option (ByteArray × Bool) :=
  stringslite_CutPrefix x0 x1 >>= fun t1 => some (t1.1, t1.2)
theorem strings_CutPrefix_ok (x0 : ByteArray) (x1 : ByteArray) (r : ByteArray × Bool) (hF : strings_CutPrefix x0 x1 = some r) (w : World) :
    Calls Tryz.prog 176 #[.string x0, .string x1] w (fun e w' => e = .returned (.tuple #[.string r.1, .bool r.2]) ∧ w' = w) := by
 unfold strings_CutPrefix at hF
 refine calls_enter (l := [.string x0, .string x1]) Tryz.func176 rfl rfl rfl ?_
 refine at_weak [(0, _), (1, _)] ⟨rfl, rfl, trivial⟩ ?_
 refine sr ?_
 refine av rfl (r_assign rfl) ?_
 refine av rfl (r_assign rfl) ?_
 refine nws [(0, _), (1, _)] ⟨rfl, rfl, trivial⟩ ?_
 refine av rfl (r_move rfl) ?_
 refine av rfl (r_move rfl) ?_
 obtain ⟨t1, ht1, hF⟩ := of_bindM hF
 refine at_call0 Tryz.func195 rfl (by kernel_rfl) rfl rfl (fun w => stringslite_CutPrefix_ok _ _ _ ht1 w) ?_
 refine av rfl (r_extract rfl rfl) ?_
 refine av rfl (r_extract rfl rfl) ?_
 refine av rfl (r_assign rfl) ?_
 refine av rfl (r_assign rfl) ?_
 refine nwt [(4, _), (5, _)] ⟨rfl, rfl, trivial⟩ ?_
 refine at_ret ?_
 have K := of_some hF
 subst K
 exact at_return2 rfl rfl rfl (fun w1 hw => ⟨rfl, hw⟩)
def hostport_Right (x0 : S_api_Endpoint) : Option (Bool) :=
  addr_Right x0.f_A >>= fun t2 => if t2 = true then (if (decide (x0.f_Port ≥ 1)) = true then (some (decide (x0.f_Port ≤ 65535))) else (some false)) else (some false)
theorem hostport_Right_ok (x0 : S_api_Endpoint) (r : Bool) (hF : hostport_Right x0 = some r) (w : World) :
    Calls Tryz.prog 102 #[.agg (Cd.cs c_api_Endpoint x0).toArray] w (fun e w' => e = .returned (.bool r) ∧ Below w.heap.size w w') := by
 unfold hostport_Right at hF
 refine calls_enter (l := [.agg (Cd.cs c_api_Endpoint x0).toArray]) Tryz.func102 rfl rfl rfl ?_
 refine at_start ?_
 refine at_weak [(0, _)] ⟨rfl, trivial⟩ ?_
 refine sr ?_
 refine at_box (cs := Cd.cs c_api_Endpoint x0) rfl rfl rfl ?_
 intro b1
 refine av rfl (r_assign rfl) ?_
 refine nws [(1, _)] ⟨rfl, trivial⟩ ?_
 refine av rfl (r_fieldAddr (fo := 0) Tryz.underlying27 rfl rfl (fun w => ⟨_, Tryz.sizeOf25 w⟩) rfl) ?_
 refine av rfl (r_load_aggc (c := c_api_Addr) (z := x0.f_A) Tryz.isAgg25 Tryz.sizeOf25 rfl (lens_cell .z (Lens.comp (Lens.whole _ _) (fun z => { x0 with f_A := z }) (c_api_Endpoint_f_A x0)))) ?_
 obtain ⟨t2, ht2, hF⟩ := of_bindM hF
 refine at_callB Tryz.func158 rfl (by kernel_rfl) rfl rfl (fun w hw => addr_Right_ok _ _ ht2 w) ?_
 refine av rfl (r_move rfl) ?_
 rcases of_ite hF with ⟨h3, hF⟩ | ⟨h3, hF⟩
 ·refine at_fix (g := 6) rfl h3 ?_
  refine at_guard_yes rfl rfl rfl ?_
  refine av rfl (r_fieldAddr (fo := 17) Tryz.underlying27 rfl rfl (fun w => ⟨_, Tryz.sizeOf3 w⟩) rfl) ?_
  refine at_guard_yes rfl rfl rfl ?_
  refine av rfl (r_load_cell Tryz.isAgg3 rfl (lens_cell0 (c := (cInt .i64)) (y := x0.f_Port) .z (Lens.comp (Lens.whole _ _) (fun z => { x0 with f_Port := z }) (c_api_Endpoint_f_Port x0)) rfl)) ?_
  refine at_guard_yes rfl rfl rfl ?_
  refine av rfl (r_igeq rfl rfl) ?_
  refine av rfl (r_pick rfl rfl rfl) ?_
  refine av rfl (r_move rfl) ?_
  rcases of_ite hF with ⟨h4, hF⟩ | ⟨h4, hF⟩
  ·refine at_fix (g := 11) rfl h4 ?_
   refine at_guard_yes rfl rfl rfl ?_
   refine av rfl (r_fieldAddr (fo := 17) Tryz.underlying27 rfl rfl (fun w => ⟨_, Tryz.sizeOf3 w⟩) rfl) ?_
   refine at_guard_yes rfl rfl rfl ?_
   refine av rfl (r_load_cell Tryz.isAgg3 rfl (lens_cell0 (c := (cInt .i64)) (y := x0.f_Port) .z (Lens.comp (Lens.whole _ _) (fun z => { x0 with f_Port := z }) (c_api_Endpoint_f_Port x0)) rfl)) ?_
   refine at_guard_yes rfl rfl rfl ?_
   refine av rfl (r_ileq rfl rfl) ?_
   refine av rfl (r_pick rfl rfl rfl) ?_
   refine av rfl (r_assign rfl) ?_
   refine at_nil ?_
   refine at_drop (H := _) .z ?_
   refine at_weak [(2, _)] ⟨rfl, trivial⟩ ?_
   refine at_then_normal ?_
   refine at_ret ?_
   have K := of_some hF
   subst K
   exact at_return1 rfl rfl (fun w1 hw => ⟨rfl, hw.below⟩)
  ·refine at_fix (g := 11) rfl h4 ?_
   refine at_guard_no rfl rfl rfl rfl rfl ?_
   refine at_guard_no rfl rfl rfl rfl rfl ?_
   refine at_guard_no rfl rfl rfl rfl rfl ?_
   refine av rfl (r_pick rfl rfl rfl) ?_
   refine av rfl (r_assign rfl) ?_
   refine at_nil ?_
   refine at_drop (H := _) .z ?_
   refine at_weak [(2, _)] ⟨rfl, trivial⟩ ?_
   refine at_then_normal ?_
   refine at_ret ?_
   have K := of_some hF
   subst K
   exact at_return1 rfl rfl (fun w1 hw => ⟨rfl, hw.below⟩)
 ·refine at_fix (g := 6) rfl h3 ?_
  refine at_guard_no rfl rfl rfl rfl rfl ?_
  refine at_guard_no rfl rfl rfl rfl rfl ?_
  refine at_guard_no rfl rfl rfl rfl rfl ?_
  refine av rfl (r_pick rfl rfl rfl) ?_
  refine av rfl (r_move rfl) ?_
  refine at_guard_no rfl rfl rfl rfl rfl ?_
  refine at_guard_no rfl rfl rfl rfl rfl ?_
  refine at_guard_no rfl rfl rfl rfl rfl ?_
  refine av rfl (r_pick rfl rfl rfl) ?_
  refine av rfl (r_assign rfl) ?_
  refine at_nil ?_
  refine at_drop (H := _) .z ?_
  refine at_weak [(2, _)] ⟨rfl, trivial⟩ ?_
  refine at_then_normal ?_
  refine at_ret ?_
  have K := of_some hF
  subst K
  exact at_return1 rfl rfl (fun w1 hw => ⟨rfl, hw.below⟩)
def hostport_Text (x0 : S_api_Endpoint) : Option (ByteArray) :=
  hostport_Right x0 >>= fun t2 => if (!t2) = true then (some (⟨#[]⟩)) else (decimal_Text (wr .u64 x0.f_Port) >>= fun t4 => addr_Width x0.f_A >>= fun t5 => if (decide (t5 > 32)) = true then (addr_Text x0.f_A >>= fun t7 => if (⟨#[91]⟩ : ByteArray).size + t7.size ≤ 140737488355328 then if ((⟨#[91]⟩ : ByteArray) ++ t7).size + (⟨#[93, 58]⟩ : ByteArray).size ≤ 140737488355328 then if (((⟨#[91]⟩ : ByteArray) ++ t7) ++ (⟨#[93, 58]⟩ : ByteArray)).size + t4.size ≤ 140737488355328 then some ((((⟨#[91]⟩ : ByteArray) ++ t7) ++ (⟨#[93, 58]⟩ : ByteArray)) ++ t4) else none else none else none) else (addr_Text x0.f_A >>= fun t11 => if t11.size + (⟨#[58]⟩ : ByteArray).size ≤ 140737488355328 then if (t11 ++ (⟨#[58]⟩ : ByteArray)).size + t4.size ≤ 140737488355328 then some ((t11 ++ (⟨#[58]⟩ : ByteArray)) ++ t4) else none else none))
theorem hostport_Text_ok (x0 : S_api_Endpoint) (r : ByteArray) (hF : hostport_Text x0 = some r) (w : World) (hg_strconv_uint64pow10 : GV_strconv_uint64pow10 w) :
    Calls Tryz.prog 101 #[.agg (Cd.cs c_api_Endpoint x0).toArray] w (fun e w' => e = .returned (.string r) ∧ Below w.heap.size w w') := by
 unfold hostport_Text at hF
 refine calls_enter (l := [.agg (Cd.cs c_api_Endpoint x0).toArray]) Tryz.func101 rfl rfl rfl ?_
 refine at_start ?_
 refine at_weak [(0, _)] ⟨rfl, trivial⟩ ?_
 refine sr ?_
 refine at_box (cs := Cd.cs c_api_Endpoint x0) rfl rfl rfl ?_
 intro b1
 refine av rfl (r_assign rfl) ?_
 refine nwt [(1, _)] ⟨rfl, trivial⟩ ?_
 refine at_seq ?_
 refine sr ?_
 refine av rfl (r_load_aggc (c := c_api_Endpoint) (z := x0) Tryz.isAgg27 Tryz.sizeOf27 rfl (lens_cell .z (Lens.whole _ _))) ?_
 obtain ⟨t2, ht2, hF⟩ := of_bindM hF
 refine at_callB Tryz.func102 rfl (by kernel_rfl) rfl rfl (fun w hw => hostport_Right_ok _ _ ht2 w) ?_
 refine av rfl (r_not rfl) ?_
 refine nwt [(1, _), (6, _)] ⟨rfl, rfl, trivial⟩ ?_
 rcases of_ite hF with ⟨h3, hF⟩ | ⟨h3, hF⟩
 ·refine at_cond_true rfl h3 ?_
  refine sr ?_
  refine av rfl (r_assign rfl) ?_
  refine at_nil ?_
  refine at_drop (H := _) .z ?_
  refine at_weak [(2, _)] ⟨rfl, trivial⟩ ?_
  refine at_then_normal ?_
  refine rt ?_
  have K := of_some hF
  subst K
  exact at_return1 rfl rfl (fun w1 hw => ⟨rfl, hw.below⟩)
 ·refine at_cond_false rfl h3 ?_
  refine sns ?_
  refine av rfl (r_fieldAddr (fo := 17) Tryz.underlying27 rfl rfl (fun w => ⟨_, Tryz.sizeOf3 w⟩) rfl) ?_
  refine av rfl (r_load_cell Tryz.isAgg3 rfl (lens_cell0 (c := (cInt .i64)) (y := x0.f_Port) .z (Lens.comp (Lens.whole _ _) (fun z => { x0 with f_Port := z }) (c_api_Endpoint_f_Port x0)) rfl)) ?_
  refine av rfl (r_conv Tryz.underlying3 Tryz.underlying31 rfl) ?_
  obtain ⟨t4, ht4, hF⟩ := of_bindM hF
  refine at_callB Tryz.func113 rfl (by kernel_rfl) rfl rfl (fun w hw => decimal_Text_ok _ _ ht4 w (hg_strconv_uint64pow10.on hw.below)) ?_
  refine av rfl (r_assign rfl) ?_
  refine nwt [(1, _), (3, _)] ⟨rfl, rfl, trivial⟩ ?_
  refine at_seq ?_
  refine sr ?_
  refine av rfl (r_fieldAddr (fo := 0) Tryz.underlying27 rfl rfl (fun w => ⟨_, Tryz.sizeOf25 w⟩) rfl) ?_
  refine av rfl (r_load_aggc (c := c_api_Addr) (z := x0.f_A) Tryz.isAgg25 Tryz.sizeOf25 rfl (lens_cell .z (Lens.comp (Lens.whole _ _) (fun z => { x0 with f_A := z }) (c_api_Endpoint_f_A x0)))) ?_
  obtain ⟨t5, ht5, hF⟩ := of_bindM hF
  refine at_callB Tryz.func156 rfl (by kernel_rfl) rfl rfl (fun w hw => addr_Width_ok _ _ ht5 w) ?_
  refine av rfl (r_igtr rfl rfl) ?_
  refine nwt [(1, _), (3, _), (14, _)] ⟨rfl, rfl, rfl, trivial⟩ ?_
  rcases of_ite hF with ⟨h6, hF⟩ | ⟨h6, hF⟩
  ·refine at_cond_true rfl h6 ?_
   refine sr ?_
   refine av rfl (r_fieldAddr (fo := 0) Tryz.underlying27 rfl rfl (fun w => ⟨_, Tryz.sizeOf25 w⟩) rfl) ?_
   refine av rfl (r_load_aggc (c := c_api_Addr) (z := x0.f_A) Tryz.isAgg25 Tryz.sizeOf25 rfl (lens_cell .z (Lens.comp (Lens.whole _ _) (fun z => { x0 with f_A := z }) (c_api_Endpoint_f_A x0)))) ?_
   obtain ⟨t7, ht7, hF⟩ := of_bindM hF
   refine at_callB Tryz.func157 rfl (by kernel_rfl) rfl rfl (fun w hw => addr_Text_ok _ _ ht7 w (hg_strconv_uint64pow10.on hw.below)) ?_
   obtain ⟨h8, hF⟩ := of_guard hF
   refine av rfl (r_concat rfl rfl h8) ?_
   obtain ⟨h9, hF⟩ := of_guard hF
   refine av rfl (r_concat rfl rfl h9) ?_
   refine av rfl (r_move rfl) ?_
   obtain ⟨h10, hF⟩ := of_guard hF
   refine av rfl (r_concat rfl rfl h10) ?_
   refine av rfl (r_assign rfl) ?_
   refine at_nil ?_
   refine at_drop (H := _) .z ?_
   refine at_weak [(2, _)] ⟨rfl, trivial⟩ ?_
   refine at_then_normal ?_
   refine rt ?_
   have K := of_some hF
   subst K
   exact at_return1 rfl rfl (fun w1 hw => ⟨rfl, hw.below⟩)
  ·refine at_cond_false rfl h6 ?_
   refine sns ?_
   refine av rfl (r_fieldAddr (fo := 0) Tryz.underlying27 rfl rfl (fun w => ⟨_, Tryz.sizeOf25 w⟩) rfl) ?_
   refine av rfl (r_load_aggc (c := c_api_Addr) (z := x0.f_A) Tryz.isAgg25 Tryz.sizeOf25 rfl (lens_cell .z (Lens.comp (Lens.whole _ _) (fun z => { x0 with f_A := z }) (c_api_Endpoint_f_A x0)))) ?_
   obtain ⟨t11, ht11, hF⟩ := of_bindM hF
   refine at_callB Tryz.func157 rfl (by kernel_rfl) rfl rfl (fun w hw => addr_Text_ok _ _ ht11 w (hg_strconv_uint64pow10.on hw.below)) ?_
   obtain ⟨h12, hF⟩ := of_guard hF
   refine av rfl (r_concat rfl rfl h12) ?_
   refine av rfl (r_move rfl) ?_
   obtain ⟨h13, hF⟩ := of_guard hF
   refine av rfl (r_concat rfl rfl h13) ?_
   refine av rfl (r_assign rfl) ?_
   refine at_nil ?_
   refine at_drop (H := _) .z ?_
   refine at_weak [(2, _)] ⟨rfl, trivial⟩ ?_
   refine at_then_normal ?_
   refine at_ret ?_
   have K := of_some hF
   subst K
   exact at_return1 rfl rfl (fun w1 hw => ⟨rfl, hw.below⟩)
def hostport_halves (x0 : ByteArray) : Option (ByteArray × ByteArray × Bool) :=
  strings_CutPrefix x0 (⟨#[91]⟩ : ByteArray) >>= fun t1 => if t1.2 = true then (if t1.1.size < 4294967281 then if ((scut t1.1 (⟨#[93, 58]⟩ : ByteArray)).2.2) = true then (some ((scut t1.1 (⟨#[93, 58]⟩ : ByteArray)).1, (scut t1.1 (⟨#[93, 58]⟩ : ByteArray)).2.1, decide (0 ≤ Lib.indexByte ((scut t1.1 (⟨#[93, 58]⟩ : ByteArray)).1).data.toList 58))) else (some ((scut t1.1 (⟨#[93, 58]⟩ : ByteArray)).1, (scut t1.1 (⟨#[93, 58]⟩ : ByteArray)).2.1, false)) else none) else (if (0 : Int) ≤ 0 ∧ 0 < ((⟨#[58]⟩ : ByteArray).size : Int) then lines_Cut x0 (bt (⟨#[58]⟩ : ByteArray) 0) >>= fun t6 => some (t6.1, t6.2.1, t6.2.2) else none)
theorem hostport_halves_ok (x0 : ByteArray) (r : ByteArray × ByteArray × Bool) (hF : hostport_halves x0 = some r) (w : World) (hg_bytealg_MaxLen : GV_bytealg_MaxLen w) :
    Calls Tryz.prog 154 #[.string x0] w (fun e w' => e = .returned (.tuple #[.string r.1, .string r.2.1, .bool r.2.2]) ∧ Below w.heap.size w w') := by
 unfold hostport_halves at hF
 refine calls_enter (l := [.string x0]) Tryz.func154 rfl rfl rfl ?_
 refine at_start ?_
 refine at_weak [(0, _)] ⟨rfl, trivial⟩ ?_
 refine sr ?_
 refine av rfl (r_assign rfl) ?_
 refine av rfl (r_assign rfl) ?_
 refine av rfl (r_assign rfl) ?_
 refine nwt [(0, _)] ⟨rfl, trivial⟩ ?_
 refine at_seq ?_
 refine sr ?_
 refine av rfl (r_move rfl) ?_
 obtain ⟨t1, ht1, hF⟩ := of_bindM hF
 refine at_call0 Tryz.func176 rfl (by kernel_rfl) rfl rfl (fun w => strings_CutPrefix_ok _ _ _ ht1 w) ?_
 refine av rfl (r_move rfl) ?_
 refine av rfl (r_extract rfl rfl) ?_
 refine av rfl (r_extract rfl rfl) ?_
 refine av rfl (r_assign rfl) ?_
 refine av rfl (r_assign rfl) ?_
 refine nws [(0, _), (5, _), (6, _)] ⟨rfl, rfl, rfl, trivial⟩ ?_
 refine av rfl (r_move rfl) ?_
 refine nwt [(0, _), (5, _), (15, _)] ⟨rfl, rfl, rfl, trivial⟩ ?_
 rcases of_ite hF with ⟨h2, hF⟩ | ⟨h2, hF⟩
 ·refine at_cond_true rfl h2 ?_
  refine sr ?_
  refine av rfl (r_move rfl) ?_
  obtain ⟨h3, hF⟩ := of_guard hF
  refine at_callB Tryz.func177 rfl (by kernel_rfl) rfl rfl (fun w1 hw => cut_okS _ _ h3 w1 (hg_bytealg_MaxLen.on hw.below)) ?_
  refine av rfl (r_move rfl) ?_
  refine av rfl (r_extract rfl rfl) ?_
  refine av rfl (r_extract rfl rfl) ?_
  refine av rfl (r_extract rfl rfl) ?_
  refine av rfl (r_assign rfl) ?_
  refine av rfl (r_assign rfl) ?_
  refine av rfl (r_assign rfl) ?_
  refine nws [(7, _), (8, _), (9, _)] ⟨rfl, rfl, rfl, trivial⟩ ?_
  refine av rfl (r_move rfl) ?_
  refine av rfl (r_move rfl) ?_
  refine av rfl (r_move rfl) ?_
  refine av rfl (r_move rfl) ?_
  rcases of_ite hF with ⟨h4, hF⟩ | ⟨h4, hF⟩
  ·refine at_fix (g := 25) rfl h4 ?_
   refine at_guard_yes rfl rfl rfl ?_
   refine av rfl (r_move rfl) ?_
   refine at_guard_yes rfl rfl rfl ?_
   refine at_call0 Tryz.func178 rfl (by kernel_rfl) rfl rfl (fun w => Tryz.strings_Contains_one _ _ w) ?_
   refine av rfl (r_pick rfl rfl rfl) ?_
   refine av rfl (r_assign rfl) ?_
   refine av rfl (r_assign rfl) ?_
   refine av rfl (r_assign rfl) ?_
   refine nwt [(2, _), (3, _), (4, _)] ⟨rfl, rfl, rfl, trivial⟩ ?_
   refine rt ?_
   have K := of_some hF
   subst K
   exact at_return3 rfl rfl rfl rfl (fun w1 hw => ⟨rfl, hw.below⟩)
  ·refine at_fix (g := 25) rfl h4 ?_
   refine at_guard_no rfl rfl rfl rfl rfl ?_
   refine at_guard_no rfl rfl rfl rfl rfl ?_
   refine av rfl (r_pick rfl rfl rfl) ?_
   refine av rfl (r_assign rfl) ?_
   refine av rfl (r_assign rfl) ?_
   refine av rfl (r_assign rfl) ?_
   refine nwt [(2, _), (3, _), (4, _)] ⟨rfl, rfl, rfl, trivial⟩ ?_
   refine rt ?_
   have K := of_some hF
   subst K
   exact at_return3 rfl rfl rfl rfl (fun w1 hw => ⟨rfl, hw.below⟩)
 ·refine at_cond_false rfl h2 ?_
  refine sns ?_
  refine av rfl (r_move rfl) ?_
  obtain ⟨h5, hF⟩ := of_guard hF
  refine av rfl (r_index_str Tryz.underlying9 rfl rfl h5) ?_
  obtain ⟨t6, ht6, hF⟩ := of_bindM hF
  refine at_callB Tryz.func86 rfl (by kernel_rfl) rfl rfl (fun w hw => lines_Cut_ok _ _ _ ht6 w) ?_
  refine av rfl (r_extract rfl rfl) ?_
  refine av rfl (r_extract rfl rfl) ?_
  refine av rfl (r_extract rfl rfl) ?_
  refine av rfl (r_assign rfl) ?_
  refine av rfl (r_assign rfl) ?_
  refine av rfl (r_assign rfl) ?_
  refine nwt [(2, _), (3, _), (4, _)] ⟨rfl, rfl, rfl, trivial⟩ ?_
  refine at_ret ?_
  have K := of_some hF
  subst K
  exact at_return3 rfl rfl rfl rfl (fun w1 hw => ⟨rfl, hw.below⟩)
def hostport_Parse (x0 : ByteArray) : Option (S_api_Endpoint × Int) :=
  hostport_halves x0 >>= fun t2 => if (!t2.2.2) = true then (some (({ f_A := ({ f_V := (0 : Int), f_B := (Vector.replicate 16 (0 : Int) : (Vector Int 16)) } : S_api_Addr), f_Port := (0 : Int) } : S_api_Endpoint), 5)) else (addr_Parse t2.1 >>= fun t4 => if (t4.2 != 0) = true then (some (({ f_A := ({ f_V := (0 : Int), f_B := (Vector.replicate 16 (0 : Int) : (Vector Int 16)) } : S_api_Addr), f_Port := (0 : Int) } : S_api_Endpoint), t4.2)) else (decimal_Read t2.2.1 65535 >>= fun t7 => if (t7.2 != 0) = true then (some (({ f_A := ({ f_V := (0 : Int), f_B := (Vector.replicate 16 (0 : Int) : (Vector Int 16)) } : S_api_Addr), f_Port := (0 : Int) } : S_api_Endpoint), t7.2)) else (if (t7.1 == 0) = true then (some (({ f_A := ({ f_V := (0 : Int), f_B := (Vector.replicate 16 (0 : Int) : (Vector Int 16)) } : S_api_Addr), f_Port := (0 : Int) } : S_api_Endpoint), 6)) else (some ({ { ({ f_A := ({ f_V := (0 : Int), f_B := (Vector.replicate 16 (0 : Int) : (Vector Int 16)) } : S_api_Addr), f_Port := (0 : Int) } : S_api_Endpoint) with f_A := t4.1 } with f_Port := wr .i64 t7.1 }, 0)))))
theorem hostport_Parse_ok (x0 : ByteArray) (r : S_api_Endpoint × Int) (hF : hostport_Parse x0 = some r) (w : World) (hg_bytealg_MaxLen : GV_bytealg_MaxLen w) (hg_strconv_ErrRange : GV_strconv_ErrRange w) (hg_strconv_ErrSyntax : GV_strconv_ErrSyntax w) :
    Calls Tryz.prog 99 #[.string x0] w (fun e w' => e = .returned (.tuple #[.agg (Cd.cs c_api_Endpoint r.1).toArray, .int .i64 r.2]) ∧ Below w.heap.size w w') := by
 unfold hostport_Parse at hF
 refine calls_enter (l := [.string x0]) Tryz.func99 rfl rfl rfl ?_
 refine at_start ?_
 refine at_weak [(0, _)] ⟨rfl, trivial⟩ ?_
 refine sr ?_
 refine at_alloc (cs := Cd.cs c_api_Endpoint zqG6_0) Tryz.zeroValue27 rfl rfl ?_
 intro b1
 refine av rfl (r_assign rfl) ?_
 refine nws [(0, _), (2, _)] ⟨rfl, rfl, trivial⟩ ?_
 refine av rfl (r_move rfl) ?_
 obtain ⟨t2, ht2, hF⟩ := of_bindM hF
 refine at_callB Tryz.func154 rfl (by kernel_rfl) rfl rfl (fun w hw => hostport_halves_ok _ _ ht2 w (hg_bytealg_MaxLen.on hw.below)) ?_
 refine av rfl (r_move rfl) ?_
 refine av rfl (r_extract rfl rfl) ?_
 refine av rfl (r_extract rfl rfl) ?_
 refine av rfl (r_extract rfl rfl) ?_
 refine av rfl (r_assign rfl) ?_
 refine av rfl (r_assign rfl) ?_
 refine av rfl (r_assign rfl) ?_
 refine nwt [(2, _), (4, _), (5, _), (6, _)] ⟨rfl, rfl, rfl, rfl, trivial⟩ ?_
 refine at_seq ?_
 refine sr ?_
 refine av rfl (r_move rfl) ?_
 refine av rfl (r_not rfl) ?_
 refine nwt [(2, _), (4, _), (5, _), (17, _)] ⟨rfl, rfl, rfl, rfl, trivial⟩ ?_
 rcases of_ite hF with ⟨h3, hF⟩ | ⟨h3, hF⟩
 ·refine at_cond_true rfl h3 ?_
  refine sr ?_
  refine av rfl (r_build_struct (zs := Cd.cs c_api_Endpoint zqG6_0) (cs := Cd.cs c_api_Endpoint zqG6_0) Tryz.underlying27 Tryz.zeroValue27 rfl (places_api_Endpoint_27) rfl rfl) ?_
  refine at_store (c := c_api_Endpoint) (z := zqG6_0) .z (Lens.whole _ _) Tryz.sizeOf27 rfl rfl rfl ?_
  refine av rfl (r_assign rfl) ?_
  refine nwt [(2, _), (3, _)] ⟨rfl, rfl, trivial⟩ ?_
  refine rt ?_
  have K := of_some hF
  subst K
  exact at_res2 rfl (res_cell (c := c_api_Endpoint) (y := zqG6_0) rfl .z (Lens.whole _ _) Tryz.isAgg27 Tryz.sizeOf27 (.inl rfl)) (res_tmp rfl) (fun w1 hw => ⟨rfl, hw.below⟩)
 ·refine at_cond_false rfl h3 ?_
  refine sns ?_
  refine av rfl (r_move rfl) ?_
  obtain ⟨t4, ht4, hF⟩ := of_bindM hF
  refine at_callB Tryz.func155 rfl (by kernel_rfl) rfl rfl (fun w hw => addr_Parse_ok _ _ ht4 w (hg_strconv_ErrRange.on hw.below) (hg_strconv_ErrSyntax.on hw.below)) ?_
  refine av rfl (r_move rfl) ?_
  refine av rfl (r_extract rfl rfl) ?_
  refine av rfl (r_extract rfl rfl) ?_
  refine at_alloc (cs := Cd.cs c_api_Addr ({ f_V := (0 : Int), f_B := (Vector.replicate 16 (0 : Int) : (Vector Int 16)) } : S_api_Addr)) Tryz.zeroValue25 rfl rfl ?_
  intro b5
  refine at_store (c := c_api_Addr) (z := t4.1) .z (Lens.whole _ _) Tryz.sizeOf25 rfl rfl rfl ?_
  refine av rfl (r_assign rfl) ?_
  refine nwt [(2, _), (5, _), (7, _), (8, _)] ⟨rfl, rfl, rfl, rfl, trivial⟩ ?_
  refine at_seq ?_
  refine sr ?_
  refine av rfl (r_move rfl) ?_
  refine av rfl (r_ineq rfl rfl) ?_
  refine nwt [(2, _), (5, _), (7, _), (8, _), (25, _)] ⟨rfl, rfl, rfl, rfl, rfl, trivial⟩ ?_
  rcases of_ite hF with ⟨h6, hF⟩ | ⟨h6, hF⟩
  ·refine at_cond_true rfl h6 ?_
   refine sr ?_
   refine av rfl (r_build_struct (zs := Cd.cs c_api_Endpoint zqG6_0) (cs := Cd.cs c_api_Endpoint zqG6_0) Tryz.underlying27 Tryz.zeroValue27 rfl (places_api_Endpoint_27) rfl rfl) ?_
   refine av rfl (r_move rfl) ?_
   refine at_store (c := c_api_Endpoint) (z := zqG6_0) (.s .z) (Lens.whole _ _) Tryz.sizeOf27 rfl rfl rfl ?_
   refine av rfl (r_assign rfl) ?_
   refine at_nil ?_
   refine at_drop (H := _) .z ?_
   refine at_weak [(2, _), (3, _)] ⟨rfl, rfl, trivial⟩ ?_
   refine at_then_normal ?_
   refine rt ?_
   have K := of_some hF
   subst K
   exact at_res2 rfl (res_cell (c := c_api_Endpoint) (y := zqG6_0) rfl .z (Lens.whole _ _) Tryz.isAgg27 Tryz.sizeOf27 (.inl rfl)) (res_tmp rfl) (fun w1 hw => ⟨rfl, hw.below⟩)
  ·refine at_cond_false rfl h6 ?_
   refine sns ?_
   refine av rfl (r_move rfl) ?_
   obtain ⟨t7, ht7, hF⟩ := of_bindM hF
   refine at_callB Tryz.func111 rfl (by kernel_rfl) rfl rfl (fun w hw => decimal_Read_ok _ _ _ ht7 w (hg_strconv_ErrRange.on hw.below) (hg_strconv_ErrSyntax.on hw.below)) ?_
   refine av rfl (r_move rfl) ?_
   refine av rfl (r_extract rfl rfl) ?_
   refine av rfl (r_extract rfl rfl) ?_
   refine av rfl (r_assign rfl) ?_
   refine av rfl (r_assign rfl) ?_
   refine nwt [(2, _), (7, _), (8, _), (9, _)] ⟨rfl, rfl, rfl, rfl, trivial⟩ ?_
   refine at_seq ?_
   refine at_block ?_
   refine sr ?_
   refine av rfl (r_move rfl) ?_
   refine av rfl (r_ineq rfl rfl) ?_
   refine av rfl (r_assign rfl) ?_
   refine nwt [(2, _), (7, _), (8, _), (9, _), (33, _)] ⟨rfl, rfl, rfl, rfl, rfl, trivial⟩ ?_
   rcases of_ite hF with ⟨h8, hF⟩ | ⟨h8, hF⟩
   ·refine at_cond_true rfl h8 ?_
    refine sr ?_
    refine av rfl (r_build_struct (zs := Cd.cs c_api_Endpoint zqG6_0) (cs := Cd.cs c_api_Endpoint zqG6_0) Tryz.underlying27 Tryz.zeroValue27 rfl (places_api_Endpoint_27) rfl rfl) ?_
    refine av rfl (r_move rfl) ?_
    refine at_store (c := c_api_Endpoint) (z := zqG6_0) (.s .z) (Lens.whole _ _) Tryz.sizeOf27 rfl rfl rfl ?_
    refine av rfl (r_assign rfl) ?_
    refine at_nil ?_
    refine at_drop (H := _) .z ?_
    refine at_weak [(2, _), (3, _)] ⟨rfl, rfl, trivial⟩ ?_
    refine at_then_normal ?_
    refine at_ret ?_
    refine at_blk_ret (at_then_ret ?_)
    have K := of_some hF
    subst K
    exact at_res2 rfl (res_cell (c := c_api_Endpoint) (y := zqG6_0) rfl .z (Lens.whole _ _) Tryz.isAgg27 Tryz.sizeOf27 (.inl rfl)) (res_tmp rfl) (fun w1 hw => ⟨rfl, hw.below⟩)
   ·refine at_cond_false rfl h8 ?_
    refine sr ?_
    refine av rfl (r_move rfl) ?_
    refine av rfl (r_ieql rfl rfl) ?_
    refine av rfl (r_assign rfl) ?_
    refine nwt [(2, _), (7, _), (9, _), (38, _)] ⟨rfl, rfl, rfl, rfl, trivial⟩ ?_
    rcases of_ite hF with ⟨h9, hF⟩ | ⟨h9, hF⟩
    ·refine at_cond_true rfl h9 ?_
     refine sr ?_
     refine av rfl (r_build_struct (zs := Cd.cs c_api_Endpoint zqG6_0) (cs := Cd.cs c_api_Endpoint zqG6_0) Tryz.underlying27 Tryz.zeroValue27 rfl (places_api_Endpoint_27) rfl rfl) ?_
     refine at_store (c := c_api_Endpoint) (z := zqG6_0) (.s .z) (Lens.whole _ _) Tryz.sizeOf27 rfl rfl rfl ?_
     refine av rfl (r_assign rfl) ?_
     refine at_nil ?_
     refine at_drop (H := _) .z ?_
     refine at_weak [(2, _), (3, _)] ⟨rfl, rfl, trivial⟩ ?_
     refine at_then_normal ?_
     refine at_ret ?_
     refine at_blk_ret (at_then_ret ?_)
     have K := of_some hF
     subst K
     exact at_res2 rfl (res_cell (c := c_api_Endpoint) (y := zqG6_0) rfl .z (Lens.whole _ _) Tryz.isAgg27 Tryz.sizeOf27 (.inl rfl)) (res_tmp rfl) (fun w1 hw => ⟨rfl, hw.below⟩)
    ·refine at_cond_false rfl h9 ?_
     refine at_skip ?_
     refine at_blk_normal (at_then_normal ?_)
     refine sr ?_
     refine av rfl (r_load_aggc (c := c_api_Addr) (z := t4.1) Tryz.isAgg25 Tryz.sizeOf25 rfl (lens_cell .z (Lens.whole _ _))) ?_
     refine av rfl (r_move rfl) ?_
     refine av rfl (r_conv Tryz.underlying31 Tryz.underlying3 rfl) ?_
     refine av rfl (r_build_struct (zs := Cd.cs c_api_Endpoint zqG6_0) (cs := Cd.cs c_api_Endpoint ({ { zqG6_0 with f_A := t4.1 } with f_Port := wr .i64 t7.1 })) Tryz.underlying27 Tryz.zeroValue27 rfl (places_api_Endpoint_27) rfl (fill_step (c := c_api_Addr) (z := t4.1) rfl (c_api_Endpoint_f_A zqG6_0) rfl (fill_step (c := (cInt .i64)) (z := wr .i64 t7.1) rfl (c_api_Endpoint_f_Port ({ zqG6_0 with f_A := t4.1 })) rfl rfl))) ?_
     refine at_store (c := c_api_Endpoint) (z := { { zqG6_0 with f_A := t4.1 } with f_Port := wr .i64 t7.1 }) (.s .z) (Lens.whole _ _) Tryz.sizeOf27 rfl rfl rfl ?_
     refine av rfl (r_assign rfl) ?_
     refine at_nil ?_
     refine at_drop (H := _) .z ?_
     refine at_weak [(2, _), (3, _)] ⟨rfl, rfl, trivial⟩ ?_
     refine at_then_normal ?_
     refine at_ret ?_
     have K := of_some hF
     subst K
     exact at_res2 rfl (res_cell (c := c_api_Endpoint) (y := { { zqG6_0 with f_A := t4.1 } with f_Port := wr .i64 t7.1 }) rfl .z (Lens.whole _ _) Tryz.isAgg27 Tryz.sizeOf27 (.inl rfl)) (res_tmp rfl) (fun w1 hw => ⟨rfl, hw.below⟩)
def crawlwayref12_Right (x0 : S_api_Endpoint) : Option (Bool) :=
  crawlwayref10_Right x0.f_A >>= fun t2 => if t2 = true then (if (decide (x0.f_Port ≥ 1)) = true then (some (decide (x0.f_Port ≤ 65535))) else (some false)) else (some false)
theorem crawlwayref12_Right_ok (x0 : S_api_Endpoint) (r : Bool) (hF : crawlwayref12_Right x0 = some r) (w : World) :
    Calls Tryz.prog 45 #[.agg (Cd.cs c_api_Endpoint x0).toArray] w (fun e w' => e = .returned (.bool r) ∧ Below w.heap.size w w') := by
 unfold crawlwayref12_Right at hF
 refine calls_enter (l := [.agg (Cd.cs c_api_Endpoint x0).toArray]) Tryz.func45 rfl rfl rfl ?_
 refine at_start ?_
 refine at_weak [(0, _)] ⟨rfl, trivial⟩ ?_
 refine sr ?_
 refine at_box (cs := Cd.cs c_api_Endpoint x0) rfl rfl rfl ?_
 intro b1
 refine av rfl (r_assign rfl) ?_
 refine nws [(1, _)] ⟨rfl, trivial⟩ ?_
 refine av rfl (r_fieldAddr (fo := 0) Tryz.underlying27 rfl rfl (fun w => ⟨_, Tryz.sizeOf25 w⟩) rfl) ?_
 refine av rfl (r_load_aggc (c := c_api_Addr) (z := x0.f_A) Tryz.isAgg25 Tryz.sizeOf25 rfl (lens_cell .z (Lens.comp (Lens.whole _ _) (fun z => { x0 with f_A := z }) (c_api_Endpoint_f_A x0)))) ?_
 obtain ⟨t2, ht2, hF⟩ := of_bindM hF
 refine at_callB Tryz.func74 rfl (by kernel_rfl) rfl rfl (fun w hw => crawlwayref10_Right_ok _ _ ht2 w) ?_
 refine av rfl (r_move rfl) ?_
 rcases of_ite hF with ⟨h3, hF⟩ | ⟨h3, hF⟩
 ·refine at_fix (g := 6) rfl h3 ?_
  refine at_guard_yes rfl rfl rfl ?_
  refine av rfl (r_fieldAddr (fo := 17) Tryz.underlying27 rfl rfl (fun w => ⟨_, Tryz.sizeOf3 w⟩) rfl) ?_
  refine at_guard_yes rfl rfl rfl ?_
  refine av rfl (r_load_cell Tryz.isAgg3 rfl (lens_cell0 (c := (cInt .i64)) (y := x0.f_Port) .z (Lens.comp (Lens.whole _ _) (fun z => { x0 with f_Port := z }) (c_api_Endpoint_f_Port x0)) rfl)) ?_
  refine at_guard_yes rfl rfl rfl ?_
  refine av rfl (r_igeq rfl rfl) ?_
  refine av rfl (r_pick rfl rfl rfl) ?_
  refine av rfl (r_move rfl) ?_
  rcases of_ite hF with ⟨h4, hF⟩ | ⟨h4, hF⟩
  ·refine at_fix (g := 11) rfl h4 ?_
   refine at_guard_yes rfl rfl rfl ?_
   refine av rfl (r_fieldAddr (fo := 17) Tryz.underlying27 rfl rfl (fun w => ⟨_, Tryz.sizeOf3 w⟩) rfl) ?_
   refine at_guard_yes rfl rfl rfl ?_
   refine av rfl (r_load_cell Tryz.isAgg3 rfl (lens_cell0 (c := (cInt .i64)) (y := x0.f_Port) .z (Lens.comp (Lens.whole _ _) (fun z => { x0 with f_Port := z }) (c_api_Endpoint_f_Port x0)) rfl)) ?_
   refine at_guard_yes rfl rfl rfl ?_
   refine av rfl (r_ileq rfl rfl) ?_
   refine av rfl (r_pick rfl rfl rfl) ?_
   refine av rfl (r_assign rfl) ?_
   refine at_nil ?_
   refine at_drop (H := _) .z ?_
   refine at_weak [(2, _)] ⟨rfl, trivial⟩ ?_
   refine at_then_normal ?_
   refine at_ret ?_
   have K := of_some hF
   subst K
   exact at_return1 rfl rfl (fun w1 hw => ⟨rfl, hw.below⟩)
  ·refine at_fix (g := 11) rfl h4 ?_
   refine at_guard_no rfl rfl rfl rfl rfl ?_
   refine at_guard_no rfl rfl rfl rfl rfl ?_
   refine at_guard_no rfl rfl rfl rfl rfl ?_
   refine av rfl (r_pick rfl rfl rfl) ?_
   refine av rfl (r_assign rfl) ?_
   refine at_nil ?_
   refine at_drop (H := _) .z ?_
   refine at_weak [(2, _)] ⟨rfl, trivial⟩ ?_
   refine at_then_normal ?_
   refine at_ret ?_
   have K := of_some hF
   subst K
   exact at_return1 rfl rfl (fun w1 hw => ⟨rfl, hw.below⟩)
 ·refine at_fix (g := 6) rfl h3 ?_
  refine at_guard_no rfl rfl rfl rfl rfl ?_
  refine at_guard_no rfl rfl rfl rfl rfl ?_
  refine at_guard_no rfl rfl rfl rfl rfl ?_
  refine av rfl (r_pick rfl rfl rfl) ?_
  refine av rfl (r_move rfl) ?_
  refine at_guard_no rfl rfl rfl rfl rfl ?_
  refine at_guard_no rfl rfl rfl rfl rfl ?_
  refine at_guard_no rfl rfl rfl rfl rfl ?_
  refine av rfl (r_pick rfl rfl rfl) ?_
  refine av rfl (r_assign rfl) ?_
  refine at_nil ?_
  refine at_drop (H := _) .z ?_
  refine at_weak [(2, _)] ⟨rfl, trivial⟩ ?_
  refine at_then_normal ?_
  refine at_ret ?_
  have K := of_some hF
  subst K
  exact at_return1 rfl rfl (fun w1 hw => ⟨rfl, hw.below⟩)
def crawlwayref12_Text (x0 : S_api_Endpoint) : Option (ByteArray) :=
  crawlwayref12_Right x0 >>= fun t2 => if (!t2) = true then (some (⟨#[]⟩)) else (crawlwayref03_Text (wr .u64 x0.f_Port) >>= fun t4 => if (⟨#[58]⟩ : ByteArray).size + t4.size ≤ 140737488355328 then if (x0.f_A.f_V == 6) = true then (crawlwayref10_Text x0.f_A >>= fun t7 => if (⟨#[91]⟩ : ByteArray).size + t7.size ≤ 140737488355328 then if ((⟨#[91]⟩ : ByteArray) ++ t7).size + (⟨#[93]⟩ : ByteArray).size ≤ 140737488355328 then if (((⟨#[91]⟩ : ByteArray) ++ t7) ++ (⟨#[93]⟩ : ByteArray)).size + ((⟨#[58]⟩ : ByteArray) ++ t4).size ≤ 140737488355328 then some ((((⟨#[91]⟩ : ByteArray) ++ t7) ++ (⟨#[93]⟩ : ByteArray)) ++ ((⟨#[58]⟩ : ByteArray) ++ t4)) else none else none else none) else (crawlwayref10_Text x0.f_A >>= fun t11 => if t11.size + ((⟨#[58]⟩ : ByteArray) ++ t4).size ≤ 140737488355328 then some (t11 ++ ((⟨#[58]⟩ : ByteArray) ++ t4)) else none) else none)
theorem crawlwayref12_Text_ok (x0 : S_api_Endpoint) (r : ByteArray) (hF : crawlwayref12_Text x0 = some r) (w : World) :
    Calls Tryz.prog 52 #[.agg (Cd.cs c_api_Endpoint x0).toArray] w (fun e w' => e = .returned (.string r) ∧ Below w.heap.size w w') := by
 unfold crawlwayref12_Text at hF
 refine calls_enter (l := [.agg (Cd.cs c_api_Endpoint x0).toArray]) Tryz.func52 rfl rfl rfl ?_
 refine at_start ?_
 refine at_weak [(0, _)] ⟨rfl, trivial⟩ ?_
 refine sr ?_
 refine at_box (cs := Cd.cs c_api_Endpoint x0) rfl rfl rfl ?_
 intro b1
 refine av rfl (r_assign rfl) ?_
 refine nwt [(1, _)] ⟨rfl, trivial⟩ ?_
 refine at_seq ?_
 refine sr ?_
 refine av rfl (r_load_aggc (c := c_api_Endpoint) (z := x0) Tryz.isAgg27 Tryz.sizeOf27 rfl (lens_cell .z (Lens.whole _ _))) ?_
 obtain ⟨t2, ht2, hF⟩ := of_bindM hF
 refine at_callB Tryz.func45 rfl (by kernel_rfl) rfl rfl (fun w hw => crawlwayref12_Right_ok _ _ ht2 w) ?_
 refine av rfl (r_not rfl) ?_
 refine nwt [(1, _), (6, _)] ⟨rfl, rfl, trivial⟩ ?_
 rcases of_ite hF with ⟨h3, hF⟩ | ⟨h3, hF⟩
 ·refine at_cond_true rfl h3 ?_
  refine sr ?_
  refine av rfl (r_assign rfl) ?_
  refine at_nil ?_
  refine at_drop (H := _) .z ?_
  refine at_weak [(2, _)] ⟨rfl, trivial⟩ ?_
  refine at_then_normal ?_
  refine rt ?_
  have K := of_some hF
  subst K
  exact at_return1 rfl rfl (fun w1 hw => ⟨rfl, hw.below⟩)
 ·refine at_cond_false rfl h3 ?_
  refine sns ?_
  refine av rfl (r_fieldAddr (fo := 17) Tryz.underlying27 rfl rfl (fun w => ⟨_, Tryz.sizeOf3 w⟩) rfl) ?_
  refine av rfl (r_load_cell Tryz.isAgg3 rfl (lens_cell0 (c := (cInt .i64)) (y := x0.f_Port) .z (Lens.comp (Lens.whole _ _) (fun z => { x0 with f_Port := z }) (c_api_Endpoint_f_Port x0)) rfl)) ?_
  refine av rfl (r_conv Tryz.underlying3 Tryz.underlying31 rfl) ?_
  obtain ⟨t4, ht4, hF⟩ := of_bindM hF
  refine at_callB Tryz.func55 rfl (by kernel_rfl) rfl rfl (fun w hw => crawlwayref03_Text_ok _ _ ht4 w) ?_
  obtain ⟨h5, hF⟩ := of_guard hF
  refine av rfl (r_concat rfl rfl h5) ?_
  refine av rfl (r_assign rfl) ?_
  refine nwt [(1, _), (3, _)] ⟨rfl, rfl, trivial⟩ ?_
  refine at_seq ?_
  refine sr ?_
  refine av rfl (r_fieldAddr (fo := 0) Tryz.underlying27 rfl rfl (fun w => ⟨_, Tryz.sizeOf25 w⟩) rfl) ?_
  refine av rfl (r_fieldAddr (fo := 0) Tryz.underlying25 rfl rfl (fun w => ⟨_, Tryz.sizeOf3 w⟩) rfl) ?_
  refine av rfl (r_load_cell Tryz.isAgg3 rfl (lens_cell0 (c := (cInt .i64)) (y := x0.f_A.f_V) .z (Lens.comp (Lens.comp (Lens.whole _ _) (fun z => { x0 with f_A := z }) (c_api_Endpoint_f_A x0)) (fun z => { x0.f_A with f_V := z }) (c_api_Addr_f_V x0.f_A)) rfl)) ?_
  refine av rfl (r_ieql rfl rfl) ?_
  refine nwt [(1, _), (3, _), (15, _)] ⟨rfl, rfl, rfl, trivial⟩ ?_
  rcases of_ite hF with ⟨h6, hF⟩ | ⟨h6, hF⟩
  ·refine at_cond_true rfl h6 ?_
   refine sr ?_
   refine av rfl (r_fieldAddr (fo := 0) Tryz.underlying27 rfl rfl (fun w => ⟨_, Tryz.sizeOf25 w⟩) rfl) ?_
   refine av rfl (r_load_aggc (c := c_api_Addr) (z := x0.f_A) Tryz.isAgg25 Tryz.sizeOf25 rfl (lens_cell .z (Lens.comp (Lens.whole _ _) (fun z => { x0 with f_A := z }) (c_api_Endpoint_f_A x0)))) ?_
   obtain ⟨t7, ht7, hF⟩ := of_bindM hF
   refine at_callB Tryz.func87 rfl (by kernel_rfl) rfl rfl (fun w hw => crawlwayref10_Text_ok _ _ ht7 w) ?_
   obtain ⟨h8, hF⟩ := of_guard hF
   refine av rfl (r_concat rfl rfl h8) ?_
   obtain ⟨h9, hF⟩ := of_guard hF
   refine av rfl (r_concat rfl rfl h9) ?_
   refine av rfl (r_move rfl) ?_
   obtain ⟨h10, hF⟩ := of_guard hF
   refine av rfl (r_concat rfl rfl h10) ?_
   refine av rfl (r_assign rfl) ?_
   refine at_nil ?_
   refine at_drop (H := _) .z ?_
   refine at_weak [(2, _)] ⟨rfl, trivial⟩ ?_
   refine at_then_normal ?_
   refine rt ?_
   have K := of_some hF
   subst K
   exact at_return1 rfl rfl (fun w1 hw => ⟨rfl, hw.below⟩)
  ·refine at_cond_false rfl h6 ?_
   refine sns ?_
   refine av rfl (r_fieldAddr (fo := 0) Tryz.underlying27 rfl rfl (fun w => ⟨_, Tryz.sizeOf25 w⟩) rfl) ?_
   refine av rfl (r_load_aggc (c := c_api_Addr) (z := x0.f_A) Tryz.isAgg25 Tryz.sizeOf25 rfl (lens_cell .z (Lens.comp (Lens.whole _ _) (fun z => { x0 with f_A := z }) (c_api_Endpoint_f_A x0)))) ?_
   obtain ⟨t11, ht11, hF⟩ := of_bindM hF
   refine at_callB Tryz.func87 rfl (by kernel_rfl) rfl rfl (fun w hw => crawlwayref10_Text_ok _ _ ht11 w) ?_
   refine av rfl (r_move rfl) ?_
   obtain ⟨h12, hF⟩ := of_guard hF
   refine av rfl (r_concat rfl rfl h12) ?_
   refine av rfl (r_assign rfl) ?_
   refine at_nil ?_
   refine at_drop (H := _) .z ?_
   refine at_weak [(2, _)] ⟨rfl, trivial⟩ ?_
   refine at_then_normal ?_
   refine at_ret ?_
   have K := of_some hF
   subst K
   exact at_return1 rfl rfl (fun w1 hw => ⟨rfl, hw.below⟩)
def crawlwayref12_cut.l0 (x0 : ByteArray) (i2 : Int) : Option (Ctl (ByteArray × ByteArray × Bool) (Unit)) :=
  if (decide (wr .i64 (i2 + 1) < (x0.size : Int))) = true then (if (0 : Int) ≤ i2 ∧ i2 < (x0.size : Int) then if (bt x0 i2 == 93) = true then (if (0 : Int) ≤ wr .i64 (i2 + 1) ∧ wr .i64 (i2 + 1) < (x0.size : Int) then if (bt x0 (wr .i64 (i2 + 1)) == 58) = true then (if (0 : Int) ≤ 0 ∧ 0 ≤ i2 ∧ i2 ≤ (x0.size : Int) then if (0 : Int) ≤ wr .i64 (i2 + 2) ∧ wr .i64 (i2 + 2) ≤ (x0.size : Int) ∧ (x0.size : Int) ≤ (x0.size : Int) then some (.ret (x0.extract (Int.toNat 0) (Int.toNat i2), x0.extract (Int.toNat (wr .i64 (i2 + 2))) (Int.toNat (x0.size : Int)), true)) else none else none) else (crawlwayref12_cut.l0 x0 (wr .i64 (i2 + 1))) else none) else (crawlwayref12_cut.l0 x0 (wr .i64 (i2 + 1))) else none) else (some (.nx ()))
  partial_fixpoint
def crawlwayref12_cut (x0 : ByteArray) : Option (ByteArray × ByteArray × Bool) :=
  crawlwayref12_cut.l0 x0 0 >>= fun q1 => match q1 with | .ret r' => some r' | .nx sq1 => (some (⟨#[]⟩, ⟨#[]⟩, false))
def crawlwayref12_Parse (x0 : ByteArray) : Option (S_api_Endpoint × Int) :=
  if (decide ((x0.size : Int) > 0)) = true then (if (0 : Int) ≤ 0 ∧ 0 < (x0.size : Int) then if (bt x0 0 == 91) = true then (if (0 : Int) ≤ 1 ∧ 1 ≤ (x0.size : Int) ∧ (x0.size : Int) ≤ (x0.size : Int) then crawlwayref12_cut (x0.extract (Int.toNat 1) (Int.toNat (x0.size : Int))) >>= fun t6 => if (!t6.2.2) = true then (some (({ f_A := ({ f_V := (0 : Int), f_B := (Vector.replicate 16 (0 : Int) : (Vector Int 16)) } : S_api_Addr), f_Port := (0 : Int) } : S_api_Endpoint), 5)) else (crawlwayref06_Parts t6.1 58 >>= fun t8 => if (decide ((t8.length : Int) > 1) != (bt x0 0 == 91)) = true then (some (({ f_A := ({ f_V := (0 : Int), f_B := (Vector.replicate 16 (0 : Int) : (Vector Int 16)) } : S_api_Addr), f_Port := (0 : Int) } : S_api_Endpoint), 5)) else (crawlwayref10_Parse t6.1 >>= fun t12 => if (t12.2 != 0) = true then (some (({ f_A := ({ f_V := (0 : Int), f_B := (Vector.replicate 16 (0 : Int) : (Vector Int 16)) } : S_api_Addr), f_Port := (0 : Int) } : S_api_Endpoint), t12.2)) else (crawlwayref03_Read t6.2.1 65535 >>= fun t15 => if (t15.2 != 0) = true then (some (({ f_A := ({ f_V := (0 : Int), f_B := (Vector.replicate 16 (0 : Int) : (Vector Int 16)) } : S_api_Addr), f_Port := (0 : Int) } : S_api_Endpoint), t15.2)) else (if (t15.1 == 0) = true then (some (({ f_A := ({ f_V := (0 : Int), f_B := (Vector.replicate 16 (0 : Int) : (Vector Int 16)) } : S_api_Addr), f_Port := (0 : Int) } : S_api_Endpoint), 6)) else (some ({ { ({ f_A := ({ f_V := (0 : Int), f_B := (Vector.replicate 16 (0 : Int) : (Vector Int 16)) } : S_api_Addr), f_Port := (0 : Int) } : S_api_Endpoint) with f_A := t12.1 } with f_Port := wr .i64 t15.1 }, 0)))))) else none) else (crawlwayref06_Parts x0 58 >>= fun t18 => if (0 : Int) ≤ 0 ∧ 0 < (t18.length : Int) then if (decide ((t18.length : Int) > 1)) = true then (if (0 : Int) ≤ 0 ∧ 0 < (t18.length : Int) then if (0 : Int) ≤ wr .i64 (((lget t18 0).size : Int) + 1) ∧ wr .i64 (((lget t18 0).size : Int) + 1) ≤ (x0.size : Int) ∧ (x0.size : Int) ≤ (x0.size : Int) then if (!(decide ((t18.length : Int) > 1))) = true then (some (({ f_A := ({ f_V := (0 : Int), f_B := (Vector.replicate 16 (0 : Int) : (Vector Int 16)) } : S_api_Addr), f_Port := (0 : Int) } : S_api_Endpoint), 5)) else (crawlwayref06_Parts (lget t18 0) 58 >>= fun t32 => if (decide ((t32.length : Int) > 1) != (bt x0 0 == 91)) = true then (some (({ f_A := ({ f_V := (0 : Int), f_B := (Vector.replicate 16 (0 : Int) : (Vector Int 16)) } : S_api_Addr), f_Port := (0 : Int) } : S_api_Endpoint), 5)) else (crawlwayref10_Parse (lget t18 0) >>= fun t36 => if (t36.2 != 0) = true then (some (({ f_A := ({ f_V := (0 : Int), f_B := (Vector.replicate 16 (0 : Int) : (Vector Int 16)) } : S_api_Addr), f_Port := (0 : Int) } : S_api_Endpoint), t36.2)) else (crawlwayref03_Read (x0.extract (Int.toNat (wr .i64 (((lget t18 0).size : Int) + 1))) (Int.toNat (x0.size : Int))) 65535 >>= fun t39 => if (t39.2 != 0) = true then (some (({ f_A := ({ f_V := (0 : Int), f_B := (Vector.replicate 16 (0 : Int) : (Vector Int 16)) } : S_api_Addr), f_Port := (0 : Int) } : S_api_Endpoint), t39.2)) else (if (t39.1 == 0) = true then (some (({ f_A := ({ f_V := (0 : Int), f_B := (Vector.replicate 16 (0 : Int) : (Vector Int 16)) } : S_api_Addr), f_Port := (0 : Int) } : S_api_Endpoint), 6)) else (some ({ { ({ f_A := ({ f_V := (0 : Int), f_B := (Vector.replicate 16 (0 : Int) : (Vector Int 16)) } : S_api_Addr), f_Port := (0 : Int) } : S_api_Endpoint) with f_A := t36.1 } with f_Port := wr .i64 t39.1 }, 0)))))) else none else none) else (if (!(decide ((t18.length : Int) > 1))) = true then (some (({ f_A := ({ f_V := (0 : Int), f_B := (Vector.replicate 16 (0 : Int) : (Vector Int 16)) } : S_api_Addr), f_Port := (0 : Int) } : S_api_Endpoint), 5)) else (crawlwayref06_Parts (lget t18 0) 58 >>= fun t43 => if (decide ((t43.length : Int) > 1) != (bt x0 0 == 91)) = true then (some (({ f_A := ({ f_V := (0 : Int), f_B := (Vector.replicate 16 (0 : Int) : (Vector Int 16)) } : S_api_Addr), f_Port := (0 : Int) } : S_api_Endpoint), 5)) else (crawlwayref10_Parse (lget t18 0) >>= fun t47 => if (t47.2 != 0) = true then (some (({ f_A := ({ f_V := (0 : Int), f_B := (Vector.replicate 16 (0 : Int) : (Vector Int 16)) } : S_api_Addr), f_Port := (0 : Int) } : S_api_Endpoint), t47.2)) else (crawlwayref03_Read (⟨#[]⟩ : ByteArray) 65535 >>= fun t50 => if (t50.2 != 0) = true then (some (({ f_A := ({ f_V := (0 : Int), f_B := (Vector.replicate 16 (0 : Int) : (Vector Int 16)) } : S_api_Addr), f_Port := (0 : Int) } : S_api_Endpoint), t50.2)) else (if (t50.1 == 0) = true then (some (({ f_A := ({ f_V := (0 : Int), f_B := (Vector.replicate 16 (0 : Int) : (Vector Int 16)) } : S_api_Addr), f_Port := (0 : Int) } : S_api_Endpoint), 6)) else (some ({ { ({ f_A := ({ f_V := (0 : Int), f_B := (Vector.replicate 16 (0 : Int) : (Vector Int 16)) } : S_api_Addr), f_Port := (0 : Int) } : S_api_Endpoint) with f_A := t47.1 } with f_Port := wr .i64 t50.1 }, 0))))))) else none) else none) else (crawlwayref06_Parts x0 58 >>= fun t53 => if (0 : Int) ≤ 0 ∧ 0 < (t53.length : Int) then if (decide ((t53.length : Int) > 1)) = true then (if (0 : Int) ≤ 0 ∧ 0 < (t53.length : Int) then if (0 : Int) ≤ wr .i64 (((lget t53 0).size : Int) + 1) ∧ wr .i64 (((lget t53 0).size : Int) + 1) ≤ (x0.size : Int) ∧ (x0.size : Int) ≤ (x0.size : Int) then if (!(decide ((t53.length : Int) > 1))) = true then (some (({ f_A := ({ f_V := (0 : Int), f_B := (Vector.replicate 16 (0 : Int) : (Vector Int 16)) } : S_api_Addr), f_Port := (0 : Int) } : S_api_Endpoint), 5)) else (crawlwayref06_Parts (lget t53 0) 58 >>= fun t67 => if (decide ((t67.length : Int) > 1) != false) = true then (some (({ f_A := ({ f_V := (0 : Int), f_B := (Vector.replicate 16 (0 : Int) : (Vector Int 16)) } : S_api_Addr), f_Port := (0 : Int) } : S_api_Endpoint), 5)) else (crawlwayref10_Parse (lget t53 0) >>= fun t71 => if (t71.2 != 0) = true then (some (({ f_A := ({ f_V := (0 : Int), f_B := (Vector.replicate 16 (0 : Int) : (Vector Int 16)) } : S_api_Addr), f_Port := (0 : Int) } : S_api_Endpoint), t71.2)) else (crawlwayref03_Read (x0.extract (Int.toNat (wr .i64 (((lget t53 0).size : Int) + 1))) (Int.toNat (x0.size : Int))) 65535 >>= fun t74 => if (t74.2 != 0) = true then (some (({ f_A := ({ f_V := (0 : Int), f_B := (Vector.replicate 16 (0 : Int) : (Vector Int 16)) } : S_api_Addr), f_Port := (0 : Int) } : S_api_Endpoint), t74.2)) else (if (t74.1 == 0) = true then (some (({ f_A := ({ f_V := (0 : Int), f_B := (Vector.replicate 16 (0 : Int) : (Vector Int 16)) } : S_api_Addr), f_Port := (0 : Int) } : S_api_Endpoint), 6)) else (some ({ { ({ f_A := ({ f_V := (0 : Int), f_B := (Vector.replicate 16 (0 : Int) : (Vector Int 16)) } : S_api_Addr), f_Port := (0 : Int) } : S_api_Endpoint) with f_A := t71.1 } with f_Port := wr .i64 t74.1 }, 0)))))) else none else none) else (if (!(decide ((t53.length : Int) > 1))) = true then (some (({ f_A := ({ f_V := (0 : Int), f_B := (Vector.replicate 16 (0 : Int) : (Vector Int 16)) } : S_api_Addr), f_Port := (0 : Int) } : S_api_Endpoint), 5)) else (crawlwayref06_Parts (lget t53 0) 58 >>= fun t78 => if (decide ((t78.length : Int) > 1) != false) = true then (some (({ f_A := ({ f_V := (0 : Int), f_B := (Vector.replicate 16 (0 : Int) : (Vector Int 16)) } : S_api_Addr), f_Port := (0 : Int) } : S_api_Endpoint), 5)) else (crawlwayref10_Parse (lget t53 0) >>= fun t82 => if (t82.2 != 0) = true then (some (({ f_A := ({ f_V := (0 : Int), f_B := (Vector.replicate 16 (0 : Int) : (Vector Int 16)) } : S_api_Addr), f_Port := (0 : Int) } : S_api_Endpoint), t82.2)) else (crawlwayref03_Read (⟨#[]⟩ : ByteArray) 65535 >>= fun t85 => if (t85.2 != 0) = true then (some (({ f_A := ({ f_V := (0 : Int), f_B := (Vector.replicate 16 (0 : Int) : (Vector Int 16)) } : S_api_Addr), f_Port := (0 : Int) } : S_api_Endpoint), t85.2)) else (if (t85.1 == 0) = true then (some (({ f_A := ({ f_V := (0 : Int), f_B := (Vector.replicate 16 (0 : Int) : (Vector Int 16)) } : S_api_Addr), f_Port := (0 : Int) } : S_api_Endpoint), 6)) else (some ({ { ({ f_A := ({ f_V := (0 : Int), f_B := (Vector.replicate 16 (0 : Int) : (Vector Int 16)) } : S_api_Addr), f_Port := (0 : Int) } : S_api_Endpoint) with f_A := t82.1 } with f_Port := wr .i64 t85.1 }, 0))))))) else none)
end Go.Proofs.YtkkmmpofdcccmaaGreatDoor
namespace Go.Proofs.YtkkmmpofdcccmaaGreatDoor
open E Go.RowKit
abbrev zqG7_0 : S_api_Prefix := ({ f_A := ({ f_V := (0 : Int), f_B := (Vector.replicate 16 (0 : Int) : (Vector Int 16)) } : S_api_Addr), f_Bits := (0 : Int) } : S_api_Prefix)
abbrev zqG7_1 : S_api_Addr := ({ f_V := (0 : Int), f_B := (Vector.replicate 16 (0 : Int) : (Vector Int 16)) } : S_api_Addr)
def addr_Mask.l0 (x1 : Int) (i6 : Int) (i7 : S_api_Addr) : Option (S_api_Addr) :=
  if (decide (i6 < 16)) = true then (if (decide (x1 < 0)) = true then (if (0 : Int) ≤ i6 ∧ i6 < 16 then if (0 : Int) ≤ wr .u64 (wr .i64 (8 - 0)) then if (0 : Int) ≤ i6 ∧ i6 < 16 then addr_Mask.l0 x1 (wr .i64 (i6 + 1)) ({ i7 with f_B := vset i7.f_B i6 (iand .u8 (vget i7.f_B i6) (ishl .u8 255 (wr .u64 (wr .i64 (8 - 0))))) }) else none else none else none) else (if (0 : Int) ≤ i6 ∧ i6 < 16 then if (0 : Int) ≤ wr .u64 (wr .i64 (8 - (if 8 < (if wr .i64 (x1 - (wr .i64 (8 * i6))) < 0 then 0 else wr .i64 (x1 - (wr .i64 (8 * i6)))) then 8 else (if wr .i64 (x1 - (wr .i64 (8 * i6))) < 0 then 0 else wr .i64 (x1 - (wr .i64 (8 * i6))))))) then if (0 : Int) ≤ i6 ∧ i6 < 16 then addr_Mask.l0 x1 (wr .i64 (i6 + 1)) ({ i7 with f_B := vset i7.f_B i6 (iand .u8 (vget i7.f_B i6) (ishl .u8 255 (wr .u64 (wr .i64 (8 - (if 8 < (if wr .i64 (x1 - (wr .i64 (8 * i6))) < 0 then 0 else wr .i64 (x1 - (wr .i64 (8 * i6)))) then 8 else (if wr .i64 (x1 - (wr .i64 (8 * i6))) < 0 then 0 else wr .i64 (x1 - (wr .i64 (8 * i6)))))))))) }) else none else none else none)) else (some i7)
  partial_fixpoint
def addr_Mask (x0 : S_api_Addr) (x1 : Int) : Option (S_api_Addr) :=
  addr_Right x0 >>= fun t3 => if (!t3) = true then (some ({ f_V := (0 : Int), f_B := (Vector.replicate 16 (0 : Int) : (Vector Int 16)) } : S_api_Addr)) else (addr_Mask.l0 x1 0 x0 >>= fun q5 => some q5)
theorem addr_Mask_ok (x0 : S_api_Addr) (x1 : Int) (r : S_api_Addr) (hF : addr_Mask x0 x1 = some r) (w : World) :
    Calls Tryz.prog 185 #[.agg (Cd.cs c_api_Addr x0).toArray, .int .i64 x1] w (fun e w' => e = .returned (.agg (Cd.cs c_api_Addr r).toArray) ∧ Below w.heap.size w w') := by
 unfold addr_Mask at hF
 refine calls_enter (l := [.agg (Cd.cs c_api_Addr x0).toArray, .int .i64 x1]) Tryz.func185 rfl rfl rfl ?_
 refine at_start ?_
 refine at_weak [(0, _), (1, _)] ⟨rfl, rfl, trivial⟩ ?_
 refine sr ?_
 refine at_box (cs := Cd.cs c_api_Addr x0) rfl rfl rfl ?_
 intro b1
 refine at_alloc (cs := Cd.cs c_api_Addr zqG7_1) Tryz.zeroValue25 rfl rfl ?_
 intro b2
 refine nwt [(1, _), (2, _), (4, _)] ⟨rfl, rfl, rfl, trivial⟩ ?_
 refine at_seq ?_
 refine sr ?_
 refine av rfl (r_load_aggc (c := c_api_Addr) (z := x0) Tryz.isAgg25 Tryz.sizeOf25 rfl (lens_cell (.s .z) (Lens.whole _ _))) ?_
 obtain ⟨t3, ht3, hF⟩ := of_bindM hF
 refine at_callB Tryz.func158 rfl (by kernel_rfl) rfl rfl (fun w hw => addr_Right_ok _ _ ht3 w) ?_
 refine av rfl (r_not rfl) ?_
 refine nwt [(1, _), (2, _), (4, _), (9, _)] ⟨rfl, rfl, rfl, rfl, trivial⟩ ?_
 rcases of_ite hF with ⟨h4, hF⟩ | ⟨h4, hF⟩
 ·refine at_cond_true rfl h4 ?_
  refine sr ?_
  refine av rfl (r_build_struct (zs := Cd.cs c_api_Addr zqG7_1) (cs := Cd.cs c_api_Addr zqG7_1) Tryz.underlying25 Tryz.zeroValue25 rfl (places_api_Addr_25) rfl rfl) ?_
  refine at_store (c := c_api_Addr) (z := zqG7_1) .z (Lens.whole _ _) Tryz.sizeOf25 rfl rfl rfl ?_
  refine at_nil ?_
  refine at_drop (H := _) (.s .z) ?_
  refine at_weak [(4, _)] ⟨rfl, trivial⟩ ?_
  refine at_then_normal ?_
  refine rt ?_
  have K := of_some hF
  subst K
  exact at_res1 rfl (res_cell (c := c_api_Addr) (y := zqG7_1) rfl .z (Lens.whole _ _) Tryz.isAgg25 Tryz.sizeOf25 (.inl rfl)) (fun w1 hw => ⟨rfl, hw.below⟩)
 ·refine at_cond_false rfl h4 ?_
  refine sn ?_
  refine at_seq ?_
  refine sr ?_
  refine av rfl (r_move rfl) ?_
  refine nwt [(1, _), (2, _), (4, _), (11, _)] ⟨rfl, rfl, rfl, rfl, trivial⟩ ?_
  refine at_block ?_
  obtain ⟨q5, hq5, hF⟩ := of_bindM hF
  refine at_weak [(1, _), (2, _), (4, _), (11, _)] ⟨rfl, rfl, rfl, rfl, trivial⟩ ?_
  refine at_loop_n (B := 0) (A := fun Y => At 35 [(2, .pointer (some ⟨b1, 0, none⟩)), (4, .pointer (some ⟨b2, 0, none⟩))] (Wd w [cellsE b2 (Cd.cs c_api_Addr zqG7_1) 25, cellsE b1 (Cd.cs c_api_Addr q5) 25]) Y) ?_ ?_
  ·intro K
   refine addr_Mask.l0.partial_correctness x1 (motive := fun i6 i7 x => KN (fun Y => At 35 [(2, .pointer (some ⟨b1, 0, none⟩)), (4, .pointer (some ⟨b2, 0, none⟩))] (Wd w [cellsE b2 (Cd.cs c_api_Addr zqG7_1) 25, cellsE b1 (Cd.cs c_api_Addr x) 25]) Y) _ 0 → Round (fun Y => At 35 [(1, .int .i64 x1), (2, .pointer (some ⟨b1, 0, none⟩)), (4, .pointer (some ⟨b2, 0, none⟩)), (11, .int .i64 i6)] (Wd w [cellsE b2 (Cd.cs c_api_Addr zqG7_1) 25, cellsE b1 (Cd.cs c_api_Addr i7) 25]) Y) _ _ _) ?_ _ _ _ hq5 K
   ·clear K hF
    intro g ih i6 i7 x hF K
    refine at_round ?_
    refine sr ?_
    refine av rfl (r_ilss rfl rfl) ?_
    refine nwt [(1, _), (2, _), (4, _), (11, _), (12, _)] ⟨rfl, rfl, rfl, rfl, rfl, trivial⟩ ?_
    refine at_seq ?_
    rcases of_ite hF with ⟨h8, hF⟩ | ⟨h8, hF⟩
    ·refine at_cond_true rfl h8 ?_
     refine sn ?_
     refine at_seq ?_
     refine at_block ?_
     refine sr ?_
     refine av rfl (r_move rfl) ?_
     refine av rfl (r_assign rfl) ?_
     refine nws [(1, _), (2, _), (4, _), (5, _), (11, _)] ⟨rfl, rfl, rfl, rfl, rfl, trivial⟩ ?_
     refine av rfl (r_move rfl) ?_
     refine av rfl (r_move rfl) ?_
     refine av rfl (r_imul rfl rfl) ?_
     refine av rfl (r_isub rfl rfl) ?_
     refine av rfl (r_max rfl rfl) ?_
     refine av rfl (r_min rfl rfl) ?_
     refine av rfl (r_assign rfl) ?_
     refine nwt [(1, _), (2, _), (4, _), (5, _), (6, _), (11, _)] ⟨rfl, rfl, rfl, rfl, rfl, rfl, trivial⟩ ?_
     refine at_seq ?_
     refine sr ?_
     refine av rfl (r_move rfl) ?_
     refine av rfl (r_ilss rfl rfl) ?_
     refine nwt [(1, _), (2, _), (4, _), (5, _), (6, _), (11, _), (21, _)] ⟨rfl, rfl, rfl, rfl, rfl, rfl, rfl, trivial⟩ ?_
     rcases of_ite hF with ⟨h9, hF⟩ | ⟨h9, hF⟩
     ·refine at_cond_true rfl h9 ?_
      refine at_region ?_
      refine av rfl (r_assign rfl) ?_
      refine nwt [(1, _), (2, _), (4, _), (5, _), (6, _), (11, _)] ⟨rfl, rfl, rfl, rfl, rfl, rfl, trivial⟩ ?_
      refine at_region ?_
      refine av rfl (r_move rfl) ?_
      refine av rfl (r_fieldAddr (fo := 1) Tryz.underlying25 rfl rfl (fun w => ⟨_, Tryz.sizeOf23 w⟩) rfl) ?_
      obtain ⟨h10, hF⟩ := of_guard hF
      refine av rfl (r_idxArr Tryz.underlying23 Tryz.sizeOf5 rfl rfl h10) ?_
      refine av rfl (r_load_cell Tryz.isAgg5 rfl (lens_cell0 (c := (cInt .u8)) (y := vget i7.f_B i6) (.s .z) (Lens.comp (Lens.comp (Lens.whole _ _) (fun z => { i7 with f_B := z }) (c_api_Addr_f_B i7)) (fun z => vset i7.f_B i6 z) (Lens.vec (cInt .u8) (by decide) i7.f_B i6 h10)) rfl)) ?_
      refine av rfl (r_move rfl) ?_
      refine av rfl (r_isub rfl rfl) ?_
      refine av rfl (r_conv Tryz.underlying3 Tryz.underlying194 rfl) ?_
      obtain ⟨h11, hF⟩ := of_guard hF
      refine av rfl (r_ishl rfl rfl h11) ?_
      refine av rfl (r_iand rfl rfl) ?_
      refine av rfl (r_fieldAddr (fo := 1) Tryz.underlying25 rfl rfl (fun w => ⟨_, Tryz.sizeOf23 w⟩) rfl) ?_
      obtain ⟨h12, hF⟩ := of_guard hF
      refine av rfl (r_idxArr Tryz.underlying23 Tryz.sizeOf5 rfl rfl h12) ?_
      refine at_store (c := (cInt .u8)) (z := iand .u8 (vget i7.f_B i6) (ishl .u8 255 (wr .u64 (wr .i64 (8 - 0))))) (.s .z) (Lens.comp (Lens.comp (Lens.whole _ _) (fun z => { i7 with f_B := z }) (c_api_Addr_f_B i7)) (fun z => vset i7.f_B i6 z) (Lens.vec (cInt .u8) (by decide) i7.f_B i6 h12)) Tryz.sizeOf5 rfl rfl rfl ?_
      refine at_nil ?_
      refine at_weak [(1, _), (2, _), (4, _), (11, _)] ⟨rfl, rfl, rfl, rfl, trivial⟩ ?_
      refine at_blk_normal (at_then_normal ?_)
      refine at_region ?_
      refine av rfl (r_iadd rfl rfl) ?_
      refine av rfl (r_move rfl) ?_
      refine nwt [(1, _), (2, _), (4, _), (11, _)] ⟨rfl, rfl, rfl, rfl, trivial⟩ ?_
      exact at_weak_k (ih _ _ _ hF K) ⟨rfl, rfl, rfl, rfl, trivial⟩
     ·refine at_cond_false rfl h9 ?_
      refine sn ?_
      refine at_region ?_
      refine av rfl (r_move rfl) ?_
      refine av rfl (r_fieldAddr (fo := 1) Tryz.underlying25 rfl rfl (fun w => ⟨_, Tryz.sizeOf23 w⟩) rfl) ?_
      obtain ⟨h13, hF⟩ := of_guard hF
      refine av rfl (r_idxArr Tryz.underlying23 Tryz.sizeOf5 rfl rfl h13) ?_
      refine av rfl (r_load_cell Tryz.isAgg5 rfl (lens_cell0 (c := (cInt .u8)) (y := vget i7.f_B i6) (.s .z) (Lens.comp (Lens.comp (Lens.whole _ _) (fun z => { i7 with f_B := z }) (c_api_Addr_f_B i7)) (fun z => vset i7.f_B i6 z) (Lens.vec (cInt .u8) (by decide) i7.f_B i6 h13)) rfl)) ?_
      refine av rfl (r_move rfl) ?_
      refine av rfl (r_isub rfl rfl) ?_
      refine av rfl (r_conv Tryz.underlying3 Tryz.underlying194 rfl) ?_
      obtain ⟨h14, hF⟩ := of_guard hF
      refine av rfl (r_ishl rfl rfl h14) ?_
      refine av rfl (r_iand rfl rfl) ?_
      refine av rfl (r_fieldAddr (fo := 1) Tryz.underlying25 rfl rfl (fun w => ⟨_, Tryz.sizeOf23 w⟩) rfl) ?_
      obtain ⟨h15, hF⟩ := of_guard hF
      refine av rfl (r_idxArr Tryz.underlying23 Tryz.sizeOf5 rfl rfl h15) ?_
      refine at_store (c := (cInt .u8)) (z := iand .u8 (vget i7.f_B i6) (ishl .u8 255 (wr .u64 (wr .i64 (8 - (if 8 < (if wr .i64 (x1 - (wr .i64 (8 * i6))) < 0 then 0 else wr .i64 (x1 - (wr .i64 (8 * i6)))) then 8 else (if wr .i64 (x1 - (wr .i64 (8 * i6))) < 0 then 0 else wr .i64 (x1 - (wr .i64 (8 * i6)))))))))) (.s .z) (Lens.comp (Lens.comp (Lens.whole _ _) (fun z => { i7 with f_B := z }) (c_api_Addr_f_B i7)) (fun z => vset i7.f_B i6 z) (Lens.vec (cInt .u8) (by decide) i7.f_B i6 h15)) Tryz.sizeOf5 rfl rfl rfl ?_
      refine at_nil ?_
      refine at_weak [(1, _), (2, _), (4, _), (11, _)] ⟨rfl, rfl, rfl, rfl, trivial⟩ ?_
      refine at_blk_normal (at_then_normal ?_)
      refine at_region ?_
      refine av rfl (r_iadd rfl rfl) ?_
      refine av rfl (r_move rfl) ?_
      refine nwt [(1, _), (2, _), (4, _), (11, _)] ⟨rfl, rfl, rfl, rfl, trivial⟩ ?_
      exact at_weak_k (ih _ _ _ hF K) ⟨rfl, rfl, rfl, rfl, trivial⟩
    ·refine at_cond_false rfl h8 ?_
     refine at_exit ?_
     refine at_then_exit (at_then_exit ?_)
     obtain rfl := of_some hF
     exact at_weak_k K ⟨rfl, rfl, trivial⟩
  ·skip
   skip
   refine at_blk_same ?_
   refine at_then_normal ?_
   refine sr ?_
   refine av rfl (r_load_aggc (c := c_api_Addr) (z := q5) Tryz.isAgg25 Tryz.sizeOf25 rfl (lens_cell (.s .z) (Lens.whole _ _))) ?_
   refine at_store (c := c_api_Addr) (z := q5) .z (Lens.whole _ _) Tryz.sizeOf25 rfl rfl rfl ?_
   refine at_nil ?_
   refine at_drop (H := _) (.s .z) ?_
   refine at_weak [(4, _)] ⟨rfl, trivial⟩ ?_
   refine at_then_normal ?_
   refine at_ret ?_
   have K := of_some hF
   subst K
   exact at_res1 rfl (res_cell (c := c_api_Addr) (y := q5) rfl .z (Lens.whole _ _) Tryz.isAgg25 Tryz.sizeOf25 (.inl rfl)) (fun w1 hw => ⟨rfl, hw.below⟩)
def crawlwayref10_Width (x0 : S_api_Addr) : Option (Int) :=
  crawlwayref10_Right x0 >>= fun t2 => if (!t2) = true then (some 0) else (if (x0.f_V == 4) = true then (some 32) else (some 128))
theorem crawlwayref10_Width_ok (x0 : S_api_Addr) (r : Int) (hF : crawlwayref10_Width x0 = some r) (w : World) :
    Calls Tryz.prog 72 #[.agg (Cd.cs c_api_Addr x0).toArray] w (fun e w' => e = .returned (.int .i64 r) ∧ Below w.heap.size w w') := by
 unfold crawlwayref10_Width at hF
 refine calls_enter (l := [.agg (Cd.cs c_api_Addr x0).toArray]) Tryz.func72 rfl rfl rfl ?_
 refine at_start ?_
 refine at_weak [(0, _)] ⟨rfl, trivial⟩ ?_
 refine sr ?_
 refine at_box (cs := Cd.cs c_api_Addr x0) rfl rfl rfl ?_
 intro b1
 refine av rfl (r_assign rfl) ?_
 refine nwt [(1, _)] ⟨rfl, trivial⟩ ?_
 refine at_seq ?_
 refine sr ?_
 refine av rfl (r_load_aggc (c := c_api_Addr) (z := x0) Tryz.isAgg25 Tryz.sizeOf25 rfl (lens_cell .z (Lens.whole _ _))) ?_
 obtain ⟨t2, ht2, hF⟩ := of_bindM hF
 refine at_callB Tryz.func74 rfl (by kernel_rfl) rfl rfl (fun w hw => crawlwayref10_Right_ok _ _ ht2 w) ?_
 refine av rfl (r_not rfl) ?_
 refine nwt [(1, _), (5, _)] ⟨rfl, rfl, trivial⟩ ?_
 rcases of_ite hF with ⟨h3, hF⟩ | ⟨h3, hF⟩
 ·refine at_cond_true rfl h3 ?_
  refine sr ?_
  refine av rfl (r_assign rfl) ?_
  refine at_nil ?_
  refine at_drop (H := _) .z ?_
  refine at_weak [(2, _)] ⟨rfl, trivial⟩ ?_
  refine at_then_normal ?_
  refine rt ?_
  have K := of_some hF
  subst K
  exact at_return1 rfl rfl (fun w1 hw => ⟨rfl, hw.below⟩)
 ·refine at_cond_false rfl h3 ?_
  refine sn ?_
  refine at_seq ?_
  refine sr ?_
  refine av rfl (r_fieldAddr (fo := 0) Tryz.underlying25 rfl rfl (fun w => ⟨_, Tryz.sizeOf3 w⟩) rfl) ?_
  refine av rfl (r_load_cell Tryz.isAgg3 rfl (lens_cell0 (c := (cInt .i64)) (y := x0.f_V) .z (Lens.comp (Lens.whole _ _) (fun z => { x0 with f_V := z }) (c_api_Addr_f_V x0)) rfl)) ?_
  refine av rfl (r_ieql rfl rfl) ?_
  refine at_nil ?_
  refine at_drop (H := _) .z ?_
  refine at_weak [(8, _)] ⟨rfl, trivial⟩ ?_
  refine at_then_normal ?_
  rcases of_ite hF with ⟨h4, hF⟩ | ⟨h4, hF⟩
  ·refine at_cond_true rfl h4 ?_
   refine sr ?_
   refine av rfl (r_assign rfl) ?_
   refine nwt [(2, _)] ⟨rfl, trivial⟩ ?_
   refine rt ?_
   have K := of_some hF
   subst K
   exact at_return1 rfl rfl (fun w1 hw => ⟨rfl, hw.below⟩)
  ·refine at_cond_false rfl h4 ?_
   refine sns ?_
   refine av rfl (r_assign rfl) ?_
   refine nwt [(2, _)] ⟨rfl, trivial⟩ ?_
   refine at_ret ?_
   have K := of_some hF
   subst K
   exact at_return1 rfl rfl (fun w1 hw => ⟨rfl, hw.below⟩)
def crawlwayref10_digit.l0 (x1 : Int) (i4 : Int) (i5 : Int) : Option (Int) :=
  if (decide (i5 > Int.tmod x1 8)) = true then (crawlwayref10_digit.l0 x1 (wr .i64 (Int.tdiv i4 2)) (wr .i64 (i5 - 1))) else (some i4)
  partial_fixpoint
def crawlwayref10_digit (x0 : S_api_Addr) (x1 : Int) : Option (Int) :=
  if (0 : Int) ≤ wr .i64 (Int.tdiv x1 8) ∧ wr .i64 (Int.tdiv x1 8) < 16 then crawlwayref10_digit.l0 x1 (wr .i64 (vget x0.f_B (wr .i64 (Int.tdiv x1 8)))) 7 >>= fun q3 => some (Int.tmod q3 2) else none
theorem crawlwayref10_digit_ok (x0 : S_api_Addr) (x1 : Int) (r : Int) (hF : crawlwayref10_digit x0 x1 = some r) (w : World) :
    Calls Tryz.prog 147 #[.agg (Cd.cs c_api_Addr x0).toArray, .int .i64 x1] w (fun e w' => e = .returned (.int .i64 r) ∧ Below w.heap.size w w') := by
 unfold crawlwayref10_digit at hF
 refine calls_enter (l := [.agg (Cd.cs c_api_Addr x0).toArray, .int .i64 x1]) Tryz.func147 rfl rfl rfl ?_
 refine at_start ?_
 refine at_weak [(0, _), (1, _)] ⟨rfl, rfl, trivial⟩ ?_
 refine sr ?_
 refine at_box (cs := Cd.cs c_api_Addr x0) rfl rfl rfl ?_
 intro b1
 refine av rfl (r_assign rfl) ?_
 refine nws [(1, _), (2, _)] ⟨rfl, rfl, trivial⟩ ?_
 refine av rfl (r_move rfl) ?_
 refine av rfl (r_iquo rfl rfl (by decide)) ?_
 refine av rfl (r_fieldAddr (fo := 1) Tryz.underlying25 rfl rfl (fun w => ⟨_, Tryz.sizeOf23 w⟩) rfl) ?_
 obtain ⟨h2, hF⟩ := of_guard hF
 refine av rfl (r_idxArr Tryz.underlying23 Tryz.sizeOf5 rfl rfl h2) ?_
 refine av rfl (r_load_cell Tryz.isAgg5 rfl (lens_cell0 (c := (cInt .u8)) (y := vget x0.f_B (wr .i64 (Int.tdiv x1 8))) .z (Lens.comp (Lens.comp (Lens.whole _ _) (fun z => { x0 with f_B := z }) (c_api_Addr_f_B x0)) (fun z => vset x0.f_B (wr .i64 (Int.tdiv x1 8)) z) (Lens.vec (cInt .u8) (by decide) x0.f_B (wr .i64 (Int.tdiv x1 8)) h2)) rfl)) ?_
 refine av rfl (r_conv Tryz.underlying5 Tryz.underlying3 rfl) ?_
 refine av rfl (r_assign rfl) ?_
 refine at_nil ?_
 refine at_drop (H := _) .z ?_
 refine at_weak [(1, _), (5, _)] ⟨rfl, rfl, trivial⟩ ?_
 refine at_then_normal ?_
 refine at_seq ?_
 refine sr ?_
 refine av rfl (r_assign rfl) ?_
 refine nwt [(1, _), (5, _), (6, _)] ⟨rfl, rfl, rfl, trivial⟩ ?_
 refine at_block ?_
 obtain ⟨q3, hq3, hF⟩ := of_bindM hF
 refine at_weak [(1, _), (5, _), (6, _)] ⟨rfl, rfl, rfl, trivial⟩ ?_
 refine at_loop_n (B := 0) (A := fun Y => At 23 [(5, .int .i64 q3)] (Wd w []) Y) ?_ ?_
 ·intro K
  refine crawlwayref10_digit.l0.partial_correctness x1 (motive := fun i4 i5 x => KN (fun Y => At 23 [(5, .int .i64 x)] (Wd w []) Y) _ 0 → Round (fun Y => At 23 [(1, .int .i64 x1), (5, .int .i64 i4), (6, .int .i64 i5)] (Wd w []) Y) _ _ _) ?_ _ _ _ hq3 K
  ·clear K hF
   intro g ih i4 i5 x hF K
   refine at_round ?_
   refine at_seq ?_
   refine sr ?_
   refine av rfl (r_move rfl) ?_
   refine av rfl (r_move rfl) ?_
   refine av rfl (r_irem rfl rfl (by decide)) ?_
   refine av rfl (r_igtr rfl rfl) ?_
   refine nwt [(1, _), (5, _), (6, _), (16, _)] ⟨rfl, rfl, rfl, rfl, trivial⟩ ?_
   rcases of_ite hF with ⟨h6, hF⟩ | ⟨h6, hF⟩
   ·refine at_cond_true rfl h6 ?_
    refine sn ?_
    refine at_seq ?_
    refine at_block ?_
    refine at_region ?_
    refine av rfl (r_move rfl) ?_
    refine av rfl (r_iquo rfl rfl (by decide)) ?_
    refine av rfl (r_assign rfl) ?_
    refine at_nil ?_
    refine at_weak [(1, _), (5, _), (6, _)] ⟨rfl, rfl, rfl, trivial⟩ ?_
    refine at_blk_normal (at_then_normal ?_)
    refine at_region ?_
    refine av rfl (r_move rfl) ?_
    refine av rfl (r_isub rfl rfl) ?_
    refine av rfl (r_assign rfl) ?_
    refine nwt [(1, _), (5, _), (6, _)] ⟨rfl, rfl, rfl, trivial⟩ ?_
    exact at_weak_k (ih _ _ _ hF K) ⟨rfl, rfl, rfl, trivial⟩
   ·refine at_cond_false rfl h6 ?_
    refine at_exit ?_
    refine at_then_exit (at_then_exit ?_)
    obtain rfl := of_some hF
    exact at_weak_k K ⟨rfl, trivial⟩
 ·skip
  skip
  refine at_blk_same ?_
  refine at_then_normal ?_
  refine sr ?_
  refine av rfl (r_move rfl) ?_
  refine av rfl (r_irem rfl rfl (by decide)) ?_
  refine av rfl (r_assign rfl) ?_
  refine nwt [(4, _)] ⟨rfl, trivial⟩ ?_
  refine at_ret ?_
  have K := of_some hF
  subst K
  exact at_return1 rfl rfl (fun w1 hw => ⟨rfl, hw.below⟩)
def crawlwayref10_Mask.l1 (i8 : Int) (i15 : Int) (i16 : Int) : Option (Int) :=
  if (decide (i16 < Int.tmod i8 8)) = true then (crawlwayref10_Mask.l1 i8 (wr .i64 (Int.tdiv i15 2)) (wr .i64 (i16 + 1))) else (some i15)
  partial_fixpoint
def crawlwayref10_Mask.l0 (x0 : S_api_Addr) (x1 : Int) (t6 : Int) (i8 : Int) (i9 : S_api_Addr) : Option (S_api_Addr) :=
  if (decide (i8 < t6)) = true then (if (decide (i8 < x1)) = true then (crawlwayref10_digit x0 i8 >>= fun t12 => if (t12 == 1) = true then (crawlwayref10_Mask.l1 i8 128 0 >>= fun q14 => if (0 : Int) ≤ wr .i64 (Int.tdiv i8 8) ∧ wr .i64 (Int.tdiv i8 8) < 16 then if (0 : Int) ≤ wr .i64 (Int.tdiv i8 8) ∧ wr .i64 (Int.tdiv i8 8) < 16 then crawlwayref10_Mask.l0 x0 x1 t6 (wr .i64 (i8 + 1)) ({ i9 with f_B := vset i9.f_B (wr .i64 (Int.tdiv i8 8)) (wr .u8 ((vget i9.f_B (wr .i64 (Int.tdiv i8 8))) + (wr .u8 q14))) }) else none else none) else (crawlwayref10_Mask.l0 x0 x1 t6 (wr .i64 (i8 + 1)) i9)) else (some i9)) else (some i9)
  partial_fixpoint
def crawlwayref10_Mask (x0 : S_api_Addr) (x1 : Int) : Option (S_api_Addr) :=
  crawlwayref10_Right x0 >>= fun t3 => if (!t3) = true then (some ({ f_V := (0 : Int), f_B := (Vector.replicate 16 (0 : Int) : (Vector Int 16)) } : S_api_Addr)) else (crawlwayref10_Width x0 >>= fun t6 => crawlwayref10_Mask.l0 x0 x1 t6 0 ({ ({ f_V := (0 : Int), f_B := (Vector.replicate 16 (0 : Int) : (Vector Int 16)) } : S_api_Addr) with f_V := x0.f_V }) >>= fun q7 => some q7)
theorem crawlwayref10_Mask_ok (x0 : S_api_Addr) (x1 : Int) (r : S_api_Addr) (hF : crawlwayref10_Mask x0 x1 = some r) (w : World) :
    Calls Tryz.prog 90 #[.agg (Cd.cs c_api_Addr x0).toArray, .int .i64 x1] w (fun e w' => e = .returned (.agg (Cd.cs c_api_Addr r).toArray) ∧ Below w.heap.size w w') := by
 unfold crawlwayref10_Mask at hF
 refine calls_enter (l := [.agg (Cd.cs c_api_Addr x0).toArray, .int .i64 x1]) Tryz.func90 rfl rfl rfl ?_
 refine at_start ?_
 refine at_weak [(0, _), (1, _)] ⟨rfl, rfl, trivial⟩ ?_
 refine sr ?_
 refine at_box (cs := Cd.cs c_api_Addr x0) rfl rfl rfl ?_
 intro b1
 refine at_alloc (cs := Cd.cs c_api_Addr zqG7_1) Tryz.zeroValue25 rfl rfl ?_
 intro b2
 refine nwt [(1, _), (2, _), (4, _)] ⟨rfl, rfl, rfl, trivial⟩ ?_
 refine at_seq ?_
 refine sr ?_
 refine av rfl (r_load_aggc (c := c_api_Addr) (z := x0) Tryz.isAgg25 Tryz.sizeOf25 rfl (lens_cell (.s .z) (Lens.whole _ _))) ?_
 obtain ⟨t3, ht3, hF⟩ := of_bindM hF
 refine at_callB Tryz.func74 rfl (by kernel_rfl) rfl rfl (fun w hw => crawlwayref10_Right_ok _ _ ht3 w) ?_
 refine av rfl (r_not rfl) ?_
 refine nwt [(1, _), (2, _), (4, _), (12, _)] ⟨rfl, rfl, rfl, rfl, trivial⟩ ?_
 rcases of_ite hF with ⟨h4, hF⟩ | ⟨h4, hF⟩
 ·refine at_cond_true rfl h4 ?_
  refine sr ?_
  refine av rfl (r_build_struct (zs := Cd.cs c_api_Addr zqG7_1) (cs := Cd.cs c_api_Addr zqG7_1) Tryz.underlying25 Tryz.zeroValue25 rfl (places_api_Addr_25) rfl rfl) ?_
  refine at_store (c := c_api_Addr) (z := zqG7_1) .z (Lens.whole _ _) Tryz.sizeOf25 rfl rfl rfl ?_
  refine at_nil ?_
  refine at_drop (H := _) (.s .z) ?_
  refine at_weak [(4, _)] ⟨rfl, trivial⟩ ?_
  refine at_then_normal ?_
  refine rt ?_
  have K := of_some hF
  subst K
  exact at_res1 rfl (res_cell (c := c_api_Addr) (y := zqG7_1) rfl .z (Lens.whole _ _) Tryz.isAgg25 Tryz.sizeOf25 (.inl rfl)) (fun w1 hw => ⟨rfl, hw.below⟩)
 ·refine at_cond_false rfl h4 ?_
  refine sns ?_
  refine av rfl (r_fieldAddr (fo := 0) Tryz.underlying25 rfl rfl (fun w => ⟨_, Tryz.sizeOf3 w⟩) rfl) ?_
  refine av rfl (r_load_cell Tryz.isAgg3 rfl (lens_cell0 (c := (cInt .i64)) (y := x0.f_V) (.s .z) (Lens.comp (Lens.whole _ _) (fun z => { x0 with f_V := z }) (c_api_Addr_f_V x0)) rfl)) ?_
  refine av rfl (r_build_struct (zs := Cd.cs c_api_Addr zqG7_1) (cs := Cd.cs c_api_Addr ({ zqG7_1 with f_V := x0.f_V })) Tryz.underlying25 Tryz.zeroValue25 rfl (places_api_Addr_25) rfl (fill_step (c := (cInt .i64)) (z := x0.f_V) rfl (c_api_Addr_f_V zqG7_1) rfl rfl)) ?_
  refine at_alloc (cs := Cd.cs c_api_Addr zqG7_1) Tryz.zeroValue25 rfl rfl ?_
  intro b5
  refine at_store (c := c_api_Addr) (z := { zqG7_1 with f_V := x0.f_V }) .z (Lens.whole _ _) Tryz.sizeOf25 rfl rfl rfl ?_
  refine nws [(1, _), (2, _), (4, _), (5, _)] ⟨rfl, rfl, rfl, rfl, trivial⟩ ?_
  refine av rfl (r_load_aggc (c := c_api_Addr) (z := x0) Tryz.isAgg25 Tryz.sizeOf25 rfl (lens_cell (.s (.s .z)) (Lens.whole _ _))) ?_
  obtain ⟨t6, ht6, hF⟩ := of_bindM hF
  refine at_callB Tryz.func72 rfl (by kernel_rfl) rfl rfl (fun w hw => crawlwayref10_Width_ok _ _ ht6 w) ?_
  refine av rfl (r_assign rfl) ?_
  refine nwt [(1, _), (2, _), (4, _), (5, _), (6, _)] ⟨rfl, rfl, rfl, rfl, rfl, trivial⟩ ?_
  refine at_seq ?_
  refine sr ?_
  refine av rfl (r_assign rfl) ?_
  refine nwt [(1, _), (2, _), (4, _), (5, _), (6, _), (7, _)] ⟨rfl, rfl, rfl, rfl, rfl, rfl, trivial⟩ ?_
  refine at_block ?_
  obtain ⟨q7, hq7, hF⟩ := of_bindM hF
  refine at_weak [(1, _), (2, _), (4, _), (5, _), (6, _), (7, _)] ⟨rfl, rfl, rfl, rfl, rfl, rfl, trivial⟩ ?_
  refine at_loop_n (B := 0) (A := fun Y => At 54 [(4, .pointer (some ⟨b2, 0, none⟩)), (5, .pointer (some ⟨b5, 0, none⟩))] (Wd w [cellsE b5 (Cd.cs c_api_Addr q7) 25, cellsE b2 (Cd.cs c_api_Addr zqG7_1) 25]) Y) ?_ ?_
  ·intro K
   refine crawlwayref10_Mask.l0.partial_correctness x0 x1 t6 (motive := fun i8 i9 x => KN (fun Y => At 54 [(4, .pointer (some ⟨b2, 0, none⟩)), (5, .pointer (some ⟨b5, 0, none⟩))] (Wd w [cellsE b5 (Cd.cs c_api_Addr x) 25, cellsE b2 (Cd.cs c_api_Addr zqG7_1) 25]) Y) _ 0 → Round (fun Y => At 54 [(1, .int .i64 x1), (2, .pointer (some ⟨b1, 0, none⟩)), (4, .pointer (some ⟨b2, 0, none⟩)), (5, .pointer (some ⟨b5, 0, none⟩)), (6, .int .i64 t6), (7, .int .i64 i8)] (Wd w [cellsE b5 (Cd.cs c_api_Addr i9) 25, cellsE b2 (Cd.cs c_api_Addr zqG7_1) 25, cellsE b1 (Cd.cs c_api_Addr x0) 25]) Y) _ _ _) ?_ _ _ _ hq7 K
   ·clear K hF
    intro g ih i8 i9 x hF K
    refine at_round ?_
    refine at_seq ?_
    refine sr ?_
    refine av rfl (r_move rfl) ?_
    refine av rfl (r_move rfl) ?_
    refine av rfl (r_ilss rfl rfl) ?_
    refine av rfl (r_move rfl) ?_
    rcases of_ite hF with ⟨h10, hF⟩ | ⟨h10, hF⟩
    ·refine at_fix (g := 22) rfl h10 ?_
     refine at_guard_yes rfl rfl rfl ?_
     refine av rfl (r_move rfl) ?_
     refine at_guard_yes rfl rfl rfl ?_
     refine av rfl (r_move rfl) ?_
     refine at_guard_yes rfl rfl rfl ?_
     refine av rfl (r_ilss rfl rfl) ?_
     refine av rfl (r_pick rfl rfl rfl) ?_
     refine nwt [(1, _), (2, _), (4, _), (5, _), (6, _), (7, _), (26, _)] ⟨rfl, rfl, rfl, rfl, rfl, rfl, rfl, trivial⟩ ?_
     rcases of_ite hF with ⟨h11, hF⟩ | ⟨h11, hF⟩
     ·refine at_cond_true rfl h11 ?_
      refine sn ?_
      refine at_seq ?_
      refine at_block ?_
      refine sr ?_
      refine av rfl (r_load_aggc (c := c_api_Addr) (z := x0) Tryz.isAgg25 Tryz.sizeOf25 rfl (lens_cell (.s (.s .z)) (Lens.whole _ _))) ?_
      refine av rfl (r_move rfl) ?_
      obtain ⟨t12, ht12, hF⟩ := of_bindM hF
      refine at_callB Tryz.func147 rfl (by kernel_rfl) rfl rfl (fun w hw => crawlwayref10_digit_ok _ _ _ ht12 w) ?_
      refine av rfl (r_ieql rfl rfl) ?_
      refine nwt [(1, _), (2, _), (4, _), (5, _), (6, _), (7, _), (32, _)] ⟨rfl, rfl, rfl, rfl, rfl, rfl, rfl, trivial⟩ ?_
      rcases of_ite hF with ⟨h13, hF⟩ | ⟨h13, hF⟩
      ·refine at_cond_true rfl h13 ?_
       refine sr ?_
       refine av rfl (r_assign rfl) ?_
       refine nwt [(1, _), (2, _), (4, _), (5, _), (6, _), (7, _), (8, _)] ⟨rfl, rfl, rfl, rfl, rfl, rfl, rfl, trivial⟩ ?_
       refine at_seq ?_
       refine sr ?_
       refine av rfl (r_assign rfl) ?_
       refine nwt [(1, _), (2, _), (4, _), (5, _), (6, _), (7, _), (8, _), (9, _)] ⟨rfl, rfl, rfl, rfl, rfl, rfl, rfl, rfl, trivial⟩ ?_
       refine at_block ?_
       obtain ⟨q14, hq14, hF⟩ := of_bindM hF
       refine at_weak [(1, _), (2, _), (4, _), (5, _), (6, _), (7, _), (8, _), (9, _)] ⟨rfl, rfl, rfl, rfl, rfl, rfl, rfl, rfl, trivial⟩ ?_
       refine at_loop_n (B := 2) (A := fun Y => At 54 [(1, .int .i64 x1), (2, .pointer (some ⟨b1, 0, none⟩)), (4, .pointer (some ⟨b2, 0, none⟩)), (5, .pointer (some ⟨b5, 0, none⟩)), (6, .int .i64 t6), (7, .int .i64 i8), (8, .int .i64 q14)] (Wd w [cellsE b5 (Cd.cs c_api_Addr i9) 25, cellsE b2 (Cd.cs c_api_Addr zqG7_1) 25, cellsE b1 (Cd.cs c_api_Addr x0) 25]) Y) ?_ ?_
       ·intro K
        refine crawlwayref10_Mask.l1.partial_correctness i8 (motive := fun i15 i16 x => KN (fun Y => At 54 [(1, .int .i64 x1), (2, .pointer (some ⟨b1, 0, none⟩)), (4, .pointer (some ⟨b2, 0, none⟩)), (5, .pointer (some ⟨b5, 0, none⟩)), (6, .int .i64 t6), (7, .int .i64 i8), (8, .int .i64 x)] (Wd w [cellsE b5 (Cd.cs c_api_Addr i9) 25, cellsE b2 (Cd.cs c_api_Addr zqG7_1) 25, cellsE b1 (Cd.cs c_api_Addr x0) 25]) Y) _ 2 → Round (fun Y => At 54 [(1, .int .i64 x1), (2, .pointer (some ⟨b1, 0, none⟩)), (4, .pointer (some ⟨b2, 0, none⟩)), (5, .pointer (some ⟨b5, 0, none⟩)), (6, .int .i64 t6), (7, .int .i64 i8), (8, .int .i64 i15), (9, .int .i64 i16)] (Wd w [cellsE b5 (Cd.cs c_api_Addr i9) 25, cellsE b2 (Cd.cs c_api_Addr zqG7_1) 25, cellsE b1 (Cd.cs c_api_Addr x0) 25]) Y) _ _ _) ?_ _ _ _ hq14 K
        ·clear K hF
         intro g ih i15 i16 x hF K
         refine at_round ?_
         refine at_seq ?_
         refine sr ?_
         refine av rfl (r_move rfl) ?_
         refine av rfl (r_move rfl) ?_
         refine av rfl (r_irem rfl rfl (by decide)) ?_
         refine av rfl (r_ilss rfl rfl) ?_
         refine nwt [(1, _), (2, _), (4, _), (5, _), (6, _), (7, _), (8, _), (9, _), (36, _)] ⟨rfl, rfl, rfl, rfl, rfl, rfl, rfl, rfl, rfl, trivial⟩ ?_
         rcases of_ite hF with ⟨h17, hF⟩ | ⟨h17, hF⟩
         ·refine at_cond_true rfl h17 ?_
          refine sn ?_
          refine at_seq ?_
          refine at_block ?_
          refine at_region ?_
          refine av rfl (r_move rfl) ?_
          refine av rfl (r_iquo rfl rfl (by decide)) ?_
          refine av rfl (r_assign rfl) ?_
          refine at_nil ?_
          refine at_weak [(1, _), (2, _), (4, _), (5, _), (6, _), (7, _), (8, _), (9, _)] ⟨rfl, rfl, rfl, rfl, rfl, rfl, rfl, rfl, trivial⟩ ?_
          refine at_blk_normal (at_then_normal ?_)
          refine at_region ?_
          refine av rfl (r_move rfl) ?_
          refine av rfl (r_iadd rfl rfl) ?_
          refine av rfl (r_assign rfl) ?_
          refine nwt [(1, _), (2, _), (4, _), (5, _), (6, _), (7, _), (8, _), (9, _)] ⟨rfl, rfl, rfl, rfl, rfl, rfl, rfl, rfl, trivial⟩ ?_
          exact at_weak_k (ih _ _ _ hF K) ⟨rfl, rfl, rfl, rfl, rfl, rfl, rfl, rfl, trivial⟩
         ·refine at_cond_false rfl h17 ?_
          refine at_exit ?_
          refine at_then_exit (at_then_exit ?_)
          obtain rfl := of_some hF
          exact at_weak_k K ⟨rfl, rfl, rfl, rfl, rfl, rfl, rfl, trivial⟩
       ·skip
        skip
        refine at_blk_same ?_
        refine at_then_normal ?_
        refine at_region ?_
        refine av rfl (r_move rfl) ?_
        refine av rfl (r_iquo rfl rfl (by decide)) ?_
        refine av rfl (r_move rfl) ?_
        refine av rfl (r_iquo rfl rfl (by decide)) ?_
        refine av rfl (r_fieldAddr (fo := 1) Tryz.underlying25 rfl rfl (fun w => ⟨_, Tryz.sizeOf23 w⟩) rfl) ?_
        obtain ⟨h18, hF⟩ := of_guard hF
        refine av rfl (r_idxArr Tryz.underlying23 Tryz.sizeOf5 rfl rfl h18) ?_
        refine av rfl (r_load_cell Tryz.isAgg5 rfl (lens_cell0 (c := (cInt .u8)) (y := vget i9.f_B (wr .i64 (Int.tdiv i8 8))) .z (Lens.comp (Lens.comp (Lens.whole _ _) (fun z => { i9 with f_B := z }) (c_api_Addr_f_B i9)) (fun z => vset i9.f_B (wr .i64 (Int.tdiv i8 8)) z) (Lens.vec (cInt .u8) (by decide) i9.f_B (wr .i64 (Int.tdiv i8 8)) h18)) rfl)) ?_
        refine av rfl (r_move rfl) ?_
        refine av rfl (r_conv Tryz.underlying3 Tryz.underlying5 rfl) ?_
        refine av rfl (r_iadd rfl rfl) ?_
        refine av rfl (r_fieldAddr (fo := 1) Tryz.underlying25 rfl rfl (fun w => ⟨_, Tryz.sizeOf23 w⟩) rfl) ?_
        obtain ⟨h19, hF⟩ := of_guard hF
        refine av rfl (r_idxArr Tryz.underlying23 Tryz.sizeOf5 rfl rfl h19) ?_
        refine at_store (c := (cInt .u8)) (z := wr .u8 ((vget i9.f_B (wr .i64 (Int.tdiv i8 8))) + (wr .u8 q14))) .z (Lens.comp (Lens.comp (Lens.whole _ _) (fun z => { i9 with f_B := z }) (c_api_Addr_f_B i9)) (fun z => vset i9.f_B (wr .i64 (Int.tdiv i8 8)) z) (Lens.vec (cInt .u8) (by decide) i9.f_B (wr .i64 (Int.tdiv i8 8)) h19)) Tryz.sizeOf5 rfl rfl rfl ?_
        refine at_nil ?_
        refine at_weak [(1, _), (2, _), (4, _), (5, _), (6, _), (7, _)] ⟨rfl, rfl, rfl, rfl, rfl, rfl, trivial⟩ ?_
        refine at_blk_normal (at_then_normal ?_)
        refine at_region ?_
        refine av rfl (r_move rfl) ?_
        refine av rfl (r_iadd rfl rfl) ?_
        refine av rfl (r_assign rfl) ?_
        refine nwt [(1, _), (2, _), (4, _), (5, _), (6, _), (7, _)] ⟨rfl, rfl, rfl, rfl, rfl, rfl, trivial⟩ ?_
        exact at_weak_k (ih _ _ _ hF K) ⟨rfl, rfl, rfl, rfl, rfl, rfl, trivial⟩
      ·refine at_cond_false rfl h13 ?_
       refine at_skip ?_
       refine at_blk_normal (at_then_normal ?_)
       refine at_region ?_
       refine av rfl (r_move rfl) ?_
       refine av rfl (r_iadd rfl rfl) ?_
       refine av rfl (r_assign rfl) ?_
       refine nwt [(1, _), (2, _), (4, _), (5, _), (6, _), (7, _)] ⟨rfl, rfl, rfl, rfl, rfl, rfl, trivial⟩ ?_
       exact at_weak_k (ih _ _ _ hF K) ⟨rfl, rfl, rfl, rfl, rfl, rfl, trivial⟩
     ·refine at_cond_false rfl h11 ?_
      refine at_exit ?_
      refine at_then_exit (at_then_exit ?_)
      refine at_drop (H := _) (.s (.s .z)) ?_
      obtain rfl := of_some hF
      exact at_weak_k K ⟨rfl, rfl, trivial⟩
    ·refine at_fix (g := 22) rfl h10 ?_
     refine at_guard_no rfl rfl rfl rfl rfl ?_
     refine at_guard_no rfl rfl rfl rfl rfl ?_
     refine at_guard_no rfl rfl rfl rfl rfl ?_
     refine av rfl (r_pick rfl rfl rfl) ?_
     refine nwt [(1, _), (2, _), (4, _), (5, _), (6, _), (7, _), (26, _)] ⟨rfl, rfl, rfl, rfl, rfl, rfl, rfl, trivial⟩ ?_
     refine at_cond_false rfl rfl ?_
     refine at_exit ?_
     refine at_then_exit (at_then_exit ?_)
     refine at_drop (H := _) (.s (.s .z)) ?_
     obtain rfl := of_some hF
     exact at_weak_k K ⟨rfl, rfl, trivial⟩
  ·skip
   skip
   refine at_blk_same ?_
   refine at_then_normal ?_
   refine sr ?_
   refine av rfl (r_load_aggc (c := c_api_Addr) (z := q7) Tryz.isAgg25 Tryz.sizeOf25 rfl (lens_cell .z (Lens.whole _ _))) ?_
   refine at_store (c := c_api_Addr) (z := q7) (.s .z) (Lens.whole _ _) Tryz.sizeOf25 rfl rfl rfl ?_
   refine at_nil ?_
   refine at_drop (H := _) .z ?_
   refine at_weak [(4, _)] ⟨rfl, trivial⟩ ?_
   refine at_then_normal ?_
   refine at_ret ?_
   have K := of_some hF
   subst K
   exact at_res1 rfl (res_cell (c := c_api_Addr) (y := q7) rfl .z (Lens.whole _ _) Tryz.isAgg25 Tryz.sizeOf25 (.inl rfl)) (fun w1 hw => ⟨rfl, hw.below⟩)
def cidr_Of (x0 : S_api_Addr) (x1 : Int) : Option (S_api_Prefix × Int) :=
  addr_Right x0 >>= fun t3 => if (!t3) = true then (some (({ f_A := ({ f_V := (0 : Int), f_B := (Vector.replicate 16 (0 : Int) : (Vector Int 16)) } : S_api_Addr), f_Bits := (0 : Int) } : S_api_Prefix), 1)) else (if (decide (x1 < 0)) = true then (some (({ f_A := ({ f_V := (0 : Int), f_B := (Vector.replicate 16 (0 : Int) : (Vector Int 16)) } : S_api_Addr), f_Bits := (0 : Int) } : S_api_Prefix), 6)) else (addr_Width x0 >>= fun t6 => if (decide (x1 > t6)) = true then (some (({ f_A := ({ f_V := (0 : Int), f_B := (Vector.replicate 16 (0 : Int) : (Vector Int 16)) } : S_api_Addr), f_Bits := (0 : Int) } : S_api_Prefix), 6)) else (addr_Mask x0 x1 >>= fun t8 => some ({ { ({ f_A := ({ f_V := (0 : Int), f_B := (Vector.replicate 16 (0 : Int) : (Vector Int 16)) } : S_api_Addr), f_Bits := (0 : Int) } : S_api_Prefix) with f_A := t8 } with f_Bits := x1 }, 0))))
theorem cidr_Of_ok (x0 : S_api_Addr) (x1 : Int) (r : S_api_Prefix × Int) (hF : cidr_Of x0 x1 = some r) (w : World) :
    Calls Tryz.prog 160 #[.agg (Cd.cs c_api_Addr x0).toArray, .int .i64 x1] w (fun e w' => e = .returned (.tuple #[.agg (Cd.cs c_api_Prefix r.1).toArray, .int .i64 r.2]) ∧ Below w.heap.size w w') := by
 unfold cidr_Of at hF
 refine calls_enter (l := [.agg (Cd.cs c_api_Addr x0).toArray, .int .i64 x1]) Tryz.func160 rfl rfl rfl ?_
 refine at_start ?_
 refine at_weak [(0, _), (1, _)] ⟨rfl, rfl, trivial⟩ ?_
 refine sr ?_
 refine at_box (cs := Cd.cs c_api_Addr x0) rfl rfl rfl ?_
 intro b1
 refine at_alloc (cs := Cd.cs c_api_Prefix zqG7_0) Tryz.zeroValue44 rfl rfl ?_
 intro b2
 refine av rfl (r_assign rfl) ?_
 refine nwt [(1, _), (2, _), (4, _)] ⟨rfl, rfl, rfl, trivial⟩ ?_
 refine at_seq ?_
 refine at_block ?_
 refine sr ?_
 refine av rfl (r_load_aggc (c := c_api_Addr) (z := x0) Tryz.isAgg25 Tryz.sizeOf25 rfl (lens_cell (.s .z) (Lens.whole _ _))) ?_
 obtain ⟨t3, ht3, hF⟩ := of_bindM hF
 refine at_callB Tryz.func158 rfl (by kernel_rfl) rfl rfl (fun w hw => addr_Right_ok _ _ ht3 w) ?_
 refine av rfl (r_not rfl) ?_
 refine av rfl (r_assign rfl) ?_
 refine nwt [(1, _), (2, _), (4, _), (6, _)] ⟨rfl, rfl, rfl, rfl, trivial⟩ ?_
 rcases of_ite hF with ⟨h4, hF⟩ | ⟨h4, hF⟩
 ·refine at_cond_true rfl h4 ?_
  refine sr ?_
  refine av rfl (r_build_struct (zs := Cd.cs c_api_Prefix zqG7_0) (cs := Cd.cs c_api_Prefix zqG7_0) Tryz.underlying44 Tryz.zeroValue44 rfl (places_api_Prefix_44) rfl rfl) ?_
  refine at_store (c := c_api_Prefix) (z := zqG7_0) .z (Lens.whole _ _) Tryz.sizeOf44 rfl rfl rfl ?_
  refine av rfl (r_assign rfl) ?_
  refine at_nil ?_
  refine at_drop (H := _) (.s .z) ?_
  refine at_weak [(4, _), (5, _)] ⟨rfl, rfl, trivial⟩ ?_
  refine at_then_normal ?_
  refine at_ret ?_
  refine at_blk_ret (at_then_ret ?_)
  have K := of_some hF
  subst K
  exact at_res2 rfl (res_cell (c := c_api_Prefix) (y := zqG7_0) rfl .z (Lens.whole _ _) Tryz.isAgg44 Tryz.sizeOf44 (.inl rfl)) (res_tmp rfl) (fun w1 hw => ⟨rfl, hw.below⟩)
 ·refine at_cond_false rfl h4 ?_
  refine sr ?_
  refine av rfl (r_move rfl) ?_
  refine av rfl (r_ilss rfl rfl) ?_
  refine av rfl (r_move rfl) ?_
  rcases of_ite hF with ⟨h5, hF⟩ | ⟨h5, hF⟩
  ·refine at_fix (g := 14) rfl h5 ?_
   refine at_guard_no rfl rfl rfl rfl rfl ?_
   refine at_guard_no rfl rfl rfl rfl rfl ?_
   refine at_guard_no rfl rfl rfl rfl rfl ?_
   refine at_guard_no rfl rfl rfl rfl rfl ?_
   refine av rfl (r_pick rfl rfl rfl) ?_
   refine av rfl (r_assign rfl) ?_
   refine nwt [(1, _), (2, _), (4, _), (11, _)] ⟨rfl, rfl, rfl, rfl, trivial⟩ ?_
   refine at_cond_true rfl rfl ?_
   refine sr ?_
   refine av rfl (r_build_struct (zs := Cd.cs c_api_Prefix zqG7_0) (cs := Cd.cs c_api_Prefix zqG7_0) Tryz.underlying44 Tryz.zeroValue44 rfl (places_api_Prefix_44) rfl rfl) ?_
   refine at_store (c := c_api_Prefix) (z := zqG7_0) .z (Lens.whole _ _) Tryz.sizeOf44 rfl rfl rfl ?_
   refine av rfl (r_assign rfl) ?_
   refine at_nil ?_
   refine at_drop (H := _) (.s .z) ?_
   refine at_weak [(4, _), (5, _)] ⟨rfl, rfl, trivial⟩ ?_
   refine at_then_normal ?_
   refine at_ret ?_
   refine at_blk_ret (at_then_ret ?_)
   have K := of_some hF
   subst K
   exact at_res2 rfl (res_cell (c := c_api_Prefix) (y := zqG7_0) rfl .z (Lens.whole _ _) Tryz.isAgg44 Tryz.sizeOf44 (.inl rfl)) (res_tmp rfl) (fun w1 hw => ⟨rfl, hw.below⟩)
  ·refine at_fix (g := 14) rfl h5 ?_
   refine at_guard_yes rfl rfl rfl ?_
   refine av rfl (r_move rfl) ?_
   refine at_guard_yes rfl rfl rfl ?_
   refine av rfl (r_load_aggc (c := c_api_Addr) (z := x0) Tryz.isAgg25 Tryz.sizeOf25 rfl (lens_cell (.s .z) (Lens.whole _ _))) ?_
   refine at_guard_yes rfl rfl rfl ?_
   obtain ⟨t6, ht6, hF⟩ := of_bindM hF
   refine at_callB Tryz.func156 rfl (by kernel_rfl) rfl rfl (fun w hw => addr_Width_ok _ _ ht6 w) ?_
   refine at_guard_yes rfl rfl rfl ?_
   refine av rfl (r_igtr rfl rfl) ?_
   refine av rfl (r_pick rfl rfl rfl) ?_
   refine av rfl (r_assign rfl) ?_
   refine nwt [(1, _), (2, _), (4, _), (11, _)] ⟨rfl, rfl, rfl, rfl, trivial⟩ ?_
   rcases of_ite hF with ⟨h7, hF⟩ | ⟨h7, hF⟩
   ·refine at_cond_true rfl h7 ?_
    refine sr ?_
    refine av rfl (r_build_struct (zs := Cd.cs c_api_Prefix zqG7_0) (cs := Cd.cs c_api_Prefix zqG7_0) Tryz.underlying44 Tryz.zeroValue44 rfl (places_api_Prefix_44) rfl rfl) ?_
    refine at_store (c := c_api_Prefix) (z := zqG7_0) .z (Lens.whole _ _) Tryz.sizeOf44 rfl rfl rfl ?_
    refine av rfl (r_assign rfl) ?_
    refine at_nil ?_
    refine at_drop (H := _) (.s .z) ?_
    refine at_weak [(4, _), (5, _)] ⟨rfl, rfl, trivial⟩ ?_
    refine at_then_normal ?_
    refine at_ret ?_
    refine at_blk_ret (at_then_ret ?_)
    have K := of_some hF
    subst K
    exact at_res2 rfl (res_cell (c := c_api_Prefix) (y := zqG7_0) rfl .z (Lens.whole _ _) Tryz.isAgg44 Tryz.sizeOf44 (.inl rfl)) (res_tmp rfl) (fun w1 hw => ⟨rfl, hw.below⟩)
   ·refine at_cond_false rfl h7 ?_
    refine at_skip ?_
    refine at_blk_normal (at_then_normal ?_)
    refine sr ?_
    refine av rfl (r_load_aggc (c := c_api_Addr) (z := x0) Tryz.isAgg25 Tryz.sizeOf25 rfl (lens_cell (.s .z) (Lens.whole _ _))) ?_
    refine av rfl (r_move rfl) ?_
    obtain ⟨t8, ht8, hF⟩ := of_bindM hF
    refine at_callB Tryz.func185 rfl (by kernel_rfl) rfl rfl (fun w hw => addr_Mask_ok _ _ _ ht8 w) ?_
    refine av rfl (r_move rfl) ?_
    refine av rfl (r_build_struct (zs := Cd.cs c_api_Prefix zqG7_0) (cs := Cd.cs c_api_Prefix ({ { zqG7_0 with f_A := t8 } with f_Bits := x1 })) Tryz.underlying44 Tryz.zeroValue44 rfl (places_api_Prefix_44) rfl (fill_step (c := c_api_Addr) (z := t8) rfl (c_api_Prefix_f_A zqG7_0) rfl (fill_step (c := (cInt .i64)) (z := x1) rfl (c_api_Prefix_f_Bits ({ zqG7_0 with f_A := t8 })) rfl rfl))) ?_
    refine at_store (c := c_api_Prefix) (z := { { zqG7_0 with f_A := t8 } with f_Bits := x1 }) .z (Lens.whole _ _) Tryz.sizeOf44 rfl rfl rfl ?_
    refine av rfl (r_assign rfl) ?_
    refine at_nil ?_
    refine at_drop (H := _) (.s .z) ?_
    refine at_weak [(4, _), (5, _)] ⟨rfl, rfl, trivial⟩ ?_
    refine at_then_normal ?_
    refine at_ret ?_
    have K := of_some hF
    subst K
    exact at_res2 rfl (res_cell (c := c_api_Prefix) (y := { { zqG7_0 with f_A := t8 } with f_Bits := x1 }) rfl .z (Lens.whole _ _) Tryz.isAgg44 Tryz.sizeOf44 (.inl rfl)) (res_tmp rfl) (fun w1 hw => ⟨rfl, hw.below⟩)
def crawlwayref11_Of (x0 : S_api_Addr) (x1 : Int) : Option (S_api_Prefix × Int) :=
  crawlwayref10_Right x0 >>= fun t3 => if (!t3) = true then (some (({ f_A := ({ f_V := (0 : Int), f_B := (Vector.replicate 16 (0 : Int) : (Vector Int 16)) } : S_api_Addr), f_Bits := (0 : Int) } : S_api_Prefix), 1)) else (if (decide (x1 < 0)) = true then (some (({ f_A := ({ f_V := (0 : Int), f_B := (Vector.replicate 16 (0 : Int) : (Vector Int 16)) } : S_api_Addr), f_Bits := (0 : Int) } : S_api_Prefix), 6)) else (crawlwayref10_Width x0 >>= fun t6 => if (decide (x1 > t6)) = true then (some (({ f_A := ({ f_V := (0 : Int), f_B := (Vector.replicate 16 (0 : Int) : (Vector Int 16)) } : S_api_Addr), f_Bits := (0 : Int) } : S_api_Prefix), 6)) else (crawlwayref10_Mask x0 x1 >>= fun t8 => some ({ { ({ f_A := ({ f_V := (0 : Int), f_B := (Vector.replicate 16 (0 : Int) : (Vector Int 16)) } : S_api_Addr), f_Bits := (0 : Int) } : S_api_Prefix) with f_A := t8 } with f_Bits := x1 }, 0))))
def cidr_Right (x0 : S_api_Prefix) : Option (Bool) :=
  cidr_Of x0.f_A x0.f_Bits >>= fun t2 => if (t2.2 == 0) = true then (some (decide (t2.1 = x0))) else (some false)
theorem cidr_Right_ok (x0 : S_api_Prefix) (r : Bool) (hF : cidr_Right x0 = some r) (w : World) :
    Calls Tryz.prog 108 #[.agg (Cd.cs c_api_Prefix x0).toArray] w (fun e w' => e = .returned (.bool r) ∧ Below w.heap.size w w') := by
 unfold cidr_Right at hF
 refine calls_enter (l := [.agg (Cd.cs c_api_Prefix x0).toArray]) Tryz.func108 rfl rfl rfl ?_
 refine at_start ?_
 refine at_weak [(0, _)] ⟨rfl, trivial⟩ ?_
 refine sr ?_
 refine at_box (cs := Cd.cs c_api_Prefix x0) rfl rfl rfl ?_
 intro b1
 refine av rfl (r_assign rfl) ?_
 refine nws [(1, _)] ⟨rfl, trivial⟩ ?_
 refine av rfl (r_fieldAddr (fo := 0) Tryz.underlying44 rfl rfl (fun w => ⟨_, Tryz.sizeOf25 w⟩) rfl) ?_
 refine av rfl (r_load_aggc (c := c_api_Addr) (z := x0.f_A) Tryz.isAgg25 Tryz.sizeOf25 rfl (lens_cell .z (Lens.comp (Lens.whole _ _) (fun z => { x0 with f_A := z }) (c_api_Prefix_f_A x0)))) ?_
 refine av rfl (r_fieldAddr (fo := 17) Tryz.underlying44 rfl rfl (fun w => ⟨_, Tryz.sizeOf3 w⟩) rfl) ?_
 refine av rfl (r_load_cell Tryz.isAgg3 rfl (lens_cell0 (c := (cInt .i64)) (y := x0.f_Bits) .z (Lens.comp (Lens.whole _ _) (fun z => { x0 with f_Bits := z }) (c_api_Prefix_f_Bits x0)) rfl)) ?_
 obtain ⟨t2, ht2, hF⟩ := of_bindM hF
 refine at_callB Tryz.func160 rfl (by kernel_rfl) rfl rfl (fun w hw => cidr_Of_ok _ _ _ ht2 w) ?_
 refine av rfl (r_move rfl) ?_
 refine av rfl (r_extract rfl rfl) ?_
 refine av rfl (r_extract rfl rfl) ?_
 refine at_alloc (cs := Cd.cs c_api_Prefix zqG7_0) Tryz.zeroValue44 rfl rfl ?_
 intro b3
 refine at_store (c := c_api_Prefix) (z := t2.1) .z (Lens.whole _ _) Tryz.sizeOf44 rfl rfl rfl ?_
 refine av rfl (r_assign rfl) ?_
 refine nws [(1, _), (3, _), (4, _)] ⟨rfl, rfl, rfl, trivial⟩ ?_
 refine av rfl (r_move rfl) ?_
 refine av rfl (r_ieql rfl rfl) ?_
 refine av rfl (r_move rfl) ?_
 rcases of_ite hF with ⟨h4, hF⟩ | ⟨h4, hF⟩
 ·refine at_fix (g := 15) rfl h4 ?_
  refine at_guard_yes rfl rfl rfl ?_
  refine av rfl (r_load_aggc (c := c_api_Prefix) (z := t2.1) Tryz.isAgg44 Tryz.sizeOf44 rfl (lens_cell .z (Lens.whole _ _))) ?_
  refine at_guard_yes rfl rfl rfl ?_
  refine av rfl (r_load_aggc (c := c_api_Prefix) (z := x0) Tryz.isAgg44 Tryz.sizeOf44 rfl (lens_cell (.s .z) (Lens.whole _ _))) ?_
  refine at_guard_yes rfl rfl rfl ?_
  refine av rfl (r_eqagg (c := c_api_Prefix) (a := t2.1) (b := x0) (eq_api_Prefix_44) rfl Tryz.eqGuardType44 rfl rfl (.inl rfl) rfl) ?_
  refine av rfl (r_pick rfl rfl rfl) ?_
  refine av rfl (r_assign rfl) ?_
  refine at_nil ?_
  refine at_drop (H := _) .z ?_
  refine at_drop (H := _) .z ?_
  refine at_weak [(2, _)] ⟨rfl, trivial⟩ ?_
  refine at_then_normal ?_
  refine at_ret ?_
  have K := of_some hF
  subst K
  exact at_return1 rfl rfl (fun w1 hw => ⟨rfl, hw.below⟩)
 ·refine at_fix (g := 15) rfl h4 ?_
  refine at_guard_no rfl rfl rfl rfl rfl ?_
  refine at_guard_no rfl rfl rfl rfl rfl ?_
  refine at_guard_no rfl rfl rfl rfl rfl ?_
  refine av rfl (r_pick rfl rfl rfl) ?_
  refine av rfl (r_assign rfl) ?_
  refine at_nil ?_
  refine at_drop (H := _) .z ?_
  refine at_drop (H := _) .z ?_
  refine at_weak [(2, _)] ⟨rfl, trivial⟩ ?_
  refine at_then_normal ?_
  refine at_ret ?_
  have K := of_some hF
  subst K
  exact at_return1 rfl rfl (fun w1 hw => ⟨rfl, hw.below⟩)
def cidr_Whole (x0 : S_api_Addr) : Option (S_api_Prefix) :=
  addr_Width x0 >>= fun t3 => cidr_Of x0 t3 >>= fun t4 => some t4.1
set_option maxHeartbeats 3200000 in
theorem cidr_Whole_ok (x0 : S_api_Addr) (r : S_api_Prefix) (hF : cidr_Whole x0 = some r) (w : World) :
    Calls Tryz.prog 159 #[.agg (Cd.cs c_api_Addr x0).toArray] w (fun e w' => e = .returned (.agg (Cd.cs c_api_Prefix r).toArray) ∧ Below w.heap.size w w') := by
 unfold cidr_Whole at hF
 refine calls_enter (l := [.agg (Cd.cs c_api_Addr x0).toArray]) Tryz.func159 rfl rfl rfl ?_
 refine at_start ?_
 refine at_weak [(0, _)] ⟨rfl, trivial⟩ ?_
 refine sr ?_
 refine at_box (cs := Cd.cs c_api_Addr x0) rfl rfl rfl ?_
 intro b1
 refine at_alloc (cs := Cd.cs c_api_Prefix zqG7_0) Tryz.zeroValue44 rfl rfl ?_
 intro b2
 refine nwt [(1, _), (2, _)] ⟨rfl, rfl, trivial⟩ ?_
 refine at_seq ?_
 refine at_weak [(1, _), (2, _)] ⟨rfl, rfl, trivial⟩ ?_
 obtain ⟨t3, ht3, hF⟩ := of_bindM hF
 obtain ⟨t4, ht4, hF⟩ := of_bindM hF
 refine at_inv [.q 6 (fun g6 => .agg (Cd.cs c_api_Addr x0).toArray) [] 0 1, .q 7 (fun g6 => .agg (Cd.cs c_api_Addr x0).toArray) [] 0 1, .q 8 (fun g6 => .int .i64 t3) [1] 0 1, .q 9 (fun g6 => .tuple #[.agg (Cd.cs c_api_Prefix t4.1).toArray, .int .i64 t4.2]) [0, 2] 0 1, .q 5 (fun g6 => .tuple #[.agg (Cd.cs c_api_Prefix t4.1).toArray, .int .i64 t4.2]) [3] 0 1, .q 10 (fun g6 => .agg (Cd.cs c_api_Prefix t4.1).toArray) [4] 0 1, .q 11 (fun g6 => .int .i64 t4.2) [4] 0 2, .al 0 3 (fun g6 => .pointer (some ⟨((g6 0).1), 0, none⟩)) [], .st 1 none [7, 5], .q 4 (fun g6 => .int .i64 t4.2) [6] 2 2] (fun g6 s => match s with | 0 => (Wd w [cellsE b2 (Cd.cs c_api_Prefix zqG7_0) 44, cellsE b1 (Cd.cs c_api_Addr x0) 25]) | 1 => (Wd w [cellsE ((g6 0).1) (Cd.cs c_api_Prefix zqG7_0) 44, cellsE b2 (Cd.cs c_api_Prefix zqG7_0) 44, cellsE b1 (Cd.cs c_api_Addr x0) 25]) | _ => (Wd w [cellsE ((g6 0).1) (Cd.cs c_api_Prefix t4.1) 44, cellsE b2 (Cd.cs c_api_Prefix zqG7_0) 44, cellsE b1 (Cd.cs c_api_Addr x0) 25])) 2 (by kernel_rfl) (by kernel_rfl) (by kernel_rfl) (by kernel_rfl) (by kernel_rfl) ⟨fun _ _ _ => rfl, fun _ _ _ => rfl, fun _ _ _ => rfl, fun _ _ _ => rfl, fun _ _ _ => rfl, fun _ _ _ => rfl, fun _ _ _ => rfl, fun g6 g2 h => by show (.pointer (some ⟨((g6 0).1), 0, none⟩) : Value) = .pointer (some ⟨((g2 0).1), 0, none⟩); rw [h 0 (show 0 < 1 by decide)], fun _ _ _ => rfl, fun _ _ _ => rfl, trivial⟩ (by kernel_rfl) (fun _ h => ⟨fun _ => (0, none, 0, none), h.drew⟩) ⟨?_, ?_, ?_, ?_, ?_, ?_, ?_, ?_, ?_, ?_, trivial⟩ ?_
 ·intro Lx g6 s K hl hh k
  show At 13 ((1, _) :: (2, _) :: Lx) _ _
  rcases (by omega : s = 0 ∨ s = 1) with rfl | rfl
  ·skip
   refine av rfl (r_load_aggc (c := c_api_Addr) (z := x0) Tryz.isAgg25 Tryz.sizeOf25 rfl (lens_cell (.s .z) (Lens.whole _ _))) ?_
   exact at_nil k
  ·skip
   refine av rfl (r_load_aggc (c := c_api_Addr) (z := x0) Tryz.isAgg25 Tryz.sizeOf25 rfl (lens_cell (.s (.s .z)) (Lens.whole _ _))) ?_
   exact at_nil k
 ·intro Lx g6 s K hl hh k
  show At 13 ((1, _) :: (2, _) :: Lx) _ _
  rcases (by omega : s = 0 ∨ s = 1) with rfl | rfl
  ·skip
   refine av rfl (r_load_aggc (c := c_api_Addr) (z := x0) Tryz.isAgg25 Tryz.sizeOf25 rfl (lens_cell (.s .z) (Lens.whole _ _))) ?_
   exact at_nil k
  ·skip
   refine av rfl (r_load_aggc (c := c_api_Addr) (z := x0) Tryz.isAgg25 Tryz.sizeOf25 rfl (lens_cell (.s (.s .z)) (Lens.whole _ _))) ?_
   exact at_nil k
 ·intro Lx g6 s K hl hh k
  show At 13 ((7, _) :: (1, _) :: (2, _) :: Lx) _ _
  rcases (by omega : s = 0 ∨ s = 1) with rfl | rfl
  ·skip
   refine at_callB Tryz.func156 rfl (by kernel_rfl) rfl rfl (fun w hw => addr_Width_ok _ _ ht3 w) ?_
   exact at_nil k
  ·skip
   refine at_callB Tryz.func156 rfl (by kernel_rfl) rfl rfl (fun w hw => addr_Width_ok _ _ ht3 w) ?_
   exact at_nil k
 ·intro Lx g6 s K hl hh k
  show At 13 ((6, _) :: (8, _) :: (1, _) :: (2, _) :: Lx) _ _
  rcases (by omega : s = 0 ∨ s = 1) with rfl | rfl
  ·skip
   refine at_callB Tryz.func160 rfl (by kernel_rfl) rfl rfl (fun w hw => cidr_Of_ok _ _ _ ht4 w) ?_
   exact at_nil k
  ·skip
   refine at_callB Tryz.func160 rfl (by kernel_rfl) rfl rfl (fun w hw => cidr_Of_ok _ _ _ ht4 w) ?_
   exact at_nil k
 ·intro Lx g6 s K hl hh k
  show At 13 ((9, _) :: (1, _) :: (2, _) :: Lx) _ _
  refine av rfl (r_move rfl) ?_
  exact at_nil k
 ·intro Lx g6 s K hl hh k
  show At 13 ((5, _) :: (1, _) :: (2, _) :: Lx) _ _
  refine av rfl (r_extract rfl rfl) ?_
  exact at_nil k
 ·intro Lx g6 s K hl hh k
  show At 13 ((5, _) :: (1, _) :: (2, _) :: Lx) _ _
  refine av rfl (r_extract rfl rfl) ?_
  exact at_nil k
 ·intro Lx g6 K k
  show At 13 ((1, _) :: (2, _) :: Lx) _ _
  refine at_alloc (cs := Cd.cs c_api_Prefix zqG7_0) Tryz.zeroValue44 rfl rfl ?_
  intro b5
  exact at_nil (k (b5, none, 0, none))
 ·intro Lx g6 K k
  show At 13 ((3, _) :: (10, _) :: (1, _) :: (2, _) :: Lx) _ _
  refine at_store (c := c_api_Prefix) (z := t4.1) .z (Lens.whole _ _) Tryz.sizeOf44 rfl rfl rfl ?_
  exact at_nil k
 ·intro Lx g6 s K hl hh k
  show At 13 ((11, _) :: (1, _) :: (2, _) :: Lx) _ _
  refine av rfl (r_assign rfl) ?_
  exact at_nil k
 intro g6
 show At 13 [(6, _), (7, _), (8, _), (9, _), (5, _), (10, _), (11, _), (3, _), (4, _), (1, _), (2, _)] _ _
 refine at_drop (H := _) (.s (.s .z)) ?_
 refine at_weak [(2, _), (3, _)] ⟨rfl, rfl, trivial⟩ ?_
 refine at_then_normal ?_
 refine sr ?_
 refine av rfl (r_load_aggc (c := c_api_Prefix) (z := t4.1) Tryz.isAgg44 Tryz.sizeOf44 rfl (lens_cell .z (Lens.whole _ _))) ?_
 refine at_store (c := c_api_Prefix) (z := t4.1) (.s .z) (Lens.whole _ _) Tryz.sizeOf44 rfl rfl rfl ?_
 refine at_nil ?_
 refine at_drop (H := _) .z ?_
 refine at_weak [(2, _)] ⟨rfl, trivial⟩ ?_
 refine at_then_normal ?_
 refine at_ret ?_
 have K := of_some hF
 subst K
 exact at_res1 rfl (res_cell (c := c_api_Prefix) (y := t4.1) rfl .z (Lens.whole _ _) Tryz.isAgg44 Tryz.sizeOf44 (.inl rfl)) (fun w1 hw => ⟨rfl, hw.below⟩)
def cidr_Text (x0 : S_api_Prefix) : Option (ByteArray) :=
  cidr_Right x0 >>= fun t2 => if (!t2) = true then (some (⟨#[]⟩)) else (addr_Text x0.f_A >>= fun t4 => if t4.size + (⟨#[47]⟩ : ByteArray).size ≤ 140737488355328 then decimal_Text (wr .u64 x0.f_Bits) >>= fun t6 => if (t4 ++ (⟨#[47]⟩ : ByteArray)).size + t6.size ≤ 140737488355328 then some ((t4 ++ (⟨#[47]⟩ : ByteArray)) ++ t6) else none else none)
theorem cidr_Text_ok (x0 : S_api_Prefix) (r : ByteArray) (hF : cidr_Text x0 = some r) (w : World) (hg_strconv_uint64pow10 : GV_strconv_uint64pow10 w) :
    Calls Tryz.prog 107 #[.agg (Cd.cs c_api_Prefix x0).toArray] w (fun e w' => e = .returned (.string r) ∧ Below w.heap.size w w') := by
 unfold cidr_Text at hF
 refine calls_enter (l := [.agg (Cd.cs c_api_Prefix x0).toArray]) Tryz.func107 rfl rfl rfl ?_
 refine at_start ?_
 refine at_weak [(0, _)] ⟨rfl, trivial⟩ ?_
 refine sr ?_
 refine at_box (cs := Cd.cs c_api_Prefix x0) rfl rfl rfl ?_
 intro b1
 refine av rfl (r_assign rfl) ?_
 refine nwt [(1, _)] ⟨rfl, trivial⟩ ?_
 refine at_seq ?_
 refine sr ?_
 refine av rfl (r_load_aggc (c := c_api_Prefix) (z := x0) Tryz.isAgg44 Tryz.sizeOf44 rfl (lens_cell .z (Lens.whole _ _))) ?_
 obtain ⟨t2, ht2, hF⟩ := of_bindM hF
 refine at_callB Tryz.func108 rfl (by kernel_rfl) rfl rfl (fun w hw => cidr_Right_ok _ _ ht2 w) ?_
 refine av rfl (r_not rfl) ?_
 refine nwt [(1, _), (5, _)] ⟨rfl, rfl, trivial⟩ ?_
 rcases of_ite hF with ⟨h3, hF⟩ | ⟨h3, hF⟩
 ·refine at_cond_true rfl h3 ?_
  refine sr ?_
  refine av rfl (r_assign rfl) ?_
  refine at_nil ?_
  refine at_drop (H := _) .z ?_
  refine at_weak [(2, _)] ⟨rfl, trivial⟩ ?_
  refine at_then_normal ?_
  refine rt ?_
  have K := of_some hF
  subst K
  exact at_return1 rfl rfl (fun w1 hw => ⟨rfl, hw.below⟩)
 ·refine at_cond_false rfl h3 ?_
  refine sn ?_
  refine at_seq ?_
  refine at_draw (by kernel_rfl) (by kernel_rfl) (fun _ h => h.drew) ?_
  refine atq_val rfl rfl rfl (r_fieldAddr (fo := 0) Tryz.underlying44 rfl rfl (fun w => ⟨_, Tryz.sizeOf25 w⟩) rfl) ?_
  refine atq_val rfl rfl rfl (r_load_aggc (c := c_api_Addr) (z := x0.f_A) Tryz.isAgg25 Tryz.sizeOf25 rfl (lens_cell .z (Lens.comp (Lens.whole _ _) (fun z => { x0 with f_A := z }) (c_api_Prefix_f_A x0)))) ?_
  obtain ⟨t4, ht4, hF⟩ := of_bindM hF
  refine atq_call Tryz.func157 rfl (by kernel_rfl) rfl rfl (fun w hw => (addr_Text_ok _ _ ht4 w (hg_strconv_uint64pow10.on hw.below)).mono fun _ _ h => ⟨h.1, hw.call h.2⟩) ?_
  obtain ⟨h5, hF⟩ := of_guard hF
  refine atq_val rfl rfl rfl (r_concat rfl rfl h5) ?_
  refine atq_val rfl rfl rfl (r_fieldAddr (fo := 17) Tryz.underlying44 rfl rfl (fun w => ⟨_, Tryz.sizeOf3 w⟩) rfl) ?_
  refine atq_val rfl rfl rfl (r_load_cell Tryz.isAgg3 rfl (lens_cell0 (c := (cInt .i64)) (y := x0.f_Bits) .z (Lens.comp (Lens.whole _ _) (fun z => { x0 with f_Bits := z }) (c_api_Prefix_f_Bits x0)) rfl)) ?_
  refine atq_val rfl rfl rfl (r_conv Tryz.underlying3 Tryz.underlying31 rfl) ?_
  obtain ⟨t6, ht6, hF⟩ := of_bindM hF
  refine atq_call Tryz.func113 rfl (by kernel_rfl) rfl rfl (fun w hw => (decimal_Text_ok _ _ ht6 w (hg_strconv_uint64pow10.on hw.below)).mono fun _ _ h => ⟨h.1, hw.call h.2⟩) ?_
  obtain ⟨h7, hF⟩ := of_guard hF
  refine atq_val rfl rfl rfl (r_concat rfl rfl h7) ?_
  refine atq_val rfl rfl rfl (r_assign rfl) ?_
  refine atq_nil ?_
  refine at_drop (H := _) .z ?_
  refine at_weak [(2, _)] ⟨rfl, trivial⟩ ?_
  refine at_then_normal ?_
  refine at_ret ?_
  have K := of_some hF
  subst K
  exact at_return1 rfl rfl (fun w1 hw => ⟨rfl, hw.below⟩)
def cidr_Parse (x0 : ByteArray) : Option (S_api_Prefix × Int) :=
  lines_Cut x0 47 >>= fun t2 => addr_Parse t2.1 >>= fun t3 => if (t3.2 != 0) = true then (some (({ f_A := ({ f_V := (0 : Int), f_B := (Vector.replicate 16 (0 : Int) : (Vector Int 16)) } : S_api_Addr), f_Bits := (0 : Int) } : S_api_Prefix), t3.2)) else (if (!t2.2.2) = true then (cidr_Whole t3.1 >>= fun t7 => some (t7, 0)) else (addr_Width t3.1 >>= fun t8 => decimal_Read t2.2.1 (wr .u64 t8) >>= fun t9 => if (t9.2 != 0) = true then (some (({ f_A := ({ f_V := (0 : Int), f_B := (Vector.replicate 16 (0 : Int) : (Vector Int 16)) } : S_api_Addr), f_Bits := (0 : Int) } : S_api_Prefix), t9.2)) else (cidr_Of t3.1 (wr .i64 t9.1) >>= fun t11 => some (t11.1, t11.2))))
theorem cidr_Parse_ok (x0 : ByteArray) (r : S_api_Prefix × Int) (hF : cidr_Parse x0 = some r) (w : World) (hg_strconv_ErrRange : GV_strconv_ErrRange w) (hg_strconv_ErrSyntax : GV_strconv_ErrSyntax w) :
    Calls Tryz.prog 105 #[.string x0] w (fun e w' => e = .returned (.tuple #[.agg (Cd.cs c_api_Prefix r.1).toArray, .int .i64 r.2]) ∧ Below w.heap.size w w') := by
 unfold cidr_Parse at hF
 refine calls_enter (l := [.string x0]) Tryz.func105 rfl rfl rfl ?_
 refine at_start ?_
 refine at_weak [(0, _)] ⟨rfl, trivial⟩ ?_
 refine sr ?_
 refine at_alloc (cs := Cd.cs c_api_Prefix zqG7_0) Tryz.zeroValue44 rfl rfl ?_
 intro b1
 refine av rfl (r_assign rfl) ?_
 refine nws [(0, _), (2, _)] ⟨rfl, rfl, trivial⟩ ?_
 refine av rfl (r_move rfl) ?_
 obtain ⟨t2, ht2, hF⟩ := of_bindM hF
 refine at_callB Tryz.func86 rfl (by kernel_rfl) rfl rfl (fun w hw => lines_Cut_ok _ _ _ ht2 w) ?_
 refine av rfl (r_move rfl) ?_
 refine av rfl (r_extract rfl rfl) ?_
 refine av rfl (r_extract rfl rfl) ?_
 refine av rfl (r_extract rfl rfl) ?_
 refine av rfl (r_assign rfl) ?_
 refine av rfl (r_assign rfl) ?_
 refine av rfl (r_assign rfl) ?_
 refine nws [(2, _), (4, _), (5, _), (6, _)] ⟨rfl, rfl, rfl, rfl, trivial⟩ ?_
 refine av rfl (r_move rfl) ?_
 obtain ⟨t3, ht3, hF⟩ := of_bindM hF
 refine at_callB Tryz.func155 rfl (by kernel_rfl) rfl rfl (fun w hw => addr_Parse_ok _ _ ht3 w (hg_strconv_ErrRange.on hw.below) (hg_strconv_ErrSyntax.on hw.below)) ?_
 refine av rfl (r_move rfl) ?_
 refine av rfl (r_extract rfl rfl) ?_
 refine av rfl (r_extract rfl rfl) ?_
 refine at_alloc (cs := Cd.cs c_api_Addr zqG7_1) Tryz.zeroValue25 rfl rfl ?_
 intro b4
 refine at_store (c := c_api_Addr) (z := t3.1) .z (Lens.whole _ _) Tryz.sizeOf25 rfl rfl rfl ?_
 refine av rfl (r_assign rfl) ?_
 refine nwt [(2, _), (5, _), (6, _), (7, _), (8, _)] ⟨rfl, rfl, rfl, rfl, rfl, trivial⟩ ?_
 refine at_seq ?_
 refine at_block ?_
 refine sr ?_
 refine av rfl (r_move rfl) ?_
 refine av rfl (r_ineq rfl rfl) ?_
 refine av rfl (r_assign rfl) ?_
 refine nwt [(2, _), (5, _), (6, _), (7, _), (8, _), (21, _)] ⟨rfl, rfl, rfl, rfl, rfl, rfl, trivial⟩ ?_
 rcases of_ite hF with ⟨h5, hF⟩ | ⟨h5, hF⟩
 ·refine at_cond_true rfl h5 ?_
  refine sr ?_
  refine av rfl (r_build_struct (zs := Cd.cs c_api_Prefix zqG7_0) (cs := Cd.cs c_api_Prefix zqG7_0) Tryz.underlying44 Tryz.zeroValue44 rfl (places_api_Prefix_44) rfl rfl) ?_
  refine av rfl (r_move rfl) ?_
  refine at_store (c := c_api_Prefix) (z := zqG7_0) (.s .z) (Lens.whole _ _) Tryz.sizeOf44 rfl rfl rfl ?_
  refine av rfl (r_assign rfl) ?_
  refine at_nil ?_
  refine at_drop (H := _) .z ?_
  refine at_weak [(2, _), (3, _)] ⟨rfl, rfl, trivial⟩ ?_
  refine at_then_normal ?_
  refine at_ret ?_
  refine at_blk_ret (at_then_ret ?_)
  have K := of_some hF
  subst K
  exact at_res2 rfl (res_cell (c := c_api_Prefix) (y := zqG7_0) rfl .z (Lens.whole _ _) Tryz.isAgg44 Tryz.sizeOf44 (.inl rfl)) (res_tmp rfl) (fun w1 hw => ⟨rfl, hw.below⟩)
 ·refine at_cond_false rfl h5 ?_
  refine sr ?_
  refine av rfl (r_move rfl) ?_
  refine av rfl (r_not rfl) ?_
  refine av rfl (r_assign rfl) ?_
  refine nwt [(2, _), (5, _), (7, _), (26, _)] ⟨rfl, rfl, rfl, rfl, trivial⟩ ?_
  rcases of_ite hF with ⟨h6, hF⟩ | ⟨h6, hF⟩
  ·refine at_cond_true rfl h6 ?_
   refine sr ?_
   refine av rfl (r_load_aggc (c := c_api_Addr) (z := t3.1) Tryz.isAgg25 Tryz.sizeOf25 rfl (lens_cell .z (Lens.whole _ _))) ?_
   obtain ⟨t7, ht7, hF⟩ := of_bindM hF
   refine at_callB Tryz.func159 rfl (by kernel_rfl) rfl rfl (fun w hw => cidr_Whole_ok _ _ ht7 w) ?_
   refine at_store (c := c_api_Prefix) (z := t7) (.s .z) (Lens.whole _ _) Tryz.sizeOf44 rfl rfl rfl ?_
   refine av rfl (r_assign rfl) ?_
   refine at_nil ?_
   refine at_drop (H := _) .z ?_
   refine at_weak [(2, _), (3, _)] ⟨rfl, rfl, trivial⟩ ?_
   refine at_then_normal ?_
   refine at_ret ?_
   refine at_blk_ret (at_then_ret ?_)
   have K := of_some hF
   subst K
   exact at_res2 rfl (res_cell (c := c_api_Prefix) (y := t7) rfl .z (Lens.whole _ _) Tryz.isAgg44 Tryz.sizeOf44 (.inl rfl)) (res_tmp rfl) (fun w1 hw => ⟨rfl, hw.below⟩)
  ·refine at_cond_false rfl h6 ?_
   refine at_skip ?_
   refine at_blk_normal (at_then_normal ?_)
   refine sr ?_
   refine av rfl (r_move rfl) ?_
   refine av rfl (r_load_aggc (c := c_api_Addr) (z := t3.1) Tryz.isAgg25 Tryz.sizeOf25 rfl (lens_cell .z (Lens.whole _ _))) ?_
   obtain ⟨t8, ht8, hF⟩ := of_bindM hF
   refine at_callB Tryz.func156 rfl (by kernel_rfl) rfl rfl (fun w hw => addr_Width_ok _ _ ht8 w) ?_
   refine av rfl (r_conv Tryz.underlying3 Tryz.underlying31 rfl) ?_
   obtain ⟨t9, ht9, hF⟩ := of_bindM hF
   refine at_callB Tryz.func111 rfl (by kernel_rfl) rfl rfl (fun w hw => decimal_Read_ok _ _ _ ht9 w (hg_strconv_ErrRange.on hw.below) (hg_strconv_ErrSyntax.on hw.below)) ?_
   refine av rfl (r_move rfl) ?_
   refine av rfl (r_extract rfl rfl) ?_
   refine av rfl (r_extract rfl rfl) ?_
   refine av rfl (r_assign rfl) ?_
   refine av rfl (r_assign rfl) ?_
   refine nwt [(2, _), (7, _), (8, _), (9, _)] ⟨rfl, rfl, rfl, rfl, trivial⟩ ?_
   refine at_seq ?_
   refine sr ?_
   refine av rfl (r_move rfl) ?_
   refine av rfl (r_ineq rfl rfl) ?_
   refine nwt [(2, _), (7, _), (8, _), (9, _), (40, _)] ⟨rfl, rfl, rfl, rfl, rfl, trivial⟩ ?_
   rcases of_ite hF with ⟨h10, hF⟩ | ⟨h10, hF⟩
   ·refine at_cond_true rfl h10 ?_
    refine sr ?_
    refine av rfl (r_build_struct (zs := Cd.cs c_api_Prefix zqG7_0) (cs := Cd.cs c_api_Prefix zqG7_0) Tryz.underlying44 Tryz.zeroValue44 rfl (places_api_Prefix_44) rfl rfl) ?_
    refine av rfl (r_move rfl) ?_
    refine at_store (c := c_api_Prefix) (z := zqG7_0) (.s .z) (Lens.whole _ _) Tryz.sizeOf44 rfl rfl rfl ?_
    refine av rfl (r_assign rfl) ?_
    refine at_nil ?_
    refine at_drop (H := _) .z ?_
    refine at_weak [(2, _), (3, _)] ⟨rfl, rfl, trivial⟩ ?_
    refine at_then_normal ?_
    refine rt ?_
    have K := of_some hF
    subst K
    exact at_res2 rfl (res_cell (c := c_api_Prefix) (y := zqG7_0) rfl .z (Lens.whole _ _) Tryz.isAgg44 Tryz.sizeOf44 (.inl rfl)) (res_tmp rfl) (fun w1 hw => ⟨rfl, hw.below⟩)
   ·refine at_cond_false rfl h10 ?_
    refine sns ?_
    refine av rfl (r_load_aggc (c := c_api_Addr) (z := t3.1) Tryz.isAgg25 Tryz.sizeOf25 rfl (lens_cell .z (Lens.whole _ _))) ?_
    refine av rfl (r_move rfl) ?_
    refine av rfl (r_conv Tryz.underlying31 Tryz.underlying3 rfl) ?_
    obtain ⟨t11, ht11, hF⟩ := of_bindM hF
    refine at_callB Tryz.func160 rfl (by kernel_rfl) rfl rfl (fun w hw => cidr_Of_ok _ _ _ ht11 w) ?_
    refine av rfl (r_extract rfl rfl) ?_
    refine av rfl (r_extract rfl rfl) ?_
    refine at_store (c := c_api_Prefix) (z := t11.1) (.s .z) (Lens.whole _ _) Tryz.sizeOf44 rfl rfl rfl ?_
    refine av rfl (r_assign rfl) ?_
    refine at_nil ?_
    refine at_drop (H := _) .z ?_
    refine at_weak [(2, _), (3, _)] ⟨rfl, rfl, trivial⟩ ?_
    refine at_then_normal ?_
    refine at_ret ?_
    have K := of_some hF
    subst K
    exact at_res2 rfl (res_cell (c := c_api_Prefix) (y := t11.1) rfl .z (Lens.whole _ _) Tryz.isAgg44 Tryz.sizeOf44 (.inl rfl)) (res_tmp rfl) (fun w1 hw => ⟨rfl, hw.below⟩)
def crawlwayref11_Right (x0 : S_api_Prefix) : Option (Bool) :=
  crawlwayref10_Right x0.f_A >>= fun t2 => if (!t2) = true then (some false) else (if (decide (x0.f_Bits < 0)) = true then (some false) else (crawlwayref10_Width x0.f_A >>= fun t5 => if (decide (x0.f_Bits > t5)) = true then (some false) else (crawlwayref10_Mask x0.f_A x0.f_Bits >>= fun t7 => some (decide (x0.f_A = t7)))))
theorem crawlwayref11_Right_ok (x0 : S_api_Prefix) (r : Bool) (hF : crawlwayref11_Right x0 = some r) (w : World) :
    Calls Tryz.prog 58 #[.agg (Cd.cs c_api_Prefix x0).toArray] w (fun e w' => e = .returned (.bool r) ∧ Below w.heap.size w w') := by
 unfold crawlwayref11_Right at hF
 refine calls_enter (l := [.agg (Cd.cs c_api_Prefix x0).toArray]) Tryz.func58 rfl rfl rfl ?_
 refine at_start ?_
 refine at_weak [(0, _)] ⟨rfl, trivial⟩ ?_
 refine sr ?_
 refine at_box (cs := Cd.cs c_api_Prefix x0) rfl rfl rfl ?_
 intro b1
 refine av rfl (r_assign rfl) ?_
 refine nwt [(1, _)] ⟨rfl, trivial⟩ ?_
 refine at_seq ?_
 refine at_seq ?_
 refine at_draw (by kernel_rfl) (by kernel_rfl) (fun _ h => h.drew) ?_
 refine atq_val rfl rfl rfl (r_fieldAddr (fo := 0) Tryz.underlying44 rfl rfl (fun w => ⟨_, Tryz.sizeOf25 w⟩) rfl) ?_
 refine atq_val rfl rfl rfl (r_load_aggc (c := c_api_Addr) (z := x0.f_A) Tryz.isAgg25 Tryz.sizeOf25 rfl (lens_cell .z (Lens.comp (Lens.whole _ _) (fun z => { x0 with f_A := z }) (c_api_Prefix_f_A x0)))) ?_
 obtain ⟨t2, ht2, hF⟩ := of_bindM hF
 refine atq_call Tryz.func74 rfl (by kernel_rfl) rfl rfl (fun w hw => (crawlwayref10_Right_ok _ _ ht2 w).mono fun _ _ h => ⟨h.1, hw.call h.2⟩) ?_
 refine atq_val rfl rfl rfl (r_not rfl) ?_
 refine atq_val rfl rfl rfl (r_move rfl) ?_
 rcases of_ite hF with ⟨h3, hF⟩ | ⟨h3, hF⟩
 ·refine atq_fix (g := 7) rfl h3 ?_
  refine atq_guard_no rfl rfl rfl rfl rfl ?_
  refine atq_guard_no rfl rfl rfl rfl rfl ?_
  refine atq_guard_no rfl rfl rfl rfl rfl ?_
  refine atq_val rfl rfl rfl (r_pick rfl rfl rfl) ?_
  refine atq_val rfl rfl rfl (r_move rfl) ?_
  refine atq_guard_no rfl rfl rfl rfl rfl ?_
  refine atq_guard_no rfl rfl rfl rfl rfl ?_
  refine atq_guard_no rfl rfl rfl rfl rfl ?_
  refine atq_guard_no rfl rfl rfl rfl rfl ?_
  refine atq_guard_no rfl rfl rfl rfl rfl ?_
  refine atq_guard_no rfl rfl rfl rfl rfl ?_
  refine atq_val rfl rfl rfl (r_pick rfl rfl rfl) ?_
  refine atq_nil ?_
  refine at_weak [(1, _), (19, _)] ⟨rfl, rfl, trivial⟩ ?_
  refine at_then_normal ?_
  refine at_cond_true rfl rfl ?_
  refine sr ?_
  refine av rfl (r_assign rfl) ?_
  refine at_nil ?_
  refine at_drop (H := _) .z ?_
  refine at_weak [(2, _)] ⟨rfl, trivial⟩ ?_
  refine at_then_normal ?_
  refine rt ?_
  have K := of_some hF
  subst K
  exact at_return1 rfl rfl (fun w1 hw => ⟨rfl, hw.below⟩)
 ·refine atq_fix (g := 7) rfl h3 ?_
  refine atq_guard_yes rfl rfl rfl ?_
  refine atq_val rfl rfl rfl (r_fieldAddr (fo := 17) Tryz.underlying44 rfl rfl (fun w => ⟨_, Tryz.sizeOf3 w⟩) rfl) ?_
  refine atq_guard_yes rfl rfl rfl ?_
  refine atq_val rfl rfl rfl (r_load_cell Tryz.isAgg3 rfl (lens_cell0 (c := (cInt .i64)) (y := x0.f_Bits) .z (Lens.comp (Lens.whole _ _) (fun z => { x0 with f_Bits := z }) (c_api_Prefix_f_Bits x0)) rfl)) ?_
  refine atq_guard_yes rfl rfl rfl ?_
  refine atq_val rfl rfl rfl (r_ilss rfl rfl) ?_
  refine atq_val rfl rfl rfl (r_pick rfl rfl rfl) ?_
  refine atq_val rfl rfl rfl (r_move rfl) ?_
  rcases of_ite hF with ⟨h4, hF⟩ | ⟨h4, hF⟩
  ·refine atq_fix (g := 12) rfl h4 ?_
   refine atq_guard_no rfl rfl rfl rfl rfl ?_
   refine atq_guard_no rfl rfl rfl rfl rfl ?_
   refine atq_guard_no rfl rfl rfl rfl rfl ?_
   refine atq_guard_no rfl rfl rfl rfl rfl ?_
   refine atq_guard_no rfl rfl rfl rfl rfl ?_
   refine atq_guard_no rfl rfl rfl rfl rfl ?_
   refine atq_val rfl rfl rfl (r_pick rfl rfl rfl) ?_
   refine atq_nil ?_
   refine at_weak [(1, _), (19, _)] ⟨rfl, rfl, trivial⟩ ?_
   refine at_then_normal ?_
   refine at_cond_true rfl rfl ?_
   refine sr ?_
   refine av rfl (r_assign rfl) ?_
   refine at_nil ?_
   refine at_drop (H := _) .z ?_
   refine at_weak [(2, _)] ⟨rfl, trivial⟩ ?_
   refine at_then_normal ?_
   refine rt ?_
   have K := of_some hF
   subst K
   exact at_return1 rfl rfl (fun w1 hw => ⟨rfl, hw.below⟩)
  ·refine atq_fix (g := 12) rfl h4 ?_
   refine atq_guard_yes rfl rfl rfl ?_
   refine atq_val rfl rfl rfl (r_fieldAddr (fo := 17) Tryz.underlying44 rfl rfl (fun w => ⟨_, Tryz.sizeOf3 w⟩) rfl) ?_
   refine atq_guard_yes rfl rfl rfl ?_
   refine atq_val rfl rfl rfl (r_load_cell Tryz.isAgg3 rfl (lens_cell0 (c := (cInt .i64)) (y := x0.f_Bits) .z (Lens.comp (Lens.whole _ _) (fun z => { x0 with f_Bits := z }) (c_api_Prefix_f_Bits x0)) rfl)) ?_
   refine atq_guard_yes rfl rfl rfl ?_
   refine atq_val rfl rfl rfl (r_fieldAddr (fo := 0) Tryz.underlying44 rfl rfl (fun w => ⟨_, Tryz.sizeOf25 w⟩) rfl) ?_
   refine atq_guard_yes rfl rfl rfl ?_
   refine atq_val rfl rfl rfl (r_load_aggc (c := c_api_Addr) (z := x0.f_A) Tryz.isAgg25 Tryz.sizeOf25 rfl (lens_cell .z (Lens.comp (Lens.whole _ _) (fun z => { x0 with f_A := z }) (c_api_Prefix_f_A x0)))) ?_
   refine atq_guard_yes rfl rfl rfl ?_
   obtain ⟨t5, ht5, hF⟩ := of_bindM hF
   refine atq_call Tryz.func72 rfl (by kernel_rfl) rfl rfl (fun w hw => (crawlwayref10_Width_ok _ _ ht5 w).mono fun _ _ h => ⟨h.1, hw.call h.2⟩) ?_
   refine atq_guard_yes rfl rfl rfl ?_
   refine atq_val rfl rfl rfl (r_igtr rfl rfl) ?_
   refine atq_val rfl rfl rfl (r_pick rfl rfl rfl) ?_
   refine atq_nil ?_
   refine at_weak [(1, _), (19, _)] ⟨rfl, rfl, trivial⟩ ?_
   refine at_then_normal ?_
   rcases of_ite hF with ⟨h6, hF⟩ | ⟨h6, hF⟩
   ·refine at_cond_true rfl h6 ?_
    refine sr ?_
    refine av rfl (r_assign rfl) ?_
    refine at_nil ?_
    refine at_drop (H := _) .z ?_
    refine at_weak [(2, _)] ⟨rfl, trivial⟩ ?_
    refine at_then_normal ?_
    refine rt ?_
    have K := of_some hF
    subst K
    exact at_return1 rfl rfl (fun w1 hw => ⟨rfl, hw.below⟩)
   ·refine at_cond_false rfl h6 ?_
    refine sn ?_
    refine at_seq ?_
    refine at_draw (by kernel_rfl) (by kernel_rfl) (fun _ h => h.drew) ?_
    refine atq_val rfl rfl rfl (r_fieldAddr (fo := 0) Tryz.underlying44 rfl rfl (fun w => ⟨_, Tryz.sizeOf25 w⟩) rfl) ?_
    refine atq_val rfl rfl rfl (r_load_aggc (c := c_api_Addr) (z := x0.f_A) Tryz.isAgg25 Tryz.sizeOf25 rfl (lens_cell .z (Lens.comp (Lens.whole _ _) (fun z => { x0 with f_A := z }) (c_api_Prefix_f_A x0)))) ?_
    refine atq_val rfl rfl rfl (r_fieldAddr (fo := 0) Tryz.underlying44 rfl rfl (fun w => ⟨_, Tryz.sizeOf25 w⟩) rfl) ?_
    refine atq_val rfl rfl rfl (r_load_aggc (c := c_api_Addr) (z := x0.f_A) Tryz.isAgg25 Tryz.sizeOf25 rfl (lens_cell .z (Lens.comp (Lens.whole _ _) (fun z => { x0 with f_A := z }) (c_api_Prefix_f_A x0)))) ?_
    refine atq_val rfl rfl rfl (r_fieldAddr (fo := 17) Tryz.underlying44 rfl rfl (fun w => ⟨_, Tryz.sizeOf3 w⟩) rfl) ?_
    refine atq_val rfl rfl rfl (r_load_cell Tryz.isAgg3 rfl (lens_cell0 (c := (cInt .i64)) (y := x0.f_Bits) .z (Lens.comp (Lens.whole _ _) (fun z => { x0 with f_Bits := z }) (c_api_Prefix_f_Bits x0)) rfl)) ?_
    obtain ⟨t7, ht7, hF⟩ := of_bindM hF
    refine atq_call Tryz.func90 rfl (by kernel_rfl) rfl rfl (fun w hw => (crawlwayref10_Mask_ok _ _ _ ht7 w).mono fun _ _ h => ⟨h.1, hw.call h.2⟩) ?_
    refine atq_val rfl rfl rfl (r_eqagg (c := c_api_Addr) (a := x0.f_A) (b := t7) (eq_api_Addr_25) rfl Tryz.eqGuardType25 rfl rfl (.inl rfl) rfl) ?_
    refine atq_val rfl rfl rfl (r_assign rfl) ?_
    refine atq_nil ?_
    refine at_drop (H := _) .z ?_
    refine at_weak [(2, _)] ⟨rfl, trivial⟩ ?_
    refine at_then_normal ?_
    refine at_ret ?_
    have K := of_some hF
    subst K
    exact at_return1 rfl rfl (fun w1 hw => ⟨rfl, hw.below⟩)
def crawlwayref11_Text (x0 : S_api_Prefix) : Option (ByteArray) :=
  crawlwayref11_Right x0 >>= fun t2 => if (!t2) = true then (some (⟨#[]⟩)) else (crawlwayref10_Text x0.f_A >>= fun t4 => if t4.size + (⟨#[47]⟩ : ByteArray).size ≤ 140737488355328 then crawlwayref03_Text (wr .u64 x0.f_Bits) >>= fun t6 => if (t4 ++ (⟨#[47]⟩ : ByteArray)).size + t6.size ≤ 140737488355328 then some ((t4 ++ (⟨#[47]⟩ : ByteArray)) ++ t6) else none else none)
theorem crawlwayref11_Text_ok (x0 : S_api_Prefix) (r : ByteArray) (hF : crawlwayref11_Text x0 = some r) (w : World) :
    Calls Tryz.prog 59 #[.agg (Cd.cs c_api_Prefix x0).toArray] w (fun e w' => e = .returned (.string r) ∧ Below w.heap.size w w') := by
 unfold crawlwayref11_Text at hF
 refine calls_enter (l := [.agg (Cd.cs c_api_Prefix x0).toArray]) Tryz.func59 rfl rfl rfl ?_
 refine at_start ?_
 refine at_weak [(0, _)] ⟨rfl, trivial⟩ ?_
 refine sr ?_
 refine at_box (cs := Cd.cs c_api_Prefix x0) rfl rfl rfl ?_
 intro b1
 refine av rfl (r_assign rfl) ?_
 refine nwt [(1, _)] ⟨rfl, trivial⟩ ?_
 refine at_seq ?_
 refine sr ?_
 refine av rfl (r_load_aggc (c := c_api_Prefix) (z := x0) Tryz.isAgg44 Tryz.sizeOf44 rfl (lens_cell .z (Lens.whole _ _))) ?_
 obtain ⟨t2, ht2, hF⟩ := of_bindM hF
 refine at_callB Tryz.func58 rfl (by kernel_rfl) rfl rfl (fun w hw => crawlwayref11_Right_ok _ _ ht2 w) ?_
 refine av rfl (r_not rfl) ?_
 refine nwt [(1, _), (5, _)] ⟨rfl, rfl, trivial⟩ ?_
 rcases of_ite hF with ⟨h3, hF⟩ | ⟨h3, hF⟩
 ·refine at_cond_true rfl h3 ?_
  refine sr ?_
  refine av rfl (r_assign rfl) ?_
  refine at_nil ?_
  refine at_drop (H := _) .z ?_
  refine at_weak [(2, _)] ⟨rfl, trivial⟩ ?_
  refine at_then_normal ?_
  refine rt ?_
  have K := of_some hF
  subst K
  exact at_return1 rfl rfl (fun w1 hw => ⟨rfl, hw.below⟩)
 ·refine at_cond_false rfl h3 ?_
  refine sn ?_
  refine at_seq ?_
  refine at_draw (by kernel_rfl) (by kernel_rfl) (fun _ h => h.drew) ?_
  refine atq_val rfl rfl rfl (r_fieldAddr (fo := 0) Tryz.underlying44 rfl rfl (fun w => ⟨_, Tryz.sizeOf25 w⟩) rfl) ?_
  refine atq_val rfl rfl rfl (r_load_aggc (c := c_api_Addr) (z := x0.f_A) Tryz.isAgg25 Tryz.sizeOf25 rfl (lens_cell .z (Lens.comp (Lens.whole _ _) (fun z => { x0 with f_A := z }) (c_api_Prefix_f_A x0)))) ?_
  obtain ⟨t4, ht4, hF⟩ := of_bindM hF
  refine atq_call Tryz.func87 rfl (by kernel_rfl) rfl rfl (fun w hw => (crawlwayref10_Text_ok _ _ ht4 w).mono fun _ _ h => ⟨h.1, hw.call h.2⟩) ?_
  obtain ⟨h5, hF⟩ := of_guard hF
  refine atq_val rfl rfl rfl (r_concat rfl rfl h5) ?_
  refine atq_val rfl rfl rfl (r_fieldAddr (fo := 17) Tryz.underlying44 rfl rfl (fun w => ⟨_, Tryz.sizeOf3 w⟩) rfl) ?_
  refine atq_val rfl rfl rfl (r_load_cell Tryz.isAgg3 rfl (lens_cell0 (c := (cInt .i64)) (y := x0.f_Bits) .z (Lens.comp (Lens.whole _ _) (fun z => { x0 with f_Bits := z }) (c_api_Prefix_f_Bits x0)) rfl)) ?_
  refine atq_val rfl rfl rfl (r_conv Tryz.underlying3 Tryz.underlying31 rfl) ?_
  obtain ⟨t6, ht6, hF⟩ := of_bindM hF
  refine atq_call Tryz.func55 rfl (by kernel_rfl) rfl rfl (fun w hw => (crawlwayref03_Text_ok _ _ ht6 w).mono fun _ _ h => ⟨h.1, hw.call h.2⟩) ?_
  obtain ⟨h7, hF⟩ := of_guard hF
  refine atq_val rfl rfl rfl (r_concat rfl rfl h7) ?_
  refine atq_val rfl rfl rfl (r_assign rfl) ?_
  refine atq_nil ?_
  refine at_drop (H := _) .z ?_
  refine at_weak [(2, _)] ⟨rfl, trivial⟩ ?_
  refine at_then_normal ?_
  refine at_ret ?_
  have K := of_some hF
  subst K
  exact at_return1 rfl rfl (fun w1 hw => ⟨rfl, hw.below⟩)
def crawlwayref11_Parse (x0 : ByteArray) : Option (S_api_Prefix × Int) :=
  crawlwayref06_Parts x0 47 >>= fun t2 => if (0 : Int) ≤ 0 ∧ 0 < (t2.length : Int) then crawlwayref10_Parse (lget t2 0) >>= fun t9 => if (t9.2 != 0) = true then (some (({ f_A := ({ f_V := (0 : Int), f_B := (Vector.replicate 16 (0 : Int) : (Vector Int 16)) } : S_api_Addr), f_Bits := (0 : Int) } : S_api_Prefix), t9.2)) else (if ((t2.length : Int) == 1) = true then (crawlwayref10_Width t9.1 >>= fun t13 => crawlwayref11_Of t9.1 t13 >>= fun t14 => some (t14.1, t14.2)) else (if (0 : Int) ≤ 0 ∧ 0 < (t2.length : Int) then if (0 : Int) ≤ wr .i64 (((lget t2 0).size : Int) + 1) ∧ wr .i64 (((lget t2 0).size : Int) + 1) ≤ (x0.size : Int) ∧ (x0.size : Int) ≤ (x0.size : Int) then crawlwayref10_Width t9.1 >>= fun t21 => crawlwayref03_Read (x0.extract (Int.toNat (wr .i64 (((lget t2 0).size : Int) + 1))) (Int.toNat (x0.size : Int))) (wr .u64 t21) >>= fun t22 => if (t22.2 != 0) = true then (some (({ f_A := ({ f_V := (0 : Int), f_B := (Vector.replicate 16 (0 : Int) : (Vector Int 16)) } : S_api_Addr), f_Bits := (0 : Int) } : S_api_Prefix), t22.2)) else (crawlwayref11_Of t9.1 (wr .i64 t22.1) >>= fun t25 => some (t25.1, t25.2)) else none else none)) else none
end Go.Proofs.YtkkmmpofdcccmaaGreatDoor
namespace Go.Proofs.YtkkmmpofdcccmaaGreatDoor
open E Go.RowKit
theorem infoG85_is : (Tryz.prog.info? 5).isSome = true := by kernel_rfl
noncomputable def infoG85_v : TypeInfo := (Tryz.prog.info? 5).get infoG85_is
theorem infoG85 : Tryz.prog.info? 5 = some infoG85_v := (Option.some_get _).symm
def crawlwayref05_Encode.l0 (x0 : List Int) (i2 : ByteArray) (i3 : Int) : Option (ByteArray) :=
  if (decide (i3 < (x0.length : Int))) = true then (if (0 : Int) ≤ i3 ∧ i3 < (x0.length : Int) then crawlwayref05_digit (wr .i64 (Int.tdiv (wr .i64 (lget x0 i3)) 16)) >>= fun t9 => if i2.size + t9.size ≤ 140737488355328 then if (0 : Int) ≤ i3 ∧ i3 < (x0.length : Int) then crawlwayref05_digit (Int.tmod (wr .i64 (lget x0 i3)) 16) >>= fun t15 => if (i2 ++ t9).size + t15.size ≤ 140737488355328 then crawlwayref05_Encode.l0 x0 ((i2 ++ t9) ++ t15) (wr .i64 (i3 + 1)) else none else none else none else none) else (some i2)
  partial_fixpoint
def crawlwayref05_Encode (x0 : List Int) : Option (ByteArray) :=
  crawlwayref05_Encode.l0 x0 (⟨#[]⟩) 0 >>= fun q1 => some q1
theorem crawlwayref05_Encode_ok (x0 : List Int) (p0_ : Option Addr) (c0_ : Nat) (r : ByteArray) (hF : crawlwayref05_Encode x0 = some r) (w : World) (hr0 : Row (cInt .u8) w p0_ c0_ x0) :
    Calls Tryz.prog 53 #[.slice p0_ x0.length c0_] w (fun e w' => e = .returned (.string r) ∧ Below w.heap.size w w') := by
 unfold crawlwayref05_Encode at hF
 refine calls_enter (l := [.slice p0_ x0.length c0_]) Tryz.func53 rfl rfl rfl ?_
 refine at_start ?_
 refine at_weak [(0, _)] ⟨rfl, trivial⟩ ?_
 refine sr ?_
 refine av rfl (r_assign rfl) ?_
 refine nws [(0, _)] ⟨rfl, trivial⟩ ?_
 refine av rfl (r_assign rfl) ?_
 refine nwt [(0, _), (3, _)] ⟨rfl, rfl, trivial⟩ ?_
 refine at_seq ?_
 refine sr ?_
 refine av rfl (r_assign rfl) ?_
 refine nwt [(0, _), (3, _), (4, _)] ⟨rfl, rfl, rfl, trivial⟩ ?_
 refine at_block ?_
 obtain ⟨q1, hq1, hF⟩ := of_bindM hF
 refine at_weak [(0, _), (3, _), (4, _)] ⟨rfl, rfl, rfl, trivial⟩ ?_
 refine at_loop_n (B := 0) (A := fun Y => At 29 [(3, .string q1)] (Wd w []) Y) ?_ ?_
 ·intro K
  refine crawlwayref05_Encode.l0.partial_correctness x0 (motive := fun i2 i3 x => KN (fun Y => At 29 [(3, .string x)] (Wd w []) Y) _ 0 → Round (fun Y => At 29 [(0, .slice p0_ x0.length c0_), (3, .string i2), (4, .int .i64 i3)] (Wd w []) Y) _ _ _) ?_ _ _ _ hq1 K
  ·clear K hF
   intro g ih i2 i3 x hF K
   refine at_round ?_
   refine at_seq ?_
   refine sr ?_
   refine av rfl (r_move rfl) ?_
   refine av rfl (r_move rfl) ?_
   refine av rfl (r_len_sl Tryz.underlying22 rfl) ?_
   refine av rfl (r_ilss rfl rfl) ?_
   refine nwt [(0, _), (3, _), (4, _), (8, _)] ⟨rfl, rfl, rfl, rfl, trivial⟩ ?_
   rcases of_ite hF with ⟨h4, hF⟩ | ⟨h4, hF⟩
   ·refine at_cond_true rfl h4 ?_
    refine sn ?_
    refine at_seq ?_
    refine at_block ?_
    refine at_draw (by kernel_rfl) (by kernel_rfl) (fun _ h => h.drew) ?_
    refine atq_val rfl rfl rfl (r_move rfl) ?_
    refine atq_val rfl rfl rfl (r_move rfl) ?_
    refine atq_val rfl rfl rfl (r_move rfl) ?_
    obtain ⟨h5, hF⟩ := of_guard hF
    obtain ⟨b7, o8, hp6⟩ := row_ptr hr0 h5
    refine atq_val rfl rfl rfl (r_idx Tryz.underlying22 Tryz.sizeOf5 rfl rfl h5 hp6) ?_
    refine atq_val rfl rfl rfl (r_load_cell Tryz.isAgg5 rfl (row_cell0 (fun _ h => h.below) hr0 h5 hp6 rfl)) ?_
    refine atq_val rfl rfl rfl (r_conv Tryz.underlying5 Tryz.underlying3 rfl) ?_
    refine atq_val rfl rfl rfl (r_iquo rfl rfl (by decide)) ?_
    obtain ⟨t9, ht9, hF⟩ := of_bindM hF
    refine atq_call Tryz.func88 rfl (by kernel_rfl) rfl rfl (fun w hw => (crawlwayref05_digit_ok _ _ ht9 w).mono fun _ _ h => ⟨h.1, h.2 ▸ hw⟩) ?_
    obtain ⟨h10, hF⟩ := of_guard hF
    refine atq_val rfl rfl rfl (r_concat rfl rfl h10) ?_
    refine atq_val rfl rfl rfl (r_move rfl) ?_
    refine atq_val rfl rfl rfl (r_move rfl) ?_
    obtain ⟨h11, hF⟩ := of_guard hF
    obtain ⟨b13, o14, hp12⟩ := row_ptr hr0 h11
    refine atq_val rfl rfl rfl (r_idx Tryz.underlying22 Tryz.sizeOf5 rfl rfl h11 hp12) ?_
    refine atq_val rfl rfl rfl (r_load_cell Tryz.isAgg5 rfl (row_cell0 (fun _ h => h.below) hr0 h11 hp12 rfl)) ?_
    refine atq_val rfl rfl rfl (r_conv Tryz.underlying5 Tryz.underlying3 rfl) ?_
    refine atq_val rfl rfl rfl (r_irem rfl rfl (by decide)) ?_
    obtain ⟨t15, ht15, hF⟩ := of_bindM hF
    refine atq_call Tryz.func88 rfl (by kernel_rfl) rfl rfl (fun w hw => (crawlwayref05_digit_ok _ _ ht15 w).mono fun _ _ h => ⟨h.1, h.2 ▸ hw⟩) ?_
    obtain ⟨h16, hF⟩ := of_guard hF
    refine atq_val rfl rfl rfl (r_concat rfl rfl h16) ?_
    refine atq_val rfl rfl rfl (r_assign rfl) ?_
    refine atq_nil ?_
    refine at_weak [(0, _), (3, _), (4, _)] ⟨rfl, rfl, rfl, trivial⟩ ?_
    refine at_blk_normal (at_then_normal ?_)
    refine at_region ?_
    refine av rfl (r_move rfl) ?_
    refine av rfl (r_iadd rfl rfl) ?_
    refine av rfl (r_assign rfl) ?_
    refine nwt [(0, _), (3, _), (4, _)] ⟨rfl, rfl, rfl, trivial⟩ ?_
    exact at_weak_k (ih _ _ _ hF K) ⟨rfl, rfl, rfl, trivial⟩
   ·refine at_cond_false rfl h4 ?_
    refine at_exit ?_
    refine at_then_exit (at_then_exit ?_)
    obtain rfl := of_some hF
    exact at_weak_k K ⟨rfl, trivial⟩
 ·skip
  skip
  refine at_blk_same ?_
  refine at_then_normal ?_
  refine sr ?_
  refine av rfl (r_move rfl) ?_
  refine av rfl (r_assign rfl) ?_
  refine nwt [(2, _)] ⟨rfl, trivial⟩ ?_
  refine at_ret ?_
  have K := of_some hF
  subst K
  exact at_return1 rfl rfl (fun w1 hw => ⟨rfl, hw.below⟩)
def crawlwayref05_Decode.l0 (x0 : ByteArray) (i5 : List Int) (i6 : Int) : Option (Ctl (List Int × Int) (List Int)) :=
  if (decide (i6 < (x0.size : Int))) = true then (if (0 : Int) ≤ i6 ∧ i6 < (x0.size : Int) then crawlwayref05_Value (bt x0 i6) false >>= fun t13 => if (0 : Int) ≤ wr .i64 (i6 + 1) ∧ wr .i64 (i6 + 1) < (x0.size : Int) then crawlwayref05_Value (bt x0 (wr .i64 (i6 + 1))) false >>= fun t15 => if (decide (t13 < 0)) = true then (some (.ret ([], 5))) else (if (decide (t15 < 0)) = true then (some (.ret ([], 5))) else (if (i5.length + 1) * 1 ≤ 140737488355328 then crawlwayref05_Decode.l0 x0 (i5 ++ [wr .u8 (wr .i64 ((wr .i64 (16 * t13)) + t15))]) (wr .i64 (i6 + 2)) else none)) else none else none) else (some (.nx i5))
  partial_fixpoint
def crawlwayref05_Decode (x0 : ByteArray) : Option (List Int × Int) :=
  if (Int.tmod (x0.size : Int) 2 != 0) = true then (some ([], 5)) else (crawlwayref05_Decode.l0 x0 ([] : List Int) 0 >>= fun q4 => match q4 with | .ret r' => some r' | .nx sq4 => (some (sq4, 0)))
def hexes_Decode.l0 (x0 : ByteArray) (i5 : List Int) (i6 : Int) : Option (Ctl (List Int × Int) (List Int)) :=
  if (decide (i6 < (x0.size : Int))) = true then (if (0 : Int) ≤ i6 ∧ i6 < (x0.size : Int) then hexes_value (bt x0 i6) >>= fun t13 => if (0 : Int) ≤ wr .i64 (i6 + 1) ∧ wr .i64 (i6 + 1) < (x0.size : Int) then hexes_value (bt x0 (wr .i64 (i6 + 1))) >>= fun t15 => if (!t13.2) = true then (some (.ret ([], 5))) else (if (!t15.2) = true then (some (.ret ([], 5))) else (if (i5.length + 1) * 1 ≤ 140737488355328 then hexes_Decode.l0 x0 (i5 ++ [wr .u8 (ior .u16 (ishl .u16 t13.1 4) t15.1)]) (wr .i64 (i6 + 2)) else none)) else none else none) else (some (.nx i5))
  partial_fixpoint
def hexes_Decode (x0 : ByteArray) : Option (List Int × Int) :=
  if (Int.tmod (x0.size : Int) 2 != 0) = true then (some ([], 5)) else (hexes_Decode.l0 x0 ([] : List Int) 0 >>= fun q4 => match q4 with | .ret r' => some r' | .nx sq4 => (some (sq4, 0)))
theorem hexes_Decode_ok (x0 : ByteArray) (r : List Int × Int) (hF : hexes_Decode x0 = some r) (w : World) :
    Calls Tryz.prog 151 #[.string x0] w (fun e w' => ∃ p cap, e = .returned (.tuple #[.slice p r.1.length cap, .int .i64 r.2]) ∧ Own (cInt .u8) 5 w.heap.size w' p cap r.1 ∧ Below w.heap.size w w') := by
 unfold hexes_Decode at hF
 refine calls_enter (l := [.string x0]) Tryz.func151 rfl rfl rfl ?_
 refine at_start ?_
 refine at_weak [(0, _)] ⟨rfl, trivial⟩ ?_
 refine sr ?_
 refine av rfl (r_assign rfl) ?_
 refine av rfl (r_assign rfl) ?_
 refine nwt [(0, _)] ⟨rfl, trivial⟩ ?_
 refine at_seq ?_
 refine sr ?_
 refine av rfl (r_move rfl) ?_
 refine av rfl (r_len_str Tryz.underlying9 rfl) ?_
 refine av rfl (r_irem rfl rfl (by decide)) ?_
 refine av rfl (r_ineq rfl rfl) ?_
 refine nwt [(0, _), (13, _)] ⟨rfl, rfl, trivial⟩ ?_
 rcases of_ite hF with ⟨h1, hF⟩ | ⟨h1, hF⟩
 ·refine at_cond_true rfl h1 ?_
  refine sr ?_
  refine av rfl (r_assign rfl) ?_
  refine av rfl (r_assign rfl) ?_
  refine nwt [(2, _), (3, _)] ⟨rfl, rfl, trivial⟩ ?_
  refine rt ?_
  have K := of_some hF
  subst K
  exact at_return2 rfl rfl rfl (fun w1 hw => ⟨none, 0, rfl, Own.nil _ _ _ _, hw.below⟩)
 ·refine at_cond_false rfl h1 ?_
  refine sns ?_
  refine av rfl (r_assign rfl) ?_
  refine nwt [(0, _), (4, _)] ⟨rfl, rfl, trivial⟩ ?_
  refine at_seq ?_
  refine sr ?_
  refine av rfl (r_assign rfl) ?_
  refine nwt [(0, _), (4, _), (5, _)] ⟨rfl, rfl, rfl, trivial⟩ ?_
  refine at_block ?_
  refine at_own_nil (cInt .u8) 5 ?_
  refine at_weak [(0, _), (4, .slice none ([] : List Int).length 0), (5, _)] ⟨rfl, rfl, rfl, trivial⟩ ?_
  obtain ⟨q4, hq4, hF⟩ := of_bindM hF
  refine at_weak [(0, _), (4, _), (5, _)] ⟨rfl, rfl, rfl, trivial⟩ ?_
  refine at_loop_r (B := 0) (r := r) (q := q4) (A := fun sq4 Y => ∀ (p9 : Option Addr) (c10 : Nat), At 50 [(4, .slice p9 sq4.length c10)] (Wd w [rowE (cInt .u8) 5 p9 c10 sq4]) Y) ?_ ?_
  ·intro K
   refine hexes_Decode.l0.partial_correctness x0 (motive := fun i5 i6 x => KR (fun sq4 Y => ∀ (p9 : Option Addr) (c10 : Nat), At 50 [(4, .slice p9 sq4.length c10)] (Wd w [rowE (cInt .u8) 5 p9 c10 sq4]) Y) _ 0 r x → Round (fun Y => ∀ (p7 : Option Addr) (c8 : Nat), At 50 [(0, .string x0), (4, .slice p7 i5.length c8), (5, .int .i64 i6)] (Wd w [rowE (cInt .u8) 5 p7 c8 i5]) Y) _ _ _) ?_ _ _ _ hq4 K none 0
   ·clear K hF
    intro g ih i5 i6 x hF K p7 c8
    refine at_round ?_
    refine at_seq ?_
    refine sr ?_
    refine av rfl (r_move rfl) ?_
    refine av rfl (r_move rfl) ?_
    refine av rfl (r_len_str Tryz.underlying9 rfl) ?_
    refine av rfl (r_ilss rfl rfl) ?_
    refine nwt [(0, _), (4, _), (5, _), (17, _)] ⟨rfl, rfl, rfl, rfl, trivial⟩ ?_
    rcases of_ite hF with ⟨h11, hF⟩ | ⟨h11, hF⟩
    ·refine at_cond_true rfl h11 ?_
     refine sn ?_
     refine at_seq ?_
     refine at_block ?_
     refine sr ?_
     refine av rfl (r_move rfl) ?_
     refine av rfl (r_move rfl) ?_
     obtain ⟨h12, hF⟩ := of_guard hF
     refine av rfl (r_index_str Tryz.underlying9 rfl rfl h12) ?_
     obtain ⟨t13, ht13, hF⟩ := of_bindM hF
     refine at_call0 Tryz.func174 rfl (by kernel_rfl) rfl rfl (fun w => hexes_value_ok _ _ ht13 w) ?_
     refine av rfl (r_move rfl) ?_
     refine av rfl (r_extract rfl rfl) ?_
     refine av rfl (r_extract rfl rfl) ?_
     refine av rfl (r_assign rfl) ?_
     refine av rfl (r_assign rfl) ?_
     refine nws [(0, _), (4, _), (5, _), (6, _), (7, _)] ⟨rfl, rfl, rfl, rfl, rfl, trivial⟩ ?_
     refine av rfl (r_move rfl) ?_
     refine av rfl (r_move rfl) ?_
     refine av rfl (r_iadd rfl rfl) ?_
     obtain ⟨h14, hF⟩ := of_guard hF
     refine av rfl (r_index_str Tryz.underlying9 rfl rfl h14) ?_
     obtain ⟨t15, ht15, hF⟩ := of_bindM hF
     refine at_call0 Tryz.func174 rfl (by kernel_rfl) rfl rfl (fun w => hexes_value_ok _ _ ht15 w) ?_
     refine av rfl (r_move rfl) ?_
     refine av rfl (r_extract rfl rfl) ?_
     refine av rfl (r_extract rfl rfl) ?_
     refine av rfl (r_assign rfl) ?_
     refine av rfl (r_assign rfl) ?_
     refine nwt [(0, _), (4, _), (5, _), (6, _), (7, _), (8, _), (9, _)] ⟨rfl, rfl, rfl, rfl, rfl, rfl, rfl, trivial⟩ ?_
     refine at_seq ?_
     refine sr ?_
     refine av rfl (r_move rfl) ?_
     refine av rfl (r_not rfl) ?_
     refine av rfl (r_move rfl) ?_
     rcases of_ite hF with ⟨h16, hF⟩ | ⟨h16, hF⟩
     ·refine at_fix (g := 37) rfl h16 ?_
      refine at_guard_no rfl rfl rfl rfl rfl ?_
      refine at_guard_no rfl rfl rfl rfl rfl ?_
      refine av rfl (r_pick rfl rfl rfl) ?_
      refine nwt [(0, _), (4, _), (5, _), (6, _), (8, _), (40, _)] ⟨rfl, rfl, rfl, rfl, rfl, rfl, trivial⟩ ?_
      refine at_cond_true rfl rfl ?_
      refine sr ?_
      refine av rfl (r_assign rfl) ?_
      refine av rfl (r_assign rfl) ?_
      refine at_nil ?_
      refine at_drop (H := _) .z ?_
      refine at_weak [(2, _), (3, _)] ⟨rfl, rfl, trivial⟩ ?_
      refine at_then_normal ?_
      refine at_ret ?_
      refine at_then_ret (at_blk_ret (at_then_ret (at_then_ret (at_blk_ret (at_then_ret ?_)))))
      obtain rfl := of_some hF
      subst K
      exact at_return2 rfl rfl rfl (fun w1 hw => ⟨none, 0, rfl, Own.nil _ _ _ _, hw.below⟩)
     ·refine at_fix (g := 37) rfl h16 ?_
      refine at_guard_yes rfl rfl rfl ?_
      refine av rfl (r_move rfl) ?_
      refine at_guard_yes rfl rfl rfl ?_
      refine av rfl (r_not rfl) ?_
      refine av rfl (r_pick rfl rfl rfl) ?_
      refine nwt [(0, _), (4, _), (5, _), (6, _), (8, _), (40, _)] ⟨rfl, rfl, rfl, rfl, rfl, rfl, trivial⟩ ?_
      rcases of_ite hF with ⟨h17, hF⟩ | ⟨h17, hF⟩
      ·refine at_cond_true rfl h17 ?_
       refine sr ?_
       refine av rfl (r_assign rfl) ?_
       refine av rfl (r_assign rfl) ?_
       refine at_nil ?_
       refine at_drop (H := _) .z ?_
       refine at_weak [(2, _), (3, _)] ⟨rfl, rfl, trivial⟩ ?_
       refine at_then_normal ?_
       refine at_ret ?_
       refine at_then_ret (at_blk_ret (at_then_ret (at_then_ret (at_blk_ret (at_then_ret ?_)))))
       obtain rfl := of_some hF
       subst K
       exact at_return2 rfl rfl rfl (fun w1 hw => ⟨none, 0, rfl, Own.nil _ _ _ _, hw.below⟩)
      ·refine at_cond_false rfl h17 ?_
       refine sn ?_
       refine at_region ?_
       refine av rfl (r_move rfl) ?_
       refine av rfl (r_move rfl) ?_
       refine av rfl (r_ishl rfl rfl (by decide)) ?_
       refine av rfl (r_move rfl) ?_
       refine av rfl (r_ior rfl rfl) ?_
       refine av rfl (r_conv Tryz.underlying191 Tryz.underlying5 rfl) ?_
       refine at_lit (cs := (cInt .u8).all ([wr .u8 (ior .u16 (ishl .u16 t13.1 4) t15.1)] : List Int)) Tryz.underlying22 Tryz.sizeOf5 Tryz.zeroValue5 rfl rfl rfl (by kernel_rfl) rfl ?_
       intro b18
       obtain ⟨h19, hF⟩ := of_guard hF
       refine at_append (z := .int .u8 0) (c := (cInt .u8)) (ys := ([wr .u8 (ior .u16 (ishl .u16 t13.1 4) t15.1)] : List Int)) (.s .z) Tryz.underlying22 infoG85 (by kernel_rfl) (by kernel_rfl) rfl rfl rfl rfl (fun _ hw => cells_src (hw.ok (Upd.mem .z))) (by kernel_rfl) h19 (app_small h19) rfl ?_
       intro p20 c21
       refine av rfl (r_assign rfl) ?_
       refine at_nil ?_
       refine at_drop (H := _) .z ?_
       refine at_weak [(0, _), (4, _), (5, _)] ⟨rfl, rfl, rfl, trivial⟩ ?_
       refine at_blk_normal (at_then_normal ?_)
       refine at_region ?_
       refine av rfl (r_move rfl) ?_
       refine av rfl (r_iadd rfl rfl) ?_
       refine av rfl (r_assign rfl) ?_
       refine nwt [(0, _), (4, _), (5, _)] ⟨rfl, rfl, rfl, trivial⟩ ?_
       exact at_weak_k (ih _ _ _ hF K p20 c21) ⟨rfl, rfl, rfl, trivial⟩
    ·refine at_cond_false rfl h11 ?_
     refine at_exit ?_
     refine at_then_exit (at_then_exit ?_)
     obtain rfl := of_some hF
     exact at_weak_k (K p7 c8) ⟨rfl, trivial⟩
  ·cases q4 with
   | ret r' => exact of_some hF
   | nx sq4 =>
    intro p9 c10
    refine at_blk_same ?_
    refine at_then_normal ?_
    refine sr ?_
    refine av rfl (r_move rfl) ?_
    refine av rfl (r_assign rfl) ?_
    refine av rfl (r_assign rfl) ?_
    refine nwt [(2, _), (3, _)] ⟨rfl, rfl, trivial⟩ ?_
    refine at_ret ?_
    have K := of_some hF
    subst K
    exact at_return2 rfl rfl rfl (fun w1 hw => ⟨p9, c10, rfl, hw.own .z, hw.below⟩)
def hexes_Encode.l0 (x0 : List Int) (i4 : Int) (i5 : ByteArray) : Option (ByteArray) :=
  if (decide (i4 < (x0.length : Int))) = true then (if (0 : Int) ≤ i4 ∧ i4 < (x0.length : Int) then if (0 : Int) ≤ ishr .u8 (lget x0 i4) 4 ∧ ishr .u8 (lget x0 i4) 4 < ((⟨#[48, 49, 50, 51, 52, 53, 54, 55, 56, 57, 97, 98, 99, 100, 101, 102]⟩ : ByteArray).size : Int) then if (0 : Int) ≤ bt (⟨#[48, 49, 50, 51, 52, 53, 54, 55, 56, 57, 97, 98, 99, 100, 101, 102]⟩ : ByteArray) (ishr .u8 (lget x0 i4) 4) ∧ bt (⟨#[48, 49, 50, 51, 52, 53, 54, 55, 56, 57, 97, 98, 99, 100, 101, 102]⟩ : ByteArray) (ishr .u8 (lget x0 i4) 4) < 256 then if i5.size + 1 ≤ 140737488355328 then if (0 : Int) ≤ iand .u8 (lget x0 i4) 15 ∧ iand .u8 (lget x0 i4) 15 < ((⟨#[48, 49, 50, 51, 52, 53, 54, 55, 56, 57, 97, 98, 99, 100, 101, 102]⟩ : ByteArray).size : Int) then if (0 : Int) ≤ bt (⟨#[48, 49, 50, 51, 52, 53, 54, 55, 56, 57, 97, 98, 99, 100, 101, 102]⟩ : ByteArray) (iand .u8 (lget x0 i4) 15) ∧ bt (⟨#[48, 49, 50, 51, 52, 53, 54, 55, 56, 57, 97, 98, 99, 100, 101, 102]⟩ : ByteArray) (iand .u8 (lget x0 i4) 15) < 256 then if (i5.push (UInt8.ofNat (Int.toNat (bt (⟨#[48, 49, 50, 51, 52, 53, 54, 55, 56, 57, 97, 98, 99, 100, 101, 102]⟩ : ByteArray) (ishr .u8 (lget x0 i4) 4))))).size + 1 ≤ 140737488355328 then hexes_Encode.l0 x0 (wr .i64 (i4 + 1)) ((i5.push (UInt8.ofNat (Int.toNat (bt (⟨#[48, 49, 50, 51, 52, 53, 54, 55, 56, 57, 97, 98, 99, 100, 101, 102]⟩ : ByteArray) (ishr .u8 (lget x0 i4) 4))))).push (UInt8.ofNat (Int.toNat (bt (⟨#[48, 49, 50, 51, 52, 53, 54, 55, 56, 57, 97, 98, 99, 100, 101, 102]⟩ : ByteArray) (iand .u8 (lget x0 i4) 15))))) else none else none else none else none else none else none else none) else (some i5)
  partial_fixpoint
def hexes_Encode (x0 : List Int) : Option (ByteArray) :=
  hexes_Encode.l0 x0 0 ByteArray.empty >>= fun q3 => some q3
theorem hexes_Encode_ok (x0 : List Int) (p0_ : Option Addr) (c0_ : Nat) (r : ByteArray) (hF : hexes_Encode x0 = some r) (w : World) (hr0 : Row (cInt .u8) w p0_ c0_ x0) :
    Calls Tryz.prog 153 #[.slice p0_ x0.length c0_] w (fun e w' => e = .returned (.string r) ∧ Below w.heap.size w w') := by
 unfold hexes_Encode at hF
 refine calls_enter (l := [.slice p0_ x0.length c0_]) Tryz.func153 rfl rfl rfl ?_
 refine at_start ?_
 refine at_weak [(0, _)] ⟨rfl, trivial⟩ ?_
 refine sr ?_
 refine av rfl (r_assign rfl) ?_
 refine nws [(0, _)] ⟨rfl, trivial⟩ ?_
 refine at_alloc_bld (e := 5) Tryz.zeroValue137 rfl ?_
 intro b1
 refine nwt [(0, _), (3, _)] ⟨rfl, rfl, trivial⟩ ?_
 refine at_seq ?_
 refine sr ?_
 refine av rfl (r_move rfl) ?_
 refine av rfl (r_len_sl Tryz.underlying22 rfl) ?_
 refine av rfl (r_move rfl) ?_
 refine nwt [(3, _), (6, _), (7, _), (8, _)] ⟨rfl, rfl, rfl, rfl, trivial⟩ ?_
 refine at_block ?_
 obtain ⟨q3, hq3, hF⟩ := of_bindM hF
 refine at_weak [(3, _), (6, _), (7, _), (8, _)] ⟨rfl, rfl, rfl, rfl, trivial⟩ ?_
 refine at_loop_n (B := 0) (A := fun Y => ∀ (g7 : Option Nat), At 22 [(3, .pointer (some ⟨b1, 0, none⟩))] (Wd w [bldE 137 5 b1 g7 q3]) Y) ?_ ?_
 ·intro K
  refine hexes_Encode.l0.partial_correctness x0 (motive := fun i4 i5 x => KN (fun Y => ∀ (g7 : Option Nat), At 22 [(3, .pointer (some ⟨b1, 0, none⟩))] (Wd w [bldE 137 5 b1 g7 x]) Y) _ 0 → Round (fun Y => ∀ (g6 : Option Nat), At 22 [(3, .pointer (some ⟨b1, 0, none⟩)), (6, .slice p0_ x0.length c0_), (7, .int .i64 (x0.length : Int)), (8, .int .i64 i4)] (Wd w [bldE 137 5 b1 g6 i5]) Y) _ _ _) ?_ _ _ _ hq3 K none
  ·clear K hF
   intro g ih i4 i5 x hF K g6
   refine at_round ?_
   refine sr ?_
   refine av rfl (r_ilss rfl rfl) ?_
   refine nwt [(3, _), (6, _), (7, _), (8, _), (9, _)] ⟨rfl, rfl, rfl, rfl, rfl, trivial⟩ ?_
   refine at_seq ?_
   rcases of_ite hF with ⟨h8, hF⟩ | ⟨h8, hF⟩
   ·refine at_cond_true rfl h8 ?_
    refine sn ?_
    refine at_seq ?_
    refine at_block ?_
    refine sr ?_
    obtain ⟨h9, hF⟩ := of_guard hF
    obtain ⟨b11, o12, hp10⟩ := row_ptr hr0 h9
    refine av rfl (r_idx Tryz.underlying22 Tryz.sizeOf5 rfl rfl h9 hp10) ?_
    refine av rfl (r_load_cell Tryz.isAgg5 rfl (row_cell0 (fun _ h => h.below) hr0 h9 hp10 rfl)) ?_
    refine av rfl (r_assign rfl) ?_
    refine nws [(3, _), (5, _), (6, _), (7, _), (8, _)] ⟨rfl, rfl, rfl, rfl, rfl, trivial⟩ ?_
    refine av rfl (r_move rfl) ?_
    refine av rfl (r_ishr rfl rfl (by decide)) ?_
    obtain ⟨h13, hF⟩ := of_guard hF
    refine av rfl (r_index_str Tryz.underlying9 rfl rfl h13) ?_
    obtain ⟨h15, hF⟩ := of_guard hF
    obtain ⟨h16, hF⟩ := of_guard hF
    refine at_bld_byte (c := bt (⟨#[48, 49, 50, 51, 52, 53, 54, 55, 56, 57, 97, 98, 99, 100, 101, 102]⟩ : ByteArray) (ishr .u8 (lget x0 i4) 4)) .z trivial Tryz.func175 rfl (by kernel_rfl) rfl rfl h15 h16 Tryz.Builder_WriteByte_k ?_
    intro g14
    refine nwt [(3, _), (5, _), (6, _), (7, _), (8, _)] ⟨rfl, rfl, rfl, rfl, rfl, trivial⟩ ?_
    refine at_region ?_
    refine av rfl (r_move rfl) ?_
    refine av rfl (r_iand rfl rfl) ?_
    obtain ⟨h17, hF⟩ := of_guard hF
    refine av rfl (r_index_str Tryz.underlying9 rfl rfl h17) ?_
    obtain ⟨h19, hF⟩ := of_guard hF
    obtain ⟨h20, hF⟩ := of_guard hF
    refine at_bld_byte (c := bt (⟨#[48, 49, 50, 51, 52, 53, 54, 55, 56, 57, 97, 98, 99, 100, 101, 102]⟩ : ByteArray) (iand .u8 (lget x0 i4) 15)) .z trivial Tryz.func175 rfl (by kernel_rfl) rfl rfl h19 h20 Tryz.Builder_WriteByte_k ?_
    intro g18
    refine at_nil ?_
    refine at_weak [(3, _), (6, _), (7, _), (8, _)] ⟨rfl, rfl, rfl, rfl, trivial⟩ ?_
    refine at_blk_normal (at_then_normal ?_)
    refine at_region ?_
    refine av rfl (r_iadd rfl rfl) ?_
    refine av rfl (r_move rfl) ?_
    refine nwt [(3, _), (6, _), (7, _), (8, _)] ⟨rfl, rfl, rfl, rfl, trivial⟩ ?_
    exact at_weak_k (ih _ _ _ hF K g18) ⟨rfl, rfl, rfl, rfl, trivial⟩
   ·refine at_cond_false rfl h8 ?_
    refine at_exit ?_
    refine at_then_exit (at_then_exit ?_)
    obtain rfl := of_some hF
    exact at_weak_k (K g6) ⟨rfl, trivial⟩
 ·skip
  intro g7
  refine at_blk_same ?_
  refine at_then_normal ?_
  refine sr ?_
  refine at_bld_string .z trivial Tryz.func85 rfl (by kernel_rfl) rfl rfl Tryz.Builder_String_any_k ?_
  intro g21
  refine av rfl (r_assign rfl) ?_
  refine at_nil ?_
  refine at_drop (H := _) .z ?_
  refine at_weak [(2, _)] ⟨rfl, trivial⟩ ?_
  refine at_then_normal ?_
  refine at_ret ?_
  have K := of_some hF
  subst K
  exact at_return1 rfl rfl (fun w1 hw => ⟨rfl, hw.below⟩)
def keys_Hex (x0 : (Vector Int 32)) : Option (ByteArray) :=
  hexes_Encode (Vector.toList x0) >>= fun t2 => some t2
theorem keys_Hex_ok (x0 : (Vector Int 32)) (r : ByteArray) (hF : keys_Hex x0 = some r) (w : World) :
    Calls Tryz.prog 96 #[.agg (Cd.cs (cVec (cInt .u8) 32 (by decide)) x0).toArray] w (fun e w' => e = .returned (.string r) ∧ Below w.heap.size w w') := by
 unfold keys_Hex at hF
 refine calls_enter (l := [.agg (Cd.cs (cVec (cInt .u8) 32 (by decide)) x0).toArray]) Tryz.func96 rfl rfl rfl ?_
 refine at_start ?_
 refine at_weak [(0, _)] ⟨rfl, trivial⟩ ?_
 refine sr ?_
 refine at_box (cs := Cd.cs (cVec (cInt .u8) 32 (by decide)) x0) rfl rfl rfl ?_
 intro b1
 refine av rfl (r_assign rfl) ?_
 refine nws [(1, _)] ⟨rfl, trivial⟩ ?_
 refine av rfl (r_slice_vec x0 Tryz.underlying29 Tryz.sizeOf5 rfl) ?_
 obtain ⟨t2, ht2, hF⟩ := of_bindM hF
 refine at_callB Tryz.func153 rfl (by kernel_rfl) rfl rfl (fun w hw => hexes_Encode_ok _ _ _ _ ht2 w (vec_row (hw.ok (Upd.mem .z)))) ?_
 refine av rfl (r_assign rfl) ?_
 refine at_nil ?_
 refine at_drop (H := _) .z ?_
 refine at_weak [(2, _)] ⟨rfl, trivial⟩ ?_
 refine at_then_normal ?_
 refine at_ret ?_
 have K := of_some hF
 subst K
 exact at_return1 rfl rfl (fun w1 hw => ⟨rfl, hw.below⟩)
def keys_Of (x0 : List Int) : Option ((Vector Int 32) × Int) :=
  if (decide ((x0.length : Int) < 32)) = true then (some ((Vector.replicate 32 (0 : Int) : (Vector Int 32)), 3)) else (if (decide ((x0.length : Int) > 32)) = true then (some ((Vector.replicate 32 (0 : Int) : (Vector Int 32)), 4)) else (if 32 ≤ x0.length then some (lvec 32 x0, 0) else none))
theorem keys_Of_ok (x0 : List Int) (p0_ : Option Addr) (c0_ : Nat) (r : (Vector Int 32) × Int) (hF : keys_Of x0 = some r) (w : World) (hr0 : Row (cInt .u8) w p0_ c0_ x0) :
    Calls Tryz.prog 152 #[.slice p0_ x0.length c0_] w (fun e w' => e = .returned (.tuple #[.agg (Cd.cs (cVec (cInt .u8) 32 (by decide)) r.1).toArray, .int .i64 r.2]) ∧ Below w.heap.size w w') := by
 unfold keys_Of at hF
 refine calls_enter (l := [.slice p0_ x0.length c0_]) Tryz.func152 rfl rfl rfl ?_
 refine at_start ?_
 refine at_weak [(0, _)] ⟨rfl, trivial⟩ ?_
 refine sr ?_
 refine at_alloc (cs := Cd.cs (cVec (cInt .u8) 32 (by decide)) (Vector.replicate 32 (0 : Int) : (Vector Int 32))) Tryz.zeroValue29 rfl rfl ?_
 intro b1
 refine av rfl (r_assign rfl) ?_
 refine nwt [(0, _), (2, _)] ⟨rfl, rfl, trivial⟩ ?_
 refine at_seq ?_
 refine at_block ?_
 refine sr ?_
 refine av rfl (r_move rfl) ?_
 refine av rfl (r_len_sl Tryz.underlying22 rfl) ?_
 refine av rfl (r_ilss rfl rfl) ?_
 refine av rfl (r_assign rfl) ?_
 refine nwt [(0, _), (2, _), (4, _)] ⟨rfl, rfl, rfl, trivial⟩ ?_
 rcases of_ite hF with ⟨h2, hF⟩ | ⟨h2, hF⟩
 ·refine at_cond_true rfl h2 ?_
  refine sr ?_
  refine av rfl (r_build_array (zs := Cd.cs (cVec (cInt .u8) 32 (by decide)) (Vector.replicate 32 (0 : Int) : (Vector Int 32))) (cs := Cd.cs (cVec (cInt .u8) 32 (by decide)) (Vector.replicate 32 (0 : Int) : (Vector Int 32))) Tryz.underlying29 Tryz.zeroValue29 rfl Tryz.sizeOf5 rfl rfl) ?_
  refine at_store (c := (cVec (cInt .u8) 32 (by decide))) (z := (Vector.replicate 32 (0 : Int) : (Vector Int 32))) .z (Lens.whole _ _) Tryz.sizeOf29 rfl rfl rfl ?_
  refine av rfl (r_assign rfl) ?_
  refine nwt [(2, _), (3, _)] ⟨rfl, rfl, trivial⟩ ?_
  refine at_ret ?_
  refine at_blk_ret (at_then_ret ?_)
  have K := of_some hF
  subst K
  exact at_res2 rfl (res_cell (c := (cVec (cInt .u8) 32 (by decide))) (y := (Vector.replicate 32 (0 : Int) : (Vector Int 32))) rfl .z (Lens.whole _ _) Tryz.isAgg29 Tryz.sizeOf29 (.inl rfl)) (res_tmp rfl) (fun w1 hw => ⟨rfl, hw.below⟩)
 ·refine at_cond_false rfl h2 ?_
  refine sr ?_
  refine av rfl (r_move rfl) ?_
  refine av rfl (r_len_sl Tryz.underlying22 rfl) ?_
  refine av rfl (r_igtr rfl rfl) ?_
  refine av rfl (r_assign rfl) ?_
  refine nwt [(0, _), (2, _), (9, _)] ⟨rfl, rfl, rfl, trivial⟩ ?_
  rcases of_ite hF with ⟨h3, hF⟩ | ⟨h3, hF⟩
  ·refine at_cond_true rfl h3 ?_
   refine sr ?_
   refine av rfl (r_build_array (zs := Cd.cs (cVec (cInt .u8) 32 (by decide)) (Vector.replicate 32 (0 : Int) : (Vector Int 32))) (cs := Cd.cs (cVec (cInt .u8) 32 (by decide)) (Vector.replicate 32 (0 : Int) : (Vector Int 32))) Tryz.underlying29 Tryz.zeroValue29 rfl Tryz.sizeOf5 rfl rfl) ?_
   refine at_store (c := (cVec (cInt .u8) 32 (by decide))) (z := (Vector.replicate 32 (0 : Int) : (Vector Int 32))) .z (Lens.whole _ _) Tryz.sizeOf29 rfl rfl rfl ?_
   refine av rfl (r_assign rfl) ?_
   refine nwt [(2, _), (3, _)] ⟨rfl, rfl, trivial⟩ ?_
   refine at_ret ?_
   refine at_blk_ret (at_then_ret ?_)
   have K := of_some hF
   subst K
   exact at_res2 rfl (res_cell (c := (cVec (cInt .u8) 32 (by decide))) (y := (Vector.replicate 32 (0 : Int) : (Vector Int 32))) rfl .z (Lens.whole _ _) Tryz.isAgg29 Tryz.sizeOf29 (.inl rfl)) (res_tmp rfl) (fun w1 hw => ⟨rfl, hw.below⟩)
  ·refine at_cond_false rfl h3 ?_
   refine at_skip ?_
   refine at_blk_normal (at_then_normal ?_)
   refine sr ?_
   refine av rfl (r_move rfl) ?_
   obtain ⟨h4, hF⟩ := of_guard hF
   refine av rfl (r_arrptr Tryz.underlying29 rfl h4) ?_
   refine at_pure (φ := ∃ b o, p0_ = some ⟨b, o, none⟩) (fun w1 hw => row_ptr (i := 0) (hr0.below hw.below) (by omega)) ?_
   rintro ⟨b5, o6, hp7⟩
   refine av rfl (r_load_aggc (c := (cVec (cInt .u8) 32 (by decide))) (z := lvec 32 x0) Tryz.isAgg29 Tryz.sizeOf29 (by rw [← hp7]; rfl) (fun w1 hw => row_lvec (hr0.below hw.below) h4 hp7)) ?_
   refine at_store (c := (cVec (cInt .u8) 32 (by decide))) (z := lvec 32 x0) .z (Lens.whole _ _) Tryz.sizeOf29 rfl rfl rfl ?_
   refine av rfl (r_assign rfl) ?_
   refine nwt [(2, _), (3, _)] ⟨rfl, rfl, trivial⟩ ?_
   refine at_ret ?_
   have K := of_some hF
   subst K
   exact at_res2 rfl (res_cell (c := (cVec (cInt .u8) 32 (by decide))) (y := lvec 32 x0) rfl .z (Lens.whole _ _) Tryz.isAgg29 Tryz.sizeOf29 (.inl rfl)) (res_tmp rfl) (fun w1 hw => ⟨rfl, hw.below⟩)
def keys_ParseHex (x0 : ByteArray) : Option ((Vector Int 32) × Int) :=
  hexes_Decode x0 >>= fun t2 => if (t2.2 != 0) = true then (some ((Vector.replicate 32 (0 : Int) : (Vector Int 32)), t2.2)) else (keys_Of t2.1 >>= fun t6 => some (t6.1, t6.2))
theorem keys_ParseHex_ok (x0 : ByteArray) (r : (Vector Int 32) × Int) (hF : keys_ParseHex x0 = some r) (w : World) :
    Calls Tryz.prog 94 #[.string x0] w (fun e w' => e = .returned (.tuple #[.agg (Cd.cs (cVec (cInt .u8) 32 (by decide)) r.1).toArray, .int .i64 r.2]) ∧ Below w.heap.size w w') := by
 unfold keys_ParseHex at hF
 refine calls_enter (l := [.string x0]) Tryz.func94 rfl rfl rfl ?_
 refine at_start ?_
 refine at_weak [(0, _)] ⟨rfl, trivial⟩ ?_
 refine sr ?_
 refine at_alloc (cs := Cd.cs (cVec (cInt .u8) 32 (by decide)) (Vector.replicate 32 (0 : Int) : (Vector Int 32))) Tryz.zeroValue29 rfl rfl ?_
 intro b1
 refine av rfl (r_assign rfl) ?_
 refine nws [(0, _), (2, _)] ⟨rfl, rfl, trivial⟩ ?_
 refine av rfl (r_move rfl) ?_
 obtain ⟨t2, ht2, hF⟩ := of_bindM hF
 refine at_callO (c := (cInt .u8)) (e := 5) (ys := t2.1) (V := fun p cap => .tuple #[.slice p t2.1.length cap, .int .i64 t2.2]) Tryz.func151 rfl (by kernel_rfl) rfl rfl (fun w hw => hexes_Decode_ok _ _ ht2 w) ?_
 intro p3 c4
 refine av rfl (r_move rfl) ?_
 refine av rfl (r_extract rfl rfl) ?_
 refine av rfl (r_extract rfl rfl) ?_
 refine av rfl (r_assign rfl) ?_
 refine av rfl (r_assign rfl) ?_
 refine nwt [(2, _), (4, _), (5, _)] ⟨rfl, rfl, rfl, trivial⟩ ?_
 refine at_seq ?_
 refine sr ?_
 refine av rfl (r_move rfl) ?_
 refine av rfl (r_ineq rfl rfl) ?_
 refine nwt [(2, _), (4, _), (5, _), (12, _)] ⟨rfl, rfl, rfl, rfl, trivial⟩ ?_
 rcases of_ite hF with ⟨h5, hF⟩ | ⟨h5, hF⟩
 ·refine at_cond_true rfl h5 ?_
  refine sr ?_
  refine av rfl (r_build_array (zs := Cd.cs (cVec (cInt .u8) 32 (by decide)) (Vector.replicate 32 (0 : Int) : (Vector Int 32))) (cs := Cd.cs (cVec (cInt .u8) 32 (by decide)) (Vector.replicate 32 (0 : Int) : (Vector Int 32))) Tryz.underlying29 Tryz.zeroValue29 rfl Tryz.sizeOf5 rfl rfl) ?_
  refine av rfl (r_move rfl) ?_
  refine at_store (c := (cVec (cInt .u8) 32 (by decide))) (z := (Vector.replicate 32 (0 : Int) : (Vector Int 32))) (.s .z) (Lens.whole _ _) Tryz.sizeOf29 rfl rfl rfl ?_
  refine av rfl (r_assign rfl) ?_
  refine at_nil ?_
  refine at_drop (H := _) .z ?_
  refine at_weak [(2, _), (3, _)] ⟨rfl, rfl, trivial⟩ ?_
  refine at_then_normal ?_
  refine rt ?_
  have K := of_some hF
  subst K
  exact at_res2 rfl (res_cell (c := (cVec (cInt .u8) 32 (by decide))) (y := (Vector.replicate 32 (0 : Int) : (Vector Int 32))) rfl .z (Lens.whole _ _) Tryz.isAgg29 Tryz.sizeOf29 (.inl rfl)) (res_tmp rfl) (fun w1 hw => ⟨rfl, hw.below⟩)
 ·refine at_cond_false rfl h5 ?_
  refine sns ?_
  refine av rfl (r_move rfl) ?_
  obtain ⟨t6, ht6, hF⟩ := of_bindM hF
  refine at_callB Tryz.func152 rfl (by kernel_rfl) rfl rfl (fun w hw => keys_Of_ok _ _ _ _ ht6 w (hw.own .z).row) ?_
  refine av rfl (r_extract rfl rfl) ?_
  refine av rfl (r_extract rfl rfl) ?_
  refine at_store (c := (cVec (cInt .u8) 32 (by decide))) (z := t6.1) (.s .z) (Lens.whole _ _) Tryz.sizeOf29 rfl rfl rfl ?_
  refine av rfl (r_assign rfl) ?_
  refine at_nil ?_
  refine at_drop (H := _) .z ?_
  refine at_weak [(2, _), (3, _)] ⟨rfl, rfl, trivial⟩ ?_
  refine at_then_normal ?_
  refine at_ret ?_
  have K := of_some hF
  subst K
  exact at_res2 rfl (res_cell (c := (cVec (cInt .u8) 32 (by decide))) (y := t6.1) rfl .z (Lens.whole _ _) Tryz.isAgg29 Tryz.sizeOf29 (.inl rfl)) (res_tmp rfl) (fun w1 hw => ⟨rfl, hw.below⟩)
def crawlwayref07_Bytes.l0 (x0 : (Vector Int 32)) (i5 : List Int) (i6 : Int) : Option (List Int) :=
  if (decide (i6 < 32)) = true then (if (0 : Int) ≤ i6 ∧ i6 < 32 then if (i5.length + 1) * 1 ≤ 140737488355328 then crawlwayref07_Bytes.l0 x0 (i5 ++ [vget x0 i6]) (wr .i64 (i6 + 1)) else none else none) else (some i5)
  partial_fixpoint
def crawlwayref07_Bytes (x0 : (Vector Int 32)) : Option (List Int) :=
  crawlwayref07_Bytes.l0 x0 ([] : List Int) 0 >>= fun q4 => some q4
theorem crawlwayref07_Bytes_ok (x0 : (Vector Int 32)) (r : List Int) (hF : crawlwayref07_Bytes x0 = some r) (w : World) :
    Calls Tryz.prog 54 #[.agg (Cd.cs (cVec (cInt .u8) 32 (by decide)) x0).toArray] w (fun e w' => ∃ p cap, e = .returned (.slice p r.length cap) ∧ Own (cInt .u8) 5 w.heap.size w' p cap r ∧ Below w.heap.size w w') := by
 unfold crawlwayref07_Bytes at hF
 refine calls_enter (l := [.agg (Cd.cs (cVec (cInt .u8) 32 (by decide)) x0).toArray]) Tryz.func54 rfl rfl rfl ?_
 refine at_start ?_
 refine at_weak [(0, _)] ⟨rfl, trivial⟩ ?_
 refine sr ?_
 refine at_box (cs := Cd.cs (cVec (cInt .u8) 32 (by decide)) x0) rfl rfl rfl ?_
 intro b1
 refine av rfl (r_assign rfl) ?_
 refine nws [(1, _)] ⟨rfl, trivial⟩ ?_
 refine av rfl (r_assign rfl) ?_
 refine nwt [(1, _), (3, _)] ⟨rfl, rfl, trivial⟩ ?_
 refine at_seq ?_
 refine sr ?_
 refine av rfl (r_assign rfl) ?_
 refine nwt [(1, _), (3, _), (4, _)] ⟨rfl, rfl, rfl, trivial⟩ ?_
 refine at_block ?_
 refine at_own_nil (cInt .u8) 5 ?_
 refine at_weak [(1, _), (3, .slice none ([] : List Int).length 0), (4, _)] ⟨rfl, rfl, rfl, trivial⟩ ?_
 obtain ⟨q4, hq4, hF⟩ := of_bindM hF
 refine at_weak [(1, _), (3, _), (4, _)] ⟨rfl, rfl, rfl, trivial⟩ ?_
 refine at_loop_n (B := 0) (A := fun Y => ∀ (p9 : Option Addr) (c10 : Nat), At 16 [(3, .slice p9 q4.length c10)] (Wd w [rowE (cInt .u8) 5 p9 c10 q4]) Y) ?_ ?_
 ·intro K
  refine crawlwayref07_Bytes.l0.partial_correctness x0 (motive := fun i5 i6 x => KN (fun Y => ∀ (p9 : Option Addr) (c10 : Nat), At 16 [(3, .slice p9 x.length c10)] (Wd w [rowE (cInt .u8) 5 p9 c10 x]) Y) _ 0 → Round (fun Y => ∀ (p7 : Option Addr) (c8 : Nat), At 16 [(1, .pointer (some ⟨b1, 0, none⟩)), (3, .slice p7 i5.length c8), (4, .int .i64 i6)] (Wd w [rowE (cInt .u8) 5 p7 c8 i5, cellsE b1 (Cd.cs (cVec (cInt .u8) 32 (by decide)) x0) 29]) Y) _ _ _) ?_ _ _ _ hq4 K none 0
  ·clear K hF
   intro g ih i5 i6 x hF K p7 c8
   refine at_round ?_
   refine at_seq ?_
   refine sr ?_
   refine av rfl (r_move rfl) ?_
   refine av rfl (r_ilss rfl rfl) ?_
   refine nwt [(1, _), (3, _), (4, _), (6, _)] ⟨rfl, rfl, rfl, rfl, trivial⟩ ?_
   rcases of_ite hF with ⟨h11, hF⟩ | ⟨h11, hF⟩
   ·refine at_cond_true rfl h11 ?_
    refine sn ?_
    refine at_seq ?_
    refine at_block ?_
    refine at_region ?_
    refine av rfl (r_move rfl) ?_
    refine av rfl (r_move rfl) ?_
    obtain ⟨h12, hF⟩ := of_guard hF
    refine av rfl (r_idxArr Tryz.underlying29 Tryz.sizeOf5 rfl rfl h12) ?_
    refine av rfl (r_load_cell Tryz.isAgg5 rfl (lens_cell0 (c := (cInt .u8)) (y := vget x0 i6) (.s .z) (Lens.comp (Lens.whole _ _) (fun z => vset x0 i6 z) (Lens.vec (cInt .u8) (by decide) x0 i6 h12)) rfl)) ?_
    refine at_lit (cs := (cInt .u8).all ([vget x0 i6] : List Int)) Tryz.underlying22 Tryz.sizeOf5 Tryz.zeroValue5 rfl rfl rfl (by kernel_rfl) rfl ?_
    intro b13
    obtain ⟨h14, hF⟩ := of_guard hF
    refine at_append (z := .int .u8 0) (c := (cInt .u8)) (ys := ([vget x0 i6] : List Int)) (.s .z) Tryz.underlying22 infoG85 (by kernel_rfl) (by kernel_rfl) rfl rfl rfl rfl (fun _ hw => cells_src (hw.ok (Upd.mem .z))) (by kernel_rfl) h14 (app_small h14) rfl ?_
    intro p15 c16
    refine av rfl (r_assign rfl) ?_
    refine at_nil ?_
    refine at_drop (H := _) .z ?_
    refine at_weak [(1, _), (3, _), (4, _)] ⟨rfl, rfl, rfl, trivial⟩ ?_
    refine at_blk_normal (at_then_normal ?_)
    refine at_region ?_
    refine av rfl (r_move rfl) ?_
    refine av rfl (r_iadd rfl rfl) ?_
    refine av rfl (r_assign rfl) ?_
    refine nwt [(1, _), (3, _), (4, _)] ⟨rfl, rfl, rfl, trivial⟩ ?_
    exact at_weak_k (ih _ _ _ hF K p15 c16) ⟨rfl, rfl, rfl, trivial⟩
   ·refine at_cond_false rfl h11 ?_
    refine at_exit ?_
    refine at_then_exit (at_then_exit ?_)
    refine at_drop (H := _) (.s .z) ?_
    obtain rfl := of_some hF
    exact at_weak_k (K p7 c8) ⟨rfl, trivial⟩
 ·skip
  intro p9 c10
  refine at_blk_same ?_
  refine at_then_normal ?_
  refine sr ?_
  refine av rfl (r_move rfl) ?_
  refine av rfl (r_assign rfl) ?_
  refine nwt [(2, _)] ⟨rfl, trivial⟩ ?_
  refine at_ret ?_
  have K := of_some hF
  subst K
  exact at_return1 rfl rfl (fun w1 hw => ⟨p9, c10, rfl, hw.own .z, hw.below⟩)
def crawlwayref07_Of.l0 (x0 : List Int) (i6 : Int) (i7 : (Vector Int 32)) : Option ((Vector Int 32)) :=
  if (decide (i6 < 32)) = true then (if (0 : Int) ≤ i6 ∧ i6 < (x0.length : Int) then if (0 : Int) ≤ i6 ∧ i6 < 32 then crawlwayref07_Of.l0 x0 (wr .i64 (i6 + 1)) (vset i7 i6 (lget x0 i6)) else none else none) else (some i7)
  partial_fixpoint
def crawlwayref07_Of (x0 : List Int) : Option ((Vector Int 32) × Int) :=
  if (decide ((x0.length : Int) < 32)) = true then (some ((Vector.replicate 32 (0 : Int) : (Vector Int 32)), 3)) else (if (decide ((x0.length : Int) > 32)) = true then (some ((Vector.replicate 32 (0 : Int) : (Vector Int 32)), 4)) else (crawlwayref07_Of.l0 x0 0 (Vector.replicate 32 (0 : Int) : (Vector Int 32)) >>= fun q5 => some (q5, 0)))
def crawlwayref07_ParseHex (x0 : ByteArray) : Option ((Vector Int 32) × Int) :=
  crawlwayref05_Decode x0 >>= fun t2 => if (t2.2 != 0) = true then (some ((Vector.replicate 32 (0 : Int) : (Vector Int 32)), t2.2)) else (crawlwayref07_Of t2.1 >>= fun t6 => some (t6.1, t6.2))
end Go.Proofs.YtkkmmpofdcccmaaGreatDoor
namespace Go.Proofs.YtkkmmpofdcccmaaGreatDoor
open E Go.RowKit
def crawlwayref37_Names : Option (List ByteArray) :=
  some ([⟨#[]⟩, ⟨#[112, 114, 105, 118, 97, 116, 101, 95, 107, 101, 121]⟩, ⟨#[108, 105, 115, 116, 101, 110, 95, 112, 111, 114, 116]⟩, ⟨#[102, 119, 109, 97, 114, 107]⟩, ⟨#[114, 101, 112, 108, 97, 99, 101, 95, 112, 101, 101, 114, 115]⟩, ⟨#[112, 117, 98, 108, 105, 99, 95, 107, 101, 121]⟩, ⟨#[114, 101, 109, 111, 118, 101]⟩, ⟨#[117, 112, 100, 97, 116, 101, 95, 111, 110, 108, 121]⟩, ⟨#[112, 114, 101, 115, 104, 97, 114, 101, 100, 95, 107, 101, 121]⟩, ⟨#[101, 110, 100, 112, 111, 105, 110, 116]⟩, ⟨#[112, 101, 114, 115, 105, 115, 116, 101, 110, 116, 95, 107, 101, 101, 112, 97, 108, 105, 118, 101, 95, 105, 110, 116, 101, 114, 118, 97, 108]⟩, ⟨#[114, 101, 112, 108, 97, 99, 101, 95, 97, 108, 108, 111, 119, 101, 100, 95, 105, 112, 115]⟩, ⟨#[97, 108, 108, 111, 119, 101, 100, 95, 105, 112]⟩, ⟨#[112, 114, 111, 116, 111, 99, 111, 108, 95, 118, 101, 114, 115, 105, 111, 110]⟩, ⟨#[116, 120, 95, 98, 121, 116, 101, 115]⟩, ⟨#[114, 120, 95, 98, 121, 116, 101, 115]⟩, ⟨#[101, 114, 114, 110, 111]⟩])
theorem crawlwayref37_Names_ok (r : List ByteArray) (hF : crawlwayref37_Names  = some r) (w : World) :
    Calls Tryz.prog 14 #[] w (fun e w' => ∃ p cap, e = .returned (.slice p r.length cap) ∧ Own cStr 9 w.heap.size w' p cap r ∧ Below w.heap.size w w') := by
 unfold crawlwayref37_Names at hF
 refine calls_enter (l := []) Tryz.func14 rfl rfl rfl ?_
 refine at_start ?_
 refine at_weak [] trivial ?_
 refine sr ?_
 refine av rfl (r_assign rfl) ?_
 refine nws [] trivial ?_
 refine at_lit (cs := cStr.all ([⟨#[]⟩, ⟨#[112, 114, 105, 118, 97, 116, 101, 95, 107, 101, 121]⟩, ⟨#[108, 105, 115, 116, 101, 110, 95, 112, 111, 114, 116]⟩, ⟨#[102, 119, 109, 97, 114, 107]⟩, ⟨#[114, 101, 112, 108, 97, 99, 101, 95, 112, 101, 101, 114, 115]⟩, ⟨#[112, 117, 98, 108, 105, 99, 95, 107, 101, 121]⟩, ⟨#[114, 101, 109, 111, 118, 101]⟩, ⟨#[117, 112, 100, 97, 116, 101, 95, 111, 110, 108, 121]⟩, ⟨#[112, 114, 101, 115, 104, 97, 114, 101, 100, 95, 107, 101, 121]⟩, ⟨#[101, 110, 100, 112, 111, 105, 110, 116]⟩, ⟨#[112, 101, 114, 115, 105, 115, 116, 101, 110, 116, 95, 107, 101, 101, 112, 97, 108, 105, 118, 101, 95, 105, 110, 116, 101, 114, 118, 97, 108]⟩, ⟨#[114, 101, 112, 108, 97, 99, 101, 95, 97, 108, 108, 111, 119, 101, 100, 95, 105, 112, 115]⟩, ⟨#[97, 108, 108, 111, 119, 101, 100, 95, 105, 112]⟩, ⟨#[112, 114, 111, 116, 111, 99, 111, 108, 95, 118, 101, 114, 115, 105, 111, 110]⟩, ⟨#[116, 120, 95, 98, 121, 116, 101, 115]⟩, ⟨#[114, 120, 95, 98, 121, 116, 101, 115]⟩, ⟨#[101, 114, 114, 110, 111]⟩] : List ByteArray)) Tryz.underlying38 Tryz.sizeOf9 Tryz.zeroValue9 rfl rfl rfl (by kernel_rfl) rfl ?_
 intro b1
 refine av rfl (r_assign rfl) ?_
 refine nwt [(0, _)] ⟨rfl, trivial⟩ ?_
 refine at_ret ?_
 have K := of_some hF
 subst K
 exact at_return1 rfl rfl (fun w1 hw => ⟨(some ⟨b1, 0, none⟩), 17, rfl, Own.of_cells hw (Upd.mem .z) (by decide), hw.below⟩)
def field_Name (x0 : Int) : Option (ByteArray) :=
  if (decide (x0 < 1)) = true then (some (⟨#[]⟩)) else (if (decide (x0 > 16)) = true then (some (⟨#[]⟩)) else (if (0 : Int) ≤ x0 ∧ x0 < 17 then some (vget gval_field_names x0) else none))
theorem field_Name_ok (x0 : Int) (r : ByteArray) (hF : field_Name x0 = some r) (w : World) (hg_field_names : GV_field_names w) :
    Calls Tryz.prog 15 #[.int .i64 x0] w (fun e w' => e = .returned (.string r) ∧ w' = w) := by
 unfold field_Name at hF
 refine calls_enter (l := [.int .i64 x0]) Tryz.func15 rfl rfl rfl ?_
 refine at_weak [(0, _)] ⟨rfl, trivial⟩ ?_
 refine sr ?_
 refine av rfl (r_assign rfl) ?_
 refine nwt [(0, _)] ⟨rfl, trivial⟩ ?_
 refine at_seq ?_
 refine sr ?_
 refine av rfl (r_move rfl) ?_
 refine av rfl (r_ilss rfl rfl) ?_
 refine av rfl (r_move rfl) ?_
 rcases of_ite hF with ⟨h1, hF⟩ | ⟨h1, hF⟩
 ·refine at_fix (g := 5) rfl h1 ?_
  refine at_guard_no rfl rfl rfl rfl rfl ?_
  refine at_guard_no rfl rfl rfl rfl rfl ?_
  refine av rfl (r_pick rfl rfl rfl) ?_
  refine nwt [(0, _), (8, _)] ⟨rfl, rfl, trivial⟩ ?_
  refine at_cond_true rfl rfl ?_
  refine sr ?_
  refine av rfl (r_assign rfl) ?_
  refine nwt [(2, _)] ⟨rfl, trivial⟩ ?_
  refine rt ?_
  have K := of_some hF
  subst K
  exact at_return1 rfl rfl (fun w1 hw => ⟨rfl, hw⟩)
 ·refine at_fix (g := 5) rfl h1 ?_
  refine at_guard_yes rfl rfl rfl ?_
  refine av rfl (r_move rfl) ?_
  refine at_guard_yes rfl rfl rfl ?_
  refine av rfl (r_igtr rfl rfl) ?_
  refine av rfl (r_pick rfl rfl rfl) ?_
  refine nwt [(0, _), (8, _)] ⟨rfl, rfl, trivial⟩ ?_
  rcases of_ite hF with ⟨h2, hF⟩ | ⟨h2, hF⟩
  ·refine at_cond_true rfl h2 ?_
   refine sr ?_
   refine av rfl (r_assign rfl) ?_
   refine nwt [(2, _)] ⟨rfl, trivial⟩ ?_
   refine rt ?_
   have K := of_some hF
   subst K
   exact at_return1 rfl rfl (fun w1 hw => ⟨rfl, hw⟩)
  ·refine at_cond_false rfl h2 ?_
   refine sns ?_
   refine av rfl (r_move rfl) ?_
   obtain ⟨h3, hF⟩ := of_guard hF
   refine av rfl (r_idxArr Tryz.underlying75 Tryz.sizeOf9 rfl rfl h3) ?_
   refine av rfl (r_load_cell Tryz.isAgg9 rfl (glob_cell0 (c' := cStr) (y := vget gval_field_names x0) (fun w1 (h : w1 = w) => by subst h; exact Below.refl _ _) hg_field_names g_field_names (Lens.comp (Lens.whole _ _) (fun z => vset gval_field_names x0 z) (Lens.vec cStr (by decide) gval_field_names x0 h3)) rfl)) ?_
   refine av rfl (r_assign rfl) ?_
   refine nwt [(2, _)] ⟨rfl, trivial⟩ ?_
   refine at_ret ?_
   have K := of_some hF
   subst K
   exact at_return1 rfl rfl (fun w1 hw => ⟨rfl, hw⟩)
def slices_Index_string.l0 (x0 : List ByteArray) (x1 : ByteArray) (i2 : Int) : Option (Ctl (Int) (Unit)) :=
  if (decide (i2 < (x0.length : Int))) = true then (if (0 : Int) ≤ i2 ∧ i2 < (x0.length : Int) then if (seq x1 (lget x0 i2)) = true then (some (.ret i2)) else (slices_Index_string.l0 x0 x1 (wr .i64 (i2 + 1))) else none) else (some (.nx ()))
  partial_fixpoint
def slices_Index_string (x0 : List ByteArray) (x1 : ByteArray) : Option (Int) :=
  slices_Index_string.l0 x0 x1 0 >>= fun q1 => match q1 with | .ret r' => some r' | .nx sq1 => (some (-1))
theorem slices_Index_string_ok (x0 : List ByteArray) (p0_ : Option Addr) (c0_ : Nat) (x1 : ByteArray) (r : Int) (hF : slices_Index_string x0 x1 = some r) (w : World) (hr0 : Row cStr w p0_ c0_ x0) :
    Calls Tryz.prog 36 #[.slice p0_ x0.length c0_, .string x1] w (fun e w' => e = .returned (.int .i64 r) ∧ w' = w) := by
 unfold slices_Index_string at hF
 refine calls_enter (l := [.slice p0_ x0.length c0_, .string x1]) Tryz.func36 rfl rfl rfl ?_
 refine at_weak [(0, _), (1, _)] ⟨rfl, rfl, trivial⟩ ?_
 refine sr ?_
 refine av rfl (r_assign rfl) ?_
 refine nwt [(0, _), (1, _)] ⟨rfl, rfl, trivial⟩ ?_
 refine at_seq ?_
 refine sr ?_
 refine av rfl (r_move rfl) ?_
 refine av rfl (r_len_sl Tryz.underlying38 rfl) ?_
 refine av rfl (r_move rfl) ?_
 refine nwt [(0, _), (1, _), (7, _), (8, _)] ⟨rfl, rfl, rfl, rfl, trivial⟩ ?_
 refine at_block ?_
 obtain ⟨q1, hq1, hF⟩ := of_bindM hF
 refine at_weak [(0, _), (1, _), (7, _), (8, _)] ⟨rfl, rfl, rfl, rfl, trivial⟩ ?_
 refine at_loop_r (B := 0) (r := r) (q := q1) (A := fun (_ : Unit) Y => At 19 [] (fun w' => w' = w) Y) ?_ ?_
 ·intro K
  refine slices_Index_string.l0.partial_correctness x0 x1 (motive := fun i2 x => KR (fun (_ : Unit) Y => At 19 [] (fun w' => w' = w) Y) _ 0 r x → Round (fun Y => At 19 [(0, .slice p0_ x0.length c0_), (1, .string x1), (7, .int .i64 (x0.length : Int)), (8, .int .i64 i2)] (fun w' => w' = w) Y) _ _ _) ?_ _ _ hq1 K
  ·clear K hF
   intro g ih i2 x hF K
   refine at_round ?_
   refine sr ?_
   refine av rfl (r_ilss rfl rfl) ?_
   refine nwt [(0, _), (1, _), (7, _), (8, _), (9, _)] ⟨rfl, rfl, rfl, rfl, rfl, trivial⟩ ?_
   refine at_seq ?_
   rcases of_ite hF with ⟨h3, hF⟩ | ⟨h3, hF⟩
   ·refine at_cond_true rfl h3 ?_
    refine sn ?_
    refine at_seq ?_
    refine at_block ?_
    refine sr ?_
    refine av rfl (r_move rfl) ?_
    refine av rfl (r_assign rfl) ?_
    refine nws [(0, _), (1, _), (5, _), (7, _), (8, _)] ⟨rfl, rfl, rfl, rfl, rfl, trivial⟩ ?_
    refine av rfl (r_move rfl) ?_
    refine av rfl (r_move rfl) ?_
    refine av rfl (r_move rfl) ?_
    obtain ⟨h4, hF⟩ := of_guard hF
    obtain ⟨b6, o7, hp5⟩ := row_ptr hr0 h4
    refine av rfl (r_idx Tryz.underlying38 Tryz.sizeOf9 rfl rfl h4 hp5) ?_
    refine av rfl (r_load_cell Tryz.isAgg9 rfl (row_cell0 (fun w1 (h : w1 = w) => by subst h; exact Below.refl _ _) hr0 h4 hp5 rfl)) ?_
    refine av rfl (r_seql rfl rfl) ?_
    refine nwt [(0, _), (1, _), (5, _), (7, _), (8, _), (16, _)] ⟨rfl, rfl, rfl, rfl, rfl, rfl, trivial⟩ ?_
    rcases of_ite hF with ⟨h8, hF⟩ | ⟨h8, hF⟩
    ·refine at_cond_true rfl h8 ?_
     refine sr ?_
     refine av rfl (r_move rfl) ?_
     refine av rfl (r_assign rfl) ?_
     refine nwt [(4, _)] ⟨rfl, trivial⟩ ?_
     refine at_ret ?_
     refine at_blk_ret (at_then_ret (at_then_ret (at_blk_ret (at_then_ret ?_))))
     obtain rfl := of_some hF
     subst K
     exact at_return1 rfl rfl (fun w1 hw => ⟨rfl, hw⟩)
    ·refine at_cond_false rfl h8 ?_
     refine at_skip ?_
     refine at_blk_normal (at_then_normal ?_)
     refine at_region ?_
     refine av rfl (r_iadd rfl rfl) ?_
     refine av rfl (r_move rfl) ?_
     refine nwt [(0, _), (1, _), (7, _), (8, _)] ⟨rfl, rfl, rfl, rfl, trivial⟩ ?_
     exact at_weak_k (ih _ _ hF K) ⟨rfl, rfl, rfl, rfl, trivial⟩
   ·refine at_cond_false rfl h3 ?_
    refine at_exit ?_
    refine at_then_exit (at_then_exit ?_)
    obtain rfl := of_some hF
    exact at_weak_k K trivial
 ·cases q1 with
  | ret r' => exact of_some hF
  | nx sq1 =>
   skip
   refine at_blk_same ?_
   refine at_then_normal ?_
   refine sr ?_
   refine av rfl (r_assign rfl) ?_
   refine nwt [(4, _)] ⟨rfl, trivial⟩ ?_
   refine at_ret ?_
   have K := of_some hF
   subst K
   exact at_return1 rfl rfl (fun w1 hw => ⟨rfl, hw⟩)
def field_Word (x0 : ByteArray) : Option (Int) :=
  slices_Index_string (Vector.toList gval_field_names) x0 >>= fun t1 => some (if t1 < 0 then 0 else t1)
theorem field_Word_ok (x0 : ByteArray) (r : Int) (hF : field_Word x0 = some r) (w : World) (hg_field_names : GV_field_names w) :
    Calls Tryz.prog 16 #[.string x0] w (fun e w' => e = .returned (.int .i64 r) ∧ w' = w) := by
 unfold field_Word at hF
 refine calls_enter (l := [.string x0]) Tryz.func16 rfl rfl rfl ?_
 refine at_weak [(0, _)] ⟨rfl, trivial⟩ ?_
 refine sr ?_
 refine av rfl (r_assign rfl) ?_
 refine nws [(0, _)] ⟨rfl, trivial⟩ ?_
 refine av rfl (r_slice_vec gval_field_names Tryz.underlying75 Tryz.sizeOf9 rfl) ?_
 refine av rfl (r_move rfl) ?_
 obtain ⟨t1, ht1, hF⟩ := of_bindM hF
 refine at_call0w Tryz.func36 rfl (by kernel_rfl) rfl rfl (fun w hw => slices_Index_string_ok _ _ _ _ _ ht1 w (glob_row (hg_field_names.on (by subst hw; exact Below.refl _ _)) g_field_names)) ?_
 refine av rfl (r_max rfl rfl) ?_
 refine av rfl (r_assign rfl) ?_
 refine nwt [(2, _)] ⟨rfl, trivial⟩ ?_
 refine at_ret ?_
 have K := of_some hF
 subst K
 exact at_return1 rfl rfl (fun w1 hw => ⟨rfl, hw⟩)
def crawlwayref37_Word.l0 (x0 : ByteArray) (t1 : List ByteArray) (i5 : Int) : Option (Ctl (Int) (Unit)) :=
  if (decide (i5 ≤ 16)) = true then (if (0 : Int) ≤ i5 ∧ i5 < (t1.length : Int) then if (seq (lget t1 i5) x0) = true then (some (.ret i5)) else (crawlwayref37_Word.l0 x0 t1 (wr .i64 (i5 + 1))) else none) else (some (.nx ()))
  partial_fixpoint
def crawlwayref37_Word (x0 : ByteArray) : Option (Int) :=
  crawlwayref37_Names >>= fun t1 => crawlwayref37_Word.l0 x0 t1 1 >>= fun q4 => match q4 with | .ret r' => some r' | .nx sq4 => (some 0)
def field_counted_1 (x0 : ByteArray) (x1 : S_api_Field) (x2 : Int) (x3 : Int) : Option (Int × S_api_Field) :=
  decimal_Read x0 x2 >>= fun t1 => if (t1.2 == 0) = true then (if (decide (t1.1 < x3)) = true then (some (6, { x1 with f_N := t1.1 })) else (some (t1.2, { x1 with f_N := t1.1 }))) else (some (t1.2, { x1 with f_N := t1.1 }))
theorem field_counted_1_ok (x0 : ByteArray) (x1 : S_api_Field) (b1_ : Nat) (b2_ : Nat) (x2 : Int) (b3_ : Nat) (x3 : Int) (r : Int × S_api_Field) (hF : field_counted_1 x0 x1 x2 x3 = some r) (w : World) {w0 : World} {H_ G_ : List Ent} {f_ : Ent → List Ent} (hu_ : Upd H_ (cellsE b1_ (Cd.cs c_api_Field x1) 46) f_ G_) (hw_ : Wd w0 H_ w) (hc2 : ∀ (X_ : Ent) (w_ : World), Wd w0 (f_ X_) w_ → w_.cell? ⟨b2_, 0, none⟩ = some (.int .u64 x2)) (hc3 : ∀ (X_ : Ent) (w_ : World), Wd w0 (f_ X_) w_ → w_.cell? ⟨b3_, 0, none⟩ = some (.int .u64 x3)) (hg_strconv_ErrRange : GV_strconv_ErrRange w0) (hg_strconv_ErrSyntax : GV_strconv_ErrSyntax w0) :
    Calls Tryz.prog 110 #[.string x0, .pointer (some ⟨b1_, 0, none⟩), .pointer (some ⟨b2_, 0, none⟩), .pointer (some ⟨b3_, 0, none⟩)] w (fun e w' => e = .returned (.int .i64 r.1) ∧ Wd w0 (f_ (cellsE b1_ (Cd.cs c_api_Field r.2) 46)) w') := by
 unfold field_counted_1 at hF
 refine calls_enter (l := [.string x0, .pointer (some ⟨b1_, 0, none⟩), .pointer (some ⟨b2_, 0, none⟩), .pointer (some ⟨b3_, 0, none⟩)]) Tryz.func110 rfl rfl rfl ?_
 refine at_enter_ptr hu_ hw_ ?_
 refine at_weak [(0, _), (1, _), (2, _), (3, _)] ⟨rfl, rfl, rfl, rfl, trivial⟩ ?_
 refine sr ?_
 refine av rfl (r_assign rfl) ?_
 refine nws [(0, _), (1, _), (2, _), (3, _)] ⟨rfl, rfl, rfl, rfl, trivial⟩ ?_
 refine av rfl (r_move rfl) ?_
 refine av rfl (r_load_cell Tryz.isAgg31 rfl (fun w1 hw => hc2 _ _ hw)) ?_
 obtain ⟨t1, ht1, hF⟩ := of_bindM hF
 refine at_callB Tryz.func111 rfl (by kernel_rfl) rfl rfl (fun w hw => decimal_Read_ok _ _ _ ht1 w (hg_strconv_ErrRange.on hw.below) (hg_strconv_ErrSyntax.on hw.below)) ?_
 refine av rfl (r_move rfl) ?_
 refine av rfl (r_extract rfl rfl) ?_
 refine av rfl (r_extract rfl rfl) ?_
 refine av rfl (r_assign rfl) ?_
 refine av rfl (r_assign rfl) ?_
 refine nwt [(1, _), (3, _), (7, _), (8, _)] ⟨rfl, rfl, rfl, rfl, trivial⟩ ?_
 refine at_seq ?_
 refine sr ?_
 refine av rfl (r_move rfl) ?_
 refine av rfl (r_ieql rfl rfl) ?_
 refine av rfl (r_move rfl) ?_
 rcases of_ite hF with ⟨h2, hF⟩ | ⟨h2, hF⟩
 ·refine at_fix (g := 17) rfl h2 ?_
  refine at_guard_yes rfl rfl rfl ?_
  refine av rfl (r_move rfl) ?_
  refine at_guard_yes rfl rfl rfl ?_
  refine av rfl (r_load_cell Tryz.isAgg31 rfl (fun w1 hw => hc3 _ _ hw)) ?_
  refine at_guard_yes rfl rfl rfl ?_
  refine av rfl (r_ilss rfl rfl) ?_
  refine av rfl (r_pick rfl rfl rfl) ?_
  refine nwt [(1, _), (7, _), (8, _), (21, _)] ⟨rfl, rfl, rfl, rfl, trivial⟩ ?_
  rcases of_ite hF with ⟨h3, hF⟩ | ⟨h3, hF⟩
  ·refine at_cond_true rfl h3 ?_
   refine at_region ?_
   refine av rfl (r_assign rfl) ?_
   refine nws [(1, _), (7, _), (8, _)] ⟨rfl, rfl, rfl, trivial⟩ ?_
   refine av rfl (r_move rfl) ?_
   refine av rfl (r_move rfl) ?_
   refine av rfl (r_nilCheck rfl) ?_
   refine av rfl (r_fieldAddr (fo := 33) Tryz.underlying46 rfl rfl (fun w => ⟨_, Tryz.sizeOf31 w⟩) rfl) ?_
   refine at_store (c := (cInt .u64)) (z := t1.1) (Upd.again hu_ _) (Lens.comp (Lens.whole _ _) (fun z => { x1 with f_N := z }) (c_api_Field_f_N x1)) Tryz.sizeOf31 rfl rfl rfl ?_
   refine nws [(8, _)] ⟨rfl, trivial⟩ ?_
   refine av rfl (r_move rfl) ?_
   refine av rfl (r_assign rfl) ?_
   refine nwt [(6, _)] ⟨rfl, trivial⟩ ?_
   refine at_ret ?_
   have K := of_some hF
   subst K
   exact at_return1 rfl rfl (fun w1 hw => ⟨rfl, hw⟩)
  ·refine at_cond_false rfl h3 ?_
   refine sns ?_
   refine av rfl (r_move rfl) ?_
   refine av rfl (r_move rfl) ?_
   refine av rfl (r_nilCheck rfl) ?_
   refine av rfl (r_fieldAddr (fo := 33) Tryz.underlying46 rfl rfl (fun w => ⟨_, Tryz.sizeOf31 w⟩) rfl) ?_
   refine at_store (c := (cInt .u64)) (z := t1.1) (Upd.again hu_ _) (Lens.comp (Lens.whole _ _) (fun z => { x1 with f_N := z }) (c_api_Field_f_N x1)) Tryz.sizeOf31 rfl rfl rfl ?_
   refine nws [(8, _)] ⟨rfl, trivial⟩ ?_
   refine av rfl (r_move rfl) ?_
   refine av rfl (r_assign rfl) ?_
   refine nwt [(6, _)] ⟨rfl, trivial⟩ ?_
   refine at_ret ?_
   have K := of_some hF
   subst K
   exact at_return1 rfl rfl (fun w1 hw => ⟨rfl, hw⟩)
 ·refine at_fix (g := 17) rfl h2 ?_
  refine at_guard_no rfl rfl rfl rfl rfl ?_
  refine at_guard_no rfl rfl rfl rfl rfl ?_
  refine at_guard_no rfl rfl rfl rfl rfl ?_
  refine av rfl (r_pick rfl rfl rfl) ?_
  refine nwt [(1, _), (7, _), (8, _), (21, _)] ⟨rfl, rfl, rfl, rfl, trivial⟩ ?_
  refine at_cond_false rfl rfl ?_
  refine sns ?_
  refine av rfl (r_move rfl) ?_
  refine av rfl (r_move rfl) ?_
  refine av rfl (r_nilCheck rfl) ?_
  refine av rfl (r_fieldAddr (fo := 33) Tryz.underlying46 rfl rfl (fun w => ⟨_, Tryz.sizeOf31 w⟩) rfl) ?_
  refine at_store (c := (cInt .u64)) (z := t1.1) (Upd.again hu_ _) (Lens.comp (Lens.whole _ _) (fun z => { x1 with f_N := z }) (c_api_Field_f_N x1)) Tryz.sizeOf31 rfl rfl rfl ?_
  refine nws [(8, _)] ⟨rfl, trivial⟩ ?_
  refine av rfl (r_move rfl) ?_
  refine av rfl (r_assign rfl) ?_
  refine nwt [(6, _)] ⟨rfl, trivial⟩ ?_
  refine at_ret ?_
  have K := of_some hF
  subst K
  exact at_return1 rfl rfl (fun w1 hw => ⟨rfl, hw⟩)
inductive Sh_81 where
  | s0
  | s1
  | s2
  | s3 (a0 : Int) (a1 : Int)
  | s4
  deriving DecidableEq, Inhabited
def Sh_81.ok (r : Sh_81) (v : Value) (lo : Nat) (w : World) : Prop := match r with
  | .s0 => v = .agg #[.func (.func 93) #[] #[], .func (.func 95) #[] #[], .func (.func 97) #[] #[]]
  | .s1 => v = .agg #[.func (.func 98) #[] #[], .func (.func 100) #[] #[], .func (.func 103) #[] #[]]
  | .s2 => v = .agg #[.func (.func 104) #[] #[], .func (.func 106) #[] #[], .func (.func 109) #[] #[]]
  | .s3 a0 a1 => ∃ b0 b1, v = .agg #[.func (.func 110) #[] #[.pointer (some ⟨b0, 0, none⟩), .pointer (some ⟨b1, 0, none⟩)], .func (.func 112) #[] #[.pointer (some ⟨b1, 0, none⟩), .pointer (some ⟨b0, 0, none⟩)], .func (.func 114) #[] #[]] ∧ (cellsE b0 [.int .u64 a0] 31).ok w ∧ (cellsE b1 [.int .u64 a1] 31).ok w ∧ (lo ≤ b0 ∧ b0 < w.heap.size) ∧ (lo ≤ b1 ∧ b1 < w.heap.size) ∧ b0 ≠ b1
  | .s4 => v = .agg #[.func (.func 115) #[] #[], .func (.func 116) #[] #[], .func (.func 117) #[] #[]]
def field_shapeOf (x0 : Int) : Option (Sh_81) :=
  if (x0 == 1) = true then (some (Sh_81.s0)) else (if (x0 == 5) = true then (some (Sh_81.s0)) else (if (x0 == 8) = true then (some (Sh_81.s0)) else (if (x0 == 9) = true then (some (Sh_81.s1)) else (if (x0 == 12) = true then (some (Sh_81.s2)) else (if (x0 == 2) = true then (some (Sh_81.s3 65535 0)) else (if (x0 == 10) = true then (some (Sh_81.s3 65535 0)) else (if (x0 == 3) = true then (some (Sh_81.s3 4294967295 0)) else (if (x0 == 13) = true then (some (Sh_81.s3 1 1)) else (if (x0 == 14) = true then (some (Sh_81.s3 18446744073709551615 0)) else (if (x0 == 15) = true then (some (Sh_81.s3 18446744073709551615 0)) else (if (x0 == 16) = true then (some (Sh_81.s3 20 0)) else (some (Sh_81.s4)))))))))))))
set_option maxHeartbeats 3200000 in
theorem field_shapeOf_ok (x0 : Int) (r : Sh_81) (hF : field_shapeOf x0 = some r) (w : World) :
    Calls Tryz.prog 37 #[.int .i64 x0] w (fun e w' => ∃ v, e = .returned v ∧ Sh_81.ok r v w.heap.size w' ∧ Below w.heap.size w w') := by
 unfold field_shapeOf at hF
 refine calls_enter (l := [.int .i64 x0]) Tryz.func37 rfl rfl rfl ?_
 refine at_start ?_
 refine at_weak [(0, _)] ⟨rfl, trivial⟩ ?_
 refine sr ?_
 refine at_alloc (cs := [.nilFunc, .nilFunc, .nilFunc]) Tryz.zeroValue81 rfl rfl ?_
 intro b1
 refine nwt [(0, _), (2, _)] ⟨rfl, rfl, trivial⟩ ?_
 refine at_seq ?_
 refine sr ?_
 refine av rfl (r_move rfl) ?_
 refine nwt [(2, _), (3, _)] ⟨rfl, rfl, trivial⟩ ?_
 refine at_block ?_
 refine at_seq ?_
 refine sr ?_
 refine av rfl (r_ieql rfl rfl) ?_
 refine av rfl (r_assign rfl) ?_
 refine nwt [(2, _), (3, _), (4, _)] ⟨rfl, rfl, rfl, trivial⟩ ?_
 rcases of_ite hF with ⟨h2, hF⟩ | ⟨h2, hF⟩
 ·refine at_cond_true rfl h2 ?_
  refine at_fix (g := 4) rfl h2 ?_
  refine sn ?_
  refine at_cond_true rfl rfl ?_
  refine sr ?_
  refine at_callI Tryz.func62 rfl (by kernel_rfl) rfl rfl rfl rfl ?_
  refine at_weak [] trivial ?_
  refine sr ?_
  refine at_alloc (cs := [.nilFunc, .nilFunc, .nilFunc]) Tryz.zeroValue81 rfl rfl ?_
  intro b3
  refine nws [(0, _)] ⟨rfl, trivial⟩ ?_
  refine av rfl (r_build_struct (zs := [.nilFunc, .nilFunc, .nilFunc]) (cs := [.func (.func 93) #[] #[], .func (.func 95) #[] #[], .func (.func 97) #[] #[]]) Tryz.underlying81 Tryz.zeroValue81 rfl placesR_81 rfl rfl) ?_
  refine at_storeAll (k := 3) (cs := [.func (.func 93) #[] #[], .func (.func 95) #[] #[], .func (.func 97) #[] #[]]) .z (by decide) ⟨rfl, by simp [Value.oneCell']⟩ ⟨rfl, by simp [Value.oneCell']⟩ Tryz.sizeOf81 rfl rfl rfl ?_
  refine nwt [(0, _)] ⟨rfl, trivial⟩ ?_
  refine at_ret ?_
  refine at_resI1 rfl (res_cell (c := cK 3 (by decide)) (y := ⟨[.func (.func 93) #[] #[], .func (.func 95) #[] #[], .func (.func 97) #[] #[]], rfl, by simp [Value.oneCell']⟩) rfl .z (Lens.whole _ _) Tryz.isAgg81 Tryz.sizeOf81 (.inl rfl)) ?_
  refine at_storeAll (k := 3) (cs := [.func (.func 93) #[] #[], .func (.func 95) #[] #[], .func (.func 97) #[] #[]]) (.s .z) (by decide) ⟨rfl, by simp [Value.oneCell']⟩ ⟨rfl, by simp [Value.oneCell']⟩ Tryz.sizeOf81 rfl rfl rfl ?_
  refine at_nil ?_
  refine at_drop (H := _) .z ?_
  refine at_weak [(2, _)] ⟨rfl, trivial⟩ ?_
  refine at_then_normal ?_
  refine at_ret ?_
  refine at_blk_ret (at_then_ret ?_)
  have K := of_some hF
  subst K
  exact at_res1 rfl (res_cell (c := cK 3 (by decide)) (y := ⟨[.func (.func 93) #[] #[], .func (.func 95) #[] #[], .func (.func 97) #[] #[]], rfl, by simp [Value.oneCell']⟩) rfl .z (Lens.whole _ _) Tryz.isAgg81 Tryz.sizeOf81 (.inl rfl)) (fun w1 hw => ⟨_, rfl, rfl, hw.below⟩)
 ·refine at_cond_false rfl h2 ?_
  refine sr ?_
  refine av rfl (r_ieql rfl rfl) ?_
  refine av rfl (r_assign rfl) ?_
  refine nwt [(2, _), (3, _), (4, _)] ⟨rfl, rfl, rfl, trivial⟩ ?_
  rcases of_ite hF with ⟨h4, hF⟩ | ⟨h4, hF⟩
  ·refine at_cond_true rfl h4 ?_
   refine at_fix (g := 4) rfl h4 ?_
   refine sn ?_
   refine at_cond_true rfl rfl ?_
   refine sr ?_
   refine at_callI Tryz.func62 rfl (by kernel_rfl) rfl rfl rfl rfl ?_
   refine at_weak [] trivial ?_
   refine sr ?_
   refine at_alloc (cs := [.nilFunc, .nilFunc, .nilFunc]) Tryz.zeroValue81 rfl rfl ?_
   intro b5
   refine nws [(0, _)] ⟨rfl, trivial⟩ ?_
   refine av rfl (r_build_struct (zs := [.nilFunc, .nilFunc, .nilFunc]) (cs := [.func (.func 93) #[] #[], .func (.func 95) #[] #[], .func (.func 97) #[] #[]]) Tryz.underlying81 Tryz.zeroValue81 rfl placesR_81 rfl rfl) ?_
   refine at_storeAll (k := 3) (cs := [.func (.func 93) #[] #[], .func (.func 95) #[] #[], .func (.func 97) #[] #[]]) .z (by decide) ⟨rfl, by simp [Value.oneCell']⟩ ⟨rfl, by simp [Value.oneCell']⟩ Tryz.sizeOf81 rfl rfl rfl ?_
   refine nwt [(0, _)] ⟨rfl, trivial⟩ ?_
   refine at_ret ?_
   refine at_resI1 rfl (res_cell (c := cK 3 (by decide)) (y := ⟨[.func (.func 93) #[] #[], .func (.func 95) #[] #[], .func (.func 97) #[] #[]], rfl, by simp [Value.oneCell']⟩) rfl .z (Lens.whole _ _) Tryz.isAgg81 Tryz.sizeOf81 (.inl rfl)) ?_
   refine at_storeAll (k := 3) (cs := [.func (.func 93) #[] #[], .func (.func 95) #[] #[], .func (.func 97) #[] #[]]) (.s .z) (by decide) ⟨rfl, by simp [Value.oneCell']⟩ ⟨rfl, by simp [Value.oneCell']⟩ Tryz.sizeOf81 rfl rfl rfl ?_
   refine at_nil ?_
   refine at_drop (H := _) .z ?_
   refine at_weak [(2, _)] ⟨rfl, trivial⟩ ?_
   refine at_then_normal ?_
   refine at_ret ?_
   refine at_blk_ret (at_then_ret ?_)
   have K := of_some hF
   subst K
   exact at_res1 rfl (res_cell (c := cK 3 (by decide)) (y := ⟨[.func (.func 93) #[] #[], .func (.func 95) #[] #[], .func (.func 97) #[] #[]], rfl, by simp [Value.oneCell']⟩) rfl .z (Lens.whole _ _) Tryz.isAgg81 Tryz.sizeOf81 (.inl rfl)) (fun w1 hw => ⟨_, rfl, rfl, hw.below⟩)
  ·refine at_cond_false rfl h4 ?_
   refine at_region ?_
   refine av rfl (r_ieql rfl rfl) ?_
   refine av rfl (r_assign rfl) ?_
   refine nwt [(2, _), (3, _), (4, _)] ⟨rfl, rfl, rfl, trivial⟩ ?_
   rcases of_ite hF with ⟨h6, hF⟩ | ⟨h6, hF⟩
   ·refine at_cond_true rfl h6 ?_
    refine sr ?_
    refine at_callI Tryz.func62 rfl (by kernel_rfl) rfl rfl rfl rfl ?_
    refine at_weak [] trivial ?_
    refine sr ?_
    refine at_alloc (cs := [.nilFunc, .nilFunc, .nilFunc]) Tryz.zeroValue81 rfl rfl ?_
    intro b7
    refine nws [(0, _)] ⟨rfl, trivial⟩ ?_
    refine av rfl (r_build_struct (zs := [.nilFunc, .nilFunc, .nilFunc]) (cs := [.func (.func 93) #[] #[], .func (.func 95) #[] #[], .func (.func 97) #[] #[]]) Tryz.underlying81 Tryz.zeroValue81 rfl placesR_81 rfl rfl) ?_
    refine at_storeAll (k := 3) (cs := [.func (.func 93) #[] #[], .func (.func 95) #[] #[], .func (.func 97) #[] #[]]) .z (by decide) ⟨rfl, by simp [Value.oneCell']⟩ ⟨rfl, by simp [Value.oneCell']⟩ Tryz.sizeOf81 rfl rfl rfl ?_
    refine nwt [(0, _)] ⟨rfl, trivial⟩ ?_
    refine at_ret ?_
    refine at_resI1 rfl (res_cell (c := cK 3 (by decide)) (y := ⟨[.func (.func 93) #[] #[], .func (.func 95) #[] #[], .func (.func 97) #[] #[]], rfl, by simp [Value.oneCell']⟩) rfl .z (Lens.whole _ _) Tryz.isAgg81 Tryz.sizeOf81 (.inl rfl)) ?_
    refine at_storeAll (k := 3) (cs := [.func (.func 93) #[] #[], .func (.func 95) #[] #[], .func (.func 97) #[] #[]]) (.s .z) (by decide) ⟨rfl, by simp [Value.oneCell']⟩ ⟨rfl, by simp [Value.oneCell']⟩ Tryz.sizeOf81 rfl rfl rfl ?_
    refine at_nil ?_
    refine at_drop (H := _) .z ?_
    refine at_weak [(2, _)] ⟨rfl, trivial⟩ ?_
    refine at_then_normal ?_
    refine at_ret ?_
    refine at_blk_ret (at_then_ret ?_)
    have K := of_some hF
    subst K
    exact at_res1 rfl (res_cell (c := cK 3 (by decide)) (y := ⟨[.func (.func 93) #[] #[], .func (.func 95) #[] #[], .func (.func 97) #[] #[]], rfl, by simp [Value.oneCell']⟩) rfl .z (Lens.whole _ _) Tryz.isAgg81 Tryz.sizeOf81 (.inl rfl)) (fun w1 hw => ⟨_, rfl, rfl, hw.below⟩)
   ·refine at_cond_false rfl h6 ?_
    refine sr ?_
    refine av rfl (r_ieql rfl rfl) ?_
    refine av rfl (r_assign rfl) ?_
    refine nwt [(2, _), (3, _), (9, _)] ⟨rfl, rfl, rfl, trivial⟩ ?_
    rcases of_ite hF with ⟨h8, hF⟩ | ⟨h8, hF⟩
    ·refine at_cond_true rfl h8 ?_
     refine sr ?_
     refine at_callI Tryz.func63 rfl (by kernel_rfl) rfl rfl rfl rfl ?_
     refine at_weak [] trivial ?_
     refine sr ?_
     refine at_alloc (cs := [.nilFunc, .nilFunc, .nilFunc]) Tryz.zeroValue81 rfl rfl ?_
     intro b9
     refine nws [(0, _)] ⟨rfl, trivial⟩ ?_
     refine av rfl (r_build_struct (zs := [.nilFunc, .nilFunc, .nilFunc]) (cs := [.func (.func 98) #[] #[], .func (.func 100) #[] #[], .func (.func 103) #[] #[]]) Tryz.underlying81 Tryz.zeroValue81 rfl placesR_81 rfl rfl) ?_
     refine at_storeAll (k := 3) (cs := [.func (.func 98) #[] #[], .func (.func 100) #[] #[], .func (.func 103) #[] #[]]) .z (by decide) ⟨rfl, by simp [Value.oneCell']⟩ ⟨rfl, by simp [Value.oneCell']⟩ Tryz.sizeOf81 rfl rfl rfl ?_
     refine nwt [(0, _)] ⟨rfl, trivial⟩ ?_
     refine at_ret ?_
     refine at_resI1 rfl (res_cell (c := cK 3 (by decide)) (y := ⟨[.func (.func 98) #[] #[], .func (.func 100) #[] #[], .func (.func 103) #[] #[]], rfl, by simp [Value.oneCell']⟩) rfl .z (Lens.whole _ _) Tryz.isAgg81 Tryz.sizeOf81 (.inl rfl)) ?_
     refine at_storeAll (k := 3) (cs := [.func (.func 98) #[] #[], .func (.func 100) #[] #[], .func (.func 103) #[] #[]]) (.s .z) (by decide) ⟨rfl, by simp [Value.oneCell']⟩ ⟨rfl, by simp [Value.oneCell']⟩ Tryz.sizeOf81 rfl rfl rfl ?_
     refine at_nil ?_
     refine at_drop (H := _) .z ?_
     refine at_weak [(2, _)] ⟨rfl, trivial⟩ ?_
     refine at_then_normal ?_
     refine at_ret ?_
     refine at_blk_ret (at_then_ret ?_)
     have K := of_some hF
     subst K
     exact at_res1 rfl (res_cell (c := cK 3 (by decide)) (y := ⟨[.func (.func 98) #[] #[], .func (.func 100) #[] #[], .func (.func 103) #[] #[]], rfl, by simp [Value.oneCell']⟩) rfl .z (Lens.whole _ _) Tryz.isAgg81 Tryz.sizeOf81 (.inl rfl)) (fun w1 hw => ⟨_, rfl, rfl, hw.below⟩)
    ·refine at_cond_false rfl h8 ?_
     refine sr ?_
     refine av rfl (r_ieql rfl rfl) ?_
     refine av rfl (r_assign rfl) ?_
     refine nwt [(2, _), (3, _), (12, _)] ⟨rfl, rfl, rfl, trivial⟩ ?_
     rcases of_ite hF with ⟨h10, hF⟩ | ⟨h10, hF⟩
     ·refine at_cond_true rfl h10 ?_
      refine sr ?_
      refine at_callI Tryz.func64 rfl (by kernel_rfl) rfl rfl rfl rfl ?_
      refine at_weak [] trivial ?_
      refine sr ?_
      refine at_alloc (cs := [.nilFunc, .nilFunc, .nilFunc]) Tryz.zeroValue81 rfl rfl ?_
      intro b11
      refine nws [(0, _)] ⟨rfl, trivial⟩ ?_
      refine av rfl (r_build_struct (zs := [.nilFunc, .nilFunc, .nilFunc]) (cs := [.func (.func 104) #[] #[], .func (.func 106) #[] #[], .func (.func 109) #[] #[]]) Tryz.underlying81 Tryz.zeroValue81 rfl placesR_81 rfl rfl) ?_
      refine at_storeAll (k := 3) (cs := [.func (.func 104) #[] #[], .func (.func 106) #[] #[], .func (.func 109) #[] #[]]) .z (by decide) ⟨rfl, by simp [Value.oneCell']⟩ ⟨rfl, by simp [Value.oneCell']⟩ Tryz.sizeOf81 rfl rfl rfl ?_
      refine nwt [(0, _)] ⟨rfl, trivial⟩ ?_
      refine at_ret ?_
      refine at_resI1 rfl (res_cell (c := cK 3 (by decide)) (y := ⟨[.func (.func 104) #[] #[], .func (.func 106) #[] #[], .func (.func 109) #[] #[]], rfl, by simp [Value.oneCell']⟩) rfl .z (Lens.whole _ _) Tryz.isAgg81 Tryz.sizeOf81 (.inl rfl)) ?_
      refine at_storeAll (k := 3) (cs := [.func (.func 104) #[] #[], .func (.func 106) #[] #[], .func (.func 109) #[] #[]]) (.s .z) (by decide) ⟨rfl, by simp [Value.oneCell']⟩ ⟨rfl, by simp [Value.oneCell']⟩ Tryz.sizeOf81 rfl rfl rfl ?_
      refine at_nil ?_
      refine at_drop (H := _) .z ?_
      refine at_weak [(2, _)] ⟨rfl, trivial⟩ ?_
      refine at_then_normal ?_
      refine at_ret ?_
      refine at_blk_ret (at_then_ret ?_)
      have K := of_some hF
      subst K
      exact at_res1 rfl (res_cell (c := cK 3 (by decide)) (y := ⟨[.func (.func 104) #[] #[], .func (.func 106) #[] #[], .func (.func 109) #[] #[]], rfl, by simp [Value.oneCell']⟩) rfl .z (Lens.whole _ _) Tryz.isAgg81 Tryz.sizeOf81 (.inl rfl)) (fun w1 hw => ⟨_, rfl, rfl, hw.below⟩)
     ·refine at_cond_false rfl h10 ?_
      refine at_seq ?_
      refine sr ?_
      refine av rfl (r_ieql rfl rfl) ?_
      refine av rfl (r_assign rfl) ?_
      refine nwt [(2, _), (3, _), (15, _)] ⟨rfl, rfl, rfl, trivial⟩ ?_
      rcases of_ite hF with ⟨h12, hF⟩ | ⟨h12, hF⟩
      ·refine at_cond_true rfl h12 ?_
       refine at_fix (g := 15) rfl h12 ?_
       refine sn ?_
       refine at_cond_true rfl rfl ?_
       refine sr ?_
       refine at_callI Tryz.func65 rfl (by kernel_rfl) rfl rfl rfl rfl ?_
       refine at_weak [(0, _), (1, _)] ⟨rfl, rfl, trivial⟩ ?_
       refine sr ?_
       refine at_box (cs := Cd.cs (cInt .u64) 0) rfl rfl rfl ?_
       intro b13
       refine at_box (cs := Cd.cs (cInt .u64) 65535) rfl rfl rfl ?_
       intro b14
       refine at_alloc (cs := [.nilFunc, .nilFunc, .nilFunc]) Tryz.zeroValue81 rfl rfl ?_
       intro b15
       refine nws [(2, _), (3, _), (4, _)] ⟨rfl, rfl, rfl, trivial⟩ ?_
       refine av rfl (r_makeFunc rfl) ?_
       refine av rfl (r_makeFunc rfl) ?_
       refine av rfl (r_build_struct (zs := [.nilFunc, .nilFunc, .nilFunc]) (cs := [.func (.func 110) #[] #[.pointer (some ⟨b14, 0, none⟩), .pointer (some ⟨b13, 0, none⟩)], .func (.func 112) #[] #[.pointer (some ⟨b13, 0, none⟩), .pointer (some ⟨b14, 0, none⟩)], .func (.func 114) #[] #[]]) Tryz.underlying81 Tryz.zeroValue81 rfl placesR_81 rfl rfl) ?_
       refine at_storeAll (k := 3) (cs := [.func (.func 110) #[] #[.pointer (some ⟨b14, 0, none⟩), .pointer (some ⟨b13, 0, none⟩)], .func (.func 112) #[] #[.pointer (some ⟨b13, 0, none⟩), .pointer (some ⟨b14, 0, none⟩)], .func (.func 114) #[] #[]]) .z (by decide) ⟨rfl, by simp [Value.oneCell']⟩ ⟨rfl, by simp [Value.oneCell']⟩ Tryz.sizeOf81 rfl rfl rfl ?_
       refine nwt [(4, _)] ⟨rfl, trivial⟩ ?_
       refine at_ret ?_
       refine at_resI1 rfl (res_cell (c := cK 3 (by decide)) (y := ⟨[.func (.func 110) #[] #[.pointer (some ⟨b14, 0, none⟩), .pointer (some ⟨b13, 0, none⟩)], .func (.func 112) #[] #[.pointer (some ⟨b13, 0, none⟩), .pointer (some ⟨b14, 0, none⟩)], .func (.func 114) #[] #[]], rfl, by simp [Value.oneCell']⟩) rfl .z (Lens.whole _ _) Tryz.isAgg81 Tryz.sizeOf81 (.inl rfl)) ?_
       refine at_storeAll (k := 3) (cs := [.func (.func 110) #[] #[.pointer (some ⟨b14, 0, none⟩), .pointer (some ⟨b13, 0, none⟩)], .func (.func 112) #[] #[.pointer (some ⟨b13, 0, none⟩), .pointer (some ⟨b14, 0, none⟩)], .func (.func 114) #[] #[]]) (.s (.s (.s .z))) (by decide) ⟨rfl, by simp [Value.oneCell']⟩ ⟨rfl, by simp [Value.oneCell']⟩ Tryz.sizeOf81 rfl rfl rfl ?_
       refine at_nil ?_
       refine at_drop (H := _) .z ?_
       refine at_weak [(2, _)] ⟨rfl, trivial⟩ ?_
       refine at_then_normal ?_
       refine at_ret ?_
       refine at_blk_ret (at_then_ret ?_)
       have K := of_some hF
       subst K
       exact at_res1 rfl (res_cell (c := cK 3 (by decide)) (y := ⟨[.func (.func 110) #[] #[.pointer (some ⟨b14, 0, none⟩), .pointer (some ⟨b13, 0, none⟩)], .func (.func 112) #[] #[.pointer (some ⟨b13, 0, none⟩), .pointer (some ⟨b14, 0, none⟩)], .func (.func 114) #[] #[]], rfl, by simp [Value.oneCell']⟩) rfl (.s (.s .z)) (Lens.whole _ _) Tryz.isAgg81 Tryz.sizeOf81 (.inl rfl)) (fun w1 hw => ⟨_, rfl, ⟨b14, b13, rfl, hw.ok (Upd.mem .z), hw.ok (Upd.mem (.s .z)), hw.fp (Upd.mem .z) _ (by simp [cellsE]), hw.fp (Upd.mem (.s .z)) _ (by simp [cellsE]), fun e => Sep.apart .z hw.sep b14 (by simp [cellsE]) _ (Upd.mem .z) (by simp [cellsE, e])⟩, hw.below⟩)
      ·refine at_cond_false rfl h12 ?_
       refine at_region ?_
       refine av rfl (r_ieql rfl rfl) ?_
       refine av rfl (r_assign rfl) ?_
       refine nwt [(2, _), (3, _), (15, _)] ⟨rfl, rfl, rfl, trivial⟩ ?_
       rcases of_ite hF with ⟨h16, hF⟩ | ⟨h16, hF⟩
       ·refine at_cond_true rfl h16 ?_
        refine sr ?_
        refine at_callI Tryz.func65 rfl (by kernel_rfl) rfl rfl rfl rfl ?_
        refine at_weak [(0, _), (1, _)] ⟨rfl, rfl, trivial⟩ ?_
        refine sr ?_
        refine at_box (cs := Cd.cs (cInt .u64) 0) rfl rfl rfl ?_
        intro b17
        refine at_box (cs := Cd.cs (cInt .u64) 65535) rfl rfl rfl ?_
        intro b18
        refine at_alloc (cs := [.nilFunc, .nilFunc, .nilFunc]) Tryz.zeroValue81 rfl rfl ?_
        intro b19
        refine nws [(2, _), (3, _), (4, _)] ⟨rfl, rfl, rfl, trivial⟩ ?_
        refine av rfl (r_makeFunc rfl) ?_
        refine av rfl (r_makeFunc rfl) ?_
        refine av rfl (r_build_struct (zs := [.nilFunc, .nilFunc, .nilFunc]) (cs := [.func (.func 110) #[] #[.pointer (some ⟨b18, 0, none⟩), .pointer (some ⟨b17, 0, none⟩)], .func (.func 112) #[] #[.pointer (some ⟨b17, 0, none⟩), .pointer (some ⟨b18, 0, none⟩)], .func (.func 114) #[] #[]]) Tryz.underlying81 Tryz.zeroValue81 rfl placesR_81 rfl rfl) ?_
        refine at_storeAll (k := 3) (cs := [.func (.func 110) #[] #[.pointer (some ⟨b18, 0, none⟩), .pointer (some ⟨b17, 0, none⟩)], .func (.func 112) #[] #[.pointer (some ⟨b17, 0, none⟩), .pointer (some ⟨b18, 0, none⟩)], .func (.func 114) #[] #[]]) .z (by decide) ⟨rfl, by simp [Value.oneCell']⟩ ⟨rfl, by simp [Value.oneCell']⟩ Tryz.sizeOf81 rfl rfl rfl ?_
        refine nwt [(4, _)] ⟨rfl, trivial⟩ ?_
        refine at_ret ?_
        refine at_resI1 rfl (res_cell (c := cK 3 (by decide)) (y := ⟨[.func (.func 110) #[] #[.pointer (some ⟨b18, 0, none⟩), .pointer (some ⟨b17, 0, none⟩)], .func (.func 112) #[] #[.pointer (some ⟨b17, 0, none⟩), .pointer (some ⟨b18, 0, none⟩)], .func (.func 114) #[] #[]], rfl, by simp [Value.oneCell']⟩) rfl .z (Lens.whole _ _) Tryz.isAgg81 Tryz.sizeOf81 (.inl rfl)) ?_
        refine at_storeAll (k := 3) (cs := [.func (.func 110) #[] #[.pointer (some ⟨b18, 0, none⟩), .pointer (some ⟨b17, 0, none⟩)], .func (.func 112) #[] #[.pointer (some ⟨b17, 0, none⟩), .pointer (some ⟨b18, 0, none⟩)], .func (.func 114) #[] #[]]) (.s (.s (.s .z))) (by decide) ⟨rfl, by simp [Value.oneCell']⟩ ⟨rfl, by simp [Value.oneCell']⟩ Tryz.sizeOf81 rfl rfl rfl ?_
        refine at_nil ?_
        refine at_drop (H := _) .z ?_
        refine at_weak [(2, _)] ⟨rfl, trivial⟩ ?_
        refine at_then_normal ?_
        refine at_ret ?_
        refine at_blk_ret (at_then_ret ?_)
        have K := of_some hF
        subst K
        exact at_res1 rfl (res_cell (c := cK 3 (by decide)) (y := ⟨[.func (.func 110) #[] #[.pointer (some ⟨b18, 0, none⟩), .pointer (some ⟨b17, 0, none⟩)], .func (.func 112) #[] #[.pointer (some ⟨b17, 0, none⟩), .pointer (some ⟨b18, 0, none⟩)], .func (.func 114) #[] #[]], rfl, by simp [Value.oneCell']⟩) rfl (.s (.s .z)) (Lens.whole _ _) Tryz.isAgg81 Tryz.sizeOf81 (.inl rfl)) (fun w1 hw => ⟨_, rfl, ⟨b18, b17, rfl, hw.ok (Upd.mem .z), hw.ok (Upd.mem (.s .z)), hw.fp (Upd.mem .z) _ (by simp [cellsE]), hw.fp (Upd.mem (.s .z)) _ (by simp [cellsE]), fun e => Sep.apart .z hw.sep b18 (by simp [cellsE]) _ (Upd.mem .z) (by simp [cellsE, e])⟩, hw.below⟩)
       ·refine at_cond_false rfl h16 ?_
        refine sr ?_
        refine av rfl (r_ieql rfl rfl) ?_
        refine av rfl (r_assign rfl) ?_
        refine nwt [(2, _), (3, _), (19, _)] ⟨rfl, rfl, rfl, trivial⟩ ?_
        rcases of_ite hF with ⟨h20, hF⟩ | ⟨h20, hF⟩
        ·refine at_cond_true rfl h20 ?_
         refine sr ?_
         refine at_callI Tryz.func65 rfl (by kernel_rfl) rfl rfl rfl rfl ?_
         refine at_weak [(0, _), (1, _)] ⟨rfl, rfl, trivial⟩ ?_
         refine sr ?_
         refine at_box (cs := Cd.cs (cInt .u64) 0) rfl rfl rfl ?_
         intro b21
         refine at_box (cs := Cd.cs (cInt .u64) 4294967295) rfl rfl rfl ?_
         intro b22
         refine at_alloc (cs := [.nilFunc, .nilFunc, .nilFunc]) Tryz.zeroValue81 rfl rfl ?_
         intro b23
         refine nws [(2, _), (3, _), (4, _)] ⟨rfl, rfl, rfl, trivial⟩ ?_
         refine av rfl (r_makeFunc rfl) ?_
         refine av rfl (r_makeFunc rfl) ?_
         refine av rfl (r_build_struct (zs := [.nilFunc, .nilFunc, .nilFunc]) (cs := [.func (.func 110) #[] #[.pointer (some ⟨b22, 0, none⟩), .pointer (some ⟨b21, 0, none⟩)], .func (.func 112) #[] #[.pointer (some ⟨b21, 0, none⟩), .pointer (some ⟨b22, 0, none⟩)], .func (.func 114) #[] #[]]) Tryz.underlying81 Tryz.zeroValue81 rfl placesR_81 rfl rfl) ?_
         refine at_storeAll (k := 3) (cs := [.func (.func 110) #[] #[.pointer (some ⟨b22, 0, none⟩), .pointer (some ⟨b21, 0, none⟩)], .func (.func 112) #[] #[.pointer (some ⟨b21, 0, none⟩), .pointer (some ⟨b22, 0, none⟩)], .func (.func 114) #[] #[]]) .z (by decide) ⟨rfl, by simp [Value.oneCell']⟩ ⟨rfl, by simp [Value.oneCell']⟩ Tryz.sizeOf81 rfl rfl rfl ?_
         refine nwt [(4, _)] ⟨rfl, trivial⟩ ?_
         refine at_ret ?_
         refine at_resI1 rfl (res_cell (c := cK 3 (by decide)) (y := ⟨[.func (.func 110) #[] #[.pointer (some ⟨b22, 0, none⟩), .pointer (some ⟨b21, 0, none⟩)], .func (.func 112) #[] #[.pointer (some ⟨b21, 0, none⟩), .pointer (some ⟨b22, 0, none⟩)], .func (.func 114) #[] #[]], rfl, by simp [Value.oneCell']⟩) rfl .z (Lens.whole _ _) Tryz.isAgg81 Tryz.sizeOf81 (.inl rfl)) ?_
         refine at_storeAll (k := 3) (cs := [.func (.func 110) #[] #[.pointer (some ⟨b22, 0, none⟩), .pointer (some ⟨b21, 0, none⟩)], .func (.func 112) #[] #[.pointer (some ⟨b21, 0, none⟩), .pointer (some ⟨b22, 0, none⟩)], .func (.func 114) #[] #[]]) (.s (.s (.s .z))) (by decide) ⟨rfl, by simp [Value.oneCell']⟩ ⟨rfl, by simp [Value.oneCell']⟩ Tryz.sizeOf81 rfl rfl rfl ?_
         refine at_nil ?_
         refine at_drop (H := _) .z ?_
         refine at_weak [(2, _)] ⟨rfl, trivial⟩ ?_
         refine at_then_normal ?_
         refine at_ret ?_
         refine at_blk_ret (at_then_ret ?_)
         have K := of_some hF
         subst K
         exact at_res1 rfl (res_cell (c := cK 3 (by decide)) (y := ⟨[.func (.func 110) #[] #[.pointer (some ⟨b22, 0, none⟩), .pointer (some ⟨b21, 0, none⟩)], .func (.func 112) #[] #[.pointer (some ⟨b21, 0, none⟩), .pointer (some ⟨b22, 0, none⟩)], .func (.func 114) #[] #[]], rfl, by simp [Value.oneCell']⟩) rfl (.s (.s .z)) (Lens.whole _ _) Tryz.isAgg81 Tryz.sizeOf81 (.inl rfl)) (fun w1 hw => ⟨_, rfl, ⟨b22, b21, rfl, hw.ok (Upd.mem .z), hw.ok (Upd.mem (.s .z)), hw.fp (Upd.mem .z) _ (by simp [cellsE]), hw.fp (Upd.mem (.s .z)) _ (by simp [cellsE]), fun e => Sep.apart .z hw.sep b22 (by simp [cellsE]) _ (Upd.mem .z) (by simp [cellsE, e])⟩, hw.below⟩)
        ·refine at_cond_false rfl h20 ?_
         refine sr ?_
         refine av rfl (r_ieql rfl rfl) ?_
         refine av rfl (r_assign rfl) ?_
         refine nwt [(2, _), (3, _), (22, _)] ⟨rfl, rfl, rfl, trivial⟩ ?_
         rcases of_ite hF with ⟨h24, hF⟩ | ⟨h24, hF⟩
         ·refine at_cond_true rfl h24 ?_
          refine sr ?_
          refine at_callI Tryz.func65 rfl (by kernel_rfl) rfl rfl rfl rfl ?_
          refine at_weak [(0, _), (1, _)] ⟨rfl, rfl, trivial⟩ ?_
          refine sr ?_
          refine at_box (cs := Cd.cs (cInt .u64) 1) rfl rfl rfl ?_
          intro b25
          refine at_box (cs := Cd.cs (cInt .u64) 1) rfl rfl rfl ?_
          intro b26
          refine at_alloc (cs := [.nilFunc, .nilFunc, .nilFunc]) Tryz.zeroValue81 rfl rfl ?_
          intro b27
          refine nws [(2, _), (3, _), (4, _)] ⟨rfl, rfl, rfl, trivial⟩ ?_
          refine av rfl (r_makeFunc rfl) ?_
          refine av rfl (r_makeFunc rfl) ?_
          refine av rfl (r_build_struct (zs := [.nilFunc, .nilFunc, .nilFunc]) (cs := [.func (.func 110) #[] #[.pointer (some ⟨b26, 0, none⟩), .pointer (some ⟨b25, 0, none⟩)], .func (.func 112) #[] #[.pointer (some ⟨b25, 0, none⟩), .pointer (some ⟨b26, 0, none⟩)], .func (.func 114) #[] #[]]) Tryz.underlying81 Tryz.zeroValue81 rfl placesR_81 rfl rfl) ?_
          refine at_storeAll (k := 3) (cs := [.func (.func 110) #[] #[.pointer (some ⟨b26, 0, none⟩), .pointer (some ⟨b25, 0, none⟩)], .func (.func 112) #[] #[.pointer (some ⟨b25, 0, none⟩), .pointer (some ⟨b26, 0, none⟩)], .func (.func 114) #[] #[]]) .z (by decide) ⟨rfl, by simp [Value.oneCell']⟩ ⟨rfl, by simp [Value.oneCell']⟩ Tryz.sizeOf81 rfl rfl rfl ?_
          refine nwt [(4, _)] ⟨rfl, trivial⟩ ?_
          refine at_ret ?_
          refine at_resI1 rfl (res_cell (c := cK 3 (by decide)) (y := ⟨[.func (.func 110) #[] #[.pointer (some ⟨b26, 0, none⟩), .pointer (some ⟨b25, 0, none⟩)], .func (.func 112) #[] #[.pointer (some ⟨b25, 0, none⟩), .pointer (some ⟨b26, 0, none⟩)], .func (.func 114) #[] #[]], rfl, by simp [Value.oneCell']⟩) rfl .z (Lens.whole _ _) Tryz.isAgg81 Tryz.sizeOf81 (.inl rfl)) ?_
          refine at_storeAll (k := 3) (cs := [.func (.func 110) #[] #[.pointer (some ⟨b26, 0, none⟩), .pointer (some ⟨b25, 0, none⟩)], .func (.func 112) #[] #[.pointer (some ⟨b25, 0, none⟩), .pointer (some ⟨b26, 0, none⟩)], .func (.func 114) #[] #[]]) (.s (.s (.s .z))) (by decide) ⟨rfl, by simp [Value.oneCell']⟩ ⟨rfl, by simp [Value.oneCell']⟩ Tryz.sizeOf81 rfl rfl rfl ?_
          refine at_nil ?_
          refine at_drop (H := _) .z ?_
          refine at_weak [(2, _)] ⟨rfl, trivial⟩ ?_
          refine at_then_normal ?_
          refine at_ret ?_
          refine at_blk_ret (at_then_ret ?_)
          have K := of_some hF
          subst K
          exact at_res1 rfl (res_cell (c := cK 3 (by decide)) (y := ⟨[.func (.func 110) #[] #[.pointer (some ⟨b26, 0, none⟩), .pointer (some ⟨b25, 0, none⟩)], .func (.func 112) #[] #[.pointer (some ⟨b25, 0, none⟩), .pointer (some ⟨b26, 0, none⟩)], .func (.func 114) #[] #[]], rfl, by simp [Value.oneCell']⟩) rfl (.s (.s .z)) (Lens.whole _ _) Tryz.isAgg81 Tryz.sizeOf81 (.inl rfl)) (fun w1 hw => ⟨_, rfl, ⟨b26, b25, rfl, hw.ok (Upd.mem .z), hw.ok (Upd.mem (.s .z)), hw.fp (Upd.mem .z) _ (by simp [cellsE]), hw.fp (Upd.mem (.s .z)) _ (by simp [cellsE]), fun e => Sep.apart .z hw.sep b26 (by simp [cellsE]) _ (Upd.mem .z) (by simp [cellsE, e])⟩, hw.below⟩)
         ·refine at_cond_false rfl h24 ?_
          refine at_seq ?_
          refine sr ?_
          refine av rfl (r_ieql rfl rfl) ?_
          refine av rfl (r_assign rfl) ?_
          refine nwt [(2, _), (3, _), (25, _)] ⟨rfl, rfl, rfl, trivial⟩ ?_
          rcases of_ite hF with ⟨h28, hF⟩ | ⟨h28, hF⟩
          ·refine at_cond_true rfl h28 ?_
           refine at_fix (g := 25) rfl h28 ?_
           refine sn ?_
           refine at_cond_true rfl rfl ?_
           refine sr ?_
           refine at_callI Tryz.func65 rfl (by kernel_rfl) rfl rfl rfl rfl ?_
           refine at_weak [(0, _), (1, _)] ⟨rfl, rfl, trivial⟩ ?_
           refine sr ?_
           refine at_box (cs := Cd.cs (cInt .u64) 0) rfl rfl rfl ?_
           intro b29
           refine at_box (cs := Cd.cs (cInt .u64) 18446744073709551615) rfl rfl rfl ?_
           intro b30
           refine at_alloc (cs := [.nilFunc, .nilFunc, .nilFunc]) Tryz.zeroValue81 rfl rfl ?_
           intro b31
           refine nws [(2, _), (3, _), (4, _)] ⟨rfl, rfl, rfl, trivial⟩ ?_
           refine av rfl (r_makeFunc rfl) ?_
           refine av rfl (r_makeFunc rfl) ?_
           refine av rfl (r_build_struct (zs := [.nilFunc, .nilFunc, .nilFunc]) (cs := [.func (.func 110) #[] #[.pointer (some ⟨b30, 0, none⟩), .pointer (some ⟨b29, 0, none⟩)], .func (.func 112) #[] #[.pointer (some ⟨b29, 0, none⟩), .pointer (some ⟨b30, 0, none⟩)], .func (.func 114) #[] #[]]) Tryz.underlying81 Tryz.zeroValue81 rfl placesR_81 rfl rfl) ?_
           refine at_storeAll (k := 3) (cs := [.func (.func 110) #[] #[.pointer (some ⟨b30, 0, none⟩), .pointer (some ⟨b29, 0, none⟩)], .func (.func 112) #[] #[.pointer (some ⟨b29, 0, none⟩), .pointer (some ⟨b30, 0, none⟩)], .func (.func 114) #[] #[]]) .z (by decide) ⟨rfl, by simp [Value.oneCell']⟩ ⟨rfl, by simp [Value.oneCell']⟩ Tryz.sizeOf81 rfl rfl rfl ?_
           refine nwt [(4, _)] ⟨rfl, trivial⟩ ?_
           refine at_ret ?_
           refine at_resI1 rfl (res_cell (c := cK 3 (by decide)) (y := ⟨[.func (.func 110) #[] #[.pointer (some ⟨b30, 0, none⟩), .pointer (some ⟨b29, 0, none⟩)], .func (.func 112) #[] #[.pointer (some ⟨b29, 0, none⟩), .pointer (some ⟨b30, 0, none⟩)], .func (.func 114) #[] #[]], rfl, by simp [Value.oneCell']⟩) rfl .z (Lens.whole _ _) Tryz.isAgg81 Tryz.sizeOf81 (.inl rfl)) ?_
           refine at_storeAll (k := 3) (cs := [.func (.func 110) #[] #[.pointer (some ⟨b30, 0, none⟩), .pointer (some ⟨b29, 0, none⟩)], .func (.func 112) #[] #[.pointer (some ⟨b29, 0, none⟩), .pointer (some ⟨b30, 0, none⟩)], .func (.func 114) #[] #[]]) (.s (.s (.s .z))) (by decide) ⟨rfl, by simp [Value.oneCell']⟩ ⟨rfl, by simp [Value.oneCell']⟩ Tryz.sizeOf81 rfl rfl rfl ?_
           refine at_nil ?_
           refine at_drop (H := _) .z ?_
           refine at_weak [(2, _)] ⟨rfl, trivial⟩ ?_
           refine at_then_normal ?_
           refine at_ret ?_
           refine at_blk_ret (at_then_ret ?_)
           have K := of_some hF
           subst K
           exact at_res1 rfl (res_cell (c := cK 3 (by decide)) (y := ⟨[.func (.func 110) #[] #[.pointer (some ⟨b30, 0, none⟩), .pointer (some ⟨b29, 0, none⟩)], .func (.func 112) #[] #[.pointer (some ⟨b29, 0, none⟩), .pointer (some ⟨b30, 0, none⟩)], .func (.func 114) #[] #[]], rfl, by simp [Value.oneCell']⟩) rfl (.s (.s .z)) (Lens.whole _ _) Tryz.isAgg81 Tryz.sizeOf81 (.inl rfl)) (fun w1 hw => ⟨_, rfl, ⟨b30, b29, rfl, hw.ok (Upd.mem .z), hw.ok (Upd.mem (.s .z)), hw.fp (Upd.mem .z) _ (by simp [cellsE]), hw.fp (Upd.mem (.s .z)) _ (by simp [cellsE]), fun e => Sep.apart .z hw.sep b30 (by simp [cellsE]) _ (Upd.mem .z) (by simp [cellsE, e])⟩, hw.below⟩)
          ·refine at_cond_false rfl h28 ?_
           refine at_region ?_
           refine av rfl (r_ieql rfl rfl) ?_
           refine av rfl (r_assign rfl) ?_
           refine nwt [(2, _), (3, _), (25, _)] ⟨rfl, rfl, rfl, trivial⟩ ?_
           rcases of_ite hF with ⟨h32, hF⟩ | ⟨h32, hF⟩
           ·refine at_cond_true rfl h32 ?_
            refine sr ?_
            refine at_callI Tryz.func65 rfl (by kernel_rfl) rfl rfl rfl rfl ?_
            refine at_weak [(0, _), (1, _)] ⟨rfl, rfl, trivial⟩ ?_
            refine sr ?_
            refine at_box (cs := Cd.cs (cInt .u64) 0) rfl rfl rfl ?_
            intro b33
            refine at_box (cs := Cd.cs (cInt .u64) 18446744073709551615) rfl rfl rfl ?_
            intro b34
            refine at_alloc (cs := [.nilFunc, .nilFunc, .nilFunc]) Tryz.zeroValue81 rfl rfl ?_
            intro b35
            refine nws [(2, _), (3, _), (4, _)] ⟨rfl, rfl, rfl, trivial⟩ ?_
            refine av rfl (r_makeFunc rfl) ?_
            refine av rfl (r_makeFunc rfl) ?_
            refine av rfl (r_build_struct (zs := [.nilFunc, .nilFunc, .nilFunc]) (cs := [.func (.func 110) #[] #[.pointer (some ⟨b34, 0, none⟩), .pointer (some ⟨b33, 0, none⟩)], .func (.func 112) #[] #[.pointer (some ⟨b33, 0, none⟩), .pointer (some ⟨b34, 0, none⟩)], .func (.func 114) #[] #[]]) Tryz.underlying81 Tryz.zeroValue81 rfl placesR_81 rfl rfl) ?_
            refine at_storeAll (k := 3) (cs := [.func (.func 110) #[] #[.pointer (some ⟨b34, 0, none⟩), .pointer (some ⟨b33, 0, none⟩)], .func (.func 112) #[] #[.pointer (some ⟨b33, 0, none⟩), .pointer (some ⟨b34, 0, none⟩)], .func (.func 114) #[] #[]]) .z (by decide) ⟨rfl, by simp [Value.oneCell']⟩ ⟨rfl, by simp [Value.oneCell']⟩ Tryz.sizeOf81 rfl rfl rfl ?_
            refine nwt [(4, _)] ⟨rfl, trivial⟩ ?_
            refine at_ret ?_
            refine at_resI1 rfl (res_cell (c := cK 3 (by decide)) (y := ⟨[.func (.func 110) #[] #[.pointer (some ⟨b34, 0, none⟩), .pointer (some ⟨b33, 0, none⟩)], .func (.func 112) #[] #[.pointer (some ⟨b33, 0, none⟩), .pointer (some ⟨b34, 0, none⟩)], .func (.func 114) #[] #[]], rfl, by simp [Value.oneCell']⟩) rfl .z (Lens.whole _ _) Tryz.isAgg81 Tryz.sizeOf81 (.inl rfl)) ?_
            refine at_storeAll (k := 3) (cs := [.func (.func 110) #[] #[.pointer (some ⟨b34, 0, none⟩), .pointer (some ⟨b33, 0, none⟩)], .func (.func 112) #[] #[.pointer (some ⟨b33, 0, none⟩), .pointer (some ⟨b34, 0, none⟩)], .func (.func 114) #[] #[]]) (.s (.s (.s .z))) (by decide) ⟨rfl, by simp [Value.oneCell']⟩ ⟨rfl, by simp [Value.oneCell']⟩ Tryz.sizeOf81 rfl rfl rfl ?_
            refine at_nil ?_
            refine at_drop (H := _) .z ?_
            refine at_weak [(2, _)] ⟨rfl, trivial⟩ ?_
            refine at_then_normal ?_
            refine at_ret ?_
            refine at_blk_ret (at_then_ret ?_)
            have K := of_some hF
            subst K
            exact at_res1 rfl (res_cell (c := cK 3 (by decide)) (y := ⟨[.func (.func 110) #[] #[.pointer (some ⟨b34, 0, none⟩), .pointer (some ⟨b33, 0, none⟩)], .func (.func 112) #[] #[.pointer (some ⟨b33, 0, none⟩), .pointer (some ⟨b34, 0, none⟩)], .func (.func 114) #[] #[]], rfl, by simp [Value.oneCell']⟩) rfl (.s (.s .z)) (Lens.whole _ _) Tryz.isAgg81 Tryz.sizeOf81 (.inl rfl)) (fun w1 hw => ⟨_, rfl, ⟨b34, b33, rfl, hw.ok (Upd.mem .z), hw.ok (Upd.mem (.s .z)), hw.fp (Upd.mem .z) _ (by simp [cellsE]), hw.fp (Upd.mem (.s .z)) _ (by simp [cellsE]), fun e => Sep.apart .z hw.sep b34 (by simp [cellsE]) _ (Upd.mem .z) (by simp [cellsE, e])⟩, hw.below⟩)
           ·refine at_cond_false rfl h32 ?_
            refine sr ?_
            refine av rfl (r_ieql rfl rfl) ?_
            refine av rfl (r_assign rfl) ?_
            refine nwt [(2, _), (29, _)] ⟨rfl, rfl, trivial⟩ ?_
            rcases of_ite hF with ⟨h36, hF⟩ | ⟨h36, hF⟩
            ·refine at_cond_true rfl h36 ?_
             refine sr ?_
             refine at_callI Tryz.func65 rfl (by kernel_rfl) rfl rfl rfl rfl ?_
             refine at_weak [(0, _), (1, _)] ⟨rfl, rfl, trivial⟩ ?_
             refine sr ?_
             refine at_box (cs := Cd.cs (cInt .u64) 0) rfl rfl rfl ?_
             intro b37
             refine at_box (cs := Cd.cs (cInt .u64) 20) rfl rfl rfl ?_
             intro b38
             refine at_alloc (cs := [.nilFunc, .nilFunc, .nilFunc]) Tryz.zeroValue81 rfl rfl ?_
             intro b39
             refine nws [(2, _), (3, _), (4, _)] ⟨rfl, rfl, rfl, trivial⟩ ?_
             refine av rfl (r_makeFunc rfl) ?_
             refine av rfl (r_makeFunc rfl) ?_
             refine av rfl (r_build_struct (zs := [.nilFunc, .nilFunc, .nilFunc]) (cs := [.func (.func 110) #[] #[.pointer (some ⟨b38, 0, none⟩), .pointer (some ⟨b37, 0, none⟩)], .func (.func 112) #[] #[.pointer (some ⟨b37, 0, none⟩), .pointer (some ⟨b38, 0, none⟩)], .func (.func 114) #[] #[]]) Tryz.underlying81 Tryz.zeroValue81 rfl placesR_81 rfl rfl) ?_
             refine at_storeAll (k := 3) (cs := [.func (.func 110) #[] #[.pointer (some ⟨b38, 0, none⟩), .pointer (some ⟨b37, 0, none⟩)], .func (.func 112) #[] #[.pointer (some ⟨b37, 0, none⟩), .pointer (some ⟨b38, 0, none⟩)], .func (.func 114) #[] #[]]) .z (by decide) ⟨rfl, by simp [Value.oneCell']⟩ ⟨rfl, by simp [Value.oneCell']⟩ Tryz.sizeOf81 rfl rfl rfl ?_
             refine nwt [(4, _)] ⟨rfl, trivial⟩ ?_
             refine at_ret ?_
             refine at_resI1 rfl (res_cell (c := cK 3 (by decide)) (y := ⟨[.func (.func 110) #[] #[.pointer (some ⟨b38, 0, none⟩), .pointer (some ⟨b37, 0, none⟩)], .func (.func 112) #[] #[.pointer (some ⟨b37, 0, none⟩), .pointer (some ⟨b38, 0, none⟩)], .func (.func 114) #[] #[]], rfl, by simp [Value.oneCell']⟩) rfl .z (Lens.whole _ _) Tryz.isAgg81 Tryz.sizeOf81 (.inl rfl)) ?_
             refine at_storeAll (k := 3) (cs := [.func (.func 110) #[] #[.pointer (some ⟨b38, 0, none⟩), .pointer (some ⟨b37, 0, none⟩)], .func (.func 112) #[] #[.pointer (some ⟨b37, 0, none⟩), .pointer (some ⟨b38, 0, none⟩)], .func (.func 114) #[] #[]]) (.s (.s (.s .z))) (by decide) ⟨rfl, by simp [Value.oneCell']⟩ ⟨rfl, by simp [Value.oneCell']⟩ Tryz.sizeOf81 rfl rfl rfl ?_
             refine at_nil ?_
             refine at_drop (H := _) .z ?_
             refine at_weak [(2, _)] ⟨rfl, trivial⟩ ?_
             refine at_then_normal ?_
             refine at_ret ?_
             refine at_blk_ret (at_then_ret ?_)
             have K := of_some hF
             subst K
             exact at_res1 rfl (res_cell (c := cK 3 (by decide)) (y := ⟨[.func (.func 110) #[] #[.pointer (some ⟨b38, 0, none⟩), .pointer (some ⟨b37, 0, none⟩)], .func (.func 112) #[] #[.pointer (some ⟨b37, 0, none⟩), .pointer (some ⟨b38, 0, none⟩)], .func (.func 114) #[] #[]], rfl, by simp [Value.oneCell']⟩) rfl (.s (.s .z)) (Lens.whole _ _) Tryz.isAgg81 Tryz.sizeOf81 (.inl rfl)) (fun w1 hw => ⟨_, rfl, ⟨b38, b37, rfl, hw.ok (Upd.mem .z), hw.ok (Upd.mem (.s .z)), hw.fp (Upd.mem .z) _ (by simp [cellsE]), hw.fp (Upd.mem (.s .z)) _ (by simp [cellsE]), fun e => Sep.apart .z hw.sep b38 (by simp [cellsE]) _ (Upd.mem .z) (by simp [cellsE, e])⟩, hw.below⟩)
            ·refine at_cond_false rfl h36 ?_
             refine at_skip ?_
             refine at_blk_normal (at_then_normal ?_)
             refine sr ?_
             refine at_callI Tryz.func66 rfl (by kernel_rfl) rfl rfl rfl rfl ?_
             refine at_weak [] trivial ?_
             refine sr ?_
             refine at_alloc (cs := [.nilFunc, .nilFunc, .nilFunc]) Tryz.zeroValue81 rfl rfl ?_
             intro b40
             refine nws [(0, _)] ⟨rfl, trivial⟩ ?_
             refine av rfl (r_build_struct (zs := [.nilFunc, .nilFunc, .nilFunc]) (cs := [.func (.func 115) #[] #[], .func (.func 116) #[] #[], .func (.func 117) #[] #[]]) Tryz.underlying81 Tryz.zeroValue81 rfl placesR_81 rfl rfl) ?_
             refine at_storeAll (k := 3) (cs := [.func (.func 115) #[] #[], .func (.func 116) #[] #[], .func (.func 117) #[] #[]]) .z (by decide) ⟨rfl, by simp [Value.oneCell']⟩ ⟨rfl, by simp [Value.oneCell']⟩ Tryz.sizeOf81 rfl rfl rfl ?_
             refine nwt [(0, _)] ⟨rfl, trivial⟩ ?_
             refine at_ret ?_
             refine at_resI1 rfl (res_cell (c := cK 3 (by decide)) (y := ⟨[.func (.func 115) #[] #[], .func (.func 116) #[] #[], .func (.func 117) #[] #[]], rfl, by simp [Value.oneCell']⟩) rfl .z (Lens.whole _ _) Tryz.isAgg81 Tryz.sizeOf81 (.inl rfl)) ?_
             refine at_storeAll (k := 3) (cs := [.func (.func 115) #[] #[], .func (.func 116) #[] #[], .func (.func 117) #[] #[]]) (.s .z) (by decide) ⟨rfl, by simp [Value.oneCell']⟩ ⟨rfl, by simp [Value.oneCell']⟩ Tryz.sizeOf81 rfl rfl rfl ?_
             refine at_nil ?_
             refine at_drop (H := _) .z ?_
             refine at_weak [(2, _)] ⟨rfl, trivial⟩ ?_
             refine at_then_normal ?_
             refine at_ret ?_
             have K := of_some hF
             subst K
             exact at_res1 rfl (res_cell (c := cK 3 (by decide)) (y := ⟨[.func (.func 115) #[] #[], .func (.func 116) #[] #[], .func (.func 117) #[] #[]], rfl, by simp [Value.oneCell']⟩) rfl .z (Lens.whole _ _) Tryz.isAgg81 Tryz.sizeOf81 (.inl rfl)) (fun w1 hw => ⟨_, rfl, rfl, hw.below⟩)
end Go.Proofs.YtkkmmpofdcccmaaGreatDoor
namespace Go.Proofs.YtkkmmpofdcccmaaGreatDoor
open E Go.RowKit
abbrev zqGC_0 : S_api_Endpoint := ({ f_A := ({ f_V := (0 : Int), f_B := (Vector.replicate 16 (0 : Int) : (Vector Int 16)) } : S_api_Addr), f_Port := (0 : Int) } : S_api_Endpoint)
abbrev zqGC_1 : S_api_Prefix := ({ f_A := ({ f_V := (0 : Int), f_B := (Vector.replicate 16 (0 : Int) : (Vector Int 16)) } : S_api_Addr), f_Bits := (0 : Int) } : S_api_Prefix)
def field_keyed_1 (x0 : ByteArray) (x1 : S_api_Field) : Option (Int × S_api_Field) :=
  keys_ParseHex x0 >>= fun t1 => some (t1.2, { x1 with f_Key := t1.1 })
theorem field_keyed_1_ok (x0 : ByteArray) (x1 : S_api_Field) (b1_ : Nat) (r : Int × S_api_Field) (hF : field_keyed_1 x0 x1 = some r) (w : World) {w0 : World} {H_ G_ : List Ent} {f_ : Ent → List Ent} (hu_ : Upd H_ (cellsE b1_ (Cd.cs c_api_Field x1) 46) f_ G_) (hw_ : Wd w0 H_ w) :
    Calls Tryz.prog 93 #[.string x0, .pointer (some ⟨b1_, 0, none⟩)] w (fun e w' => e = .returned (.int .i64 r.1) ∧ Wd w0 (f_ (cellsE b1_ (Cd.cs c_api_Field r.2) 46)) w') := by
 unfold field_keyed_1 at hF
 refine calls_enter (l := [.string x0, .pointer (some ⟨b1_, 0, none⟩)]) Tryz.func93 rfl rfl rfl ?_
 refine at_enter_ptr hu_ hw_ ?_
 refine at_weak [(0, _), (1, _)] ⟨rfl, rfl, trivial⟩ ?_
 refine sr ?_
 refine av rfl (r_assign rfl) ?_
 refine nws [(0, _), (1, _)] ⟨rfl, rfl, trivial⟩ ?_
 refine av rfl (r_move rfl) ?_
 refine av rfl (r_move rfl) ?_
 obtain ⟨t1, ht1, hF⟩ := of_bindM hF
 refine at_callB Tryz.func94 rfl (by kernel_rfl) rfl rfl (fun w hw => keys_ParseHex_ok _ _ ht1 w) ?_
 refine av rfl (r_move rfl) ?_
 refine av rfl (r_extract rfl rfl) ?_
 refine av rfl (r_extract rfl rfl) ?_
 refine av rfl (r_nilCheck rfl) ?_
 refine av rfl (r_fieldAddr (fo := 1) Tryz.underlying46 rfl rfl (fun w => ⟨_, Tryz.sizeOf29 w⟩) rfl) ?_
 refine at_store (c := (cVec (cInt .u8) 32 (by decide))) (z := t1.1) (Upd.again hu_ _) (Lens.comp (Lens.whole _ _) (fun z => { x1 with f_Key := z }) (c_api_Field_f_Key x1)) Tryz.sizeOf29 rfl rfl rfl ?_
 refine av rfl (r_assign rfl) ?_
 refine nws [(4, _)] ⟨rfl, trivial⟩ ?_
 refine av rfl (r_move rfl) ?_
 refine av rfl (r_assign rfl) ?_
 refine nwt [(4, _)] ⟨rfl, trivial⟩ ?_
 refine at_ret ?_
 have K := of_some hF
 subst K
 exact at_return1 rfl rfl (fun w1 hw => ⟨rfl, hw⟩)
def field_keyed_2 (x0 : S_api_Field) : Option (ByteArray × Bool) :=
  keys_Hex x0.f_Key >>= fun t2 => some (t2, true)
theorem field_keyed_2_ok (x0 : S_api_Field) (r : ByteArray × Bool) (hF : field_keyed_2 x0 = some r) (w : World) :
    Calls Tryz.prog 95 #[.agg (Cd.cs c_api_Field x0).toArray] w (fun e w' => e = .returned (.tuple #[.string r.1, .bool r.2]) ∧ Below w.heap.size w w') := by
 unfold field_keyed_2 at hF
 refine calls_enter (l := [.agg (Cd.cs c_api_Field x0).toArray]) Tryz.func95 rfl rfl rfl ?_
 refine at_start ?_
 refine at_weak [(0, _)] ⟨rfl, trivial⟩ ?_
 refine sr ?_
 refine at_box (cs := Cd.cs c_api_Field x0) rfl rfl rfl ?_
 intro b1
 refine av rfl (r_assign rfl) ?_
 refine av rfl (r_assign rfl) ?_
 refine nws [(1, _)] ⟨rfl, trivial⟩ ?_
 refine av rfl (r_fieldAddr (fo := 1) Tryz.underlying46 rfl rfl (fun w => ⟨_, Tryz.sizeOf29 w⟩) rfl) ?_
 refine av rfl (r_load_aggc (c := (cVec (cInt .u8) 32 (by decide))) (z := x0.f_Key) Tryz.isAgg29 Tryz.sizeOf29 rfl (lens_cell .z (Lens.comp (Lens.whole _ _) (fun z => { x0 with f_Key := z }) (c_api_Field_f_Key x0)))) ?_
 obtain ⟨t2, ht2, hF⟩ := of_bindM hF
 refine at_callB Tryz.func96 rfl (by kernel_rfl) rfl rfl (fun w hw => keys_Hex_ok _ _ ht2 w) ?_
 refine av rfl (r_assign rfl) ?_
 refine av rfl (r_assign rfl) ?_
 refine at_nil ?_
 refine at_drop (H := _) .z ?_
 refine at_weak [(2, _), (3, _)] ⟨rfl, rfl, trivial⟩ ?_
 refine at_then_normal ?_
 refine at_ret ?_
 have K := of_some hF
 subst K
 exact at_return2 rfl rfl rfl (fun w1 hw => ⟨rfl, hw.below⟩)
def field_keyed_3 (x0 : S_api_Field) : Option (S_api_Field) :=
  some ({ x0 with f_Key := (Vector.replicate 32 (0 : Int) : (Vector Int 32)) })
theorem field_keyed_3_ok (x0 : S_api_Field) (r : S_api_Field) (hF : field_keyed_3 x0 = some r) (w : World) :
    Calls Tryz.prog 97 #[.agg (Cd.cs c_api_Field x0).toArray] w (fun e w' => e = .returned (.agg (Cd.cs c_api_Field r).toArray) ∧ Below w.heap.size w w') := by
 unfold field_keyed_3 at hF
 refine calls_enter (l := [.agg (Cd.cs c_api_Field x0).toArray]) Tryz.func97 rfl rfl rfl ?_
 refine at_start ?_
 refine at_weak [(0, _)] ⟨rfl, trivial⟩ ?_
 refine sr ?_
 refine at_box (cs := Cd.cs c_api_Field x0) rfl rfl rfl ?_
 intro b1
 refine at_alloc (cs := Cd.cs c_api_Field ({ f_Word := (0 : Int), f_Key := (Vector.replicate 32 (0 : Int) : (Vector Int 32)), f_N := (0 : Int), f_End := zqGC_0, f_P := zqGC_1 } : S_api_Field)) Tryz.zeroValue46 rfl rfl ?_
 intro b2
 refine nws [(1, _), (2, _)] ⟨rfl, rfl, trivial⟩ ?_
 refine av rfl (r_build_array (zs := Cd.cs (cVec (cInt .u8) 32 (by decide)) (Vector.replicate 32 (0 : Int) : (Vector Int 32))) (cs := Cd.cs (cVec (cInt .u8) 32 (by decide)) (Vector.replicate 32 (0 : Int) : (Vector Int 32))) Tryz.underlying29 Tryz.zeroValue29 rfl Tryz.sizeOf5 rfl rfl) ?_
 refine av rfl (r_fieldAddr (fo := 1) Tryz.underlying46 rfl rfl (fun w => ⟨_, Tryz.sizeOf29 w⟩) rfl) ?_
 refine at_store (c := (cVec (cInt .u8) 32 (by decide))) (z := (Vector.replicate 32 (0 : Int) : (Vector Int 32))) (.s .z) (Lens.comp (Lens.whole _ _) (fun z => { x0 with f_Key := z }) (c_api_Field_f_Key x0)) Tryz.sizeOf29 rfl rfl rfl ?_
 refine nws [(1, _), (2, _)] ⟨rfl, rfl, trivial⟩ ?_
 refine av rfl (r_load_aggc (c := c_api_Field) (z := { x0 with f_Key := (Vector.replicate 32 (0 : Int) : (Vector Int 32)) }) Tryz.isAgg46 Tryz.sizeOf46 rfl (lens_cell (.s .z) (Lens.whole _ _))) ?_
 refine at_store (c := c_api_Field) (z := { x0 with f_Key := (Vector.replicate 32 (0 : Int) : (Vector Int 32)) }) .z (Lens.whole _ _) Tryz.sizeOf46 rfl rfl rfl ?_
 refine at_nil ?_
 refine at_drop (H := _) (.s .z) ?_
 refine at_weak [(2, _)] ⟨rfl, trivial⟩ ?_
 refine at_then_normal ?_
 refine at_ret ?_
 have K := of_some hF
 subst K
 exact at_res1 rfl (res_cell (c := c_api_Field) (y := { x0 with f_Key := (Vector.replicate 32 (0 : Int) : (Vector Int 32)) }) rfl .z (Lens.whole _ _) Tryz.isAgg46 Tryz.sizeOf46 (.inl rfl)) (fun w1 hw => ⟨rfl, hw.below⟩)
def field_ended_1 (x0 : ByteArray) (x1 : S_api_Field) : Option (Int × S_api_Field) :=
  hostport_Parse x0 >>= fun t1 => some (t1.2, { x1 with f_End := t1.1 })
theorem field_ended_1_ok (x0 : ByteArray) (x1 : S_api_Field) (b1_ : Nat) (r : Int × S_api_Field) (hF : field_ended_1 x0 x1 = some r) (w : World) {w0 : World} {H_ G_ : List Ent} {f_ : Ent → List Ent} (hu_ : Upd H_ (cellsE b1_ (Cd.cs c_api_Field x1) 46) f_ G_) (hw_ : Wd w0 H_ w) (hg_bytealg_MaxLen : GV_bytealg_MaxLen w0) (hg_strconv_ErrRange : GV_strconv_ErrRange w0) (hg_strconv_ErrSyntax : GV_strconv_ErrSyntax w0) :
    Calls Tryz.prog 98 #[.string x0, .pointer (some ⟨b1_, 0, none⟩)] w (fun e w' => e = .returned (.int .i64 r.1) ∧ Wd w0 (f_ (cellsE b1_ (Cd.cs c_api_Field r.2) 46)) w') := by
 unfold field_ended_1 at hF
 refine calls_enter (l := [.string x0, .pointer (some ⟨b1_, 0, none⟩)]) Tryz.func98 rfl rfl rfl ?_
 refine at_enter_ptr hu_ hw_ ?_
 refine at_weak [(0, _), (1, _)] ⟨rfl, rfl, trivial⟩ ?_
 refine sr ?_
 refine av rfl (r_assign rfl) ?_
 refine nws [(0, _), (1, _)] ⟨rfl, rfl, trivial⟩ ?_
 refine av rfl (r_move rfl) ?_
 refine av rfl (r_move rfl) ?_
 obtain ⟨t1, ht1, hF⟩ := of_bindM hF
 refine at_callB Tryz.func99 rfl (by kernel_rfl) rfl rfl (fun w hw => hostport_Parse_ok _ _ ht1 w (hg_bytealg_MaxLen.on hw.below) (hg_strconv_ErrRange.on hw.below) (hg_strconv_ErrSyntax.on hw.below)) ?_
 refine av rfl (r_move rfl) ?_
 refine av rfl (r_extract rfl rfl) ?_
 refine av rfl (r_extract rfl rfl) ?_
 refine av rfl (r_nilCheck rfl) ?_
 refine av rfl (r_fieldAddr (fo := 34) Tryz.underlying46 rfl rfl (fun w => ⟨_, Tryz.sizeOf27 w⟩) rfl) ?_
 refine at_store (c := c_api_Endpoint) (z := t1.1) (Upd.again hu_ _) (Lens.comp (Lens.whole _ _) (fun z => { x1 with f_End := z }) (c_api_Field_f_End x1)) Tryz.sizeOf27 rfl rfl rfl ?_
 refine av rfl (r_assign rfl) ?_
 refine nws [(4, _)] ⟨rfl, trivial⟩ ?_
 refine av rfl (r_move rfl) ?_
 refine av rfl (r_assign rfl) ?_
 refine nwt [(4, _)] ⟨rfl, trivial⟩ ?_
 refine at_ret ?_
 have K := of_some hF
 subst K
 exact at_return1 rfl rfl (fun w1 hw => ⟨rfl, hw⟩)
def field_ended_2 (x0 : S_api_Field) : Option (ByteArray × Bool) :=
  hostport_Text x0.f_End >>= fun t2 => hostport_Right x0.f_End >>= fun t3 => some (t2, t3)
theorem field_ended_2_ok (x0 : S_api_Field) (r : ByteArray × Bool) (hF : field_ended_2 x0 = some r) (w : World) (hg_strconv_uint64pow10 : GV_strconv_uint64pow10 w) :
    Calls Tryz.prog 100 #[.agg (Cd.cs c_api_Field x0).toArray] w (fun e w' => e = .returned (.tuple #[.string r.1, .bool r.2]) ∧ Below w.heap.size w w') := by
 unfold field_ended_2 at hF
 refine calls_enter (l := [.agg (Cd.cs c_api_Field x0).toArray]) Tryz.func100 rfl rfl rfl ?_
 refine at_start ?_
 refine at_weak [(0, _)] ⟨rfl, trivial⟩ ?_
 refine sr ?_
 refine at_box (cs := Cd.cs c_api_Field x0) rfl rfl rfl ?_
 intro b1
 refine av rfl (r_assign rfl) ?_
 refine av rfl (r_assign rfl) ?_
 refine nwt [(1, _)] ⟨rfl, trivial⟩ ?_
 refine at_seq ?_
 refine at_draw (by kernel_rfl) (by kernel_rfl) (fun _ h => h.drew) ?_
 refine atq_val rfl rfl rfl (r_fieldAddr (fo := 34) Tryz.underlying46 rfl rfl (fun w => ⟨_, Tryz.sizeOf27 w⟩) rfl) ?_
 refine atq_val rfl rfl rfl (r_load_aggc (c := c_api_Endpoint) (z := x0.f_End) Tryz.isAgg27 Tryz.sizeOf27 rfl (lens_cell .z (Lens.comp (Lens.whole _ _) (fun z => { x0 with f_End := z }) (c_api_Field_f_End x0)))) ?_
 obtain ⟨t2, ht2, hF⟩ := of_bindM hF
 refine atq_call Tryz.func101 rfl (by kernel_rfl) rfl rfl (fun w hw => (hostport_Text_ok _ _ ht2 w (hg_strconv_uint64pow10.on hw.below)).mono fun _ _ h => ⟨h.1, hw.call h.2⟩) ?_
 refine atq_val rfl rfl rfl (r_fieldAddr (fo := 34) Tryz.underlying46 rfl rfl (fun w => ⟨_, Tryz.sizeOf27 w⟩) rfl) ?_
 refine atq_val rfl rfl rfl (r_load_aggc (c := c_api_Endpoint) (z := x0.f_End) Tryz.isAgg27 Tryz.sizeOf27 rfl (lens_cell .z (Lens.comp (Lens.whole _ _) (fun z => { x0 with f_End := z }) (c_api_Field_f_End x0)))) ?_
 obtain ⟨t3, ht3, hF⟩ := of_bindM hF
 refine atq_call Tryz.func102 rfl (by kernel_rfl) rfl rfl (fun w hw => (hostport_Right_ok _ _ ht3 w).mono fun _ _ h => ⟨h.1, hw.call h.2⟩) ?_
 refine atq_val rfl rfl rfl (r_assign rfl) ?_
 refine atq_val rfl rfl rfl (r_assign rfl) ?_
 refine atq_nil ?_
 refine at_drop (H := _) .z ?_
 refine at_weak [(2, _), (3, _)] ⟨rfl, rfl, trivial⟩ ?_
 refine at_then_normal ?_
 refine at_ret ?_
 have K := of_some hF
 subst K
 exact at_return2 rfl rfl rfl (fun w1 hw => ⟨rfl, hw.below⟩)
def field_ended_3 (x0 : S_api_Field) : Option (S_api_Field) :=
  some ({ x0 with f_End := ({ f_A := ({ f_V := (0 : Int), f_B := (Vector.replicate 16 (0 : Int) : (Vector Int 16)) } : S_api_Addr), f_Port := (0 : Int) } : S_api_Endpoint) })
theorem field_ended_3_ok (x0 : S_api_Field) (r : S_api_Field) (hF : field_ended_3 x0 = some r) (w : World) :
    Calls Tryz.prog 103 #[.agg (Cd.cs c_api_Field x0).toArray] w (fun e w' => e = .returned (.agg (Cd.cs c_api_Field r).toArray) ∧ Below w.heap.size w w') := by
 unfold field_ended_3 at hF
 refine calls_enter (l := [.agg (Cd.cs c_api_Field x0).toArray]) Tryz.func103 rfl rfl rfl ?_
 refine at_start ?_
 refine at_weak [(0, _)] ⟨rfl, trivial⟩ ?_
 refine sr ?_
 refine at_box (cs := Cd.cs c_api_Field x0) rfl rfl rfl ?_
 intro b1
 refine at_alloc (cs := Cd.cs c_api_Field ({ f_Word := (0 : Int), f_Key := (Vector.replicate 32 (0 : Int) : (Vector Int 32)), f_N := (0 : Int), f_End := zqGC_0, f_P := zqGC_1 } : S_api_Field)) Tryz.zeroValue46 rfl rfl ?_
 intro b2
 refine nws [(1, _), (2, _)] ⟨rfl, rfl, trivial⟩ ?_
 refine av rfl (r_build_struct (zs := Cd.cs c_api_Endpoint zqGC_0) (cs := Cd.cs c_api_Endpoint zqGC_0) Tryz.underlying27 Tryz.zeroValue27 rfl (places_api_Endpoint_27) rfl rfl) ?_
 refine av rfl (r_fieldAddr (fo := 34) Tryz.underlying46 rfl rfl (fun w => ⟨_, Tryz.sizeOf27 w⟩) rfl) ?_
 refine at_store (c := c_api_Endpoint) (z := zqGC_0) (.s .z) (Lens.comp (Lens.whole _ _) (fun z => { x0 with f_End := z }) (c_api_Field_f_End x0)) Tryz.sizeOf27 rfl rfl rfl ?_
 refine nws [(1, _), (2, _)] ⟨rfl, rfl, trivial⟩ ?_
 refine av rfl (r_load_aggc (c := c_api_Field) (z := { x0 with f_End := zqGC_0 }) Tryz.isAgg46 Tryz.sizeOf46 rfl (lens_cell (.s .z) (Lens.whole _ _))) ?_
 refine at_store (c := c_api_Field) (z := { x0 with f_End := zqGC_0 }) .z (Lens.whole _ _) Tryz.sizeOf46 rfl rfl rfl ?_
 refine at_nil ?_
 refine at_drop (H := _) (.s .z) ?_
 refine at_weak [(2, _)] ⟨rfl, trivial⟩ ?_
 refine at_then_normal ?_
 refine at_ret ?_
 have K := of_some hF
 subst K
 exact at_res1 rfl (res_cell (c := c_api_Field) (y := { x0 with f_End := zqGC_0 }) rfl .z (Lens.whole _ _) Tryz.isAgg46 Tryz.sizeOf46 (.inl rfl)) (fun w1 hw => ⟨rfl, hw.below⟩)
def field_allowed_1 (x0 : ByteArray) (x1 : S_api_Field) : Option (Int × S_api_Field) :=
  cidr_Parse x0 >>= fun t1 => some (t1.2, { x1 with f_P := t1.1 })
theorem field_allowed_1_ok (x0 : ByteArray) (x1 : S_api_Field) (b1_ : Nat) (r : Int × S_api_Field) (hF : field_allowed_1 x0 x1 = some r) (w : World) {w0 : World} {H_ G_ : List Ent} {f_ : Ent → List Ent} (hu_ : Upd H_ (cellsE b1_ (Cd.cs c_api_Field x1) 46) f_ G_) (hw_ : Wd w0 H_ w) (hg_strconv_ErrRange : GV_strconv_ErrRange w0) (hg_strconv_ErrSyntax : GV_strconv_ErrSyntax w0) :
    Calls Tryz.prog 104 #[.string x0, .pointer (some ⟨b1_, 0, none⟩)] w (fun e w' => e = .returned (.int .i64 r.1) ∧ Wd w0 (f_ (cellsE b1_ (Cd.cs c_api_Field r.2) 46)) w') := by
 unfold field_allowed_1 at hF
 refine calls_enter (l := [.string x0, .pointer (some ⟨b1_, 0, none⟩)]) Tryz.func104 rfl rfl rfl ?_
 refine at_enter_ptr hu_ hw_ ?_
 refine at_weak [(0, _), (1, _)] ⟨rfl, rfl, trivial⟩ ?_
 refine sr ?_
 refine av rfl (r_assign rfl) ?_
 refine nws [(0, _), (1, _)] ⟨rfl, rfl, trivial⟩ ?_
 refine av rfl (r_move rfl) ?_
 refine av rfl (r_move rfl) ?_
 obtain ⟨t1, ht1, hF⟩ := of_bindM hF
 refine at_callB Tryz.func105 rfl (by kernel_rfl) rfl rfl (fun w hw => cidr_Parse_ok _ _ ht1 w (hg_strconv_ErrRange.on hw.below) (hg_strconv_ErrSyntax.on hw.below)) ?_
 refine av rfl (r_move rfl) ?_
 refine av rfl (r_extract rfl rfl) ?_
 refine av rfl (r_extract rfl rfl) ?_
 refine av rfl (r_nilCheck rfl) ?_
 refine av rfl (r_fieldAddr (fo := 52) Tryz.underlying46 rfl rfl (fun w => ⟨_, Tryz.sizeOf44 w⟩) rfl) ?_
 refine at_store (c := c_api_Prefix) (z := t1.1) (Upd.again hu_ _) (Lens.comp (Lens.whole _ _) (fun z => { x1 with f_P := z }) (c_api_Field_f_P x1)) Tryz.sizeOf44 rfl rfl rfl ?_
 refine av rfl (r_assign rfl) ?_
 refine nws [(4, _)] ⟨rfl, trivial⟩ ?_
 refine av rfl (r_move rfl) ?_
 refine av rfl (r_assign rfl) ?_
 refine nwt [(4, _)] ⟨rfl, trivial⟩ ?_
 refine at_ret ?_
 have K := of_some hF
 subst K
 exact at_return1 rfl rfl (fun w1 hw => ⟨rfl, hw⟩)
def field_allowed_2 (x0 : S_api_Field) : Option (ByteArray × Bool) :=
  cidr_Text x0.f_P >>= fun t2 => cidr_Right x0.f_P >>= fun t3 => some (t2, t3)
theorem field_allowed_2_ok (x0 : S_api_Field) (r : ByteArray × Bool) (hF : field_allowed_2 x0 = some r) (w : World) (hg_strconv_uint64pow10 : GV_strconv_uint64pow10 w) :
    Calls Tryz.prog 106 #[.agg (Cd.cs c_api_Field x0).toArray] w (fun e w' => e = .returned (.tuple #[.string r.1, .bool r.2]) ∧ Below w.heap.size w w') := by
 unfold field_allowed_2 at hF
 refine calls_enter (l := [.agg (Cd.cs c_api_Field x0).toArray]) Tryz.func106 rfl rfl rfl ?_
 refine at_start ?_
 refine at_weak [(0, _)] ⟨rfl, trivial⟩ ?_
 refine sr ?_
 refine at_box (cs := Cd.cs c_api_Field x0) rfl rfl rfl ?_
 intro b1
 refine av rfl (r_assign rfl) ?_
 refine av rfl (r_assign rfl) ?_
 refine nwt [(1, _)] ⟨rfl, trivial⟩ ?_
 refine at_seq ?_
 refine at_draw (by kernel_rfl) (by kernel_rfl) (fun _ h => h.drew) ?_
 refine atq_val rfl rfl rfl (r_fieldAddr (fo := 52) Tryz.underlying46 rfl rfl (fun w => ⟨_, Tryz.sizeOf44 w⟩) rfl) ?_
 refine atq_val rfl rfl rfl (r_load_aggc (c := c_api_Prefix) (z := x0.f_P) Tryz.isAgg44 Tryz.sizeOf44 rfl (lens_cell .z (Lens.comp (Lens.whole _ _) (fun z => { x0 with f_P := z }) (c_api_Field_f_P x0)))) ?_
 obtain ⟨t2, ht2, hF⟩ := of_bindM hF
 refine atq_call Tryz.func107 rfl (by kernel_rfl) rfl rfl (fun w hw => (cidr_Text_ok _ _ ht2 w (hg_strconv_uint64pow10.on hw.below)).mono fun _ _ h => ⟨h.1, hw.call h.2⟩) ?_
 refine atq_val rfl rfl rfl (r_fieldAddr (fo := 52) Tryz.underlying46 rfl rfl (fun w => ⟨_, Tryz.sizeOf44 w⟩) rfl) ?_
 refine atq_val rfl rfl rfl (r_load_aggc (c := c_api_Prefix) (z := x0.f_P) Tryz.isAgg44 Tryz.sizeOf44 rfl (lens_cell .z (Lens.comp (Lens.whole _ _) (fun z => { x0 with f_P := z }) (c_api_Field_f_P x0)))) ?_
 obtain ⟨t3, ht3, hF⟩ := of_bindM hF
 refine atq_call Tryz.func108 rfl (by kernel_rfl) rfl rfl (fun w hw => (cidr_Right_ok _ _ ht3 w).mono fun _ _ h => ⟨h.1, hw.call h.2⟩) ?_
 refine atq_val rfl rfl rfl (r_assign rfl) ?_
 refine atq_val rfl rfl rfl (r_assign rfl) ?_
 refine atq_nil ?_
 refine at_drop (H := _) .z ?_
 refine at_weak [(2, _), (3, _)] ⟨rfl, rfl, trivial⟩ ?_
 refine at_then_normal ?_
 refine at_ret ?_
 have K := of_some hF
 subst K
 exact at_return2 rfl rfl rfl (fun w1 hw => ⟨rfl, hw.below⟩)
def field_allowed_3 (x0 : S_api_Field) : Option (S_api_Field) :=
  some ({ x0 with f_P := ({ f_A := ({ f_V := (0 : Int), f_B := (Vector.replicate 16 (0 : Int) : (Vector Int 16)) } : S_api_Addr), f_Bits := (0 : Int) } : S_api_Prefix) })
theorem field_allowed_3_ok (x0 : S_api_Field) (r : S_api_Field) (hF : field_allowed_3 x0 = some r) (w : World) :
    Calls Tryz.prog 109 #[.agg (Cd.cs c_api_Field x0).toArray] w (fun e w' => e = .returned (.agg (Cd.cs c_api_Field r).toArray) ∧ Below w.heap.size w w') := by
 unfold field_allowed_3 at hF
 refine calls_enter (l := [.agg (Cd.cs c_api_Field x0).toArray]) Tryz.func109 rfl rfl rfl ?_
 refine at_start ?_
 refine at_weak [(0, _)] ⟨rfl, trivial⟩ ?_
 refine sr ?_
 refine at_box (cs := Cd.cs c_api_Field x0) rfl rfl rfl ?_
 intro b1
 refine at_alloc (cs := Cd.cs c_api_Field ({ f_Word := (0 : Int), f_Key := (Vector.replicate 32 (0 : Int) : (Vector Int 32)), f_N := (0 : Int), f_End := zqGC_0, f_P := zqGC_1 } : S_api_Field)) Tryz.zeroValue46 rfl rfl ?_
 intro b2
 refine nws [(1, _), (2, _)] ⟨rfl, rfl, trivial⟩ ?_
 refine av rfl (r_build_struct (zs := Cd.cs c_api_Prefix zqGC_1) (cs := Cd.cs c_api_Prefix zqGC_1) Tryz.underlying44 Tryz.zeroValue44 rfl (places_api_Prefix_44) rfl rfl) ?_
 refine av rfl (r_fieldAddr (fo := 52) Tryz.underlying46 rfl rfl (fun w => ⟨_, Tryz.sizeOf44 w⟩) rfl) ?_
 refine at_store (c := c_api_Prefix) (z := zqGC_1) (.s .z) (Lens.comp (Lens.whole _ _) (fun z => { x0 with f_P := z }) (c_api_Field_f_P x0)) Tryz.sizeOf44 rfl rfl rfl ?_
 refine nws [(1, _), (2, _)] ⟨rfl, rfl, trivial⟩ ?_
 refine av rfl (r_load_aggc (c := c_api_Field) (z := { x0 with f_P := zqGC_1 }) Tryz.isAgg46 Tryz.sizeOf46 rfl (lens_cell (.s .z) (Lens.whole _ _))) ?_
 refine at_store (c := c_api_Field) (z := { x0 with f_P := zqGC_1 }) .z (Lens.whole _ _) Tryz.sizeOf46 rfl rfl rfl ?_
 refine at_nil ?_
 refine at_drop (H := _) (.s .z) ?_
 refine at_weak [(2, _)] ⟨rfl, trivial⟩ ?_
 refine at_then_normal ?_
 refine at_ret ?_
 have K := of_some hF
 subst K
 exact at_res1 rfl (res_cell (c := c_api_Field) (y := { x0 with f_P := zqGC_1 }) rfl .z (Lens.whole _ _) Tryz.isAgg46 Tryz.sizeOf46 (.inl rfl)) (fun w1 hw => ⟨rfl, hw.below⟩)
def field_counted_2 (x0 : S_api_Field) (x1 : Int) (x2 : Int) : Option (ByteArray × Bool) :=
  decimal_Text x0.f_N >>= fun t2 => if (decide (x0.f_N ≥ x1)) = true then (some (t2, decide (x0.f_N ≤ x2))) else (some (t2, false))
theorem field_counted_2_ok (x0 : S_api_Field) (b1_ : Nat) (x1 : Int) (b2_ : Nat) (x2 : Int) (r : ByteArray × Bool) (hF : field_counted_2 x0 x1 x2 = some r) (w : World) (hc1 : w.cell? ⟨b1_, 0, none⟩ = some (.int .u64 x1)) (hc2 : w.cell? ⟨b2_, 0, none⟩ = some (.int .u64 x2)) (hg_strconv_uint64pow10 : GV_strconv_uint64pow10 w) :
    Calls Tryz.prog 112 #[.agg (Cd.cs c_api_Field x0).toArray, .pointer (some ⟨b1_, 0, none⟩), .pointer (some ⟨b2_, 0, none⟩)] w (fun e w' => e = .returned (.tuple #[.string r.1, .bool r.2]) ∧ Below w.heap.size w w') := by
 unfold field_counted_2 at hF
 refine calls_enter (l := [.agg (Cd.cs c_api_Field x0).toArray, .pointer (some ⟨b1_, 0, none⟩), .pointer (some ⟨b2_, 0, none⟩)]) Tryz.func112 rfl rfl rfl ?_
 refine at_start ?_
 refine at_weak [(0, _), (1, _), (2, _)] ⟨rfl, rfl, rfl, trivial⟩ ?_
 refine sr ?_
 refine at_box (cs := Cd.cs c_api_Field x0) rfl rfl rfl ?_
 intro b1
 refine av rfl (r_assign rfl) ?_
 refine av rfl (r_assign rfl) ?_
 refine nwt [(1, _), (2, _), (3, _)] ⟨rfl, rfl, rfl, trivial⟩ ?_
 refine at_seq ?_
 refine at_draw (by kernel_rfl) (by kernel_rfl) (fun _ h => h.drew) ?_
 refine atq_val rfl rfl rfl (r_fieldAddr (fo := 33) Tryz.underlying46 rfl rfl (fun w => ⟨_, Tryz.sizeOf31 w⟩) rfl) ?_
 refine atq_val rfl rfl rfl (r_load_cell Tryz.isAgg31 rfl (lens_cell0 (c := (cInt .u64)) (y := x0.f_N) .z (Lens.comp (Lens.whole _ _) (fun z => { x0 with f_N := z }) (c_api_Field_f_N x0)) rfl)) ?_
 obtain ⟨t2, ht2, hF⟩ := of_bindM hF
 refine atq_call Tryz.func113 rfl (by kernel_rfl) rfl rfl (fun w hw => (decimal_Text_ok _ _ ht2 w (hg_strconv_uint64pow10.on hw.below)).mono fun _ _ h => ⟨h.1, hw.call h.2⟩) ?_
 refine atq_val rfl rfl rfl (r_fieldAddr (fo := 33) Tryz.underlying46 rfl rfl (fun w => ⟨_, Tryz.sizeOf31 w⟩) rfl) ?_
 refine atq_val rfl rfl rfl (r_load_cell Tryz.isAgg31 rfl (lens_cell0 (c := (cInt .u64)) (y := x0.f_N) .z (Lens.comp (Lens.whole _ _) (fun z => { x0 with f_N := z }) (c_api_Field_f_N x0)) rfl)) ?_
 refine atq_val rfl rfl rfl (r_load_cell Tryz.isAgg31 rfl (fun w1 hw => cap_cell hc1 hw.below)) ?_
 refine atq_val rfl rfl rfl (r_igeq rfl rfl) ?_
 refine atq_val rfl rfl rfl (r_move rfl) ?_
 rcases of_ite hF with ⟨h3, hF⟩ | ⟨h3, hF⟩
 ·refine atq_fix (g := 13) rfl h3 ?_
  refine atq_guard_yes rfl rfl rfl ?_
  refine atq_val rfl rfl rfl (r_fieldAddr (fo := 33) Tryz.underlying46 rfl rfl (fun w => ⟨_, Tryz.sizeOf31 w⟩) rfl) ?_
  refine atq_guard_yes rfl rfl rfl ?_
  refine atq_val rfl rfl rfl (r_load_cell Tryz.isAgg31 rfl (lens_cell0 (c := (cInt .u64)) (y := x0.f_N) .z (Lens.comp (Lens.whole _ _) (fun z => { x0 with f_N := z }) (c_api_Field_f_N x0)) rfl)) ?_
  refine atq_guard_yes rfl rfl rfl ?_
  refine atq_val rfl rfl rfl (r_load_cell Tryz.isAgg31 rfl (fun w1 hw => cap_cell hc2 hw.below)) ?_
  refine atq_guard_yes rfl rfl rfl ?_
  refine atq_val rfl rfl rfl (r_ileq rfl rfl) ?_
  refine atq_val rfl rfl rfl (r_pick rfl rfl rfl) ?_
  refine atq_val rfl rfl rfl (r_assign rfl) ?_
  refine atq_val rfl rfl rfl (r_assign rfl) ?_
  refine atq_nil ?_
  refine at_drop (H := _) .z ?_
  refine at_weak [(4, _), (5, _)] ⟨rfl, rfl, trivial⟩ ?_
  refine at_then_normal ?_
  refine at_ret ?_
  have K := of_some hF
  subst K
  exact at_return2 rfl rfl rfl (fun w1 hw => ⟨rfl, hw.below⟩)
 ·refine atq_fix (g := 13) rfl h3 ?_
  refine atq_guard_no rfl rfl rfl rfl rfl ?_
  refine atq_guard_no rfl rfl rfl rfl rfl ?_
  refine atq_guard_no rfl rfl rfl rfl rfl ?_
  refine atq_guard_no rfl rfl rfl rfl rfl ?_
  refine atq_val rfl rfl rfl (r_pick rfl rfl rfl) ?_
  refine atq_val rfl rfl rfl (r_assign rfl) ?_
  refine atq_val rfl rfl rfl (r_assign rfl) ?_
  refine atq_nil ?_
  refine at_drop (H := _) .z ?_
  refine at_weak [(4, _), (5, _)] ⟨rfl, rfl, trivial⟩ ?_
  refine at_then_normal ?_
  refine at_ret ?_
  have K := of_some hF
  subst K
  exact at_return2 rfl rfl rfl (fun w1 hw => ⟨rfl, hw.below⟩)
def field_counted_3 (x0 : S_api_Field) : Option (S_api_Field) :=
  some ({ x0 with f_N := 0 })
theorem field_counted_3_ok (x0 : S_api_Field) (r : S_api_Field) (hF : field_counted_3 x0 = some r) (w : World) :
    Calls Tryz.prog 114 #[.agg (Cd.cs c_api_Field x0).toArray] w (fun e w' => e = .returned (.agg (Cd.cs c_api_Field r).toArray) ∧ Below w.heap.size w w') := by
 unfold field_counted_3 at hF
 refine calls_enter (l := [.agg (Cd.cs c_api_Field x0).toArray]) Tryz.func114 rfl rfl rfl ?_
 refine at_start ?_
 refine at_weak [(0, _)] ⟨rfl, trivial⟩ ?_
 refine sr ?_
 refine at_box (cs := Cd.cs c_api_Field x0) rfl rfl rfl ?_
 intro b1
 refine at_alloc (cs := Cd.cs c_api_Field ({ f_Word := (0 : Int), f_Key := (Vector.replicate 32 (0 : Int) : (Vector Int 32)), f_N := (0 : Int), f_End := zqGC_0, f_P := zqGC_1 } : S_api_Field)) Tryz.zeroValue46 rfl rfl ?_
 intro b2
 refine nws [(1, _), (2, _)] ⟨rfl, rfl, trivial⟩ ?_
 refine av rfl (r_fieldAddr (fo := 33) Tryz.underlying46 rfl rfl (fun w => ⟨_, Tryz.sizeOf31 w⟩) rfl) ?_
 refine at_store (c := (cInt .u64)) (z := 0) (.s .z) (Lens.comp (Lens.whole _ _) (fun z => { x0 with f_N := z }) (c_api_Field_f_N x0)) Tryz.sizeOf31 rfl rfl rfl ?_
 refine nws [(1, _), (2, _)] ⟨rfl, rfl, trivial⟩ ?_
 refine av rfl (r_load_aggc (c := c_api_Field) (z := { x0 with f_N := 0 }) Tryz.isAgg46 Tryz.sizeOf46 rfl (lens_cell (.s .z) (Lens.whole _ _))) ?_
 refine at_store (c := c_api_Field) (z := { x0 with f_N := 0 }) .z (Lens.whole _ _) Tryz.sizeOf46 rfl rfl rfl ?_
 refine at_nil ?_
 refine at_drop (H := _) (.s .z) ?_
 refine at_weak [(2, _)] ⟨rfl, trivial⟩ ?_
 refine at_then_normal ?_
 refine at_ret ?_
 have K := of_some hF
 subst K
 exact at_res1 rfl (res_cell (c := c_api_Field) (y := { x0 with f_N := 0 }) rfl .z (Lens.whole _ _) Tryz.isAgg46 Tryz.sizeOf46 (.inl rfl)) (fun w1 hw => ⟨rfl, hw.below⟩)
def field_said_1 (x0 : ByteArray) (x1 : S_api_Field) : Option (Int × S_api_Field) :=
  if (!seq x0 (⟨#[116, 114, 117, 101]⟩ : ByteArray)) = true then (some (5, x1)) else (some (0, x1))
theorem field_said_1_ok (x0 : ByteArray) (x1 : S_api_Field) (b1_ : Nat) (r : Int × S_api_Field) (hF : field_said_1 x0 x1 = some r) (w : World) {w0 : World} {H_ G_ : List Ent} {f_ : Ent → List Ent} (hu_ : Upd H_ (cellsE b1_ (Cd.cs c_api_Field x1) 46) f_ G_) (hw_ : Wd w0 H_ w) :
    Calls Tryz.prog 115 #[.string x0, .pointer (some ⟨b1_, 0, none⟩)] w (fun e w' => e = .returned (.int .i64 r.1) ∧ Wd w0 (f_ (cellsE b1_ (Cd.cs c_api_Field r.2) 46)) w') := by
 unfold field_said_1 at hF
 refine calls_enter (l := [.string x0, .pointer (some ⟨b1_, 0, none⟩)]) Tryz.func115 rfl rfl rfl ?_
 refine at_enter_ptr hu_ hw_ ?_
 refine at_weak [(0, _)] ⟨rfl, trivial⟩ ?_
 refine sr ?_
 refine av rfl (r_assign rfl) ?_
 refine nwt [(0, _)] ⟨rfl, trivial⟩ ?_
 refine at_seq ?_
 refine sr ?_
 refine av rfl (r_move rfl) ?_
 refine av rfl (r_sneq rfl rfl) ?_
 refine nwt [(6, _)] ⟨rfl, trivial⟩ ?_
 rcases of_ite hF with ⟨h1, hF⟩ | ⟨h1, hF⟩
 ·refine at_cond_true rfl h1 ?_
  refine sr ?_
  refine av rfl (r_assign rfl) ?_
  refine nwt [(4, _)] ⟨rfl, trivial⟩ ?_
  refine rt ?_
  have K := of_some hF
  subst K
  exact at_return1 rfl rfl (fun w1 hw => ⟨rfl, hw⟩)
 ·refine at_cond_false rfl h1 ?_
  refine sns ?_
  refine av rfl (r_assign rfl) ?_
  refine nwt [(4, _)] ⟨rfl, trivial⟩ ?_
  refine at_ret ?_
  have K := of_some hF
  subst K
  exact at_return1 rfl rfl (fun w1 hw => ⟨rfl, hw⟩)
def field_said_2 (x0 : S_api_Field) : Option (ByteArray × Bool) :=
  some (⟨#[116, 114, 117, 101]⟩, true)
theorem field_said_2_ok (x0 : S_api_Field) (r : ByteArray × Bool) (hF : field_said_2 x0 = some r) (w : World) :
    Calls Tryz.prog 116 #[.agg (Cd.cs c_api_Field x0).toArray] w (fun e w' => e = .returned (.tuple #[.string r.1, .bool r.2]) ∧ Below w.heap.size w w') := by
 unfold field_said_2 at hF
 refine calls_enter (l := [.agg (Cd.cs c_api_Field x0).toArray]) Tryz.func116 rfl rfl rfl ?_
 refine at_start ?_
 refine at_weak [(0, _)] ⟨rfl, trivial⟩ ?_
 refine sr ?_
 refine at_box (cs := Cd.cs c_api_Field x0) rfl rfl rfl ?_
 intro b1
 refine av rfl (r_assign rfl) ?_
 refine av rfl (r_assign rfl) ?_
 refine at_nil ?_
 refine at_drop (H := _) .z ?_
 refine at_weak [] trivial ?_
 refine at_then_normal ?_
 refine sr ?_
 refine av rfl (r_assign rfl) ?_
 refine av rfl (r_assign rfl) ?_
 refine nwt [(2, _), (3, _)] ⟨rfl, rfl, trivial⟩ ?_
 refine at_ret ?_
 have K := of_some hF
 subst K
 exact at_return2 rfl rfl rfl (fun w1 hw => ⟨rfl, hw.below⟩)
def field_said_3 (x0 : S_api_Field) : Option (S_api_Field) :=
  some x0
theorem field_said_3_ok (x0 : S_api_Field) (r : S_api_Field) (hF : field_said_3 x0 = some r) (w : World) :
    Calls Tryz.prog 117 #[.agg (Cd.cs c_api_Field x0).toArray] w (fun e w' => e = .returned (.agg (Cd.cs c_api_Field r).toArray) ∧ Below w.heap.size w w') := by
 unfold field_said_3 at hF
 refine calls_enter (l := [.agg (Cd.cs c_api_Field x0).toArray]) Tryz.func117 rfl rfl rfl ?_
 refine at_start ?_
 refine at_weak [(0, _)] ⟨rfl, trivial⟩ ?_
 refine sr ?_
 refine at_box (cs := Cd.cs c_api_Field x0) rfl rfl rfl ?_
 intro b1
 refine at_alloc (cs := Cd.cs c_api_Field ({ f_Word := (0 : Int), f_Key := (Vector.replicate 32 (0 : Int) : (Vector Int 32)), f_N := (0 : Int), f_End := zqGC_0, f_P := zqGC_1 } : S_api_Field)) Tryz.zeroValue46 rfl rfl ?_
 intro b2
 refine nws [(1, _), (2, _)] ⟨rfl, rfl, trivial⟩ ?_
 refine av rfl (r_load_aggc (c := c_api_Field) (z := x0) Tryz.isAgg46 Tryz.sizeOf46 rfl (lens_cell (.s .z) (Lens.whole _ _))) ?_
 refine at_store (c := c_api_Field) (z := x0) .z (Lens.whole _ _) Tryz.sizeOf46 rfl rfl rfl ?_
 refine at_nil ?_
 refine at_drop (H := _) (.s .z) ?_
 refine at_weak [(2, _)] ⟨rfl, trivial⟩ ?_
 refine at_then_normal ?_
 refine at_ret ?_
 have K := of_some hF
 subst K
 exact at_res1 rfl (res_cell (c := c_api_Field) (y := x0) rfl .z (Lens.whole _ _) Tryz.isAgg46 Tryz.sizeOf46 (.inl rfl)) (fun w1 hw => ⟨rfl, hw.below⟩)
end Go.Proofs.YtkkmmpofdcccmaaGreatDoor
