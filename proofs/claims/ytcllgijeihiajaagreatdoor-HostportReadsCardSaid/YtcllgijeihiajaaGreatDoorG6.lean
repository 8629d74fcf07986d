/- Functions with the same answers as the Go functions that they are named for, and the proofs of it, by a program of this project (gen.py). -/
import Derived.Test.YtcllgijeihiajaaGreatDoorT
import Derived.Test.YtcllgijeihiajaaGreatDoorShelf
import Derived.Test.YtcllgijeihiajaaGreatDoorW
import Derived.Test.YtcllgijeihiajaaGreatDoorL
import Derived.Test.YtcllgijeihiajaaGreatDoorS
import Derived.Test.YtcllgijeihiajaaGreatDoorJ
import Derived.Test.YtcllgijeihiajaaGreatDoorI
import Derived.Test.YtcllgijeihiajaaGreatDoorR
import Derived.Test.YtcllgijeihiajaaGreatDoorCut
import Derived.Test.YtcllgijeihiajaaGreatDoorProg
import Derived.Test.YtcllgijeihiajaaGreatDoorG1
import Derived.Test.YtcllgijeihiajaaGreatDoorG2
import Derived.Test.YtcllgijeihiajaaGreatDoorG3
import Derived.Test.YtcllgijeihiajaaGreatDoorG4
import Derived.Test.YtcllgijeihiajaaGreatDoorG5
set_option linter.unusedVariables false
set_option linter.unusedSimpArgs false
namespace Go.Proofs.YtcllgijeihiajaaGreatDoor
open E Go.RowKit


def stringslite_CutPrefix (x0 : ByteArray) (x1 : ByteArray) : Option (ByteArray × Bool) :=
  stringslite_HasPrefix x0 x1 >>= fun t1 => if (!t1) = true then (some (x0, false)) else (if (0 : Int) ≤ (x1.size : Int) ∧ (x1.size : Int) ≤ (x0.size : Int) ∧ (x0.size : Int) ≤ (x0.size : Int) then some (x0.extract (Int.toNat (x1.size : Int)) (Int.toNat (x0.size : Int)), true) else none)
theorem stringslite_CutPrefix_ok (x0 : ByteArray) (x1 : ByteArray) (r : ByteArray × Bool) (hF : stringslite_CutPrefix x0 x1 = some r) (w : World) :
    Calls Tryz.prog 54 #[.string x0, .string x1] w (fun e w' => e = .returned (.tuple #[.string r.1, .bool r.2]) ∧ w' = w) := by
  unfold stringslite_CutPrefix at hF
  refine calls_enter (l := [.string x0, .string x1]) Tryz.func54 rfl rfl rfl ?_
  refine at_weak [(0, _), (1, _)] ⟨rfl, rfl, trivial⟩ ?_
  refine at_seq ?_
  refine at_region ?_
  refine at_val rfl rfl rfl (r_assign rfl) ?_
  refine at_val rfl rfl rfl (r_assign rfl) ?_
  refine at_nil ?_
  refine at_weak [(0, _), (1, _)] ⟨rfl, rfl, trivial⟩ ?_
  refine at_then_normal ?_
  refine at_seq ?_
  refine at_seq ?_
  refine at_region ?_
  refine at_val rfl rfl rfl (r_move rfl) ?_
  refine at_val rfl rfl rfl (r_move rfl) ?_
  obtain ⟨t1, ht1, hF⟩ := of_bindM hF
  refine at_call0 Tryz.func75 rfl (by kernel_rfl) rfl rfl (fun w => stringslite_HasPrefix_ok _ _ _ ht1 w) ?_
  refine at_val rfl rfl rfl (r_not rfl) ?_
  refine at_nil ?_
  refine at_weak [(0, _), (1, _), (9, _)] ⟨rfl, rfl, rfl, trivial⟩ ?_
  refine at_then_normal ?_
  rcases of_ite hF with ⟨h2, hF⟩ | ⟨h2, hF⟩
  · refine at_cond_true rfl h2 ?_
    refine at_seq ?_
    refine at_region ?_
    refine at_val rfl rfl rfl (r_move rfl) ?_
    refine at_val rfl rfl rfl (r_assign rfl) ?_
    refine at_val rfl rfl rfl (r_assign rfl) ?_
    refine at_nil ?_
    refine at_weak [(4, _), (5, _)] ⟨rfl, rfl, trivial⟩ ?_
    refine at_then_normal ?_
    refine at_ret ?_
    refine at_then_ret ?_
    have K := of_some hF
    subst K
    exact at_return2 rfl rfl rfl (fun w1 hw => ⟨rfl, hw⟩)
  · refine at_cond_false rfl h2 ?_
    refine at_skip ?_
    refine at_then_normal ?_
    refine at_seq ?_
    refine at_region ?_
    refine at_val rfl rfl rfl (r_move rfl) ?_
    refine at_val rfl rfl rfl (r_move rfl) ?_
    refine at_val rfl rfl rfl (r_len_str Tryz.underlying9 rfl) ?_
    obtain ⟨h3, hF⟩ := of_guard hF
    refine at_val rfl rfl rfl (r_slice_str Tryz.underlying9 rfl ⟨_, rfl⟩ rfl h3) ?_
    refine at_val rfl rfl rfl (r_assign rfl) ?_
    refine at_val rfl rfl rfl (r_assign rfl) ?_
    refine at_nil ?_
    refine at_weak [(4, _), (5, _)] ⟨rfl, rfl, trivial⟩ ?_
    refine at_then_normal ?_
    refine at_ret ?_
    have K := of_some hF
    subst K
    exact at_return2 rfl rfl rfl (fun w1 hw => ⟨rfl, hw⟩)

def strings_CutPrefix (x0 : ByteArray) (x1 : ByteArray) : Option (ByteArray × Bool) :=
  stringslite_CutPrefix x0 x1 >>= fun t1 => some (t1.1, t1.2)
theorem strings_CutPrefix_ok (x0 : ByteArray) (x1 : ByteArray) (r : ByteArray × Bool) (hF : strings_CutPrefix x0 x1 = some r) (w : World) :
    Calls Tryz.prog 33 #[.string x0, .string x1] w (fun e w' => e = .returned (.tuple #[.string r.1, .bool r.2]) ∧ w' = w) := by
  unfold strings_CutPrefix at hF
  refine calls_enter (l := [.string x0, .string x1]) Tryz.func33 rfl rfl rfl ?_
  refine at_weak [(0, _), (1, _)] ⟨rfl, rfl, trivial⟩ ?_
  refine at_seq ?_
  refine at_region ?_
  refine at_val rfl rfl rfl (r_assign rfl) ?_
  refine at_val rfl rfl rfl (r_assign rfl) ?_
  refine at_nil ?_
  refine at_weak [(0, _), (1, _)] ⟨rfl, rfl, trivial⟩ ?_
  refine at_then_normal ?_
  refine at_seq ?_
  refine at_region ?_
  refine at_val rfl rfl rfl (r_move rfl) ?_
  refine at_val rfl rfl rfl (r_move rfl) ?_
  obtain ⟨t1, ht1, hF⟩ := of_bindM hF
  refine at_call0 Tryz.func54 rfl (by kernel_rfl) rfl rfl (fun w => stringslite_CutPrefix_ok _ _ _ ht1 w) ?_
  refine at_val rfl rfl rfl (r_extract rfl rfl) ?_
  refine at_val rfl rfl rfl (r_extract rfl rfl) ?_
  refine at_val rfl rfl rfl (r_assign rfl) ?_
  refine at_val rfl rfl rfl (r_assign rfl) ?_
  refine at_nil ?_
  refine at_weak [(4, _), (5, _)] ⟨rfl, rfl, trivial⟩ ?_
  refine at_then_normal ?_
  refine at_ret ?_
  have K := of_some hF
  subst K
  exact at_return2 rfl rfl rfl (fun w1 hw => ⟨rfl, hw⟩)

def hostport_Right (x0 : S_api_Endpoint) : Option (Bool) :=
  addr_Right x0.f_A >>= fun t2 => if t2 = true then (if (decide (x0.f_Port ≥ 1)) = true then (some (decide (x0.f_Port ≤ 65535))) else (some false)) else (some false)
theorem hostport_Right_ok (x0 : S_api_Endpoint) (r : Bool) (hF : hostport_Right x0 = some r) (w : World) :
    Calls Tryz.prog 7 #[.agg (Cd.cs c_api_Endpoint x0).toArray] w (fun e w' => e = .returned (.bool r) ∧ Below w.heap.size w w') := by
  unfold hostport_Right at hF
  refine calls_enter (l := [.agg (Cd.cs c_api_Endpoint x0).toArray]) Tryz.func7 rfl rfl rfl ?_
  refine at_start ?_
  refine at_weak [(0, _)] ⟨rfl, trivial⟩ ?_
  refine at_seq ?_
  refine at_region ?_
  refine at_box (cs := Cd.cs c_api_Endpoint x0) rfl rfl rfl ?_
  intro b1
  refine at_val rfl rfl rfl (r_assign rfl) ?_
  refine at_nil ?_
  refine at_weak [(1, _)] ⟨rfl, trivial⟩ ?_
  refine at_then_normal ?_
  refine at_seq ?_
  refine at_region ?_
  refine at_val rfl rfl rfl (r_fieldAddr (fo := 0) Tryz.underlying26 rfl rfl (fun w => ⟨_, Tryz.sizeOf24 w⟩) rfl) ?_
  refine at_val rfl rfl rfl (r_load_aggc (c := c_api_Addr) (z := x0.f_A) Tryz.isAgg24 Tryz.sizeOf24 rfl (lens_cell .z (Lens.comp (Lens.whole _ _) (fun z => { x0 with f_A := z }) (c_api_Endpoint_f_A x0)))) ?_
  obtain ⟨t2, ht2, hF⟩ := of_bindM hF
  refine at_callB Tryz.func17 rfl (by kernel_rfl) rfl rfl (fun w hw => addr_Right_ok _ _ ht2 w) ?_
  refine at_val rfl rfl rfl (r_move rfl) ?_
  rcases of_ite hF with ⟨h3, hF⟩ | ⟨h3, hF⟩
  · refine at_fix (g := 6) rfl h3 ?_
    refine at_guard_yes rfl rfl rfl ?_
    refine at_val rfl rfl rfl (r_fieldAddr (fo := 17) Tryz.underlying26 rfl rfl (fun w => ⟨_, Tryz.sizeOf3 w⟩) rfl) ?_
    refine at_guard_yes rfl rfl rfl ?_
    refine at_val rfl rfl rfl (r_load_cell Tryz.isAgg3 rfl (lens_cell0 (c := (cInt .i64)) (y := x0.f_Port) .z (Lens.comp (Lens.whole _ _) (fun z => { x0 with f_Port := z }) (c_api_Endpoint_f_Port x0)) rfl)) ?_
    refine at_guard_yes rfl rfl rfl ?_
    refine at_val rfl rfl rfl (r_igeq rfl rfl) ?_
    refine at_val rfl rfl rfl (r_pick rfl rfl rfl) ?_
    refine at_val rfl rfl rfl (r_move rfl) ?_
    rcases of_ite hF with ⟨h4, hF⟩ | ⟨h4, hF⟩
    · refine at_fix (g := 11) rfl h4 ?_
      refine at_guard_yes rfl rfl rfl ?_
      refine at_val rfl rfl rfl (r_fieldAddr (fo := 17) Tryz.underlying26 rfl rfl (fun w => ⟨_, Tryz.sizeOf3 w⟩) rfl) ?_
      refine at_guard_yes rfl rfl rfl ?_
      refine at_val rfl rfl rfl (r_load_cell Tryz.isAgg3 rfl (lens_cell0 (c := (cInt .i64)) (y := x0.f_Port) .z (Lens.comp (Lens.whole _ _) (fun z => { x0 with f_Port := z }) (c_api_Endpoint_f_Port x0)) rfl)) ?_
      refine at_guard_yes rfl rfl rfl ?_
      refine at_val rfl rfl rfl (r_ileq rfl rfl) ?_
      refine at_val rfl rfl rfl (r_pick rfl rfl rfl) ?_
      refine at_val rfl rfl rfl (r_assign rfl) ?_
      refine at_nil ?_
      refine at_drop (H := _) .z ?_
      refine at_weak [(2, _)] ⟨rfl, trivial⟩ ?_
      refine at_then_normal ?_
      refine at_ret ?_
      have K := of_some hF
      subst K
      exact at_return1 rfl rfl (fun w1 hw => ⟨rfl, hw.below⟩)
    · refine at_fix (g := 11) rfl h4 ?_
      refine at_guard_no rfl rfl rfl rfl rfl ?_
      refine at_guard_no rfl rfl rfl rfl rfl ?_
      refine at_guard_no rfl rfl rfl rfl rfl ?_
      refine at_val rfl rfl rfl (r_pick rfl rfl rfl) ?_
      refine at_val rfl rfl rfl (r_assign rfl) ?_
      refine at_nil ?_
      refine at_drop (H := _) .z ?_
      refine at_weak [(2, _)] ⟨rfl, trivial⟩ ?_
      refine at_then_normal ?_
      refine at_ret ?_
      have K := of_some hF
      subst K
      exact at_return1 rfl rfl (fun w1 hw => ⟨rfl, hw.below⟩)
  · refine at_fix (g := 6) rfl h3 ?_
    refine at_guard_no rfl rfl rfl rfl rfl ?_
    refine at_guard_no rfl rfl rfl rfl rfl ?_
    refine at_guard_no rfl rfl rfl rfl rfl ?_
    refine at_val rfl rfl rfl (r_pick rfl rfl rfl) ?_
    refine at_val rfl rfl rfl (r_move rfl) ?_
    refine at_guard_no rfl rfl rfl rfl rfl ?_
    refine at_guard_no rfl rfl rfl rfl rfl ?_
    refine at_guard_no rfl rfl rfl rfl rfl ?_
    refine at_val rfl rfl rfl (r_pick rfl rfl rfl) ?_
    refine at_val rfl rfl rfl (r_assign rfl) ?_
    refine at_nil ?_
    refine at_drop (H := _) .z ?_
    refine at_weak [(2, _)] ⟨rfl, trivial⟩ ?_
    refine at_then_normal ?_
    refine at_ret ?_
    have K := of_some hF
    subst K
    exact at_return1 rfl rfl (fun w1 hw => ⟨rfl, hw.below⟩)

def hostport_None (x0 : S_api_Endpoint) : Option (Bool) :=
  some (decide (x0 = ({ f_A := ({ f_V := (0 : Int), f_B := (Vector.replicate 16 (0 : Int) : (Vector Int 16)) } : S_api_Addr), f_Port := (0 : Int) } : S_api_Endpoint)))
theorem hostport_None_ok (x0 : S_api_Endpoint) (r : Bool) (hF : hostport_None x0 = some r) (w : World) :
    Calls Tryz.prog 9 #[.agg (Cd.cs c_api_Endpoint x0).toArray] w (fun e w' => e = .returned (.bool r) ∧ Below w.heap.size w w') := by
  unfold hostport_None at hF
  refine calls_enter (l := [.agg (Cd.cs c_api_Endpoint x0).toArray]) Tryz.func9 rfl rfl rfl ?_
  refine at_start ?_
  refine at_weak [(0, _)] ⟨rfl, trivial⟩ ?_
  refine at_seq ?_
  refine at_region ?_
  refine at_box (cs := Cd.cs c_api_Endpoint x0) rfl rfl rfl ?_
  intro b1
  refine at_val rfl rfl rfl (r_assign rfl) ?_
  refine at_nil ?_
  refine at_weak [(1, _)] ⟨rfl, trivial⟩ ?_
  refine at_then_normal ?_
  refine at_seq ?_
  refine at_region ?_
  refine at_val rfl rfl rfl (r_load_aggc (c := c_api_Endpoint) (z := x0) Tryz.isAgg26 Tryz.sizeOf26 rfl (lens_cell .z (Lens.whole _ _))) ?_
  refine at_val rfl rfl rfl (r_build_struct (zs := Cd.cs c_api_Endpoint ({ f_A := ({ f_V := (0 : Int), f_B := (Vector.replicate 16 (0 : Int) : (Vector Int 16)) } : S_api_Addr), f_Port := (0 : Int) } : S_api_Endpoint)) (cs := Cd.cs c_api_Endpoint ({ f_A := ({ f_V := (0 : Int), f_B := (Vector.replicate 16 (0 : Int) : (Vector Int 16)) } : S_api_Addr), f_Port := (0 : Int) } : S_api_Endpoint)) Tryz.underlying26 Tryz.zeroValue26 rfl (places_api_Endpoint_26) rfl rfl) ?_
  refine at_val rfl rfl rfl (r_eqagg (c := c_api_Endpoint) (a := x0) (b := ({ f_A := ({ f_V := (0 : Int), f_B := (Vector.replicate 16 (0 : Int) : (Vector Int 16)) } : S_api_Addr), f_Port := (0 : Int) } : S_api_Endpoint)) (eq_api_Endpoint_26) rfl Tryz.eqGuardType26 rfl rfl (.inl rfl) rfl) ?_
  refine at_val rfl rfl rfl (r_assign rfl) ?_
  refine at_nil ?_
  refine at_drop (H := _) .z ?_
  refine at_weak [(2, _)] ⟨rfl, trivial⟩ ?_
  refine at_then_normal ?_
  refine at_ret ?_
  have K := of_some hF
  subst K
  exact at_return1 rfl rfl (fun w1 hw => ⟨rfl, hw.below⟩)

def hostport_Text (x0 : S_api_Endpoint) : Option (ByteArray) :=
  hostport_Right x0 >>= fun t2 => if (!t2) = true then (some (⟨#[]⟩)) else (decimal_Text (wr .u64 x0.f_Port) >>= fun t4 => addr_Width x0.f_A >>= fun t5 => if (decide (t5 > 32)) = true then (addr_Text x0.f_A >>= fun t7 => if (⟨#[91]⟩ : ByteArray).size + t7.size ≤ 140737488355328 then if ((⟨#[91]⟩ : ByteArray) ++ t7).size + (⟨#[93, 58]⟩ : ByteArray).size ≤ 140737488355328 then if (((⟨#[91]⟩ : ByteArray) ++ t7) ++ (⟨#[93, 58]⟩ : ByteArray)).size + t4.size ≤ 140737488355328 then some ((((⟨#[91]⟩ : ByteArray) ++ t7) ++ (⟨#[93, 58]⟩ : ByteArray)) ++ t4) else none else none else none) else (addr_Text x0.f_A >>= fun t11 => if t11.size + (⟨#[58]⟩ : ByteArray).size ≤ 140737488355328 then if (t11 ++ (⟨#[58]⟩ : ByteArray)).size + t4.size ≤ 140737488355328 then some ((t11 ++ (⟨#[58]⟩ : ByteArray)) ++ t4) else none else none))
theorem hostport_Text_ok (x0 : S_api_Endpoint) (r : ByteArray) (hF : hostport_Text x0 = some r) (w : World) (hg_strconv_uint64pow10 : GV_strconv_uint64pow10 w) :
    Calls Tryz.prog 5 #[.agg (Cd.cs c_api_Endpoint x0).toArray] w (fun e w' => e = .returned (.string r) ∧ Below w.heap.size w w') := by
  unfold hostport_Text at hF
  refine calls_enter (l := [.agg (Cd.cs c_api_Endpoint x0).toArray]) Tryz.func5 rfl rfl rfl ?_
  refine at_start ?_
  refine at_weak [(0, _)] ⟨rfl, trivial⟩ ?_
  refine at_seq ?_
  refine at_region ?_
  refine at_box (cs := Cd.cs c_api_Endpoint x0) rfl rfl rfl ?_
  intro b1
  refine at_val rfl rfl rfl (r_assign rfl) ?_
  refine at_nil ?_
  refine at_weak [(1, _)] ⟨rfl, trivial⟩ ?_
  refine at_then_normal ?_
  refine at_seq ?_
  refine at_seq ?_
  refine at_region ?_
  refine at_val rfl rfl rfl (r_load_aggc (c := c_api_Endpoint) (z := x0) Tryz.isAgg26 Tryz.sizeOf26 rfl (lens_cell .z (Lens.whole _ _))) ?_
  obtain ⟨t2, ht2, hF⟩ := of_bindM hF
  refine at_callB Tryz.func7 rfl (by kernel_rfl) rfl rfl (fun w hw => hostport_Right_ok _ _ ht2 w) ?_
  refine at_val rfl rfl rfl (r_not rfl) ?_
  refine at_nil ?_
  refine at_weak [(1, _), (6, _)] ⟨rfl, rfl, trivial⟩ ?_
  refine at_then_normal ?_
  rcases of_ite hF with ⟨h3, hF⟩ | ⟨h3, hF⟩
  · refine at_cond_true rfl h3 ?_
    refine at_seq ?_
    refine at_region ?_
    refine at_val rfl rfl rfl (r_assign rfl) ?_
    refine at_nil ?_
    refine at_drop (H := _) .z ?_
    refine at_weak [(2, _)] ⟨rfl, trivial⟩ ?_
    refine at_then_normal ?_
    refine at_ret ?_
    refine at_then_ret ?_
    have K := of_some hF
    subst K
    exact at_return1 rfl rfl (fun w1 hw => ⟨rfl, hw.below⟩)
  · refine at_cond_false rfl h3 ?_
    refine at_skip ?_
    refine at_then_normal ?_
    refine at_seq ?_
    refine at_region ?_
    refine at_val rfl rfl rfl (r_fieldAddr (fo := 17) Tryz.underlying26 rfl rfl (fun w => ⟨_, Tryz.sizeOf3 w⟩) rfl) ?_
    refine at_val rfl rfl rfl (r_load_cell Tryz.isAgg3 rfl (lens_cell0 (c := (cInt .i64)) (y := x0.f_Port) .z (Lens.comp (Lens.whole _ _) (fun z => { x0 with f_Port := z }) (c_api_Endpoint_f_Port x0)) rfl)) ?_
    refine at_val rfl rfl rfl (r_conv Tryz.underlying3 Tryz.underlying37 rfl) ?_
    obtain ⟨t4, ht4, hF⟩ := of_bindM hF
    refine at_callB Tryz.func13 rfl (by kernel_rfl) rfl rfl (fun w hw => decimal_Text_ok _ _ ht4 w (hg_strconv_uint64pow10.on hw.below)) ?_
    refine at_val rfl rfl rfl (r_assign rfl) ?_
    refine at_nil ?_
    refine at_weak [(1, _), (3, _)] ⟨rfl, rfl, trivial⟩ ?_
    refine at_then_normal ?_
    refine at_seq ?_
    refine at_seq ?_
    refine at_region ?_
    refine at_val rfl rfl rfl (r_fieldAddr (fo := 0) Tryz.underlying26 rfl rfl (fun w => ⟨_, Tryz.sizeOf24 w⟩) rfl) ?_
    refine at_val rfl rfl rfl (r_load_aggc (c := c_api_Addr) (z := x0.f_A) Tryz.isAgg24 Tryz.sizeOf24 rfl (lens_cell .z (Lens.comp (Lens.whole _ _) (fun z => { x0 with f_A := z }) (c_api_Endpoint_f_A x0)))) ?_
    obtain ⟨t5, ht5, hF⟩ := of_bindM hF
    refine at_callB Tryz.func14 rfl (by kernel_rfl) rfl rfl (fun w hw => addr_Width_ok _ _ ht5 w) ?_
    refine at_val rfl rfl rfl (r_igtr rfl rfl) ?_
    refine at_nil ?_
    refine at_weak [(1, _), (3, _), (14, _)] ⟨rfl, rfl, rfl, trivial⟩ ?_
    refine at_then_normal ?_
    rcases of_ite hF with ⟨h6, hF⟩ | ⟨h6, hF⟩
    · refine at_cond_true rfl h6 ?_
      refine at_seq ?_
      refine at_region ?_
      refine at_val rfl rfl rfl (r_fieldAddr (fo := 0) Tryz.underlying26 rfl rfl (fun w => ⟨_, Tryz.sizeOf24 w⟩) rfl) ?_
      refine at_val rfl rfl rfl (r_load_aggc (c := c_api_Addr) (z := x0.f_A) Tryz.isAgg24 Tryz.sizeOf24 rfl (lens_cell .z (Lens.comp (Lens.whole _ _) (fun z => { x0 with f_A := z }) (c_api_Endpoint_f_A x0)))) ?_
      obtain ⟨t7, ht7, hF⟩ := of_bindM hF
      refine at_callB Tryz.func15 rfl (by kernel_rfl) rfl rfl (fun w hw => addr_Text_ok _ _ ht7 w (hg_strconv_uint64pow10.on hw.below)) ?_
      obtain ⟨h8, hF⟩ := of_guard hF
      refine at_val rfl rfl rfl (r_concat rfl rfl h8) ?_
      obtain ⟨h9, hF⟩ := of_guard hF
      refine at_val rfl rfl rfl (r_concat rfl rfl h9) ?_
      refine at_val rfl rfl rfl (r_move rfl) ?_
      obtain ⟨h10, hF⟩ := of_guard hF
      refine at_val rfl rfl rfl (r_concat rfl rfl h10) ?_
      refine at_val rfl rfl rfl (r_assign rfl) ?_
      refine at_nil ?_
      refine at_drop (H := _) .z ?_
      refine at_weak [(2, _)] ⟨rfl, trivial⟩ ?_
      refine at_then_normal ?_
      refine at_ret ?_
      refine at_then_ret ?_
      have K := of_some hF
      subst K
      exact at_return1 rfl rfl (fun w1 hw => ⟨rfl, hw.below⟩)
    · refine at_cond_false rfl h6 ?_
      refine at_skip ?_
      refine at_then_normal ?_
      refine at_seq ?_
      refine at_region ?_
      refine at_val rfl rfl rfl (r_fieldAddr (fo := 0) Tryz.underlying26 rfl rfl (fun w => ⟨_, Tryz.sizeOf24 w⟩) rfl) ?_
      refine at_val rfl rfl rfl (r_load_aggc (c := c_api_Addr) (z := x0.f_A) Tryz.isAgg24 Tryz.sizeOf24 rfl (lens_cell .z (Lens.comp (Lens.whole _ _) (fun z => { x0 with f_A := z }) (c_api_Endpoint_f_A x0)))) ?_
      obtain ⟨t11, ht11, hF⟩ := of_bindM hF
      refine at_callB Tryz.func15 rfl (by kernel_rfl) rfl rfl (fun w hw => addr_Text_ok _ _ ht11 w (hg_strconv_uint64pow10.on hw.below)) ?_
      obtain ⟨h12, hF⟩ := of_guard hF
      refine at_val rfl rfl rfl (r_concat rfl rfl h12) ?_
      refine at_val rfl rfl rfl (r_move rfl) ?_
      obtain ⟨h13, hF⟩ := of_guard hF
      refine at_val rfl rfl rfl (r_concat rfl rfl h13) ?_
      refine at_val rfl rfl rfl (r_assign rfl) ?_
      refine at_nil ?_
      refine at_drop (H := _) .z ?_
      refine at_weak [(2, _)] ⟨rfl, trivial⟩ ?_
      refine at_then_normal ?_
      refine at_ret ?_
      have K := of_some hF
      subst K
      exact at_return1 rfl rfl (fun w1 hw => ⟨rfl, hw.below⟩)

def hostport_halves (x0 : ByteArray) : Option (ByteArray × ByteArray × Bool) :=
  strings_CutPrefix x0 (⟨#[91]⟩ : ByteArray) >>= fun t1 => if t1.2 = true then (if t1.1.size < 4294967281 then if ((scut t1.1 (⟨#[93, 58]⟩ : ByteArray)).2.2) = true then (some ((scut t1.1 (⟨#[93, 58]⟩ : ByteArray)).1, (scut t1.1 (⟨#[93, 58]⟩ : ByteArray)).2.1, decide (0 ≤ Lib.indexByte ((scut t1.1 (⟨#[93, 58]⟩ : ByteArray)).1).data.toList 58))) else (some ((scut t1.1 (⟨#[93, 58]⟩ : ByteArray)).1, (scut t1.1 (⟨#[93, 58]⟩ : ByteArray)).2.1, false)) else none) else (if (0 : Int) ≤ 0 ∧ 0 < ((⟨#[58]⟩ : ByteArray).size : Int) then lines_Cut x0 (bt (⟨#[58]⟩ : ByteArray) 0) >>= fun t6 => some (t6.1, t6.2.1, t6.2.2) else none)
theorem hostport_halves_ok (x0 : ByteArray) (r : ByteArray × ByteArray × Bool) (hF : hostport_halves x0 = some r) (w : World) (hg_bytealg_MaxLen : GV_bytealg_MaxLen w) :
    Calls Tryz.prog 20 #[.string x0] w (fun e w' => e = .returned (.tuple #[.string r.1, .string r.2.1, .bool r.2.2]) ∧ Below w.heap.size w w') := by
  unfold hostport_halves at hF
  refine calls_enter (l := [.string x0]) Tryz.func20 rfl rfl rfl ?_
  refine at_start ?_
  refine at_weak [(0, _)] ⟨rfl, trivial⟩ ?_
  refine at_seq ?_
  refine at_region ?_
  refine at_val rfl rfl rfl (r_assign rfl) ?_
  refine at_val rfl rfl rfl (r_assign rfl) ?_
  refine at_val rfl rfl rfl (r_assign rfl) ?_
  refine at_nil ?_
  refine at_weak [(0, _)] ⟨rfl, trivial⟩ ?_
  refine at_then_normal ?_
  refine at_seq ?_
  refine at_seq ?_
  refine at_region ?_
  refine at_val rfl rfl rfl (r_move rfl) ?_
  obtain ⟨t1, ht1, hF⟩ := of_bindM hF
  refine at_call0 Tryz.func33 rfl (by kernel_rfl) rfl rfl (fun w => strings_CutPrefix_ok _ _ _ ht1 w) ?_
  refine at_val rfl rfl rfl (r_move rfl) ?_
  refine at_val rfl rfl rfl (r_extract rfl rfl) ?_
  refine at_val rfl rfl rfl (r_extract rfl rfl) ?_
  refine at_val rfl rfl rfl (r_assign rfl) ?_
  refine at_val rfl rfl rfl (r_assign rfl) ?_
  refine at_nil ?_
  refine at_weak [(0, _), (5, _), (6, _)] ⟨rfl, rfl, rfl, trivial⟩ ?_
  refine at_then_normal ?_
  refine at_seq ?_
  refine at_region ?_
  refine at_val rfl rfl rfl (r_move rfl) ?_
  refine at_nil ?_
  refine at_weak [(0, _), (5, _), (15, _)] ⟨rfl, rfl, rfl, trivial⟩ ?_
  refine at_then_normal ?_
  rcases of_ite hF with ⟨h2, hF⟩ | ⟨h2, hF⟩
  · refine at_cond_true rfl h2 ?_
    refine at_seq ?_
    refine at_region ?_
    refine at_val rfl rfl rfl (r_move rfl) ?_
    obtain ⟨h3, hF⟩ := of_guard hF
    refine at_callB Tryz.func34 rfl (by kernel_rfl) rfl rfl (fun w1 hw => cut_okS _ _ h3 w1 (hg_bytealg_MaxLen.on hw.below)) ?_
    refine at_val rfl rfl rfl (r_move rfl) ?_
    refine at_val rfl rfl rfl (r_extract rfl rfl) ?_
    refine at_val rfl rfl rfl (r_extract rfl rfl) ?_
    refine at_val rfl rfl rfl (r_extract rfl rfl) ?_
    refine at_val rfl rfl rfl (r_assign rfl) ?_
    refine at_val rfl rfl rfl (r_assign rfl) ?_
    refine at_val rfl rfl rfl (r_assign rfl) ?_
    refine at_nil ?_
    refine at_weak [(7, _), (8, _), (9, _)] ⟨rfl, rfl, rfl, trivial⟩ ?_
    refine at_then_normal ?_
    refine at_seq ?_
    refine at_region ?_
    refine at_val rfl rfl rfl (r_move rfl) ?_
    refine at_val rfl rfl rfl (r_move rfl) ?_
    refine at_val rfl rfl rfl (r_move rfl) ?_
    refine at_val rfl rfl rfl (r_move rfl) ?_
    rcases of_ite hF with ⟨h4, hF⟩ | ⟨h4, hF⟩
    · refine at_fix (g := 25) rfl h4 ?_
      refine at_guard_yes rfl rfl rfl ?_
      refine at_val rfl rfl rfl (r_move rfl) ?_
      refine at_guard_yes rfl rfl rfl ?_
      refine at_call0 Tryz.func35 rfl (by kernel_rfl) rfl rfl (fun w => Tryz.strings_Contains_one _ _ w) ?_
      refine at_val rfl rfl rfl (r_pick rfl rfl rfl) ?_
      refine at_val rfl rfl rfl (r_assign rfl) ?_
      refine at_val rfl rfl rfl (r_assign rfl) ?_
      refine at_val rfl rfl rfl (r_assign rfl) ?_
      refine at_nil ?_
      refine at_weak [(2, _), (3, _), (4, _)] ⟨rfl, rfl, rfl, trivial⟩ ?_
      refine at_then_normal ?_
      refine at_ret ?_
      refine at_then_ret ?_
      have K := of_some hF
      subst K
      exact at_return3 rfl rfl rfl rfl (fun w1 hw => ⟨rfl, hw.below⟩)
    · refine at_fix (g := 25) rfl h4 ?_
      refine at_guard_no rfl rfl rfl rfl rfl ?_
      refine at_guard_no rfl rfl rfl rfl rfl ?_
      refine at_val rfl rfl rfl (r_pick rfl rfl rfl) ?_
      refine at_val rfl rfl rfl (r_assign rfl) ?_
      refine at_val rfl rfl rfl (r_assign rfl) ?_
      refine at_val rfl rfl rfl (r_assign rfl) ?_
      refine at_nil ?_
      refine at_weak [(2, _), (3, _), (4, _)] ⟨rfl, rfl, rfl, trivial⟩ ?_
      refine at_then_normal ?_
      refine at_ret ?_
      refine at_then_ret ?_
      have K := of_some hF
      subst K
      exact at_return3 rfl rfl rfl rfl (fun w1 hw => ⟨rfl, hw.below⟩)
  · refine at_cond_false rfl h2 ?_
    refine at_skip ?_
    refine at_then_normal ?_
    refine at_seq ?_
    refine at_region ?_
    refine at_val rfl rfl rfl (r_move rfl) ?_
    obtain ⟨h5, hF⟩ := of_guard hF
    refine at_val rfl rfl rfl (r_index_str Tryz.underlying9 rfl rfl h5) ?_
    obtain ⟨t6, ht6, hF⟩ := of_bindM hF
    refine at_callB Tryz.func36 rfl (by kernel_rfl) rfl rfl (fun w hw => lines_Cut_ok _ _ _ ht6 w) ?_
    refine at_val rfl rfl rfl (r_extract rfl rfl) ?_
    refine at_val rfl rfl rfl (r_extract rfl rfl) ?_
    refine at_val rfl rfl rfl (r_extract rfl rfl) ?_
    refine at_val rfl rfl rfl (r_assign rfl) ?_
    refine at_val rfl rfl rfl (r_assign rfl) ?_
    refine at_val rfl rfl rfl (r_assign rfl) ?_
    refine at_nil ?_
    refine at_weak [(2, _), (3, _), (4, _)] ⟨rfl, rfl, rfl, trivial⟩ ?_
    refine at_then_normal ?_
    refine at_ret ?_
    have K := of_some hF
    subst K
    exact at_return3 rfl rfl rfl rfl (fun w1 hw => ⟨rfl, hw.below⟩)

def hostport_Parse (x0 : ByteArray) : Option (S_api_Endpoint × Int) :=
  hostport_halves x0 >>= fun t2 => if (!t2.2.2) = true then (some (({ f_A := ({ f_V := (0 : Int), f_B := (Vector.replicate 16 (0 : Int) : (Vector Int 16)) } : S_api_Addr), f_Port := (0 : Int) } : S_api_Endpoint), 5)) else (addr_Parse t2.1 >>= fun t4 => if (t4.2 != 0) = true then (some (({ f_A := ({ f_V := (0 : Int), f_B := (Vector.replicate 16 (0 : Int) : (Vector Int 16)) } : S_api_Addr), f_Port := (0 : Int) } : S_api_Endpoint), t4.2)) else (decimal_Read t2.2.1 65535 >>= fun t7 => if (t7.2 != 0) = true then (some (({ f_A := ({ f_V := (0 : Int), f_B := (Vector.replicate 16 (0 : Int) : (Vector Int 16)) } : S_api_Addr), f_Port := (0 : Int) } : S_api_Endpoint), t7.2)) else (if (t7.1 == 0) = true then (some (({ f_A := ({ f_V := (0 : Int), f_B := (Vector.replicate 16 (0 : Int) : (Vector Int 16)) } : S_api_Addr), f_Port := (0 : Int) } : S_api_Endpoint), 6)) else (some ({ { ({ f_A := ({ f_V := (0 : Int), f_B := (Vector.replicate 16 (0 : Int) : (Vector Int 16)) } : S_api_Addr), f_Port := (0 : Int) } : S_api_Endpoint) with f_A := t4.1 } with f_Port := wr .i64 t7.1 }, 0)))))
theorem hostport_Parse_ok (x0 : ByteArray) (r : S_api_Endpoint × Int) (hF : hostport_Parse x0 = some r) (w : World) (hg_bytealg_MaxLen : GV_bytealg_MaxLen w) (hg_strconv_ErrRange : GV_strconv_ErrRange w) (hg_strconv_ErrSyntax : GV_strconv_ErrSyntax w) :
    Calls Tryz.prog 11 #[.string x0] w (fun e w' => e = .returned (.tuple #[.agg (Cd.cs c_api_Endpoint r.1).toArray, .int .i64 r.2]) ∧ Below w.heap.size w w') := by
  unfold hostport_Parse at hF
  refine calls_enter (l := [.string x0]) Tryz.func11 rfl rfl rfl ?_
  refine at_start ?_
  refine at_weak [(0, _)] ⟨rfl, trivial⟩ ?_
  refine at_seq ?_
  refine at_region ?_
  refine at_alloc (cs := Cd.cs c_api_Endpoint ({ f_A := ({ f_V := (0 : Int), f_B := (Vector.replicate 16 (0 : Int) : (Vector Int 16)) } : S_api_Addr), f_Port := (0 : Int) } : S_api_Endpoint)) Tryz.zeroValue26 rfl rfl ?_
  intro b1
  refine at_val rfl rfl rfl (r_assign rfl) ?_
  refine at_nil ?_
  refine at_weak [(0, _), (2, _)] ⟨rfl, rfl, trivial⟩ ?_
  refine at_then_normal ?_
  refine at_seq ?_
  refine at_region ?_
  refine at_val rfl rfl rfl (r_move rfl) ?_
  obtain ⟨t2, ht2, hF⟩ := of_bindM hF
  refine at_callB Tryz.func20 rfl (by kernel_rfl) rfl rfl (fun w hw => hostport_halves_ok _ _ ht2 w (hg_bytealg_MaxLen.on hw.below)) ?_
  refine at_val rfl rfl rfl (r_move rfl) ?_
  refine at_val rfl rfl rfl (r_extract rfl rfl) ?_
  refine at_val rfl rfl rfl (r_extract rfl rfl) ?_
  refine at_val rfl rfl rfl (r_extract rfl rfl) ?_
  refine at_val rfl rfl rfl (r_assign rfl) ?_
  refine at_val rfl rfl rfl (r_assign rfl) ?_
  refine at_val rfl rfl rfl (r_assign rfl) ?_
  refine at_nil ?_
  refine at_weak [(2, _), (4, _), (5, _), (6, _)] ⟨rfl, rfl, rfl, rfl, trivial⟩ ?_
  refine at_then_normal ?_
  refine at_seq ?_
  refine at_seq ?_
  refine at_region ?_
  refine at_val rfl rfl rfl (r_move rfl) ?_
  refine at_val rfl rfl rfl (r_not rfl) ?_
  refine at_nil ?_
  refine at_weak [(2, _), (4, _), (5, _), (17, _)] ⟨rfl, rfl, rfl, rfl, trivial⟩ ?_
  refine at_then_normal ?_
  rcases of_ite hF with ⟨h3, hF⟩ | ⟨h3, hF⟩
  · refine at_cond_true rfl h3 ?_
    refine at_seq ?_
    refine at_region ?_
    refine at_val rfl rfl rfl (r_build_struct (zs := Cd.cs c_api_Endpoint ({ f_A := ({ f_V := (0 : Int), f_B := (Vector.replicate 16 (0 : Int) : (Vector Int 16)) } : S_api_Addr), f_Port := (0 : Int) } : S_api_Endpoint)) (cs := Cd.cs c_api_Endpoint ({ f_A := ({ f_V := (0 : Int), f_B := (Vector.replicate 16 (0 : Int) : (Vector Int 16)) } : S_api_Addr), f_Port := (0 : Int) } : S_api_Endpoint)) Tryz.underlying26 Tryz.zeroValue26 rfl (places_api_Endpoint_26) rfl rfl) ?_
    refine at_store (c := c_api_Endpoint) (z := ({ f_A := ({ f_V := (0 : Int), f_B := (Vector.replicate 16 (0 : Int) : (Vector Int 16)) } : S_api_Addr), f_Port := (0 : Int) } : S_api_Endpoint)) .z (Lens.whole _ _) Tryz.sizeOf26 rfl rfl rfl ?_
    refine at_val rfl rfl rfl (r_assign rfl) ?_
    refine at_nil ?_
    refine at_weak [(2, _), (3, _)] ⟨rfl, rfl, trivial⟩ ?_
    refine at_then_normal ?_
    refine at_ret ?_
    refine at_then_ret ?_
    have K := of_some hF
    subst K
    exact at_res2 rfl (res_cell (c := c_api_Endpoint) (y := ({ f_A := ({ f_V := (0 : Int), f_B := (Vector.replicate 16 (0 : Int) : (Vector Int 16)) } : S_api_Addr), f_Port := (0 : Int) } : S_api_Endpoint)) rfl .z (Lens.whole _ _) Tryz.isAgg26 Tryz.sizeOf26 (.inl rfl)) (res_tmp rfl) (fun w1 hw => ⟨rfl, hw.below⟩)
  · refine at_cond_false rfl h3 ?_
    refine at_skip ?_
    refine at_then_normal ?_
    refine at_seq ?_
    refine at_region ?_
    refine at_val rfl rfl rfl (r_move rfl) ?_
    obtain ⟨t4, ht4, hF⟩ := of_bindM hF
    refine at_callB Tryz.func21 rfl (by kernel_rfl) rfl rfl (fun w hw => addr_Parse_ok _ _ ht4 w (hg_strconv_ErrRange.on hw.below) (hg_strconv_ErrSyntax.on hw.below)) ?_
    refine at_val rfl rfl rfl (r_move rfl) ?_
    refine at_val rfl rfl rfl (r_extract rfl rfl) ?_
    refine at_val rfl rfl rfl (r_extract rfl rfl) ?_
    refine at_alloc (cs := Cd.cs c_api_Addr ({ f_V := (0 : Int), f_B := (Vector.replicate 16 (0 : Int) : (Vector Int 16)) } : S_api_Addr)) Tryz.zeroValue24 rfl rfl ?_
    intro b5
    refine at_store (c := c_api_Addr) (z := t4.1) .z (Lens.whole _ _) Tryz.sizeOf24 rfl rfl rfl ?_
    refine at_val rfl rfl rfl (r_assign rfl) ?_
    refine at_nil ?_
    refine at_weak [(2, _), (5, _), (7, _), (8, _)] ⟨rfl, rfl, rfl, rfl, trivial⟩ ?_
    refine at_then_normal ?_
    refine at_seq ?_
    refine at_seq ?_
    refine at_region ?_
    refine at_val rfl rfl rfl (r_move rfl) ?_
    refine at_val rfl rfl rfl (r_ineq rfl rfl) ?_
    refine at_nil ?_
    refine at_weak [(2, _), (5, _), (7, _), (8, _), (25, _)] ⟨rfl, rfl, rfl, rfl, rfl, trivial⟩ ?_
    refine at_then_normal ?_
    rcases of_ite hF with ⟨h6, hF⟩ | ⟨h6, hF⟩
    · refine at_cond_true rfl h6 ?_
      refine at_seq ?_
      refine at_region ?_
      refine at_val rfl rfl rfl (r_build_struct (zs := Cd.cs c_api_Endpoint ({ f_A := ({ f_V := (0 : Int), f_B := (Vector.replicate 16 (0 : Int) : (Vector Int 16)) } : S_api_Addr), f_Port := (0 : Int) } : S_api_Endpoint)) (cs := Cd.cs c_api_Endpoint ({ f_A := ({ f_V := (0 : Int), f_B := (Vector.replicate 16 (0 : Int) : (Vector Int 16)) } : S_api_Addr), f_Port := (0 : Int) } : S_api_Endpoint)) Tryz.underlying26 Tryz.zeroValue26 rfl (places_api_Endpoint_26) rfl rfl) ?_
      refine at_val rfl rfl rfl (r_move rfl) ?_
      refine at_store (c := c_api_Endpoint) (z := ({ f_A := ({ f_V := (0 : Int), f_B := (Vector.replicate 16 (0 : Int) : (Vector Int 16)) } : S_api_Addr), f_Port := (0 : Int) } : S_api_Endpoint)) (.s .z) (Lens.whole _ _) Tryz.sizeOf26 rfl rfl rfl ?_
      refine at_val rfl rfl rfl (r_assign rfl) ?_
      refine at_nil ?_
      refine at_drop (H := _) .z ?_
      refine at_weak [(2, _), (3, _)] ⟨rfl, rfl, trivial⟩ ?_
      refine at_then_normal ?_
      refine at_ret ?_
      refine at_then_ret ?_
      have K := of_some hF
      subst K
      exact at_res2 rfl (res_cell (c := c_api_Endpoint) (y := ({ f_A := ({ f_V := (0 : Int), f_B := (Vector.replicate 16 (0 : Int) : (Vector Int 16)) } : S_api_Addr), f_Port := (0 : Int) } : S_api_Endpoint)) rfl .z (Lens.whole _ _) Tryz.isAgg26 Tryz.sizeOf26 (.inl rfl)) (res_tmp rfl) (fun w1 hw => ⟨rfl, hw.below⟩)
    · refine at_cond_false rfl h6 ?_
      refine at_skip ?_
      refine at_then_normal ?_
      refine at_seq ?_
      refine at_region ?_
      refine at_val rfl rfl rfl (r_move rfl) ?_
      obtain ⟨t7, ht7, hF⟩ := of_bindM hF
      refine at_callB Tryz.func22 rfl (by kernel_rfl) rfl rfl (fun w hw => decimal_Read_ok _ _ _ ht7 w (hg_strconv_ErrRange.on hw.below) (hg_strconv_ErrSyntax.on hw.below)) ?_
      refine at_val rfl rfl rfl (r_move rfl) ?_
      refine at_val rfl rfl rfl (r_extract rfl rfl) ?_
      refine at_val rfl rfl rfl (r_extract rfl rfl) ?_
      refine at_val rfl rfl rfl (r_assign rfl) ?_
      refine at_val rfl rfl rfl (r_assign rfl) ?_
      refine at_nil ?_
      refine at_weak [(2, _), (7, _), (8, _), (9, _)] ⟨rfl, rfl, rfl, rfl, trivial⟩ ?_
      refine at_then_normal ?_
      refine at_seq ?_
      refine at_block ?_
      refine at_seq ?_
      refine at_region ?_
      refine at_val rfl rfl rfl (r_move rfl) ?_
      refine at_val rfl rfl rfl (r_ineq rfl rfl) ?_
      refine at_val rfl rfl rfl (r_assign rfl) ?_
      refine at_nil ?_
      refine at_weak [(2, _), (7, _), (8, _), (9, _), (33, _)] ⟨rfl, rfl, rfl, rfl, rfl, trivial⟩ ?_
      refine at_then_normal ?_
      rcases of_ite hF with ⟨h8, hF⟩ | ⟨h8, hF⟩
      · refine at_cond_true rfl h8 ?_
        refine at_seq ?_
        refine at_region ?_
        refine at_val rfl rfl rfl (r_build_struct (zs := Cd.cs c_api_Endpoint ({ f_A := ({ f_V := (0 : Int), f_B := (Vector.replicate 16 (0 : Int) : (Vector Int 16)) } : S_api_Addr), f_Port := (0 : Int) } : S_api_Endpoint)) (cs := Cd.cs c_api_Endpoint ({ f_A := ({ f_V := (0 : Int), f_B := (Vector.replicate 16 (0 : Int) : (Vector Int 16)) } : S_api_Addr), f_Port := (0 : Int) } : S_api_Endpoint)) Tryz.underlying26 Tryz.zeroValue26 rfl (places_api_Endpoint_26) rfl rfl) ?_
        refine at_val rfl rfl rfl (r_move rfl) ?_
        refine at_store (c := c_api_Endpoint) (z := ({ f_A := ({ f_V := (0 : Int), f_B := (Vector.replicate 16 (0 : Int) : (Vector Int 16)) } : S_api_Addr), f_Port := (0 : Int) } : S_api_Endpoint)) (.s .z) (Lens.whole _ _) Tryz.sizeOf26 rfl rfl rfl ?_
        refine at_val rfl rfl rfl (r_assign rfl) ?_
        refine at_nil ?_
        refine at_drop (H := _) .z ?_
        refine at_weak [(2, _), (3, _)] ⟨rfl, rfl, trivial⟩ ?_
        refine at_then_normal ?_
        refine at_ret ?_
        refine at_blk_ret (at_then_ret ?_)
        have K := of_some hF
        subst K
        exact at_res2 rfl (res_cell (c := c_api_Endpoint) (y := ({ f_A := ({ f_V := (0 : Int), f_B := (Vector.replicate 16 (0 : Int) : (Vector Int 16)) } : S_api_Addr), f_Port := (0 : Int) } : S_api_Endpoint)) rfl .z (Lens.whole _ _) Tryz.isAgg26 Tryz.sizeOf26 (.inl rfl)) (res_tmp rfl) (fun w1 hw => ⟨rfl, hw.below⟩)
      · refine at_cond_false rfl h8 ?_
        refine at_seq ?_
        refine at_region ?_
        refine at_val rfl rfl rfl (r_move rfl) ?_
        refine at_val rfl rfl rfl (r_ieql rfl rfl) ?_
        refine at_val rfl rfl rfl (r_assign rfl) ?_
        refine at_nil ?_
        refine at_weak [(2, _), (7, _), (9, _), (38, _)] ⟨rfl, rfl, rfl, rfl, trivial⟩ ?_
        refine at_then_normal ?_
        rcases of_ite hF with ⟨h9, hF⟩ | ⟨h9, hF⟩
        · refine at_cond_true rfl h9 ?_
          refine at_seq ?_
          refine at_region ?_
          refine at_val rfl rfl rfl (r_build_struct (zs := Cd.cs c_api_Endpoint ({ f_A := ({ f_V := (0 : Int), f_B := (Vector.replicate 16 (0 : Int) : (Vector Int 16)) } : S_api_Addr), f_Port := (0 : Int) } : S_api_Endpoint)) (cs := Cd.cs c_api_Endpoint ({ f_A := ({ f_V := (0 : Int), f_B := (Vector.replicate 16 (0 : Int) : (Vector Int 16)) } : S_api_Addr), f_Port := (0 : Int) } : S_api_Endpoint)) Tryz.underlying26 Tryz.zeroValue26 rfl (places_api_Endpoint_26) rfl rfl) ?_
          refine at_store (c := c_api_Endpoint) (z := ({ f_A := ({ f_V := (0 : Int), f_B := (Vector.replicate 16 (0 : Int) : (Vector Int 16)) } : S_api_Addr), f_Port := (0 : Int) } : S_api_Endpoint)) (.s .z) (Lens.whole _ _) Tryz.sizeOf26 rfl rfl rfl ?_
          refine at_val rfl rfl rfl (r_assign rfl) ?_
          refine at_nil ?_
          refine at_drop (H := _) .z ?_
          refine at_weak [(2, _), (3, _)] ⟨rfl, rfl, trivial⟩ ?_
          refine at_then_normal ?_
          refine at_ret ?_
          refine at_blk_ret (at_then_ret ?_)
          have K := of_some hF
          subst K
          exact at_res2 rfl (res_cell (c := c_api_Endpoint) (y := ({ f_A := ({ f_V := (0 : Int), f_B := (Vector.replicate 16 (0 : Int) : (Vector Int 16)) } : S_api_Addr), f_Port := (0 : Int) } : S_api_Endpoint)) rfl .z (Lens.whole _ _) Tryz.isAgg26 Tryz.sizeOf26 (.inl rfl)) (res_tmp rfl) (fun w1 hw => ⟨rfl, hw.below⟩)
        · refine at_cond_false rfl h9 ?_
          refine at_skip ?_
          refine at_blk_normal (at_then_normal ?_)
          refine at_seq ?_
          refine at_region ?_
          refine at_val rfl rfl rfl (r_load_aggc (c := c_api_Addr) (z := t4.1) Tryz.isAgg24 Tryz.sizeOf24 rfl (lens_cell .z (Lens.whole _ _))) ?_
          refine at_val rfl rfl rfl (r_move rfl) ?_
          refine at_val rfl rfl rfl (r_conv Tryz.underlying37 Tryz.underlying3 rfl) ?_
          refine at_val rfl rfl rfl (r_build_struct (zs := Cd.cs c_api_Endpoint ({ f_A := ({ f_V := (0 : Int), f_B := (Vector.replicate 16 (0 : Int) : (Vector Int 16)) } : S_api_Addr), f_Port := (0 : Int) } : S_api_Endpoint)) (cs := Cd.cs c_api_Endpoint ({ { ({ f_A := ({ f_V := (0 : Int), f_B := (Vector.replicate 16 (0 : Int) : (Vector Int 16)) } : S_api_Addr), f_Port := (0 : Int) } : S_api_Endpoint) with f_A := t4.1 } with f_Port := wr .i64 t7.1 })) Tryz.underlying26 Tryz.zeroValue26 rfl (places_api_Endpoint_26) rfl (fill_step (c := c_api_Addr) (z := t4.1) rfl (c_api_Endpoint_f_A ({ f_A := ({ f_V := (0 : Int), f_B := (Vector.replicate 16 (0 : Int) : (Vector Int 16)) } : S_api_Addr), f_Port := (0 : Int) } : S_api_Endpoint)) rfl (fill_step (c := (cInt .i64)) (z := wr .i64 t7.1) rfl (c_api_Endpoint_f_Port ({ ({ f_A := ({ f_V := (0 : Int), f_B := (Vector.replicate 16 (0 : Int) : (Vector Int 16)) } : S_api_Addr), f_Port := (0 : Int) } : S_api_Endpoint) with f_A := t4.1 })) rfl rfl))) ?_
          refine at_store (c := c_api_Endpoint) (z := { { ({ f_A := ({ f_V := (0 : Int), f_B := (Vector.replicate 16 (0 : Int) : (Vector Int 16)) } : S_api_Addr), f_Port := (0 : Int) } : S_api_Endpoint) with f_A := t4.1 } with f_Port := wr .i64 t7.1 }) (.s .z) (Lens.whole _ _) Tryz.sizeOf26 rfl rfl rfl ?_
          refine at_val rfl rfl rfl (r_assign rfl) ?_
          refine at_nil ?_
          refine at_drop (H := _) .z ?_
          refine at_weak [(2, _), (3, _)] ⟨rfl, rfl, trivial⟩ ?_
          refine at_then_normal ?_
          refine at_ret ?_
          have K := of_some hF
          subst K
          exact at_res2 rfl (res_cell (c := c_api_Endpoint) (y := { { ({ f_A := ({ f_V := (0 : Int), f_B := (Vector.replicate 16 (0 : Int) : (Vector Int 16)) } : S_api_Addr), f_Port := (0 : Int) } : S_api_Endpoint) with f_A := t4.1 } with f_Port := wr .i64 t7.1 }) rfl .z (Lens.whole _ _) Tryz.isAgg26 Tryz.sizeOf26 (.inl rfl)) (res_tmp rfl) (fun w1 hw => ⟨rfl, hw.below⟩)

def crawlwayref12_Right (x0 : S_api_Endpoint) : Option (Bool) :=
  crawlwayref10_Right x0.f_A >>= fun t2 => if t2 = true then (if (decide (x0.f_Port ≥ 1)) = true then (some (decide (x0.f_Port ≤ 65535))) else (some false)) else (some false)
theorem crawlwayref12_Right_ok (x0 : S_api_Endpoint) (r : Bool) (hF : crawlwayref12_Right x0 = some r) (w : World) :
    Calls Tryz.prog 6 #[.agg (Cd.cs c_api_Endpoint x0).toArray] w (fun e w' => e = .returned (.bool r) ∧ Below w.heap.size w w') := by
  unfold crawlwayref12_Right at hF
  refine calls_enter (l := [.agg (Cd.cs c_api_Endpoint x0).toArray]) Tryz.func6 rfl rfl rfl ?_
  refine at_start ?_
  refine at_weak [(0, _)] ⟨rfl, trivial⟩ ?_
  refine at_seq ?_
  refine at_region ?_
  refine at_box (cs := Cd.cs c_api_Endpoint x0) rfl rfl rfl ?_
  intro b1
  refine at_val rfl rfl rfl (r_assign rfl) ?_
  refine at_nil ?_
  refine at_weak [(1, _)] ⟨rfl, trivial⟩ ?_
  refine at_then_normal ?_
  refine at_seq ?_
  refine at_region ?_
  refine at_val rfl rfl rfl (r_fieldAddr (fo := 0) Tryz.underlying26 rfl rfl (fun w => ⟨_, Tryz.sizeOf24 w⟩) rfl) ?_
  refine at_val rfl rfl rfl (r_load_aggc (c := c_api_Addr) (z := x0.f_A) Tryz.isAgg24 Tryz.sizeOf24 rfl (lens_cell .z (Lens.comp (Lens.whole _ _) (fun z => { x0 with f_A := z }) (c_api_Endpoint_f_A x0)))) ?_
  obtain ⟨t2, ht2, hF⟩ := of_bindM hF
  refine at_callB Tryz.func16 rfl (by kernel_rfl) rfl rfl (fun w hw => crawlwayref10_Right_ok _ _ ht2 w) ?_
  refine at_val rfl rfl rfl (r_move rfl) ?_
  rcases of_ite hF with ⟨h3, hF⟩ | ⟨h3, hF⟩
  · refine at_fix (g := 6) rfl h3 ?_
    refine at_guard_yes rfl rfl rfl ?_
    refine at_val rfl rfl rfl (r_fieldAddr (fo := 17) Tryz.underlying26 rfl rfl (fun w => ⟨_, Tryz.sizeOf3 w⟩) rfl) ?_
    refine at_guard_yes rfl rfl rfl ?_
    refine at_val rfl rfl rfl (r_load_cell Tryz.isAgg3 rfl (lens_cell0 (c := (cInt .i64)) (y := x0.f_Port) .z (Lens.comp (Lens.whole _ _) (fun z => { x0 with f_Port := z }) (c_api_Endpoint_f_Port x0)) rfl)) ?_
    refine at_guard_yes rfl rfl rfl ?_
    refine at_val rfl rfl rfl (r_igeq rfl rfl) ?_
    refine at_val rfl rfl rfl (r_pick rfl rfl rfl) ?_
    refine at_val rfl rfl rfl (r_move rfl) ?_
    rcases of_ite hF with ⟨h4, hF⟩ | ⟨h4, hF⟩
    · refine at_fix (g := 11) rfl h4 ?_
      refine at_guard_yes rfl rfl rfl ?_
      refine at_val rfl rfl rfl (r_fieldAddr (fo := 17) Tryz.underlying26 rfl rfl (fun w => ⟨_, Tryz.sizeOf3 w⟩) rfl) ?_
      refine at_guard_yes rfl rfl rfl ?_
      refine at_val rfl rfl rfl (r_load_cell Tryz.isAgg3 rfl (lens_cell0 (c := (cInt .i64)) (y := x0.f_Port) .z (Lens.comp (Lens.whole _ _) (fun z => { x0 with f_Port := z }) (c_api_Endpoint_f_Port x0)) rfl)) ?_
      refine at_guard_yes rfl rfl rfl ?_
      refine at_val rfl rfl rfl (r_ileq rfl rfl) ?_
      refine at_val rfl rfl rfl (r_pick rfl rfl rfl) ?_
      refine at_val rfl rfl rfl (r_assign rfl) ?_
      refine at_nil ?_
      refine at_drop (H := _) .z ?_
      refine at_weak [(2, _)] ⟨rfl, trivial⟩ ?_
      refine at_then_normal ?_
      refine at_ret ?_
      have K := of_some hF
      subst K
      exact at_return1 rfl rfl (fun w1 hw => ⟨rfl, hw.below⟩)
    · refine at_fix (g := 11) rfl h4 ?_
      refine at_guard_no rfl rfl rfl rfl rfl ?_
      refine at_guard_no rfl rfl rfl rfl rfl ?_
      refine at_guard_no rfl rfl rfl rfl rfl ?_
      refine at_val rfl rfl rfl (r_pick rfl rfl rfl) ?_
      refine at_val rfl rfl rfl (r_assign rfl) ?_
      refine at_nil ?_
      refine at_drop (H := _) .z ?_
      refine at_weak [(2, _)] ⟨rfl, trivial⟩ ?_
      refine at_then_normal ?_
      refine at_ret ?_
      have K := of_some hF
      subst K
      exact at_return1 rfl rfl (fun w1 hw => ⟨rfl, hw.below⟩)
  · refine at_fix (g := 6) rfl h3 ?_
    refine at_guard_no rfl rfl rfl rfl rfl ?_
    refine at_guard_no rfl rfl rfl rfl rfl ?_
    refine at_guard_no rfl rfl rfl rfl rfl ?_
    refine at_val rfl rfl rfl (r_pick rfl rfl rfl) ?_
    refine at_val rfl rfl rfl (r_move rfl) ?_
    refine at_guard_no rfl rfl rfl rfl rfl ?_
    refine at_guard_no rfl rfl rfl rfl rfl ?_
    refine at_guard_no rfl rfl rfl rfl rfl ?_
    refine at_val rfl rfl rfl (r_pick rfl rfl rfl) ?_
    refine at_val rfl rfl rfl (r_assign rfl) ?_
    refine at_nil ?_
    refine at_drop (H := _) .z ?_
    refine at_weak [(2, _)] ⟨rfl, trivial⟩ ?_
    refine at_then_normal ?_
    refine at_ret ?_
    have K := of_some hF
    subst K
    exact at_return1 rfl rfl (fun w1 hw => ⟨rfl, hw.below⟩)

def crawlwayref12_Text (x0 : S_api_Endpoint) : Option (ByteArray) :=
  crawlwayref12_Right x0 >>= fun t2 => if (!t2) = true then (some (⟨#[]⟩)) else (crawlwayref03_Text (wr .u64 x0.f_Port) >>= fun t4 => if (⟨#[58]⟩ : ByteArray).size + t4.size ≤ 140737488355328 then if (x0.f_A.f_V == 6) = true then (crawlwayref10_Text x0.f_A >>= fun t7 => if (⟨#[91]⟩ : ByteArray).size + t7.size ≤ 140737488355328 then if ((⟨#[91]⟩ : ByteArray) ++ t7).size + (⟨#[93]⟩ : ByteArray).size ≤ 140737488355328 then if (((⟨#[91]⟩ : ByteArray) ++ t7) ++ (⟨#[93]⟩ : ByteArray)).size + ((⟨#[58]⟩ : ByteArray) ++ t4).size ≤ 140737488355328 then some ((((⟨#[91]⟩ : ByteArray) ++ t7) ++ (⟨#[93]⟩ : ByteArray)) ++ ((⟨#[58]⟩ : ByteArray) ++ t4)) else none else none else none) else (crawlwayref10_Text x0.f_A >>= fun t11 => if t11.size + ((⟨#[58]⟩ : ByteArray) ++ t4).size ≤ 140737488355328 then some (t11 ++ ((⟨#[58]⟩ : ByteArray) ++ t4)) else none) else none)
theorem crawlwayref12_Text_ok (x0 : S_api_Endpoint) (r : ByteArray) (hF : crawlwayref12_Text x0 = some r) (w : World) :
    Calls Tryz.prog 8 #[.agg (Cd.cs c_api_Endpoint x0).toArray] w (fun e w' => e = .returned (.string r) ∧ Below w.heap.size w w') := by
  unfold crawlwayref12_Text at hF
  refine calls_enter (l := [.agg (Cd.cs c_api_Endpoint x0).toArray]) Tryz.func8 rfl rfl rfl ?_
  refine at_start ?_
  refine at_weak [(0, _)] ⟨rfl, trivial⟩ ?_
  refine at_seq ?_
  refine at_region ?_
  refine at_box (cs := Cd.cs c_api_Endpoint x0) rfl rfl rfl ?_
  intro b1
  refine at_val rfl rfl rfl (r_assign rfl) ?_
  refine at_nil ?_
  refine at_weak [(1, _)] ⟨rfl, trivial⟩ ?_
  refine at_then_normal ?_
  refine at_seq ?_
  refine at_seq ?_
  refine at_region ?_
  refine at_val rfl rfl rfl (r_load_aggc (c := c_api_Endpoint) (z := x0) Tryz.isAgg26 Tryz.sizeOf26 rfl (lens_cell .z (Lens.whole _ _))) ?_
  obtain ⟨t2, ht2, hF⟩ := of_bindM hF
  refine at_callB Tryz.func6 rfl (by kernel_rfl) rfl rfl (fun w hw => crawlwayref12_Right_ok _ _ ht2 w) ?_
  refine at_val rfl rfl rfl (r_not rfl) ?_
  refine at_nil ?_
  refine at_weak [(1, _), (6, _)] ⟨rfl, rfl, trivial⟩ ?_
  refine at_then_normal ?_
  rcases of_ite hF with ⟨h3, hF⟩ | ⟨h3, hF⟩
  · refine at_cond_true rfl h3 ?_
    refine at_seq ?_
    refine at_region ?_
    refine at_val rfl rfl rfl (r_assign rfl) ?_
    refine at_nil ?_
    refine at_drop (H := _) .z ?_
    refine at_weak [(2, _)] ⟨rfl, trivial⟩ ?_
    refine at_then_normal ?_
    refine at_ret ?_
    refine at_then_ret ?_
    have K := of_some hF
    subst K
    exact at_return1 rfl rfl (fun w1 hw => ⟨rfl, hw.below⟩)
  · refine at_cond_false rfl h3 ?_
    refine at_skip ?_
    refine at_then_normal ?_
    refine at_seq ?_
    refine at_region ?_
    refine at_val rfl rfl rfl (r_fieldAddr (fo := 17) Tryz.underlying26 rfl rfl (fun w => ⟨_, Tryz.sizeOf3 w⟩) rfl) ?_
    refine at_val rfl rfl rfl (r_load_cell Tryz.isAgg3 rfl (lens_cell0 (c := (cInt .i64)) (y := x0.f_Port) .z (Lens.comp (Lens.whole _ _) (fun z => { x0 with f_Port := z }) (c_api_Endpoint_f_Port x0)) rfl)) ?_
    refine at_val rfl rfl rfl (r_conv Tryz.underlying3 Tryz.underlying37 rfl) ?_
    obtain ⟨t4, ht4, hF⟩ := of_bindM hF
    refine at_callB Tryz.func18 rfl (by kernel_rfl) rfl rfl (fun w hw => crawlwayref03_Text_ok _ _ ht4 w) ?_
    obtain ⟨h5, hF⟩ := of_guard hF
    refine at_val rfl rfl rfl (r_concat rfl rfl h5) ?_
    refine at_val rfl rfl rfl (r_assign rfl) ?_
    refine at_nil ?_
    refine at_weak [(1, _), (3, _)] ⟨rfl, rfl, trivial⟩ ?_
    refine at_then_normal ?_
    refine at_seq ?_
    refine at_seq ?_
    refine at_region ?_
    refine at_val rfl rfl rfl (r_fieldAddr (fo := 0) Tryz.underlying26 rfl rfl (fun w => ⟨_, Tryz.sizeOf24 w⟩) rfl) ?_
    refine at_val rfl rfl rfl (r_fieldAddr (fo := 0) Tryz.underlying24 rfl rfl (fun w => ⟨_, Tryz.sizeOf3 w⟩) rfl) ?_
    refine at_val rfl rfl rfl (r_load_cell Tryz.isAgg3 rfl (lens_cell0 (c := (cInt .i64)) (y := x0.f_A.f_V) .z (Lens.comp (Lens.comp (Lens.whole _ _) (fun z => { x0 with f_A := z }) (c_api_Endpoint_f_A x0)) (fun z => { x0.f_A with f_V := z }) (c_api_Addr_f_V x0.f_A)) rfl)) ?_
    refine at_val rfl rfl rfl (r_ieql rfl rfl) ?_
    refine at_nil ?_
    refine at_weak [(1, _), (3, _), (15, _)] ⟨rfl, rfl, rfl, trivial⟩ ?_
    refine at_then_normal ?_
    rcases of_ite hF with ⟨h6, hF⟩ | ⟨h6, hF⟩
    · refine at_cond_true rfl h6 ?_
      refine at_seq ?_
      refine at_region ?_
      refine at_val rfl rfl rfl (r_fieldAddr (fo := 0) Tryz.underlying26 rfl rfl (fun w => ⟨_, Tryz.sizeOf24 w⟩) rfl) ?_
      refine at_val rfl rfl rfl (r_load_aggc (c := c_api_Addr) (z := x0.f_A) Tryz.isAgg24 Tryz.sizeOf24 rfl (lens_cell .z (Lens.comp (Lens.whole _ _) (fun z => { x0 with f_A := z }) (c_api_Endpoint_f_A x0)))) ?_
      obtain ⟨t7, ht7, hF⟩ := of_bindM hF
      refine at_callB Tryz.func19 rfl (by kernel_rfl) rfl rfl (fun w hw => crawlwayref10_Text_ok _ _ ht7 w) ?_
      obtain ⟨h8, hF⟩ := of_guard hF
      refine at_val rfl rfl rfl (r_concat rfl rfl h8) ?_
      obtain ⟨h9, hF⟩ := of_guard hF
      refine at_val rfl rfl rfl (r_concat rfl rfl h9) ?_
      refine at_val rfl rfl rfl (r_move rfl) ?_
      obtain ⟨h10, hF⟩ := of_guard hF
      refine at_val rfl rfl rfl (r_concat rfl rfl h10) ?_
      refine at_val rfl rfl rfl (r_assign rfl) ?_
      refine at_nil ?_
      refine at_drop (H := _) .z ?_
      refine at_weak [(2, _)] ⟨rfl, trivial⟩ ?_
      refine at_then_normal ?_
      refine at_ret ?_
      refine at_then_ret ?_
      have K := of_some hF
      subst K
      exact at_return1 rfl rfl (fun w1 hw => ⟨rfl, hw.below⟩)
    · refine at_cond_false rfl h6 ?_
      refine at_skip ?_
      refine at_then_normal ?_
      refine at_seq ?_
      refine at_region ?_
      refine at_val rfl rfl rfl (r_fieldAddr (fo := 0) Tryz.underlying26 rfl rfl (fun w => ⟨_, Tryz.sizeOf24 w⟩) rfl) ?_
      refine at_val rfl rfl rfl (r_load_aggc (c := c_api_Addr) (z := x0.f_A) Tryz.isAgg24 Tryz.sizeOf24 rfl (lens_cell .z (Lens.comp (Lens.whole _ _) (fun z => { x0 with f_A := z }) (c_api_Endpoint_f_A x0)))) ?_
      obtain ⟨t11, ht11, hF⟩ := of_bindM hF
      refine at_callB Tryz.func19 rfl (by kernel_rfl) rfl rfl (fun w hw => crawlwayref10_Text_ok _ _ ht11 w) ?_
      refine at_val rfl rfl rfl (r_move rfl) ?_
      obtain ⟨h12, hF⟩ := of_guard hF
      refine at_val rfl rfl rfl (r_concat rfl rfl h12) ?_
      refine at_val rfl rfl rfl (r_assign rfl) ?_
      refine at_nil ?_
      refine at_drop (H := _) .z ?_
      refine at_weak [(2, _)] ⟨rfl, trivial⟩ ?_
      refine at_then_normal ?_
      refine at_ret ?_
      have K := of_some hF
      subst K
      exact at_return1 rfl rfl (fun w1 hw => ⟨rfl, hw.below⟩)

def crawlwayref12_cut.l0 (x0 : ByteArray) (i2 : Int) : Option (Ctl (ByteArray × ByteArray × Bool) (Unit)) :=
  if (decide (wr .i64 (i2 + 1) < (x0.size : Int))) = true then (if (0 : Int) ≤ i2 ∧ i2 < (x0.size : Int) then if (bt x0 i2 == 93) = true then (if (0 : Int) ≤ wr .i64 (i2 + 1) ∧ wr .i64 (i2 + 1) < (x0.size : Int) then if (bt x0 (wr .i64 (i2 + 1)) == 58) = true then (if (0 : Int) ≤ 0 ∧ 0 ≤ i2 ∧ i2 ≤ (x0.size : Int) then if (0 : Int) ≤ wr .i64 (i2 + 2) ∧ wr .i64 (i2 + 2) ≤ (x0.size : Int) ∧ (x0.size : Int) ≤ (x0.size : Int) then some (.ret (x0.extract (Int.toNat 0) (Int.toNat i2), x0.extract (Int.toNat (wr .i64 (i2 + 2))) (Int.toNat (x0.size : Int)), true)) else none else none) else (crawlwayref12_cut.l0 x0 (wr .i64 (i2 + 1))) else none) else (crawlwayref12_cut.l0 x0 (wr .i64 (i2 + 1))) else none) else (some (.nx ()))
  partial_fixpoint
def crawlwayref12_cut (x0 : ByteArray) : Option (ByteArray × ByteArray × Bool) :=
  crawlwayref12_cut.l0 x0 0 >>= fun q1 => match q1 with | .ret r' => some r' | .nx sq1 => (some (⟨#[]⟩, ⟨#[]⟩, false))
theorem crawlwayref12_cut_ok (x0 : ByteArray) (r : ByteArray × ByteArray × Bool) (hF : crawlwayref12_cut x0 = some r) (w : World) :
    Calls Tryz.prog 23 #[.string x0] w (fun e w' => e = .returned (.tuple #[.string r.1, .string r.2.1, .bool r.2.2]) ∧ Below w.heap.size w w') := by
  unfold crawlwayref12_cut at hF
  refine calls_enter (l := [.string x0]) Tryz.func23 rfl rfl rfl ?_
  refine at_start ?_
  refine at_weak [(0, _)] ⟨rfl, trivial⟩ ?_
  refine at_seq ?_
  refine at_region ?_
  refine at_val rfl rfl rfl (r_assign rfl) ?_
  refine at_val rfl rfl rfl (r_assign rfl) ?_
  refine at_val rfl rfl rfl (r_assign rfl) ?_
  refine at_nil ?_
  refine at_weak [(0, _)] ⟨rfl, trivial⟩ ?_
  refine at_then_normal ?_
  refine at_seq ?_
  refine at_seq ?_
  refine at_region ?_
  refine at_val rfl rfl rfl (r_assign rfl) ?_
  refine at_nil ?_
  refine at_weak [(0, _), (5, _)] ⟨rfl, rfl, trivial⟩ ?_
  refine at_then_normal ?_
  refine at_block ?_
  obtain ⟨q1, hq1, hF⟩ := of_bindM hF
  refine at_weak [(0, _), (5, _)] ⟨rfl, rfl, trivial⟩ ?_
  refine at_loop_r (B := 0) (r := r) (q := q1) (A := fun (_ : Unit) Y => At 31 [] (Wd w []) Y) ?_ ?_
  · intro K
    refine crawlwayref12_cut.l0.partial_correctness x0 (motive := fun i2 x => KR (fun (_ : Unit) Y => At 31 [] (Wd w []) Y) _ 0 r x → Round (fun Y => At 31 [(0, .string x0), (5, .int .i64 i2)] (Wd w []) Y) _ _ _) ?_ _ _ hq1 K
    · clear K hF
      intro g ih i2 x hF K
      refine at_round ?_
      refine at_seq ?_
      refine at_seq ?_
      refine at_region ?_
      refine at_val rfl rfl rfl (r_move rfl) ?_
      refine at_val rfl rfl rfl (r_iadd rfl rfl) ?_
      refine at_val rfl rfl rfl (r_move rfl) ?_
      refine at_val rfl rfl rfl (r_len_str Tryz.underlying9 rfl) ?_
      refine at_val rfl rfl rfl (r_ilss rfl rfl) ?_
      refine at_nil ?_
      refine at_weak [(0, _), (5, _), (10, _)] ⟨rfl, rfl, rfl, trivial⟩ ?_
      refine at_then_normal ?_
      rcases of_ite hF with ⟨h3, hF⟩ | ⟨h3, hF⟩
      · refine at_cond_true rfl h3 ?_
        refine at_skip ?_
        refine at_then_normal ?_
        refine at_seq ?_
        refine at_block ?_
        refine at_seq ?_
        refine at_region ?_
        refine at_val rfl rfl rfl (r_move rfl) ?_
        refine at_val rfl rfl rfl (r_move rfl) ?_
        obtain ⟨h4, hF⟩ := of_guard hF
        refine at_val rfl rfl rfl (r_index_str Tryz.underlying9 rfl rfl h4) ?_
        refine at_val rfl rfl rfl (r_ieql rfl rfl) ?_
        refine at_val rfl rfl rfl (r_move rfl) ?_
        rcases of_ite hF with ⟨h5, hF⟩ | ⟨h5, hF⟩
        · refine at_fix (g := 17) rfl h5 ?_
          refine at_guard_yes rfl rfl rfl ?_
          refine at_val rfl rfl rfl (r_move rfl) ?_
          refine at_guard_yes rfl rfl rfl ?_
          refine at_val rfl rfl rfl (r_move rfl) ?_
          refine at_guard_yes rfl rfl rfl ?_
          refine at_val rfl rfl rfl (r_iadd rfl rfl) ?_
          refine at_guard_yes rfl rfl rfl ?_
          obtain ⟨h6, hF⟩ := of_guard hF
          refine at_val rfl rfl rfl (r_index_str Tryz.underlying9 rfl rfl h6) ?_
          refine at_guard_yes rfl rfl rfl ?_
          refine at_val rfl rfl rfl (r_ieql rfl rfl) ?_
          refine at_val rfl rfl rfl (r_pick rfl rfl rfl) ?_
          refine at_nil ?_
          refine at_weak [(0, _), (5, _), (23, _)] ⟨rfl, rfl, rfl, trivial⟩ ?_
          refine at_then_normal ?_
          rcases of_ite hF with ⟨h7, hF⟩ | ⟨h7, hF⟩
          · refine at_cond_true rfl h7 ?_
            refine at_seq ?_
            refine at_draw (by kernel_rfl) (by kernel_rfl) (fun _ h => h.drew) ?_
            refine atq_val rfl rfl rfl (r_move rfl) ?_
            refine atq_val rfl rfl rfl (r_move rfl) ?_
            obtain ⟨h8, hF⟩ := of_guard hF
            refine atq_val rfl rfl rfl (r_slice_str Tryz.underlying9 rfl rfl ⟨_, rfl⟩ h8) ?_
            refine atq_val rfl rfl rfl (r_move rfl) ?_
            refine atq_val rfl rfl rfl (r_move rfl) ?_
            refine atq_val rfl rfl rfl (r_iadd rfl rfl) ?_
            obtain ⟨h9, hF⟩ := of_guard hF
            refine atq_val rfl rfl rfl (r_slice_str Tryz.underlying9 rfl ⟨_, rfl⟩ rfl h9) ?_
            refine atq_val rfl rfl rfl (r_assign rfl) ?_
            refine atq_val rfl rfl rfl (r_assign rfl) ?_
            refine atq_val rfl rfl rfl (r_assign rfl) ?_
            refine atq_nil ?_
            refine at_weak [(2, _), (3, _), (4, _)] ⟨rfl, rfl, rfl, trivial⟩ ?_
            refine at_then_normal ?_
            refine at_ret ?_
            refine at_blk_ret (at_then_ret (at_then_ret (at_blk_ret (at_then_ret ?_))))
            obtain rfl := of_some hF
            subst K
            exact at_return3 rfl rfl rfl rfl (fun w1 hw => ⟨rfl, hw.below⟩)
          · refine at_cond_false rfl h7 ?_
            refine at_skip ?_
            refine at_blk_normal (at_then_normal ?_)
            refine at_region ?_
            refine at_val rfl rfl rfl (r_move rfl) ?_
            refine at_val rfl rfl rfl (r_iadd rfl rfl) ?_
            refine at_val rfl rfl rfl (r_assign rfl) ?_
            refine at_nil ?_
            refine at_weak [(0, _), (5, _)] ⟨rfl, rfl, trivial⟩ ?_
            refine at_then_normal ?_
            exact at_weak_k (ih _ _ hF K) ⟨rfl, rfl, trivial⟩
        · refine at_fix (g := 17) rfl h5 ?_
          refine at_guard_no rfl rfl rfl rfl rfl ?_
          refine at_guard_no rfl rfl rfl rfl rfl ?_
          refine at_guard_no rfl rfl rfl rfl rfl ?_
          refine at_guard_no rfl rfl rfl rfl rfl ?_
          refine at_guard_no rfl rfl rfl rfl rfl ?_
          refine at_val rfl rfl rfl (r_pick rfl rfl rfl) ?_
          refine at_nil ?_
          refine at_weak [(0, _), (5, _), (23, _)] ⟨rfl, rfl, rfl, trivial⟩ ?_
          refine at_then_normal ?_
          refine at_cond_false rfl rfl ?_
          refine at_skip ?_
          refine at_blk_normal (at_then_normal ?_)
          refine at_region ?_
          refine at_val rfl rfl rfl (r_move rfl) ?_
          refine at_val rfl rfl rfl (r_iadd rfl rfl) ?_
          refine at_val rfl rfl rfl (r_assign rfl) ?_
          refine at_nil ?_
          refine at_weak [(0, _), (5, _)] ⟨rfl, rfl, trivial⟩ ?_
          refine at_then_normal ?_
          exact at_weak_k (ih _ _ hF K) ⟨rfl, rfl, trivial⟩
      · refine at_cond_false rfl h3 ?_
        refine at_exit ?_
        refine at_then_exit (at_then_exit ?_)
        obtain rfl := of_some hF
        exact at_weak_k K trivial
  · cases q1 with
    | ret r' => exact of_some hF
    | nx sq1 =>
      skip
      refine at_blk_same ?_
      refine at_then_normal ?_
      refine at_seq ?_
      refine at_region ?_
      refine at_val rfl rfl rfl (r_assign rfl) ?_
      refine at_val rfl rfl rfl (r_assign rfl) ?_
      refine at_val rfl rfl rfl (r_assign rfl) ?_
      refine at_nil ?_
      refine at_weak [(2, _), (3, _), (4, _)] ⟨rfl, rfl, rfl, trivial⟩ ?_
      refine at_then_normal ?_
      refine at_ret ?_
      have K := of_some hF
      subst K
      exact at_return3 rfl rfl rfl rfl (fun w1 hw => ⟨rfl, hw.below⟩)

def crawlwayref12_Parse (x0 : ByteArray) : Option (S_api_Endpoint × Int) :=
  if (decide ((x0.size : Int) > 0)) = true then (if (0 : Int) ≤ 0 ∧ 0 < (x0.size : Int) then if (bt x0 0 == 91) = true then (if (0 : Int) ≤ 1 ∧ 1 ≤ (x0.size : Int) ∧ (x0.size : Int) ≤ (x0.size : Int) then crawlwayref12_cut (x0.extract (Int.toNat 1) (Int.toNat (x0.size : Int))) >>= fun t6 => if (!t6.2.2) = true then (some (({ f_A := ({ f_V := (0 : Int), f_B := (Vector.replicate 16 (0 : Int) : (Vector Int 16)) } : S_api_Addr), f_Port := (0 : Int) } : S_api_Endpoint), 5)) else (crawlwayref06_Parts t6.1 58 >>= fun t8 => if (decide ((t8.length : Int) > 1) != (bt x0 0 == 91)) = true then (some (({ f_A := ({ f_V := (0 : Int), f_B := (Vector.replicate 16 (0 : Int) : (Vector Int 16)) } : S_api_Addr), f_Port := (0 : Int) } : S_api_Endpoint), 5)) else (crawlwayref10_Parse t6.1 >>= fun t12 => if (t12.2 != 0) = true then (some (({ f_A := ({ f_V := (0 : Int), f_B := (Vector.replicate 16 (0 : Int) : (Vector Int 16)) } : S_api_Addr), f_Port := (0 : Int) } : S_api_Endpoint), t12.2)) else (crawlwayref03_Read t6.2.1 65535 >>= fun t15 => if (t15.2 != 0) = true then (some (({ f_A := ({ f_V := (0 : Int), f_B := (Vector.replicate 16 (0 : Int) : (Vector Int 16)) } : S_api_Addr), f_Port := (0 : Int) } : S_api_Endpoint), t15.2)) else (if (t15.1 == 0) = true then (some (({ f_A := ({ f_V := (0 : Int), f_B := (Vector.replicate 16 (0 : Int) : (Vector Int 16)) } : S_api_Addr), f_Port := (0 : Int) } : S_api_Endpoint), 6)) else (some ({ { ({ f_A := ({ f_V := (0 : Int), f_B := (Vector.replicate 16 (0 : Int) : (Vector Int 16)) } : S_api_Addr), f_Port := (0 : Int) } : S_api_Endpoint) with f_A := t12.1 } with f_Port := wr .i64 t15.1 }, 0)))))) else none) else (crawlwayref06_Parts x0 58 >>= fun t18 => if (0 : Int) ≤ 0 ∧ 0 < (t18.length : Int) then if (decide ((t18.length : Int) > 1)) = true then (if (0 : Int) ≤ 0 ∧ 0 < (t18.length : Int) then if (0 : Int) ≤ wr .i64 (((lget t18 0).size : Int) + 1) ∧ wr .i64 (((lget t18 0).size : Int) + 1) ≤ (x0.size : Int) ∧ (x0.size : Int) ≤ (x0.size : Int) then if (!(decide ((t18.length : Int) > 1))) = true then (some (({ f_A := ({ f_V := (0 : Int), f_B := (Vector.replicate 16 (0 : Int) : (Vector Int 16)) } : S_api_Addr), f_Port := (0 : Int) } : S_api_Endpoint), 5)) else (crawlwayref06_Parts (lget t18 0) 58 >>= fun t32 => if (decide ((t32.length : Int) > 1) != (bt x0 0 == 91)) = true then (some (({ f_A := ({ f_V := (0 : Int), f_B := (Vector.replicate 16 (0 : Int) : (Vector Int 16)) } : S_api_Addr), f_Port := (0 : Int) } : S_api_Endpoint), 5)) else (crawlwayref10_Parse (lget t18 0) >>= fun t36 => if (t36.2 != 0) = true then (some (({ f_A := ({ f_V := (0 : Int), f_B := (Vector.replicate 16 (0 : Int) : (Vector Int 16)) } : S_api_Addr), f_Port := (0 : Int) } : S_api_Endpoint), t36.2)) else (crawlwayref03_Read (x0.extract (Int.toNat (wr .i64 (((lget t18 0).size : Int) + 1))) (Int.toNat (x0.size : Int))) 65535 >>= fun t39 => if (t39.2 != 0) = true then (some (({ f_A := ({ f_V := (0 : Int), f_B := (Vector.replicate 16 (0 : Int) : (Vector Int 16)) } : S_api_Addr), f_Port := (0 : Int) } : S_api_Endpoint), t39.2)) else (if (t39.1 == 0) = true then (some (({ f_A := ({ f_V := (0 : Int), f_B := (Vector.replicate 16 (0 : Int) : (Vector Int 16)) } : S_api_Addr), f_Port := (0 : Int) } : S_api_Endpoint), 6)) else (some ({ { ({ f_A := ({ f_V := (0 : Int), f_B := (Vector.replicate 16 (0 : Int) : (Vector Int 16)) } : S_api_Addr), f_Port := (0 : Int) } : S_api_Endpoint) with f_A := t36.1 } with f_Port := wr .i64 t39.1 }, 0)))))) else none else none) else (if (!(decide ((t18.length : Int) > 1))) = true then (some (({ f_A := ({ f_V := (0 : Int), f_B := (Vector.replicate 16 (0 : Int) : (Vector Int 16)) } : S_api_Addr), f_Port := (0 : Int) } : S_api_Endpoint), 5)) else (crawlwayref06_Parts (lget t18 0) 58 >>= fun t43 => if (decide ((t43.length : Int) > 1) != (bt x0 0 == 91)) = true then (some (({ f_A := ({ f_V := (0 : Int), f_B := (Vector.replicate 16 (0 : Int) : (Vector Int 16)) } : S_api_Addr), f_Port := (0 : Int) } : S_api_Endpoint), 5)) else (crawlwayref10_Parse (lget t18 0) >>= fun t47 => if (t47.2 != 0) = true then (some (({ f_A := ({ f_V := (0 : Int), f_B := (Vector.replicate 16 (0 : Int) : (Vector Int 16)) } : S_api_Addr), f_Port := (0 : Int) } : S_api_Endpoint), t47.2)) else (crawlwayref03_Read (⟨#[]⟩ : ByteArray) 65535 >>= fun t50 => if (t50.2 != 0) = true then (some (({ f_A := ({ f_V := (0 : Int), f_B := (Vector.replicate 16 (0 : Int) : (Vector Int 16)) } : S_api_Addr), f_Port := (0 : Int) } : S_api_Endpoint), t50.2)) else (if (t50.1 == 0) = true then (some (({ f_A := ({ f_V := (0 : Int), f_B := (Vector.replicate 16 (0 : Int) : (Vector Int 16)) } : S_api_Addr), f_Port := (0 : Int) } : S_api_Endpoint), 6)) else (some ({ { ({ f_A := ({ f_V := (0 : Int), f_B := (Vector.replicate 16 (0 : Int) : (Vector Int 16)) } : S_api_Addr), f_Port := (0 : Int) } : S_api_Endpoint) with f_A := t47.1 } with f_Port := wr .i64 t50.1 }, 0))))))) else none) else none) else (crawlwayref06_Parts x0 58 >>= fun t53 => if (0 : Int) ≤ 0 ∧ 0 < (t53.length : Int) then if (decide ((t53.length : Int) > 1)) = true then (if (0 : Int) ≤ 0 ∧ 0 < (t53.length : Int) then if (0 : Int) ≤ wr .i64 (((lget t53 0).size : Int) + 1) ∧ wr .i64 (((lget t53 0).size : Int) + 1) ≤ (x0.size : Int) ∧ (x0.size : Int) ≤ (x0.size : Int) then if (!(decide ((t53.length : Int) > 1))) = true then (some (({ f_A := ({ f_V := (0 : Int), f_B := (Vector.replicate 16 (0 : Int) : (Vector Int 16)) } : S_api_Addr), f_Port := (0 : Int) } : S_api_Endpoint), 5)) else (crawlwayref06_Parts (lget t53 0) 58 >>= fun t67 => if (decide ((t67.length : Int) > 1) != false) = true then (some (({ f_A := ({ f_V := (0 : Int), f_B := (Vector.replicate 16 (0 : Int) : (Vector Int 16)) } : S_api_Addr), f_Port := (0 : Int) } : S_api_Endpoint), 5)) else (crawlwayref10_Parse (lget t53 0) >>= fun t71 => if (t71.2 != 0) = true then (some (({ f_A := ({ f_V := (0 : Int), f_B := (Vector.replicate 16 (0 : Int) : (Vector Int 16)) } : S_api_Addr), f_Port := (0 : Int) } : S_api_Endpoint), t71.2)) else (crawlwayref03_Read (x0.extract (Int.toNat (wr .i64 (((lget t53 0).size : Int) + 1))) (Int.toNat (x0.size : Int))) 65535 >>= fun t74 => if (t74.2 != 0) = true then (some (({ f_A := ({ f_V := (0 : Int), f_B := (Vector.replicate 16 (0 : Int) : (Vector Int 16)) } : S_api_Addr), f_Port := (0 : Int) } : S_api_Endpoint), t74.2)) else (if (t74.1 == 0) = true then (some (({ f_A := ({ f_V := (0 : Int), f_B := (Vector.replicate 16 (0 : Int) : (Vector Int 16)) } : S_api_Addr), f_Port := (0 : Int) } : S_api_Endpoint), 6)) else (some ({ { ({ f_A := ({ f_V := (0 : Int), f_B := (Vector.replicate 16 (0 : Int) : (Vector Int 16)) } : S_api_Addr), f_Port := (0 : Int) } : S_api_Endpoint) with f_A := t71.1 } with f_Port := wr .i64 t74.1 }, 0)))))) else none else none) else (if (!(decide ((t53.length : Int) > 1))) = true then (some (({ f_A := ({ f_V := (0 : Int), f_B := (Vector.replicate 16 (0 : Int) : (Vector Int 16)) } : S_api_Addr), f_Port := (0 : Int) } : S_api_Endpoint), 5)) else (crawlwayref06_Parts (lget t53 0) 58 >>= fun t78 => if (decide ((t78.length : Int) > 1) != false) = true then (some (({ f_A := ({ f_V := (0 : Int), f_B := (Vector.replicate 16 (0 : Int) : (Vector Int 16)) } : S_api_Addr), f_Port := (0 : Int) } : S_api_Endpoint), 5)) else (crawlwayref10_Parse (lget t53 0) >>= fun t82 => if (t82.2 != 0) = true then (some (({ f_A := ({ f_V := (0 : Int), f_B := (Vector.replicate 16 (0 : Int) : (Vector Int 16)) } : S_api_Addr), f_Port := (0 : Int) } : S_api_Endpoint), t82.2)) else (crawlwayref03_Read (⟨#[]⟩ : ByteArray) 65535 >>= fun t85 => if (t85.2 != 0) = true then (some (({ f_A := ({ f_V := (0 : Int), f_B := (Vector.replicate 16 (0 : Int) : (Vector Int 16)) } : S_api_Addr), f_Port := (0 : Int) } : S_api_Endpoint), t85.2)) else (if (t85.1 == 0) = true then (some (({ f_A := ({ f_V := (0 : Int), f_B := (Vector.replicate 16 (0 : Int) : (Vector Int 16)) } : S_api_Addr), f_Port := (0 : Int) } : S_api_Endpoint), 6)) else (some ({ { ({ f_A := ({ f_V := (0 : Int), f_B := (Vector.replicate 16 (0 : Int) : (Vector Int 16)) } : S_api_Addr), f_Port := (0 : Int) } : S_api_Endpoint) with f_A := t82.1 } with f_Port := wr .i64 t85.1 }, 0))))))) else none)
theorem crawlwayref12_Parse_ok (x0 : ByteArray) (r : S_api_Endpoint × Int) (hF : crawlwayref12_Parse x0 = some r) (w : World) :
    Calls Tryz.prog 12 #[.string x0] w (fun e w' => e = .returned (.tuple #[.agg (Cd.cs c_api_Endpoint r.1).toArray, .int .i64 r.2]) ∧ Below w.heap.size w w') := by
  unfold crawlwayref12_Parse at hF
  refine calls_enter (l := [.string x0]) Tryz.func12 rfl rfl rfl ?_
  refine at_start ?_
  refine at_weak [(0, _)] ⟨rfl, trivial⟩ ?_
  refine at_seq ?_
  refine at_region ?_
  refine at_alloc (cs := Cd.cs c_api_Endpoint ({ f_A := ({ f_V := (0 : Int), f_B := (Vector.replicate 16 (0 : Int) : (Vector Int 16)) } : S_api_Addr), f_Port := (0 : Int) } : S_api_Endpoint)) Tryz.zeroValue26 rfl rfl ?_
  intro b1
  refine at_val rfl rfl rfl (r_assign rfl) ?_
  refine at_nil ?_
  refine at_weak [(0, _), (2, _)] ⟨rfl, rfl, trivial⟩ ?_
  refine at_then_normal ?_
  refine at_seq ?_
  refine at_region ?_
  refine at_val rfl rfl rfl (r_assign rfl) ?_
  refine at_nil ?_
  refine at_weak [(0, _), (2, _)] ⟨rfl, rfl, trivial⟩ ?_
  refine at_then_normal ?_
  refine at_seq ?_
  refine at_region ?_
  refine at_val rfl rfl rfl (r_assign rfl) ?_
  refine at_nil ?_
  refine at_weak [(0, _), (2, _), (5, _)] ⟨rfl, rfl, rfl, trivial⟩ ?_
  refine at_then_normal ?_
  refine at_seq ?_
  refine at_region ?_
  refine at_val rfl rfl rfl (r_assign rfl) ?_
  refine at_nil ?_
  refine at_weak [(0, _), (2, _), (5, _)] ⟨rfl, rfl, rfl, trivial⟩ ?_
  refine at_then_normal ?_
  refine at_seq ?_
  refine at_region ?_
  refine at_val rfl rfl rfl (r_move rfl) ?_
  refine at_val rfl rfl rfl (r_len_str Tryz.underlying9 rfl) ?_
  refine at_val rfl rfl rfl (r_igtr rfl rfl) ?_
  refine at_val rfl rfl rfl (r_move rfl) ?_
  rcases of_ite hF with ⟨h2, hF⟩ | ⟨h2, hF⟩
  · refine at_fix (g := 16) rfl h2 ?_
    refine at_guard_yes rfl rfl rfl ?_
    refine at_val rfl rfl rfl (r_move rfl) ?_
    refine at_guard_yes rfl rfl rfl ?_
    obtain ⟨h3, hF⟩ := of_guard hF
    refine at_val rfl rfl rfl (r_index_str Tryz.underlying9 rfl rfl h3) ?_
    refine at_guard_yes rfl rfl rfl ?_
    refine at_val rfl rfl rfl (r_ieql rfl rfl) ?_
    refine at_val rfl rfl rfl (r_pick rfl rfl rfl) ?_
    refine at_val rfl rfl rfl (r_assign rfl) ?_
    refine at_nil ?_
    refine at_weak [(0, _), (2, _), (5, _), (7, _)] ⟨rfl, rfl, rfl, rfl, trivial⟩ ?_
    refine at_then_normal ?_
    refine at_seq ?_
    refine at_seq ?_
    refine at_region ?_
    refine at_val rfl rfl rfl (r_move rfl) ?_
    refine at_nil ?_
    refine at_weak [(0, _), (2, _), (5, _), (7, _), (21, _)] ⟨rfl, rfl, rfl, rfl, rfl, trivial⟩ ?_
    refine at_then_normal ?_
    rcases of_ite hF with ⟨h4, hF⟩ | ⟨h4, hF⟩
    · refine at_cond_true rfl h4 ?_
      refine at_region ?_
      refine at_val rfl rfl rfl (r_move rfl) ?_
      obtain ⟨h5, hF⟩ := of_guard hF
      refine at_val rfl rfl rfl (r_slice_str Tryz.underlying9 rfl ⟨_, rfl⟩ rfl h5) ?_
      obtain ⟨t6, ht6, hF⟩ := of_bindM hF
      refine at_callB Tryz.func23 rfl (by kernel_rfl) rfl rfl (fun w hw => crawlwayref12_cut_ok _ _ ht6 w) ?_
      refine at_val rfl rfl rfl (r_move rfl) ?_
      refine at_val rfl rfl rfl (r_extract rfl rfl) ?_
      refine at_val rfl rfl rfl (r_extract rfl rfl) ?_
      refine at_val rfl rfl rfl (r_extract rfl rfl) ?_
      refine at_val rfl rfl rfl (r_assign rfl) ?_
      refine at_val rfl rfl rfl (r_assign rfl) ?_
      refine at_val rfl rfl rfl (r_assign rfl) ?_
      refine at_nil ?_
      refine at_weak [(2, _), (4, _), (5, _), (6, _), (7, _)] ⟨rfl, rfl, rfl, rfl, rfl, trivial⟩ ?_
      refine at_then_normal ?_
      refine at_seq ?_
      refine at_seq ?_
      refine at_region ?_
      refine at_val rfl rfl rfl (r_move rfl) ?_
      refine at_val rfl rfl rfl (r_not rfl) ?_
      refine at_val rfl rfl rfl (r_move rfl) ?_
      rcases of_ite hF with ⟨h7, hF⟩ | ⟨h7, hF⟩
      · refine at_fix (g := 47) rfl h7 ?_
        refine at_guard_no rfl rfl rfl rfl rfl ?_
        refine at_guard_no rfl rfl rfl rfl rfl ?_
        refine at_guard_no rfl rfl rfl rfl rfl ?_
        refine at_guard_no rfl rfl rfl rfl rfl ?_
        refine at_guard_no rfl rfl rfl rfl rfl ?_
        refine at_guard_no rfl rfl rfl rfl rfl ?_
        refine at_val rfl rfl rfl (r_pick rfl rfl rfl) ?_
        refine at_nil ?_
        refine at_weak [(2, _), (4, _), (5, _), (54, _)] ⟨rfl, rfl, rfl, rfl, trivial⟩ ?_
        refine at_then_normal ?_
        refine at_cond_true rfl rfl ?_
        refine at_seq ?_
        refine at_region ?_
        refine at_val rfl rfl rfl (r_build_struct (zs := Cd.cs c_api_Endpoint ({ f_A := ({ f_V := (0 : Int), f_B := (Vector.replicate 16 (0 : Int) : (Vector Int 16)) } : S_api_Addr), f_Port := (0 : Int) } : S_api_Endpoint)) (cs := Cd.cs c_api_Endpoint ({ f_A := ({ f_V := (0 : Int), f_B := (Vector.replicate 16 (0 : Int) : (Vector Int 16)) } : S_api_Addr), f_Port := (0 : Int) } : S_api_Endpoint)) Tryz.underlying26 Tryz.zeroValue26 rfl (places_api_Endpoint_26) rfl rfl) ?_
        refine at_store (c := c_api_Endpoint) (z := ({ f_A := ({ f_V := (0 : Int), f_B := (Vector.replicate 16 (0 : Int) : (Vector Int 16)) } : S_api_Addr), f_Port := (0 : Int) } : S_api_Endpoint)) .z (Lens.whole _ _) Tryz.sizeOf26 rfl rfl rfl ?_
        refine at_val rfl rfl rfl (r_assign rfl) ?_
        refine at_nil ?_
        refine at_weak [(2, _), (3, _)] ⟨rfl, rfl, trivial⟩ ?_
        refine at_then_normal ?_
        refine at_ret ?_
        refine at_then_ret ?_
        have K := of_some hF
        subst K
        exact at_res2 rfl (res_cell (c := c_api_Endpoint) (y := ({ f_A := ({ f_V := (0 : Int), f_B := (Vector.replicate 16 (0 : Int) : (Vector Int 16)) } : S_api_Addr), f_Port := (0 : Int) } : S_api_Endpoint)) rfl .z (Lens.whole _ _) Tryz.isAgg26 Tryz.sizeOf26 (.inl rfl)) (res_tmp rfl) (fun w1 hw => ⟨rfl, hw.below⟩)
      · refine at_fix (g := 47) rfl h7 ?_
        refine at_guard_yes rfl rfl rfl ?_
        refine at_val rfl rfl rfl (r_move rfl) ?_
        refine at_guard_yes rfl rfl rfl ?_
        obtain ⟨t8, ht8, hF⟩ := of_bindM hF
        refine at_callO (c := cStr) (e := 9) (ys := t8) (V := fun p cap => .slice p t8.length cap) Tryz.func24 rfl (by kernel_rfl) rfl rfl (fun w hw => crawlwayref06_Parts_ok _ _ _ ht8 w) ?_
        intro p9 c10
        refine at_guard_yes rfl rfl rfl ?_
        refine at_val rfl rfl rfl (r_len_sl Tryz.underlying47 rfl) ?_
        refine at_guard_yes rfl rfl rfl ?_
        refine at_val rfl rfl rfl (r_igtr rfl rfl) ?_
        refine at_guard_yes rfl rfl rfl ?_
        refine at_val rfl rfl rfl (r_move rfl) ?_
        refine at_guard_yes rfl rfl rfl ?_
        refine at_val rfl rfl rfl (r_bool Tryz.underlying4 rfl rfl (.inr rfl) rfl) ?_
        refine at_val rfl rfl rfl (r_pick rfl rfl rfl) ?_
        refine at_nil ?_
        refine at_drop (H := _) .z ?_
        refine at_weak [(2, _), (4, _), (5, _), (54, _)] ⟨rfl, rfl, rfl, rfl, trivial⟩ ?_
        refine at_then_normal ?_
        rcases of_ite hF with ⟨h11, hF⟩ | ⟨h11, hF⟩
        · refine at_cond_true rfl h11 ?_
          refine at_seq ?_
          refine at_region ?_
          refine at_val rfl rfl rfl (r_build_struct (zs := Cd.cs c_api_Endpoint ({ f_A := ({ f_V := (0 : Int), f_B := (Vector.replicate 16 (0 : Int) : (Vector Int 16)) } : S_api_Addr), f_Port := (0 : Int) } : S_api_Endpoint)) (cs := Cd.cs c_api_Endpoint ({ f_A := ({ f_V := (0 : Int), f_B := (Vector.replicate 16 (0 : Int) : (Vector Int 16)) } : S_api_Addr), f_Port := (0 : Int) } : S_api_Endpoint)) Tryz.underlying26 Tryz.zeroValue26 rfl (places_api_Endpoint_26) rfl rfl) ?_
          refine at_store (c := c_api_Endpoint) (z := ({ f_A := ({ f_V := (0 : Int), f_B := (Vector.replicate 16 (0 : Int) : (Vector Int 16)) } : S_api_Addr), f_Port := (0 : Int) } : S_api_Endpoint)) .z (Lens.whole _ _) Tryz.sizeOf26 rfl rfl rfl ?_
          refine at_val rfl rfl rfl (r_assign rfl) ?_
          refine at_nil ?_
          refine at_weak [(2, _), (3, _)] ⟨rfl, rfl, trivial⟩ ?_
          refine at_then_normal ?_
          refine at_ret ?_
          refine at_then_ret ?_
          have K := of_some hF
          subst K
          exact at_res2 rfl (res_cell (c := c_api_Endpoint) (y := ({ f_A := ({ f_V := (0 : Int), f_B := (Vector.replicate 16 (0 : Int) : (Vector Int 16)) } : S_api_Addr), f_Port := (0 : Int) } : S_api_Endpoint)) rfl .z (Lens.whole _ _) Tryz.isAgg26 Tryz.sizeOf26 (.inl rfl)) (res_tmp rfl) (fun w1 hw => ⟨rfl, hw.below⟩)
        · refine at_cond_false rfl h11 ?_
          refine at_skip ?_
          refine at_then_normal ?_
          refine at_seq ?_
          refine at_region ?_
          refine at_val rfl rfl rfl (r_move rfl) ?_
          obtain ⟨t12, ht12, hF⟩ := of_bindM hF
          refine at_callB Tryz.func25 rfl (by kernel_rfl) rfl rfl (fun w hw => crawlwayref10_Parse_ok _ _ ht12 w) ?_
          refine at_val rfl rfl rfl (r_move rfl) ?_
          refine at_val rfl rfl rfl (r_extract rfl rfl) ?_
          refine at_val rfl rfl rfl (r_extract rfl rfl) ?_
          refine at_alloc (cs := Cd.cs c_api_Addr ({ f_V := (0 : Int), f_B := (Vector.replicate 16 (0 : Int) : (Vector Int 16)) } : S_api_Addr)) Tryz.zeroValue24 rfl rfl ?_
          intro b13
          refine at_store (c := c_api_Addr) (z := t12.1) .z (Lens.whole _ _) Tryz.sizeOf24 rfl rfl rfl ?_
          refine at_val rfl rfl rfl (r_assign rfl) ?_
          refine at_nil ?_
          refine at_weak [(2, _), (5, _), (9, _), (10, _)] ⟨rfl, rfl, rfl, rfl, trivial⟩ ?_
          refine at_then_normal ?_
          refine at_seq ?_
          refine at_seq ?_
          refine at_region ?_
          refine at_val rfl rfl rfl (r_move rfl) ?_
          refine at_val rfl rfl rfl (r_ineq rfl rfl) ?_
          refine at_nil ?_
          refine at_weak [(2, _), (5, _), (9, _), (10, _), (62, _)] ⟨rfl, rfl, rfl, rfl, rfl, trivial⟩ ?_
          refine at_then_normal ?_
          rcases of_ite hF with ⟨h14, hF⟩ | ⟨h14, hF⟩
          · refine at_cond_true rfl h14 ?_
            refine at_seq ?_
            refine at_region ?_
            refine at_val rfl rfl rfl (r_build_struct (zs := Cd.cs c_api_Endpoint ({ f_A := ({ f_V := (0 : Int), f_B := (Vector.replicate 16 (0 : Int) : (Vector Int 16)) } : S_api_Addr), f_Port := (0 : Int) } : S_api_Endpoint)) (cs := Cd.cs c_api_Endpoint ({ f_A := ({ f_V := (0 : Int), f_B := (Vector.replicate 16 (0 : Int) : (Vector Int 16)) } : S_api_Addr), f_Port := (0 : Int) } : S_api_Endpoint)) Tryz.underlying26 Tryz.zeroValue26 rfl (places_api_Endpoint_26) rfl rfl) ?_
            refine at_val rfl rfl rfl (r_move rfl) ?_
            refine at_store (c := c_api_Endpoint) (z := ({ f_A := ({ f_V := (0 : Int), f_B := (Vector.replicate 16 (0 : Int) : (Vector Int 16)) } : S_api_Addr), f_Port := (0 : Int) } : S_api_Endpoint)) (.s .z) (Lens.whole _ _) Tryz.sizeOf26 rfl rfl rfl ?_
            refine at_val rfl rfl rfl (r_assign rfl) ?_
            refine at_nil ?_
            refine at_drop (H := _) .z ?_
            refine at_weak [(2, _), (3, _)] ⟨rfl, rfl, trivial⟩ ?_
            refine at_then_normal ?_
            refine at_ret ?_
            refine at_then_ret ?_
            have K := of_some hF
            subst K
            exact at_res2 rfl (res_cell (c := c_api_Endpoint) (y := ({ f_A := ({ f_V := (0 : Int), f_B := (Vector.replicate 16 (0 : Int) : (Vector Int 16)) } : S_api_Addr), f_Port := (0 : Int) } : S_api_Endpoint)) rfl .z (Lens.whole _ _) Tryz.isAgg26 Tryz.sizeOf26 (.inl rfl)) (res_tmp rfl) (fun w1 hw => ⟨rfl, hw.below⟩)
          · refine at_cond_false rfl h14 ?_
            refine at_skip ?_
            refine at_then_normal ?_
            refine at_seq ?_
            refine at_region ?_
            refine at_val rfl rfl rfl (r_move rfl) ?_
            obtain ⟨t15, ht15, hF⟩ := of_bindM hF
            refine at_call0 Tryz.func26 rfl (by kernel_rfl) rfl rfl (fun w => crawlwayref03_Read_ok _ _ _ ht15 w) ?_
            refine at_val rfl rfl rfl (r_move rfl) ?_
            refine at_val rfl rfl rfl (r_extract rfl rfl) ?_
            refine at_val rfl rfl rfl (r_extract rfl rfl) ?_
            refine at_val rfl rfl rfl (r_assign rfl) ?_
            refine at_val rfl rfl rfl (r_assign rfl) ?_
            refine at_nil ?_
            refine at_weak [(2, _), (9, _), (11, _), (12, _)] ⟨rfl, rfl, rfl, rfl, trivial⟩ ?_
            refine at_then_normal ?_
            refine at_seq ?_
            refine at_seq ?_
            refine at_region ?_
            refine at_val rfl rfl rfl (r_move rfl) ?_
            refine at_val rfl rfl rfl (r_ineq rfl rfl) ?_
            refine at_nil ?_
            refine at_weak [(2, _), (9, _), (11, _), (12, _), (71, _)] ⟨rfl, rfl, rfl, rfl, rfl, trivial⟩ ?_
            refine at_then_normal ?_
            rcases of_ite hF with ⟨h16, hF⟩ | ⟨h16, hF⟩
            · refine at_cond_true rfl h16 ?_
              refine at_seq ?_
              refine at_region ?_
              refine at_val rfl rfl rfl (r_build_struct (zs := Cd.cs c_api_Endpoint ({ f_A := ({ f_V := (0 : Int), f_B := (Vector.replicate 16 (0 : Int) : (Vector Int 16)) } : S_api_Addr), f_Port := (0 : Int) } : S_api_Endpoint)) (cs := Cd.cs c_api_Endpoint ({ f_A := ({ f_V := (0 : Int), f_B := (Vector.replicate 16 (0 : Int) : (Vector Int 16)) } : S_api_Addr), f_Port := (0 : Int) } : S_api_Endpoint)) Tryz.underlying26 Tryz.zeroValue26 rfl (places_api_Endpoint_26) rfl rfl) ?_
              refine at_val rfl rfl rfl (r_move rfl) ?_
              refine at_store (c := c_api_Endpoint) (z := ({ f_A := ({ f_V := (0 : Int), f_B := (Vector.replicate 16 (0 : Int) : (Vector Int 16)) } : S_api_Addr), f_Port := (0 : Int) } : S_api_Endpoint)) (.s .z) (Lens.whole _ _) Tryz.sizeOf26 rfl rfl rfl ?_
              refine at_val rfl rfl rfl (r_assign rfl) ?_
              refine at_nil ?_
              refine at_drop (H := _) .z ?_
              refine at_weak [(2, _), (3, _)] ⟨rfl, rfl, trivial⟩ ?_
              refine at_then_normal ?_
              refine at_ret ?_
              refine at_then_ret ?_
              have K := of_some hF
              subst K
              exact at_res2 rfl (res_cell (c := c_api_Endpoint) (y := ({ f_A := ({ f_V := (0 : Int), f_B := (Vector.replicate 16 (0 : Int) : (Vector Int 16)) } : S_api_Addr), f_Port := (0 : Int) } : S_api_Endpoint)) rfl .z (Lens.whole _ _) Tryz.isAgg26 Tryz.sizeOf26 (.inl rfl)) (res_tmp rfl) (fun w1 hw => ⟨rfl, hw.below⟩)
            · refine at_cond_false rfl h16 ?_
              refine at_skip ?_
              refine at_then_normal ?_
              refine at_seq ?_
              refine at_seq ?_
              refine at_region ?_
              refine at_val rfl rfl rfl (r_move rfl) ?_
              refine at_val rfl rfl rfl (r_ieql rfl rfl) ?_
              refine at_nil ?_
              refine at_weak [(2, _), (9, _), (11, _), (75, _)] ⟨rfl, rfl, rfl, rfl, trivial⟩ ?_
              refine at_then_normal ?_
              rcases of_ite hF with ⟨h17, hF⟩ | ⟨h17, hF⟩
              · refine at_cond_true rfl h17 ?_
                refine at_seq ?_
                refine at_region ?_
                refine at_val rfl rfl rfl (r_build_struct (zs := Cd.cs c_api_Endpoint ({ f_A := ({ f_V := (0 : Int), f_B := (Vector.replicate 16 (0 : Int) : (Vector Int 16)) } : S_api_Addr), f_Port := (0 : Int) } : S_api_Endpoint)) (cs := Cd.cs c_api_Endpoint ({ f_A := ({ f_V := (0 : Int), f_B := (Vector.replicate 16 (0 : Int) : (Vector Int 16)) } : S_api_Addr), f_Port := (0 : Int) } : S_api_Endpoint)) Tryz.underlying26 Tryz.zeroValue26 rfl (places_api_Endpoint_26) rfl rfl) ?_
                refine at_store (c := c_api_Endpoint) (z := ({ f_A := ({ f_V := (0 : Int), f_B := (Vector.replicate 16 (0 : Int) : (Vector Int 16)) } : S_api_Addr), f_Port := (0 : Int) } : S_api_Endpoint)) (.s .z) (Lens.whole _ _) Tryz.sizeOf26 rfl rfl rfl ?_
                refine at_val rfl rfl rfl (r_assign rfl) ?_
                refine at_nil ?_
                refine at_drop (H := _) .z ?_
                refine at_weak [(2, _), (3, _)] ⟨rfl, rfl, trivial⟩ ?_
                refine at_then_normal ?_
                refine at_ret ?_
                refine at_then_ret ?_
                have K := of_some hF
                subst K
                exact at_res2 rfl (res_cell (c := c_api_Endpoint) (y := ({ f_A := ({ f_V := (0 : Int), f_B := (Vector.replicate 16 (0 : Int) : (Vector Int 16)) } : S_api_Addr), f_Port := (0 : Int) } : S_api_Endpoint)) rfl .z (Lens.whole _ _) Tryz.isAgg26 Tryz.sizeOf26 (.inl rfl)) (res_tmp rfl) (fun w1 hw => ⟨rfl, hw.below⟩)
              · refine at_cond_false rfl h17 ?_
                refine at_skip ?_
                refine at_then_normal ?_
                refine at_seq ?_
                refine at_region ?_
                refine at_val rfl rfl rfl (r_load_aggc (c := c_api_Addr) (z := t12.1) Tryz.isAgg24 Tryz.sizeOf24 rfl (lens_cell .z (Lens.whole _ _))) ?_
                refine at_val rfl rfl rfl (r_move rfl) ?_
                refine at_val rfl rfl rfl (r_conv Tryz.underlying37 Tryz.underlying3 rfl) ?_
                refine at_val rfl rfl rfl (r_build_struct (zs := Cd.cs c_api_Endpoint ({ f_A := ({ f_V := (0 : Int), f_B := (Vector.replicate 16 (0 : Int) : (Vector Int 16)) } : S_api_Addr), f_Port := (0 : Int) } : S_api_Endpoint)) (cs := Cd.cs c_api_Endpoint ({ { ({ f_A := ({ f_V := (0 : Int), f_B := (Vector.replicate 16 (0 : Int) : (Vector Int 16)) } : S_api_Addr), f_Port := (0 : Int) } : S_api_Endpoint) with f_A := t12.1 } with f_Port := wr .i64 t15.1 })) Tryz.underlying26 Tryz.zeroValue26 rfl (places_api_Endpoint_26) rfl (fill_step (c := c_api_Addr) (z := t12.1) rfl (c_api_Endpoint_f_A ({ f_A := ({ f_V := (0 : Int), f_B := (Vector.replicate 16 (0 : Int) : (Vector Int 16)) } : S_api_Addr), f_Port := (0 : Int) } : S_api_Endpoint)) rfl (fill_step (c := (cInt .i64)) (z := wr .i64 t15.1) rfl (c_api_Endpoint_f_Port ({ ({ f_A := ({ f_V := (0 : Int), f_B := (Vector.replicate 16 (0 : Int) : (Vector Int 16)) } : S_api_Addr), f_Port := (0 : Int) } : S_api_Endpoint) with f_A := t12.1 })) rfl rfl))) ?_
                refine at_store (c := c_api_Endpoint) (z := { { ({ f_A := ({ f_V := (0 : Int), f_B := (Vector.replicate 16 (0 : Int) : (Vector Int 16)) } : S_api_Addr), f_Port := (0 : Int) } : S_api_Endpoint) with f_A := t12.1 } with f_Port := wr .i64 t15.1 }) (.s .z) (Lens.whole _ _) Tryz.sizeOf26 rfl rfl rfl ?_
                refine at_val rfl rfl rfl (r_assign rfl) ?_
                refine at_nil ?_
                refine at_drop (H := _) .z ?_
                refine at_weak [(2, _), (3, _)] ⟨rfl, rfl, trivial⟩ ?_
                refine at_then_normal ?_
                refine at_ret ?_
                have K := of_some hF
                subst K
                exact at_res2 rfl (res_cell (c := c_api_Endpoint) (y := { { ({ f_A := ({ f_V := (0 : Int), f_B := (Vector.replicate 16 (0 : Int) : (Vector Int 16)) } : S_api_Addr), f_Port := (0 : Int) } : S_api_Endpoint) with f_A := t12.1 } with f_Port := wr .i64 t15.1 }) rfl .z (Lens.whole _ _) Tryz.isAgg26 Tryz.sizeOf26 (.inl rfl)) (res_tmp rfl) (fun w1 hw => ⟨rfl, hw.below⟩)
    · refine at_cond_false rfl h4 ?_
      refine at_seq ?_
      refine at_region ?_
      refine at_val rfl rfl rfl (r_move rfl) ?_
      obtain ⟨t18, ht18, hF⟩ := of_bindM hF
      refine at_callO (c := cStr) (e := 9) (ys := t18) (V := fun p cap => .slice p t18.length cap) Tryz.func24 rfl (by kernel_rfl) rfl rfl (fun w hw => crawlwayref06_Parts_ok _ _ _ ht18 w) ?_
      intro p19 c20
      refine at_val rfl rfl rfl (r_assign rfl) ?_
      refine at_nil ?_
      refine at_weak [(0, _), (2, _), (5, _), (7, _), (8, _)] ⟨rfl, rfl, rfl, rfl, rfl, trivial⟩ ?_
      refine at_then_normal ?_
      refine at_seq ?_
      refine at_region ?_
      refine at_val rfl rfl rfl (r_move rfl) ?_
      refine at_val rfl rfl rfl (r_len_sl Tryz.underlying47 rfl) ?_
      refine at_val rfl rfl rfl (r_igtr rfl rfl) ?_
      refine at_val rfl rfl rfl (r_assign rfl) ?_
      refine at_nil ?_
      refine at_weak [(0, _), (2, _), (5, _), (6, _), (7, _), (8, _)] ⟨rfl, rfl, rfl, rfl, rfl, rfl, trivial⟩ ?_
      refine at_then_normal ?_
      refine at_seq ?_
      refine at_region ?_
      refine at_val rfl rfl rfl (r_move rfl) ?_
      obtain ⟨h21, hF⟩ := of_guard hF
      refine at_pure (φ := ∃ b o, p19 = some ⟨b, o, none⟩) (fun _ hw => row_ptr (hw.own .z).row h21) ?_
      rintro ⟨b23, o24, hp22⟩
      refine at_val rfl rfl rfl (r_idx Tryz.underlying47 Tryz.sizeOf9 rfl rfl h21 hp22) ?_
      refine at_val rfl rfl rfl (r_load_cell Tryz.isAgg9 rfl (fun _ hw => row_cell0 (W := fun w1 => w1 = _) (fun w1 h => by subst h; exact Below.refl _ _) (hw.own .z).row h21 hp22 rfl _ rfl)) ?_
      refine at_val rfl rfl rfl (r_assign rfl) ?_
      refine at_nil ?_
      refine at_weak [(0, _), (2, _), (4, _), (5, _), (6, _), (7, _), (8, _)] ⟨rfl, rfl, rfl, rfl, rfl, rfl, rfl, trivial⟩ ?_
      refine at_then_normal ?_
      refine at_seq ?_
      refine at_region ?_
      refine at_val rfl rfl rfl (r_move rfl) ?_
      refine at_nil ?_
      refine at_weak [(0, _), (2, _), (4, _), (5, _), (6, _), (7, _), (8, _), (37, _)] ⟨rfl, rfl, rfl, rfl, rfl, rfl, rfl, rfl, trivial⟩ ?_
      refine at_then_normal ?_
      rcases of_ite hF with ⟨h25, hF⟩ | ⟨h25, hF⟩
      · refine at_cond_true rfl h25 ?_
        refine at_region ?_
        refine at_val rfl rfl rfl (r_move rfl) ?_
        refine at_val rfl rfl rfl (r_move rfl) ?_
        obtain ⟨h26, hF⟩ := of_guard hF
        refine at_pure (φ := ∃ b o, p19 = some ⟨b, o, none⟩) (fun _ hw => row_ptr (hw.own .z).row h26) ?_
        rintro ⟨b28, o29, hp27⟩
        refine at_val rfl rfl rfl (r_idx Tryz.underlying47 Tryz.sizeOf9 rfl rfl h26 hp27) ?_
        refine at_val rfl rfl rfl (r_load_cell Tryz.isAgg9 rfl (fun _ hw => row_cell0 (W := fun w1 => w1 = _) (fun w1 h => by subst h; exact Below.refl _ _) (hw.own .z).row h26 hp27 rfl _ rfl)) ?_
        refine at_val rfl rfl rfl (r_len_str Tryz.underlying9 rfl) ?_
        refine at_val rfl rfl rfl (r_iadd rfl rfl) ?_
        obtain ⟨h30, hF⟩ := of_guard hF
        refine at_val rfl rfl rfl (r_slice_str Tryz.underlying9 rfl ⟨_, rfl⟩ rfl h30) ?_
        refine at_val rfl rfl rfl (r_assign rfl) ?_
        refine at_nil ?_
        refine at_drop (H := _) .z ?_
        refine at_weak [(2, _), (4, _), (5, _), (6, _), (7, _)] ⟨rfl, rfl, rfl, rfl, rfl, trivial⟩ ?_
        refine at_then_normal ?_
        refine at_seq ?_
        refine at_seq ?_
        refine at_region ?_
        refine at_val rfl rfl rfl (r_move rfl) ?_
        refine at_val rfl rfl rfl (r_not rfl) ?_
        refine at_val rfl rfl rfl (r_move rfl) ?_
        rcases of_ite hF with ⟨h31, hF⟩ | ⟨h31, hF⟩
        · refine at_fix (g := 47) rfl h31 ?_
          refine at_guard_no rfl rfl rfl rfl rfl ?_
          refine at_guard_no rfl rfl rfl rfl rfl ?_
          refine at_guard_no rfl rfl rfl rfl rfl ?_
          refine at_guard_no rfl rfl rfl rfl rfl ?_
          refine at_guard_no rfl rfl rfl rfl rfl ?_
          refine at_guard_no rfl rfl rfl rfl rfl ?_
          refine at_val rfl rfl rfl (r_pick rfl rfl rfl) ?_
          refine at_nil ?_
          refine at_weak [(2, _), (4, _), (5, _), (54, _)] ⟨rfl, rfl, rfl, rfl, trivial⟩ ?_
          refine at_then_normal ?_
          refine at_cond_true rfl rfl ?_
          refine at_seq ?_
          refine at_region ?_
          refine at_val rfl rfl rfl (r_build_struct (zs := Cd.cs c_api_Endpoint ({ f_A := ({ f_V := (0 : Int), f_B := (Vector.replicate 16 (0 : Int) : (Vector Int 16)) } : S_api_Addr), f_Port := (0 : Int) } : S_api_Endpoint)) (cs := Cd.cs c_api_Endpoint ({ f_A := ({ f_V := (0 : Int), f_B := (Vector.replicate 16 (0 : Int) : (Vector Int 16)) } : S_api_Addr), f_Port := (0 : Int) } : S_api_Endpoint)) Tryz.underlying26 Tryz.zeroValue26 rfl (places_api_Endpoint_26) rfl rfl) ?_
          refine at_store (c := c_api_Endpoint) (z := ({ f_A := ({ f_V := (0 : Int), f_B := (Vector.replicate 16 (0 : Int) : (Vector Int 16)) } : S_api_Addr), f_Port := (0 : Int) } : S_api_Endpoint)) .z (Lens.whole _ _) Tryz.sizeOf26 rfl rfl rfl ?_
          refine at_val rfl rfl rfl (r_assign rfl) ?_
          refine at_nil ?_
          refine at_weak [(2, _), (3, _)] ⟨rfl, rfl, trivial⟩ ?_
          refine at_then_normal ?_
          refine at_ret ?_
          refine at_then_ret ?_
          have K := of_some hF
          subst K
          exact at_res2 rfl (res_cell (c := c_api_Endpoint) (y := ({ f_A := ({ f_V := (0 : Int), f_B := (Vector.replicate 16 (0 : Int) : (Vector Int 16)) } : S_api_Addr), f_Port := (0 : Int) } : S_api_Endpoint)) rfl .z (Lens.whole _ _) Tryz.isAgg26 Tryz.sizeOf26 (.inl rfl)) (res_tmp rfl) (fun w1 hw => ⟨rfl, hw.below⟩)
        · refine at_fix (g := 47) rfl h31 ?_
          refine at_guard_yes rfl rfl rfl ?_
          refine at_val rfl rfl rfl (r_move rfl) ?_
          refine at_guard_yes rfl rfl rfl ?_
          obtain ⟨t32, ht32, hF⟩ := of_bindM hF
          refine at_callO (c := cStr) (e := 9) (ys := t32) (V := fun p cap => .slice p t32.length cap) Tryz.func24 rfl (by kernel_rfl) rfl rfl (fun w hw => crawlwayref06_Parts_ok _ _ _ ht32 w) ?_
          intro p33 c34
          refine at_guard_yes rfl rfl rfl ?_
          refine at_val rfl rfl rfl (r_len_sl Tryz.underlying47 rfl) ?_
          refine at_guard_yes rfl rfl rfl ?_
          refine at_val rfl rfl rfl (r_igtr rfl rfl) ?_
          refine at_guard_yes rfl rfl rfl ?_
          refine at_val rfl rfl rfl (r_move rfl) ?_
          refine at_guard_yes rfl rfl rfl ?_
          refine at_val rfl rfl rfl (r_bool Tryz.underlying4 rfl rfl (.inr rfl) rfl) ?_
          refine at_val rfl rfl rfl (r_pick rfl rfl rfl) ?_
          refine at_nil ?_
          refine at_drop (H := _) .z ?_
          refine at_weak [(2, _), (4, _), (5, _), (54, _)] ⟨rfl, rfl, rfl, rfl, trivial⟩ ?_
          refine at_then_normal ?_
          rcases of_ite hF with ⟨h35, hF⟩ | ⟨h35, hF⟩
          · refine at_cond_true rfl h35 ?_
            refine at_seq ?_
            refine at_region ?_
            refine at_val rfl rfl rfl (r_build_struct (zs := Cd.cs c_api_Endpoint ({ f_A := ({ f_V := (0 : Int), f_B := (Vector.replicate 16 (0 : Int) : (Vector Int 16)) } : S_api_Addr), f_Port := (0 : Int) } : S_api_Endpoint)) (cs := Cd.cs c_api_Endpoint ({ f_A := ({ f_V := (0 : Int), f_B := (Vector.replicate 16 (0 : Int) : (Vector Int 16)) } : S_api_Addr), f_Port := (0 : Int) } : S_api_Endpoint)) Tryz.underlying26 Tryz.zeroValue26 rfl (places_api_Endpoint_26) rfl rfl) ?_
            refine at_store (c := c_api_Endpoint) (z := ({ f_A := ({ f_V := (0 : Int), f_B := (Vector.replicate 16 (0 : Int) : (Vector Int 16)) } : S_api_Addr), f_Port := (0 : Int) } : S_api_Endpoint)) .z (Lens.whole _ _) Tryz.sizeOf26 rfl rfl rfl ?_
            refine at_val rfl rfl rfl (r_assign rfl) ?_
            refine at_nil ?_
            refine at_weak [(2, _), (3, _)] ⟨rfl, rfl, trivial⟩ ?_
            refine at_then_normal ?_
            refine at_ret ?_
            refine at_then_ret ?_
            have K := of_some hF
            subst K
            exact at_res2 rfl (res_cell (c := c_api_Endpoint) (y := ({ f_A := ({ f_V := (0 : Int), f_B := (Vector.replicate 16 (0 : Int) : (Vector Int 16)) } : S_api_Addr), f_Port := (0 : Int) } : S_api_Endpoint)) rfl .z (Lens.whole _ _) Tryz.isAgg26 Tryz.sizeOf26 (.inl rfl)) (res_tmp rfl) (fun w1 hw => ⟨rfl, hw.below⟩)
          · refine at_cond_false rfl h35 ?_
            refine at_skip ?_
            refine at_then_normal ?_
            refine at_seq ?_
            refine at_region ?_
            refine at_val rfl rfl rfl (r_move rfl) ?_
            obtain ⟨t36, ht36, hF⟩ := of_bindM hF
            refine at_callB Tryz.func25 rfl (by kernel_rfl) rfl rfl (fun w hw => crawlwayref10_Parse_ok _ _ ht36 w) ?_
            refine at_val rfl rfl rfl (r_move rfl) ?_
            refine at_val rfl rfl rfl (r_extract rfl rfl) ?_
            refine at_val rfl rfl rfl (r_extract rfl rfl) ?_
            refine at_alloc (cs := Cd.cs c_api_Addr ({ f_V := (0 : Int), f_B := (Vector.replicate 16 (0 : Int) : (Vector Int 16)) } : S_api_Addr)) Tryz.zeroValue24 rfl rfl ?_
            intro b37
            refine at_store (c := c_api_Addr) (z := t36.1) .z (Lens.whole _ _) Tryz.sizeOf24 rfl rfl rfl ?_
            refine at_val rfl rfl rfl (r_assign rfl) ?_
            refine at_nil ?_
            refine at_weak [(2, _), (5, _), (9, _), (10, _)] ⟨rfl, rfl, rfl, rfl, trivial⟩ ?_
            refine at_then_normal ?_
            refine at_seq ?_
            refine at_seq ?_
            refine at_region ?_
            refine at_val rfl rfl rfl (r_move rfl) ?_
            refine at_val rfl rfl rfl (r_ineq rfl rfl) ?_
            refine at_nil ?_
            refine at_weak [(2, _), (5, _), (9, _), (10, _), (62, _)] ⟨rfl, rfl, rfl, rfl, rfl, trivial⟩ ?_
            refine at_then_normal ?_
            rcases of_ite hF with ⟨h38, hF⟩ | ⟨h38, hF⟩
            · refine at_cond_true rfl h38 ?_
              refine at_seq ?_
              refine at_region ?_
              refine at_val rfl rfl rfl (r_build_struct (zs := Cd.cs c_api_Endpoint ({ f_A := ({ f_V := (0 : Int), f_B := (Vector.replicate 16 (0 : Int) : (Vector Int 16)) } : S_api_Addr), f_Port := (0 : Int) } : S_api_Endpoint)) (cs := Cd.cs c_api_Endpoint ({ f_A := ({ f_V := (0 : Int), f_B := (Vector.replicate 16 (0 : Int) : (Vector Int 16)) } : S_api_Addr), f_Port := (0 : Int) } : S_api_Endpoint)) Tryz.underlying26 Tryz.zeroValue26 rfl (places_api_Endpoint_26) rfl rfl) ?_
              refine at_val rfl rfl rfl (r_move rfl) ?_
              refine at_store (c := c_api_Endpoint) (z := ({ f_A := ({ f_V := (0 : Int), f_B := (Vector.replicate 16 (0 : Int) : (Vector Int 16)) } : S_api_Addr), f_Port := (0 : Int) } : S_api_Endpoint)) (.s .z) (Lens.whole _ _) Tryz.sizeOf26 rfl rfl rfl ?_
              refine at_val rfl rfl rfl (r_assign rfl) ?_
              refine at_nil ?_
              refine at_drop (H := _) .z ?_
              refine at_weak [(2, _), (3, _)] ⟨rfl, rfl, trivial⟩ ?_
              refine at_then_normal ?_
              refine at_ret ?_
              refine at_then_ret ?_
              have K := of_some hF
              subst K
              exact at_res2 rfl (res_cell (c := c_api_Endpoint) (y := ({ f_A := ({ f_V := (0 : Int), f_B := (Vector.replicate 16 (0 : Int) : (Vector Int 16)) } : S_api_Addr), f_Port := (0 : Int) } : S_api_Endpoint)) rfl .z (Lens.whole _ _) Tryz.isAgg26 Tryz.sizeOf26 (.inl rfl)) (res_tmp rfl) (fun w1 hw => ⟨rfl, hw.below⟩)
            · refine at_cond_false rfl h38 ?_
              refine at_skip ?_
              refine at_then_normal ?_
              refine at_seq ?_
              refine at_region ?_
              refine at_val rfl rfl rfl (r_move rfl) ?_
              obtain ⟨t39, ht39, hF⟩ := of_bindM hF
              refine at_call0 Tryz.func26 rfl (by kernel_rfl) rfl rfl (fun w => crawlwayref03_Read_ok _ _ _ ht39 w) ?_
              refine at_val rfl rfl rfl (r_move rfl) ?_
              refine at_val rfl rfl rfl (r_extract rfl rfl) ?_
              refine at_val rfl rfl rfl (r_extract rfl rfl) ?_
              refine at_val rfl rfl rfl (r_assign rfl) ?_
              refine at_val rfl rfl rfl (r_assign rfl) ?_
              refine at_nil ?_
              refine at_weak [(2, _), (9, _), (11, _), (12, _)] ⟨rfl, rfl, rfl, rfl, trivial⟩ ?_
              refine at_then_normal ?_
              refine at_seq ?_
              refine at_seq ?_
              refine at_region ?_
              refine at_val rfl rfl rfl (r_move rfl) ?_
              refine at_val rfl rfl rfl (r_ineq rfl rfl) ?_
              refine at_nil ?_
              refine at_weak [(2, _), (9, _), (11, _), (12, _), (71, _)] ⟨rfl, rfl, rfl, rfl, rfl, trivial⟩ ?_
              refine at_then_normal ?_
              rcases of_ite hF with ⟨h40, hF⟩ | ⟨h40, hF⟩
              · refine at_cond_true rfl h40 ?_
                refine at_seq ?_
                refine at_region ?_
                refine at_val rfl rfl rfl (r_build_struct (zs := Cd.cs c_api_Endpoint ({ f_A := ({ f_V := (0 : Int), f_B := (Vector.replicate 16 (0 : Int) : (Vector Int 16)) } : S_api_Addr), f_Port := (0 : Int) } : S_api_Endpoint)) (cs := Cd.cs c_api_Endpoint ({ f_A := ({ f_V := (0 : Int), f_B := (Vector.replicate 16 (0 : Int) : (Vector Int 16)) } : S_api_Addr), f_Port := (0 : Int) } : S_api_Endpoint)) Tryz.underlying26 Tryz.zeroValue26 rfl (places_api_Endpoint_26) rfl rfl) ?_
                refine at_val rfl rfl rfl (r_move rfl) ?_
                refine at_store (c := c_api_Endpoint) (z := ({ f_A := ({ f_V := (0 : Int), f_B := (Vector.replicate 16 (0 : Int) : (Vector Int 16)) } : S_api_Addr), f_Port := (0 : Int) } : S_api_Endpoint)) (.s .z) (Lens.whole _ _) Tryz.sizeOf26 rfl rfl rfl ?_
                refine at_val rfl rfl rfl (r_assign rfl) ?_
                refine at_nil ?_
                refine at_drop (H := _) .z ?_
                refine at_weak [(2, _), (3, _)] ⟨rfl, rfl, trivial⟩ ?_
                refine at_then_normal ?_
                refine at_ret ?_
                refine at_then_ret ?_
                have K := of_some hF
                subst K
                exact at_res2 rfl (res_cell (c := c_api_Endpoint) (y := ({ f_A := ({ f_V := (0 : Int), f_B := (Vector.replicate 16 (0 : Int) : (Vector Int 16)) } : S_api_Addr), f_Port := (0 : Int) } : S_api_Endpoint)) rfl .z (Lens.whole _ _) Tryz.isAgg26 Tryz.sizeOf26 (.inl rfl)) (res_tmp rfl) (fun w1 hw => ⟨rfl, hw.below⟩)
              · refine at_cond_false rfl h40 ?_
                refine at_skip ?_
                refine at_then_normal ?_
                refine at_seq ?_
                refine at_seq ?_
                refine at_region ?_
                refine at_val rfl rfl rfl (r_move rfl) ?_
                refine at_val rfl rfl rfl (r_ieql rfl rfl) ?_
                refine at_nil ?_
                refine at_weak [(2, _), (9, _), (11, _), (75, _)] ⟨rfl, rfl, rfl, rfl, trivial⟩ ?_
                refine at_then_normal ?_
                rcases of_ite hF with ⟨h41, hF⟩ | ⟨h41, hF⟩
                · refine at_cond_true rfl h41 ?_
                  refine at_seq ?_
                  refine at_region ?_
                  refine at_val rfl rfl rfl (r_build_struct (zs := Cd.cs c_api_Endpoint ({ f_A := ({ f_V := (0 : Int), f_B := (Vector.replicate 16 (0 : Int) : (Vector Int 16)) } : S_api_Addr), f_Port := (0 : Int) } : S_api_Endpoint)) (cs := Cd.cs c_api_Endpoint ({ f_A := ({ f_V := (0 : Int), f_B := (Vector.replicate 16 (0 : Int) : (Vector Int 16)) } : S_api_Addr), f_Port := (0 : Int) } : S_api_Endpoint)) Tryz.underlying26 Tryz.zeroValue26 rfl (places_api_Endpoint_26) rfl rfl) ?_
                  refine at_store (c := c_api_Endpoint) (z := ({ f_A := ({ f_V := (0 : Int), f_B := (Vector.replicate 16 (0 : Int) : (Vector Int 16)) } : S_api_Addr), f_Port := (0 : Int) } : S_api_Endpoint)) (.s .z) (Lens.whole _ _) Tryz.sizeOf26 rfl rfl rfl ?_
                  refine at_val rfl rfl rfl (r_assign rfl) ?_
                  refine at_nil ?_
                  refine at_drop (H := _) .z ?_
                  refine at_weak [(2, _), (3, _)] ⟨rfl, rfl, trivial⟩ ?_
                  refine at_then_normal ?_
                  refine at_ret ?_
                  refine at_then_ret ?_
                  have K := of_some hF
                  subst K
                  exact at_res2 rfl (res_cell (c := c_api_Endpoint) (y := ({ f_A := ({ f_V := (0 : Int), f_B := (Vector.replicate 16 (0 : Int) : (Vector Int 16)) } : S_api_Addr), f_Port := (0 : Int) } : S_api_Endpoint)) rfl .z (Lens.whole _ _) Tryz.isAgg26 Tryz.sizeOf26 (.inl rfl)) (res_tmp rfl) (fun w1 hw => ⟨rfl, hw.below⟩)
                · refine at_cond_false rfl h41 ?_
                  refine at_skip ?_
                  refine at_then_normal ?_
                  refine at_seq ?_
                  refine at_region ?_
                  refine at_val rfl rfl rfl (r_load_aggc (c := c_api_Addr) (z := t36.1) Tryz.isAgg24 Tryz.sizeOf24 rfl (lens_cell .z (Lens.whole _ _))) ?_
                  refine at_val rfl rfl rfl (r_move rfl) ?_
                  refine at_val rfl rfl rfl (r_conv Tryz.underlying37 Tryz.underlying3 rfl) ?_
                  refine at_val rfl rfl rfl (r_build_struct (zs := Cd.cs c_api_Endpoint ({ f_A := ({ f_V := (0 : Int), f_B := (Vector.replicate 16 (0 : Int) : (Vector Int 16)) } : S_api_Addr), f_Port := (0 : Int) } : S_api_Endpoint)) (cs := Cd.cs c_api_Endpoint ({ { ({ f_A := ({ f_V := (0 : Int), f_B := (Vector.replicate 16 (0 : Int) : (Vector Int 16)) } : S_api_Addr), f_Port := (0 : Int) } : S_api_Endpoint) with f_A := t36.1 } with f_Port := wr .i64 t39.1 })) Tryz.underlying26 Tryz.zeroValue26 rfl (places_api_Endpoint_26) rfl (fill_step (c := c_api_Addr) (z := t36.1) rfl (c_api_Endpoint_f_A ({ f_A := ({ f_V := (0 : Int), f_B := (Vector.replicate 16 (0 : Int) : (Vector Int 16)) } : S_api_Addr), f_Port := (0 : Int) } : S_api_Endpoint)) rfl (fill_step (c := (cInt .i64)) (z := wr .i64 t39.1) rfl (c_api_Endpoint_f_Port ({ ({ f_A := ({ f_V := (0 : Int), f_B := (Vector.replicate 16 (0 : Int) : (Vector Int 16)) } : S_api_Addr), f_Port := (0 : Int) } : S_api_Endpoint) with f_A := t36.1 })) rfl rfl))) ?_
                  refine at_store (c := c_api_Endpoint) (z := { { ({ f_A := ({ f_V := (0 : Int), f_B := (Vector.replicate 16 (0 : Int) : (Vector Int 16)) } : S_api_Addr), f_Port := (0 : Int) } : S_api_Endpoint) with f_A := t36.1 } with f_Port := wr .i64 t39.1 }) (.s .z) (Lens.whole _ _) Tryz.sizeOf26 rfl rfl rfl ?_
                  refine at_val rfl rfl rfl (r_assign rfl) ?_
                  refine at_nil ?_
                  refine at_drop (H := _) .z ?_
                  refine at_weak [(2, _), (3, _)] ⟨rfl, rfl, trivial⟩ ?_
                  refine at_then_normal ?_
                  refine at_ret ?_
                  have K := of_some hF
                  subst K
                  exact at_res2 rfl (res_cell (c := c_api_Endpoint) (y := { { ({ f_A := ({ f_V := (0 : Int), f_B := (Vector.replicate 16 (0 : Int) : (Vector Int 16)) } : S_api_Addr), f_Port := (0 : Int) } : S_api_Endpoint) with f_A := t36.1 } with f_Port := wr .i64 t39.1 }) rfl .z (Lens.whole _ _) Tryz.isAgg26 Tryz.sizeOf26 (.inl rfl)) (res_tmp rfl) (fun w1 hw => ⟨rfl, hw.below⟩)
      · refine at_cond_false rfl h25 ?_
        refine at_skip ?_
        refine at_then_normal ?_
        refine at_seq ?_
        refine at_seq ?_
        refine at_region ?_
        refine at_val rfl rfl rfl (r_move rfl) ?_
        refine at_val rfl rfl rfl (r_not rfl) ?_
        refine at_val rfl rfl rfl (r_move rfl) ?_
        rcases of_ite hF with ⟨h42, hF⟩ | ⟨h42, hF⟩
        · refine at_fix (g := 47) rfl h42 ?_
          refine at_guard_no rfl rfl rfl rfl rfl ?_
          refine at_guard_no rfl rfl rfl rfl rfl ?_
          refine at_guard_no rfl rfl rfl rfl rfl ?_
          refine at_guard_no rfl rfl rfl rfl rfl ?_
          refine at_guard_no rfl rfl rfl rfl rfl ?_
          refine at_guard_no rfl rfl rfl rfl rfl ?_
          refine at_val rfl rfl rfl (r_pick rfl rfl rfl) ?_
          refine at_nil ?_
          refine at_drop (H := _) .z ?_
          refine at_weak [(2, _), (4, _), (5, _), (54, _)] ⟨rfl, rfl, rfl, rfl, trivial⟩ ?_
          refine at_then_normal ?_
          refine at_cond_true rfl rfl ?_
          refine at_seq ?_
          refine at_region ?_
          refine at_val rfl rfl rfl (r_build_struct (zs := Cd.cs c_api_Endpoint ({ f_A := ({ f_V := (0 : Int), f_B := (Vector.replicate 16 (0 : Int) : (Vector Int 16)) } : S_api_Addr), f_Port := (0 : Int) } : S_api_Endpoint)) (cs := Cd.cs c_api_Endpoint ({ f_A := ({ f_V := (0 : Int), f_B := (Vector.replicate 16 (0 : Int) : (Vector Int 16)) } : S_api_Addr), f_Port := (0 : Int) } : S_api_Endpoint)) Tryz.underlying26 Tryz.zeroValue26 rfl (places_api_Endpoint_26) rfl rfl) ?_
          refine at_store (c := c_api_Endpoint) (z := ({ f_A := ({ f_V := (0 : Int), f_B := (Vector.replicate 16 (0 : Int) : (Vector Int 16)) } : S_api_Addr), f_Port := (0 : Int) } : S_api_Endpoint)) .z (Lens.whole _ _) Tryz.sizeOf26 rfl rfl rfl ?_
          refine at_val rfl rfl rfl (r_assign rfl) ?_
          refine at_nil ?_
          refine at_weak [(2, _), (3, _)] ⟨rfl, rfl, trivial⟩ ?_
          refine at_then_normal ?_
          refine at_ret ?_
          refine at_then_ret ?_
          have K := of_some hF
          subst K
          exact at_res2 rfl (res_cell (c := c_api_Endpoint) (y := ({ f_A := ({ f_V := (0 : Int), f_B := (Vector.replicate 16 (0 : Int) : (Vector Int 16)) } : S_api_Addr), f_Port := (0 : Int) } : S_api_Endpoint)) rfl .z (Lens.whole _ _) Tryz.isAgg26 Tryz.sizeOf26 (.inl rfl)) (res_tmp rfl) (fun w1 hw => ⟨rfl, hw.below⟩)
        · refine at_fix (g := 47) rfl h42 ?_
          refine at_guard_yes rfl rfl rfl ?_
          refine at_val rfl rfl rfl (r_move rfl) ?_
          refine at_guard_yes rfl rfl rfl ?_
          obtain ⟨t43, ht43, hF⟩ := of_bindM hF
          refine at_callO (c := cStr) (e := 9) (ys := t43) (V := fun p cap => .slice p t43.length cap) Tryz.func24 rfl (by kernel_rfl) rfl rfl (fun w hw => crawlwayref06_Parts_ok _ _ _ ht43 w) ?_
          intro p44 c45
          refine at_guard_yes rfl rfl rfl ?_
          refine at_val rfl rfl rfl (r_len_sl Tryz.underlying47 rfl) ?_
          refine at_guard_yes rfl rfl rfl ?_
          refine at_val rfl rfl rfl (r_igtr rfl rfl) ?_
          refine at_guard_yes rfl rfl rfl ?_
          refine at_val rfl rfl rfl (r_move rfl) ?_
          refine at_guard_yes rfl rfl rfl ?_
          refine at_val rfl rfl rfl (r_bool Tryz.underlying4 rfl rfl (.inr rfl) rfl) ?_
          refine at_val rfl rfl rfl (r_pick rfl rfl rfl) ?_
          refine at_nil ?_
          refine at_drop (H := _) .z ?_
          refine at_drop (H := _) .z ?_
          refine at_weak [(2, _), (4, _), (5, _), (54, _)] ⟨rfl, rfl, rfl, rfl, trivial⟩ ?_
          refine at_then_normal ?_
          rcases of_ite hF with ⟨h46, hF⟩ | ⟨h46, hF⟩
          · refine at_cond_true rfl h46 ?_
            refine at_seq ?_
            refine at_region ?_
            refine at_val rfl rfl rfl (r_build_struct (zs := Cd.cs c_api_Endpoint ({ f_A := ({ f_V := (0 : Int), f_B := (Vector.replicate 16 (0 : Int) : (Vector Int 16)) } : S_api_Addr), f_Port := (0 : Int) } : S_api_Endpoint)) (cs := Cd.cs c_api_Endpoint ({ f_A := ({ f_V := (0 : Int), f_B := (Vector.replicate 16 (0 : Int) : (Vector Int 16)) } : S_api_Addr), f_Port := (0 : Int) } : S_api_Endpoint)) Tryz.underlying26 Tryz.zeroValue26 rfl (places_api_Endpoint_26) rfl rfl) ?_
            refine at_store (c := c_api_Endpoint) (z := ({ f_A := ({ f_V := (0 : Int), f_B := (Vector.replicate 16 (0 : Int) : (Vector Int 16)) } : S_api_Addr), f_Port := (0 : Int) } : S_api_Endpoint)) .z (Lens.whole _ _) Tryz.sizeOf26 rfl rfl rfl ?_
            refine at_val rfl rfl rfl (r_assign rfl) ?_
            refine at_nil ?_
            refine at_weak [(2, _), (3, _)] ⟨rfl, rfl, trivial⟩ ?_
            refine at_then_normal ?_
            refine at_ret ?_
            refine at_then_ret ?_
            have K := of_some hF
            subst K
            exact at_res2 rfl (res_cell (c := c_api_Endpoint) (y := ({ f_A := ({ f_V := (0 : Int), f_B := (Vector.replicate 16 (0 : Int) : (Vector Int 16)) } : S_api_Addr), f_Port := (0 : Int) } : S_api_Endpoint)) rfl .z (Lens.whole _ _) Tryz.isAgg26 Tryz.sizeOf26 (.inl rfl)) (res_tmp rfl) (fun w1 hw => ⟨rfl, hw.below⟩)
          · refine at_cond_false rfl h46 ?_
            refine at_skip ?_
            refine at_then_normal ?_
            refine at_seq ?_
            refine at_region ?_
            refine at_val rfl rfl rfl (r_move rfl) ?_
            obtain ⟨t47, ht47, hF⟩ := of_bindM hF
            refine at_callB Tryz.func25 rfl (by kernel_rfl) rfl rfl (fun w hw => crawlwayref10_Parse_ok _ _ ht47 w) ?_
            refine at_val rfl rfl rfl (r_move rfl) ?_
            refine at_val rfl rfl rfl (r_extract rfl rfl) ?_
            refine at_val rfl rfl rfl (r_extract rfl rfl) ?_
            refine at_alloc (cs := Cd.cs c_api_Addr ({ f_V := (0 : Int), f_B := (Vector.replicate 16 (0 : Int) : (Vector Int 16)) } : S_api_Addr)) Tryz.zeroValue24 rfl rfl ?_
            intro b48
            refine at_store (c := c_api_Addr) (z := t47.1) .z (Lens.whole _ _) Tryz.sizeOf24 rfl rfl rfl ?_
            refine at_val rfl rfl rfl (r_assign rfl) ?_
            refine at_nil ?_
            refine at_weak [(2, _), (5, _), (9, _), (10, _)] ⟨rfl, rfl, rfl, rfl, trivial⟩ ?_
            refine at_then_normal ?_
            refine at_seq ?_
            refine at_seq ?_
            refine at_region ?_
            refine at_val rfl rfl rfl (r_move rfl) ?_
            refine at_val rfl rfl rfl (r_ineq rfl rfl) ?_
            refine at_nil ?_
            refine at_weak [(2, _), (5, _), (9, _), (10, _), (62, _)] ⟨rfl, rfl, rfl, rfl, rfl, trivial⟩ ?_
            refine at_then_normal ?_
            rcases of_ite hF with ⟨h49, hF⟩ | ⟨h49, hF⟩
            · refine at_cond_true rfl h49 ?_
              refine at_seq ?_
              refine at_region ?_
              refine at_val rfl rfl rfl (r_build_struct (zs := Cd.cs c_api_Endpoint ({ f_A := ({ f_V := (0 : Int), f_B := (Vector.replicate 16 (0 : Int) : (Vector Int 16)) } : S_api_Addr), f_Port := (0 : Int) } : S_api_Endpoint)) (cs := Cd.cs c_api_Endpoint ({ f_A := ({ f_V := (0 : Int), f_B := (Vector.replicate 16 (0 : Int) : (Vector Int 16)) } : S_api_Addr), f_Port := (0 : Int) } : S_api_Endpoint)) Tryz.underlying26 Tryz.zeroValue26 rfl (places_api_Endpoint_26) rfl rfl) ?_
              refine at_val rfl rfl rfl (r_move rfl) ?_
              refine at_store (c := c_api_Endpoint) (z := ({ f_A := ({ f_V := (0 : Int), f_B := (Vector.replicate 16 (0 : Int) : (Vector Int 16)) } : S_api_Addr), f_Port := (0 : Int) } : S_api_Endpoint)) (.s .z) (Lens.whole _ _) Tryz.sizeOf26 rfl rfl rfl ?_
              refine at_val rfl rfl rfl (r_assign rfl) ?_
              refine at_nil ?_
              refine at_drop (H := _) .z ?_
              refine at_weak [(2, _), (3, _)] ⟨rfl, rfl, trivial⟩ ?_
              refine at_then_normal ?_
              refine at_ret ?_
              refine at_then_ret ?_
              have K := of_some hF
              subst K
              exact at_res2 rfl (res_cell (c := c_api_Endpoint) (y := ({ f_A := ({ f_V := (0 : Int), f_B := (Vector.replicate 16 (0 : Int) : (Vector Int 16)) } : S_api_Addr), f_Port := (0 : Int) } : S_api_Endpoint)) rfl .z (Lens.whole _ _) Tryz.isAgg26 Tryz.sizeOf26 (.inl rfl)) (res_tmp rfl) (fun w1 hw => ⟨rfl, hw.below⟩)
            · refine at_cond_false rfl h49 ?_
              refine at_skip ?_
              refine at_then_normal ?_
              refine at_seq ?_
              refine at_region ?_
              refine at_val rfl rfl rfl (r_move rfl) ?_
              obtain ⟨t50, ht50, hF⟩ := of_bindM hF
              refine at_call0 Tryz.func26 rfl (by kernel_rfl) rfl rfl (fun w => crawlwayref03_Read_ok _ _ _ ht50 w) ?_
              refine at_val rfl rfl rfl (r_move rfl) ?_
              refine at_val rfl rfl rfl (r_extract rfl rfl) ?_
              refine at_val rfl rfl rfl (r_extract rfl rfl) ?_
              refine at_val rfl rfl rfl (r_assign rfl) ?_
              refine at_val rfl rfl rfl (r_assign rfl) ?_
              refine at_nil ?_
              refine at_weak [(2, _), (9, _), (11, _), (12, _)] ⟨rfl, rfl, rfl, rfl, trivial⟩ ?_
              refine at_then_normal ?_
              refine at_seq ?_
              refine at_seq ?_
              refine at_region ?_
              refine at_val rfl rfl rfl (r_move rfl) ?_
              refine at_val rfl rfl rfl (r_ineq rfl rfl) ?_
              refine at_nil ?_
              refine at_weak [(2, _), (9, _), (11, _), (12, _), (71, _)] ⟨rfl, rfl, rfl, rfl, rfl, trivial⟩ ?_
              refine at_then_normal ?_
              rcases of_ite hF with ⟨h51, hF⟩ | ⟨h51, hF⟩
              · refine at_cond_true rfl h51 ?_
                refine at_seq ?_
                refine at_region ?_
                refine at_val rfl rfl rfl (r_build_struct (zs := Cd.cs c_api_Endpoint ({ f_A := ({ f_V := (0 : Int), f_B := (Vector.replicate 16 (0 : Int) : (Vector Int 16)) } : S_api_Addr), f_Port := (0 : Int) } : S_api_Endpoint)) (cs := Cd.cs c_api_Endpoint ({ f_A := ({ f_V := (0 : Int), f_B := (Vector.replicate 16 (0 : Int) : (Vector Int 16)) } : S_api_Addr), f_Port := (0 : Int) } : S_api_Endpoint)) Tryz.underlying26 Tryz.zeroValue26 rfl (places_api_Endpoint_26) rfl rfl) ?_
                refine at_val rfl rfl rfl (r_move rfl) ?_
                refine at_store (c := c_api_Endpoint) (z := ({ f_A := ({ f_V := (0 : Int), f_B := (Vector.replicate 16 (0 : Int) : (Vector Int 16)) } : S_api_Addr), f_Port := (0 : Int) } : S_api_Endpoint)) (.s .z) (Lens.whole _ _) Tryz.sizeOf26 rfl rfl rfl ?_
                refine at_val rfl rfl rfl (r_assign rfl) ?_
                refine at_nil ?_
                refine at_drop (H := _) .z ?_
                refine at_weak [(2, _), (3, _)] ⟨rfl, rfl, trivial⟩ ?_
                refine at_then_normal ?_
                refine at_ret ?_
                refine at_then_ret ?_
                have K := of_some hF
                subst K
                exact at_res2 rfl (res_cell (c := c_api_Endpoint) (y := ({ f_A := ({ f_V := (0 : Int), f_B := (Vector.replicate 16 (0 : Int) : (Vector Int 16)) } : S_api_Addr), f_Port := (0 : Int) } : S_api_Endpoint)) rfl .z (Lens.whole _ _) Tryz.isAgg26 Tryz.sizeOf26 (.inl rfl)) (res_tmp rfl) (fun w1 hw => ⟨rfl, hw.below⟩)
              · refine at_cond_false rfl h51 ?_
                refine at_skip ?_
                refine at_then_normal ?_
                refine at_seq ?_
                refine at_seq ?_
                refine at_region ?_
                refine at_val rfl rfl rfl (r_move rfl) ?_
                refine at_val rfl rfl rfl (r_ieql rfl rfl) ?_
                refine at_nil ?_
                refine at_weak [(2, _), (9, _), (11, _), (75, _)] ⟨rfl, rfl, rfl, rfl, trivial⟩ ?_
                refine at_then_normal ?_
                rcases of_ite hF with ⟨h52, hF⟩ | ⟨h52, hF⟩
                · refine at_cond_true rfl h52 ?_
                  refine at_seq ?_
                  refine at_region ?_
                  refine at_val rfl rfl rfl (r_build_struct (zs := Cd.cs c_api_Endpoint ({ f_A := ({ f_V := (0 : Int), f_B := (Vector.replicate 16 (0 : Int) : (Vector Int 16)) } : S_api_Addr), f_Port := (0 : Int) } : S_api_Endpoint)) (cs := Cd.cs c_api_Endpoint ({ f_A := ({ f_V := (0 : Int), f_B := (Vector.replicate 16 (0 : Int) : (Vector Int 16)) } : S_api_Addr), f_Port := (0 : Int) } : S_api_Endpoint)) Tryz.underlying26 Tryz.zeroValue26 rfl (places_api_Endpoint_26) rfl rfl) ?_
                  refine at_store (c := c_api_Endpoint) (z := ({ f_A := ({ f_V := (0 : Int), f_B := (Vector.replicate 16 (0 : Int) : (Vector Int 16)) } : S_api_Addr), f_Port := (0 : Int) } : S_api_Endpoint)) (.s .z) (Lens.whole _ _) Tryz.sizeOf26 rfl rfl rfl ?_
                  refine at_val rfl rfl rfl (r_assign rfl) ?_
                  refine at_nil ?_
                  refine at_drop (H := _) .z ?_
                  refine at_weak [(2, _), (3, _)] ⟨rfl, rfl, trivial⟩ ?_
                  refine at_then_normal ?_
                  refine at_ret ?_
                  refine at_then_ret ?_
                  have K := of_some hF
                  subst K
                  exact at_res2 rfl (res_cell (c := c_api_Endpoint) (y := ({ f_A := ({ f_V := (0 : Int), f_B := (Vector.replicate 16 (0 : Int) : (Vector Int 16)) } : S_api_Addr), f_Port := (0 : Int) } : S_api_Endpoint)) rfl .z (Lens.whole _ _) Tryz.isAgg26 Tryz.sizeOf26 (.inl rfl)) (res_tmp rfl) (fun w1 hw => ⟨rfl, hw.below⟩)
                · refine at_cond_false rfl h52 ?_
                  refine at_skip ?_
                  refine at_then_normal ?_
                  refine at_seq ?_
                  refine at_region ?_
                  refine at_val rfl rfl rfl (r_load_aggc (c := c_api_Addr) (z := t47.1) Tryz.isAgg24 Tryz.sizeOf24 rfl (lens_cell .z (Lens.whole _ _))) ?_
                  refine at_val rfl rfl rfl (r_move rfl) ?_
                  refine at_val rfl rfl rfl (r_conv Tryz.underlying37 Tryz.underlying3 rfl) ?_
                  refine at_val rfl rfl rfl (r_build_struct (zs := Cd.cs c_api_Endpoint ({ f_A := ({ f_V := (0 : Int), f_B := (Vector.replicate 16 (0 : Int) : (Vector Int 16)) } : S_api_Addr), f_Port := (0 : Int) } : S_api_Endpoint)) (cs := Cd.cs c_api_Endpoint ({ { ({ f_A := ({ f_V := (0 : Int), f_B := (Vector.replicate 16 (0 : Int) : (Vector Int 16)) } : S_api_Addr), f_Port := (0 : Int) } : S_api_Endpoint) with f_A := t47.1 } with f_Port := wr .i64 t50.1 })) Tryz.underlying26 Tryz.zeroValue26 rfl (places_api_Endpoint_26) rfl (fill_step (c := c_api_Addr) (z := t47.1) rfl (c_api_Endpoint_f_A ({ f_A := ({ f_V := (0 : Int), f_B := (Vector.replicate 16 (0 : Int) : (Vector Int 16)) } : S_api_Addr), f_Port := (0 : Int) } : S_api_Endpoint)) rfl (fill_step (c := (cInt .i64)) (z := wr .i64 t50.1) rfl (c_api_Endpoint_f_Port ({ ({ f_A := ({ f_V := (0 : Int), f_B := (Vector.replicate 16 (0 : Int) : (Vector Int 16)) } : S_api_Addr), f_Port := (0 : Int) } : S_api_Endpoint) with f_A := t47.1 })) rfl rfl))) ?_
                  refine at_store (c := c_api_Endpoint) (z := { { ({ f_A := ({ f_V := (0 : Int), f_B := (Vector.replicate 16 (0 : Int) : (Vector Int 16)) } : S_api_Addr), f_Port := (0 : Int) } : S_api_Endpoint) with f_A := t47.1 } with f_Port := wr .i64 t50.1 }) (.s .z) (Lens.whole _ _) Tryz.sizeOf26 rfl rfl rfl ?_
                  refine at_val rfl rfl rfl (r_assign rfl) ?_
                  refine at_nil ?_
                  refine at_drop (H := _) .z ?_
                  refine at_weak [(2, _), (3, _)] ⟨rfl, rfl, trivial⟩ ?_
                  refine at_then_normal ?_
                  refine at_ret ?_
                  have K := of_some hF
                  subst K
                  exact at_res2 rfl (res_cell (c := c_api_Endpoint) (y := { { ({ f_A := ({ f_V := (0 : Int), f_B := (Vector.replicate 16 (0 : Int) : (Vector Int 16)) } : S_api_Addr), f_Port := (0 : Int) } : S_api_Endpoint) with f_A := t47.1 } with f_Port := wr .i64 t50.1 }) rfl .z (Lens.whole _ _) Tryz.isAgg26 Tryz.sizeOf26 (.inl rfl)) (res_tmp rfl) (fun w1 hw => ⟨rfl, hw.below⟩)
  · refine at_fix (g := 16) rfl h2 ?_
    refine at_guard_no rfl rfl rfl rfl rfl ?_
    refine at_guard_no rfl rfl rfl rfl rfl ?_
    refine at_guard_no rfl rfl rfl rfl rfl ?_
    refine at_val rfl rfl rfl (r_pick rfl rfl rfl) ?_
    refine at_val rfl rfl rfl (r_assign rfl) ?_
    refine at_nil ?_
    refine at_weak [(0, _), (2, _), (5, _), (7, _)] ⟨rfl, rfl, rfl, rfl, trivial⟩ ?_
    refine at_then_normal ?_
    refine at_seq ?_
    refine at_seq ?_
    refine at_region ?_
    refine at_val rfl rfl rfl (r_move rfl) ?_
    refine at_nil ?_
    refine at_weak [(0, _), (2, _), (5, _), (7, _), (21, _)] ⟨rfl, rfl, rfl, rfl, rfl, trivial⟩ ?_
    refine at_then_normal ?_
    refine at_cond_false rfl rfl ?_
    refine at_seq ?_
    refine at_region ?_
    refine at_val rfl rfl rfl (r_move rfl) ?_
    obtain ⟨t53, ht53, hF⟩ := of_bindM hF
    refine at_callO (c := cStr) (e := 9) (ys := t53) (V := fun p cap => .slice p t53.length cap) Tryz.func24 rfl (by kernel_rfl) rfl rfl (fun w hw => crawlwayref06_Parts_ok _ _ _ ht53 w) ?_
    intro p54 c55
    refine at_val rfl rfl rfl (r_assign rfl) ?_
    refine at_nil ?_
    refine at_weak [(0, _), (2, _), (5, _), (7, _), (8, _)] ⟨rfl, rfl, rfl, rfl, rfl, trivial⟩ ?_
    refine at_then_normal ?_
    refine at_seq ?_
    refine at_region ?_
    refine at_val rfl rfl rfl (r_move rfl) ?_
    refine at_val rfl rfl rfl (r_len_sl Tryz.underlying47 rfl) ?_
    refine at_val rfl rfl rfl (r_igtr rfl rfl) ?_
    refine at_val rfl rfl rfl (r_assign rfl) ?_
    refine at_nil ?_
    refine at_weak [(0, _), (2, _), (5, _), (6, _), (7, _), (8, _)] ⟨rfl, rfl, rfl, rfl, rfl, rfl, trivial⟩ ?_
    refine at_then_normal ?_
    refine at_seq ?_
    refine at_region ?_
    refine at_val rfl rfl rfl (r_move rfl) ?_
    obtain ⟨h56, hF⟩ := of_guard hF
    refine at_pure (φ := ∃ b o, p54 = some ⟨b, o, none⟩) (fun _ hw => row_ptr (hw.own .z).row h56) ?_
    rintro ⟨b58, o59, hp57⟩
    refine at_val rfl rfl rfl (r_idx Tryz.underlying47 Tryz.sizeOf9 rfl rfl h56 hp57) ?_
    refine at_val rfl rfl rfl (r_load_cell Tryz.isAgg9 rfl (fun _ hw => row_cell0 (W := fun w1 => w1 = _) (fun w1 h => by subst h; exact Below.refl _ _) (hw.own .z).row h56 hp57 rfl _ rfl)) ?_
    refine at_val rfl rfl rfl (r_assign rfl) ?_
    refine at_nil ?_
    refine at_weak [(0, _), (2, _), (4, _), (5, _), (6, _), (7, _), (8, _)] ⟨rfl, rfl, rfl, rfl, rfl, rfl, rfl, trivial⟩ ?_
    refine at_then_normal ?_
    refine at_seq ?_
    refine at_region ?_
    refine at_val rfl rfl rfl (r_move rfl) ?_
    refine at_nil ?_
    refine at_weak [(0, _), (2, _), (4, _), (5, _), (6, _), (7, _), (8, _), (37, _)] ⟨rfl, rfl, rfl, rfl, rfl, rfl, rfl, rfl, trivial⟩ ?_
    refine at_then_normal ?_
    rcases of_ite hF with ⟨h60, hF⟩ | ⟨h60, hF⟩
    · refine at_cond_true rfl h60 ?_
      refine at_region ?_
      refine at_val rfl rfl rfl (r_move rfl) ?_
      refine at_val rfl rfl rfl (r_move rfl) ?_
      obtain ⟨h61, hF⟩ := of_guard hF
      refine at_pure (φ := ∃ b o, p54 = some ⟨b, o, none⟩) (fun _ hw => row_ptr (hw.own .z).row h61) ?_
      rintro ⟨b63, o64, hp62⟩
      refine at_val rfl rfl rfl (r_idx Tryz.underlying47 Tryz.sizeOf9 rfl rfl h61 hp62) ?_
      refine at_val rfl rfl rfl (r_load_cell Tryz.isAgg9 rfl (fun _ hw => row_cell0 (W := fun w1 => w1 = _) (fun w1 h => by subst h; exact Below.refl _ _) (hw.own .z).row h61 hp62 rfl _ rfl)) ?_
      refine at_val rfl rfl rfl (r_len_str Tryz.underlying9 rfl) ?_
      refine at_val rfl rfl rfl (r_iadd rfl rfl) ?_
      obtain ⟨h65, hF⟩ := of_guard hF
      refine at_val rfl rfl rfl (r_slice_str Tryz.underlying9 rfl ⟨_, rfl⟩ rfl h65) ?_
      refine at_val rfl rfl rfl (r_assign rfl) ?_
      refine at_nil ?_
      refine at_drop (H := _) .z ?_
      refine at_weak [(2, _), (4, _), (5, _), (6, _), (7, _)] ⟨rfl, rfl, rfl, rfl, rfl, trivial⟩ ?_
      refine at_then_normal ?_
      refine at_seq ?_
      refine at_seq ?_
      refine at_region ?_
      refine at_val rfl rfl rfl (r_move rfl) ?_
      refine at_val rfl rfl rfl (r_not rfl) ?_
      refine at_val rfl rfl rfl (r_move rfl) ?_
      rcases of_ite hF with ⟨h66, hF⟩ | ⟨h66, hF⟩
      · refine at_fix (g := 47) rfl h66 ?_
        refine at_guard_no rfl rfl rfl rfl rfl ?_
        refine at_guard_no rfl rfl rfl rfl rfl ?_
        refine at_guard_no rfl rfl rfl rfl rfl ?_
        refine at_guard_no rfl rfl rfl rfl rfl ?_
        refine at_guard_no rfl rfl rfl rfl rfl ?_
        refine at_guard_no rfl rfl rfl rfl rfl ?_
        refine at_val rfl rfl rfl (r_pick rfl rfl rfl) ?_
        refine at_nil ?_
        refine at_weak [(2, _), (4, _), (5, _), (54, _)] ⟨rfl, rfl, rfl, rfl, trivial⟩ ?_
        refine at_then_normal ?_
        refine at_cond_true rfl rfl ?_
        refine at_seq ?_
        refine at_region ?_
        refine at_val rfl rfl rfl (r_build_struct (zs := Cd.cs c_api_Endpoint ({ f_A := ({ f_V := (0 : Int), f_B := (Vector.replicate 16 (0 : Int) : (Vector Int 16)) } : S_api_Addr), f_Port := (0 : Int) } : S_api_Endpoint)) (cs := Cd.cs c_api_Endpoint ({ f_A := ({ f_V := (0 : Int), f_B := (Vector.replicate 16 (0 : Int) : (Vector Int 16)) } : S_api_Addr), f_Port := (0 : Int) } : S_api_Endpoint)) Tryz.underlying26 Tryz.zeroValue26 rfl (places_api_Endpoint_26) rfl rfl) ?_
        refine at_store (c := c_api_Endpoint) (z := ({ f_A := ({ f_V := (0 : Int), f_B := (Vector.replicate 16 (0 : Int) : (Vector Int 16)) } : S_api_Addr), f_Port := (0 : Int) } : S_api_Endpoint)) .z (Lens.whole _ _) Tryz.sizeOf26 rfl rfl rfl ?_
        refine at_val rfl rfl rfl (r_assign rfl) ?_
        refine at_nil ?_
        refine at_weak [(2, _), (3, _)] ⟨rfl, rfl, trivial⟩ ?_
        refine at_then_normal ?_
        refine at_ret ?_
        refine at_then_ret ?_
        have K := of_some hF
        subst K
        exact at_res2 rfl (res_cell (c := c_api_Endpoint) (y := ({ f_A := ({ f_V := (0 : Int), f_B := (Vector.replicate 16 (0 : Int) : (Vector Int 16)) } : S_api_Addr), f_Port := (0 : Int) } : S_api_Endpoint)) rfl .z (Lens.whole _ _) Tryz.isAgg26 Tryz.sizeOf26 (.inl rfl)) (res_tmp rfl) (fun w1 hw => ⟨rfl, hw.below⟩)
      · refine at_fix (g := 47) rfl h66 ?_
        refine at_guard_yes rfl rfl rfl ?_
        refine at_val rfl rfl rfl (r_move rfl) ?_
        refine at_guard_yes rfl rfl rfl ?_
        obtain ⟨t67, ht67, hF⟩ := of_bindM hF
        refine at_callO (c := cStr) (e := 9) (ys := t67) (V := fun p cap => .slice p t67.length cap) Tryz.func24 rfl (by kernel_rfl) rfl rfl (fun w hw => crawlwayref06_Parts_ok _ _ _ ht67 w) ?_
        intro p68 c69
        refine at_guard_yes rfl rfl rfl ?_
        refine at_val rfl rfl rfl (r_len_sl Tryz.underlying47 rfl) ?_
        refine at_guard_yes rfl rfl rfl ?_
        refine at_val rfl rfl rfl (r_igtr rfl rfl) ?_
        refine at_guard_yes rfl rfl rfl ?_
        refine at_val rfl rfl rfl (r_move rfl) ?_
        refine at_guard_yes rfl rfl rfl ?_
        refine at_val rfl rfl rfl (r_bool Tryz.underlying4 rfl rfl (.inr rfl) rfl) ?_
        refine at_val rfl rfl rfl (r_pick rfl rfl rfl) ?_
        refine at_nil ?_
        refine at_drop (H := _) .z ?_
        refine at_weak [(2, _), (4, _), (5, _), (54, _)] ⟨rfl, rfl, rfl, rfl, trivial⟩ ?_
        refine at_then_normal ?_
        rcases of_ite hF with ⟨h70, hF⟩ | ⟨h70, hF⟩
        · refine at_cond_true rfl h70 ?_
          refine at_seq ?_
          refine at_region ?_
          refine at_val rfl rfl rfl (r_build_struct (zs := Cd.cs c_api_Endpoint ({ f_A := ({ f_V := (0 : Int), f_B := (Vector.replicate 16 (0 : Int) : (Vector Int 16)) } : S_api_Addr), f_Port := (0 : Int) } : S_api_Endpoint)) (cs := Cd.cs c_api_Endpoint ({ f_A := ({ f_V := (0 : Int), f_B := (Vector.replicate 16 (0 : Int) : (Vector Int 16)) } : S_api_Addr), f_Port := (0 : Int) } : S_api_Endpoint)) Tryz.underlying26 Tryz.zeroValue26 rfl (places_api_Endpoint_26) rfl rfl) ?_
          refine at_store (c := c_api_Endpoint) (z := ({ f_A := ({ f_V := (0 : Int), f_B := (Vector.replicate 16 (0 : Int) : (Vector Int 16)) } : S_api_Addr), f_Port := (0 : Int) } : S_api_Endpoint)) .z (Lens.whole _ _) Tryz.sizeOf26 rfl rfl rfl ?_
          refine at_val rfl rfl rfl (r_assign rfl) ?_
          refine at_nil ?_
          refine at_weak [(2, _), (3, _)] ⟨rfl, rfl, trivial⟩ ?_
          refine at_then_normal ?_
          refine at_ret ?_
          refine at_then_ret ?_
          have K := of_some hF
          subst K
          exact at_res2 rfl (res_cell (c := c_api_Endpoint) (y := ({ f_A := ({ f_V := (0 : Int), f_B := (Vector.replicate 16 (0 : Int) : (Vector Int 16)) } : S_api_Addr), f_Port := (0 : Int) } : S_api_Endpoint)) rfl .z (Lens.whole _ _) Tryz.isAgg26 Tryz.sizeOf26 (.inl rfl)) (res_tmp rfl) (fun w1 hw => ⟨rfl, hw.below⟩)
        · refine at_cond_false rfl h70 ?_
          refine at_skip ?_
          refine at_then_normal ?_
          refine at_seq ?_
          refine at_region ?_
          refine at_val rfl rfl rfl (r_move rfl) ?_
          obtain ⟨t71, ht71, hF⟩ := of_bindM hF
          refine at_callB Tryz.func25 rfl (by kernel_rfl) rfl rfl (fun w hw => crawlwayref10_Parse_ok _ _ ht71 w) ?_
          refine at_val rfl rfl rfl (r_move rfl) ?_
          refine at_val rfl rfl rfl (r_extract rfl rfl) ?_
          refine at_val rfl rfl rfl (r_extract rfl rfl) ?_
          refine at_alloc (cs := Cd.cs c_api_Addr ({ f_V := (0 : Int), f_B := (Vector.replicate 16 (0 : Int) : (Vector Int 16)) } : S_api_Addr)) Tryz.zeroValue24 rfl rfl ?_
          intro b72
          refine at_store (c := c_api_Addr) (z := t71.1) .z (Lens.whole _ _) Tryz.sizeOf24 rfl rfl rfl ?_
          refine at_val rfl rfl rfl (r_assign rfl) ?_
          refine at_nil ?_
          refine at_weak [(2, _), (5, _), (9, _), (10, _)] ⟨rfl, rfl, rfl, rfl, trivial⟩ ?_
          refine at_then_normal ?_
          refine at_seq ?_
          refine at_seq ?_
          refine at_region ?_
          refine at_val rfl rfl rfl (r_move rfl) ?_
          refine at_val rfl rfl rfl (r_ineq rfl rfl) ?_
          refine at_nil ?_
          refine at_weak [(2, _), (5, _), (9, _), (10, _), (62, _)] ⟨rfl, rfl, rfl, rfl, rfl, trivial⟩ ?_
          refine at_then_normal ?_
          rcases of_ite hF with ⟨h73, hF⟩ | ⟨h73, hF⟩
          · refine at_cond_true rfl h73 ?_
            refine at_seq ?_
            refine at_region ?_
            refine at_val rfl rfl rfl (r_build_struct (zs := Cd.cs c_api_Endpoint ({ f_A := ({ f_V := (0 : Int), f_B := (Vector.replicate 16 (0 : Int) : (Vector Int 16)) } : S_api_Addr), f_Port := (0 : Int) } : S_api_Endpoint)) (cs := Cd.cs c_api_Endpoint ({ f_A := ({ f_V := (0 : Int), f_B := (Vector.replicate 16 (0 : Int) : (Vector Int 16)) } : S_api_Addr), f_Port := (0 : Int) } : S_api_Endpoint)) Tryz.underlying26 Tryz.zeroValue26 rfl (places_api_Endpoint_26) rfl rfl) ?_
            refine at_val rfl rfl rfl (r_move rfl) ?_
            refine at_store (c := c_api_Endpoint) (z := ({ f_A := ({ f_V := (0 : Int), f_B := (Vector.replicate 16 (0 : Int) : (Vector Int 16)) } : S_api_Addr), f_Port := (0 : Int) } : S_api_Endpoint)) (.s .z) (Lens.whole _ _) Tryz.sizeOf26 rfl rfl rfl ?_
            refine at_val rfl rfl rfl (r_assign rfl) ?_
            refine at_nil ?_
            refine at_drop (H := _) .z ?_
            refine at_weak [(2, _), (3, _)] ⟨rfl, rfl, trivial⟩ ?_
            refine at_then_normal ?_
            refine at_ret ?_
            refine at_then_ret ?_
            have K := of_some hF
            subst K
            exact at_res2 rfl (res_cell (c := c_api_Endpoint) (y := ({ f_A := ({ f_V := (0 : Int), f_B := (Vector.replicate 16 (0 : Int) : (Vector Int 16)) } : S_api_Addr), f_Port := (0 : Int) } : S_api_Endpoint)) rfl .z (Lens.whole _ _) Tryz.isAgg26 Tryz.sizeOf26 (.inl rfl)) (res_tmp rfl) (fun w1 hw => ⟨rfl, hw.below⟩)
          · refine at_cond_false rfl h73 ?_
            refine at_skip ?_
            refine at_then_normal ?_
            refine at_seq ?_
            refine at_region ?_
            refine at_val rfl rfl rfl (r_move rfl) ?_
            obtain ⟨t74, ht74, hF⟩ := of_bindM hF
            refine at_call0 Tryz.func26 rfl (by kernel_rfl) rfl rfl (fun w => crawlwayref03_Read_ok _ _ _ ht74 w) ?_
            refine at_val rfl rfl rfl (r_move rfl) ?_
            refine at_val rfl rfl rfl (r_extract rfl rfl) ?_
            refine at_val rfl rfl rfl (r_extract rfl rfl) ?_
            refine at_val rfl rfl rfl (r_assign rfl) ?_
            refine at_val rfl rfl rfl (r_assign rfl) ?_
            refine at_nil ?_
            refine at_weak [(2, _), (9, _), (11, _), (12, _)] ⟨rfl, rfl, rfl, rfl, trivial⟩ ?_
            refine at_then_normal ?_
            refine at_seq ?_
            refine at_seq ?_
            refine at_region ?_
            refine at_val rfl rfl rfl (r_move rfl) ?_
            refine at_val rfl rfl rfl (r_ineq rfl rfl) ?_
            refine at_nil ?_
            refine at_weak [(2, _), (9, _), (11, _), (12, _), (71, _)] ⟨rfl, rfl, rfl, rfl, rfl, trivial⟩ ?_
            refine at_then_normal ?_
            rcases of_ite hF with ⟨h75, hF⟩ | ⟨h75, hF⟩
            · refine at_cond_true rfl h75 ?_
              refine at_seq ?_
              refine at_region ?_
              refine at_val rfl rfl rfl (r_build_struct (zs := Cd.cs c_api_Endpoint ({ f_A := ({ f_V := (0 : Int), f_B := (Vector.replicate 16 (0 : Int) : (Vector Int 16)) } : S_api_Addr), f_Port := (0 : Int) } : S_api_Endpoint)) (cs := Cd.cs c_api_Endpoint ({ f_A := ({ f_V := (0 : Int), f_B := (Vector.replicate 16 (0 : Int) : (Vector Int 16)) } : S_api_Addr), f_Port := (0 : Int) } : S_api_Endpoint)) Tryz.underlying26 Tryz.zeroValue26 rfl (places_api_Endpoint_26) rfl rfl) ?_
              refine at_val rfl rfl rfl (r_move rfl) ?_
              refine at_store (c := c_api_Endpoint) (z := ({ f_A := ({ f_V := (0 : Int), f_B := (Vector.replicate 16 (0 : Int) : (Vector Int 16)) } : S_api_Addr), f_Port := (0 : Int) } : S_api_Endpoint)) (.s .z) (Lens.whole _ _) Tryz.sizeOf26 rfl rfl rfl ?_
              refine at_val rfl rfl rfl (r_assign rfl) ?_
              refine at_nil ?_
              refine at_drop (H := _) .z ?_
              refine at_weak [(2, _), (3, _)] ⟨rfl, rfl, trivial⟩ ?_
              refine at_then_normal ?_
              refine at_ret ?_
              refine at_then_ret ?_
              have K := of_some hF
              subst K
              exact at_res2 rfl (res_cell (c := c_api_Endpoint) (y := ({ f_A := ({ f_V := (0 : Int), f_B := (Vector.replicate 16 (0 : Int) : (Vector Int 16)) } : S_api_Addr), f_Port := (0 : Int) } : S_api_Endpoint)) rfl .z (Lens.whole _ _) Tryz.isAgg26 Tryz.sizeOf26 (.inl rfl)) (res_tmp rfl) (fun w1 hw => ⟨rfl, hw.below⟩)
            · refine at_cond_false rfl h75 ?_
              refine at_skip ?_
              refine at_then_normal ?_
              refine at_seq ?_
              refine at_seq ?_
              refine at_region ?_
              refine at_val rfl rfl rfl (r_move rfl) ?_
              refine at_val rfl rfl rfl (r_ieql rfl rfl) ?_
              refine at_nil ?_
              refine at_weak [(2, _), (9, _), (11, _), (75, _)] ⟨rfl, rfl, rfl, rfl, trivial⟩ ?_
              refine at_then_normal ?_
              rcases of_ite hF with ⟨h76, hF⟩ | ⟨h76, hF⟩
              · refine at_cond_true rfl h76 ?_
                refine at_seq ?_
                refine at_region ?_
                refine at_val rfl rfl rfl (r_build_struct (zs := Cd.cs c_api_Endpoint ({ f_A := ({ f_V := (0 : Int), f_B := (Vector.replicate 16 (0 : Int) : (Vector Int 16)) } : S_api_Addr), f_Port := (0 : Int) } : S_api_Endpoint)) (cs := Cd.cs c_api_Endpoint ({ f_A := ({ f_V := (0 : Int), f_B := (Vector.replicate 16 (0 : Int) : (Vector Int 16)) } : S_api_Addr), f_Port := (0 : Int) } : S_api_Endpoint)) Tryz.underlying26 Tryz.zeroValue26 rfl (places_api_Endpoint_26) rfl rfl) ?_
                refine at_store (c := c_api_Endpoint) (z := ({ f_A := ({ f_V := (0 : Int), f_B := (Vector.replicate 16 (0 : Int) : (Vector Int 16)) } : S_api_Addr), f_Port := (0 : Int) } : S_api_Endpoint)) (.s .z) (Lens.whole _ _) Tryz.sizeOf26 rfl rfl rfl ?_
                refine at_val rfl rfl rfl (r_assign rfl) ?_
                refine at_nil ?_
                refine at_drop (H := _) .z ?_
                refine at_weak [(2, _), (3, _)] ⟨rfl, rfl, trivial⟩ ?_
                refine at_then_normal ?_
                refine at_ret ?_
                refine at_then_ret ?_
                have K := of_some hF
                subst K
                exact at_res2 rfl (res_cell (c := c_api_Endpoint) (y := ({ f_A := ({ f_V := (0 : Int), f_B := (Vector.replicate 16 (0 : Int) : (Vector Int 16)) } : S_api_Addr), f_Port := (0 : Int) } : S_api_Endpoint)) rfl .z (Lens.whole _ _) Tryz.isAgg26 Tryz.sizeOf26 (.inl rfl)) (res_tmp rfl) (fun w1 hw => ⟨rfl, hw.below⟩)
              · refine at_cond_false rfl h76 ?_
                refine at_skip ?_
                refine at_then_normal ?_
                refine at_seq ?_
                refine at_region ?_
                refine at_val rfl rfl rfl (r_load_aggc (c := c_api_Addr) (z := t71.1) Tryz.isAgg24 Tryz.sizeOf24 rfl (lens_cell .z (Lens.whole _ _))) ?_
                refine at_val rfl rfl rfl (r_move rfl) ?_
                refine at_val rfl rfl rfl (r_conv Tryz.underlying37 Tryz.underlying3 rfl) ?_
                refine at_val rfl rfl rfl (r_build_struct (zs := Cd.cs c_api_Endpoint ({ f_A := ({ f_V := (0 : Int), f_B := (Vector.replicate 16 (0 : Int) : (Vector Int 16)) } : S_api_Addr), f_Port := (0 : Int) } : S_api_Endpoint)) (cs := Cd.cs c_api_Endpoint ({ { ({ f_A := ({ f_V := (0 : Int), f_B := (Vector.replicate 16 (0 : Int) : (Vector Int 16)) } : S_api_Addr), f_Port := (0 : Int) } : S_api_Endpoint) with f_A := t71.1 } with f_Port := wr .i64 t74.1 })) Tryz.underlying26 Tryz.zeroValue26 rfl (places_api_Endpoint_26) rfl (fill_step (c := c_api_Addr) (z := t71.1) rfl (c_api_Endpoint_f_A ({ f_A := ({ f_V := (0 : Int), f_B := (Vector.replicate 16 (0 : Int) : (Vector Int 16)) } : S_api_Addr), f_Port := (0 : Int) } : S_api_Endpoint)) rfl (fill_step (c := (cInt .i64)) (z := wr .i64 t74.1) rfl (c_api_Endpoint_f_Port ({ ({ f_A := ({ f_V := (0 : Int), f_B := (Vector.replicate 16 (0 : Int) : (Vector Int 16)) } : S_api_Addr), f_Port := (0 : Int) } : S_api_Endpoint) with f_A := t71.1 })) rfl rfl))) ?_
                refine at_store (c := c_api_Endpoint) (z := { { ({ f_A := ({ f_V := (0 : Int), f_B := (Vector.replicate 16 (0 : Int) : (Vector Int 16)) } : S_api_Addr), f_Port := (0 : Int) } : S_api_Endpoint) with f_A := t71.1 } with f_Port := wr .i64 t74.1 }) (.s .z) (Lens.whole _ _) Tryz.sizeOf26 rfl rfl rfl ?_
                refine at_val rfl rfl rfl (r_assign rfl) ?_
                refine at_nil ?_
                refine at_drop (H := _) .z ?_
                refine at_weak [(2, _), (3, _)] ⟨rfl, rfl, trivial⟩ ?_
                refine at_then_normal ?_
                refine at_ret ?_
                have K := of_some hF
                subst K
                exact at_res2 rfl (res_cell (c := c_api_Endpoint) (y := { { ({ f_A := ({ f_V := (0 : Int), f_B := (Vector.replicate 16 (0 : Int) : (Vector Int 16)) } : S_api_Addr), f_Port := (0 : Int) } : S_api_Endpoint) with f_A := t71.1 } with f_Port := wr .i64 t74.1 }) rfl .z (Lens.whole _ _) Tryz.isAgg26 Tryz.sizeOf26 (.inl rfl)) (res_tmp rfl) (fun w1 hw => ⟨rfl, hw.below⟩)
    · refine at_cond_false rfl h60 ?_
      refine at_skip ?_
      refine at_then_normal ?_
      refine at_seq ?_
      refine at_seq ?_
      refine at_region ?_
      refine at_val rfl rfl rfl (r_move rfl) ?_
      refine at_val rfl rfl rfl (r_not rfl) ?_
      refine at_val rfl rfl rfl (r_move rfl) ?_
      rcases of_ite hF with ⟨h77, hF⟩ | ⟨h77, hF⟩
      · refine at_fix (g := 47) rfl h77 ?_
        refine at_guard_no rfl rfl rfl rfl rfl ?_
        refine at_guard_no rfl rfl rfl rfl rfl ?_
        refine at_guard_no rfl rfl rfl rfl rfl ?_
        refine at_guard_no rfl rfl rfl rfl rfl ?_
        refine at_guard_no rfl rfl rfl rfl rfl ?_
        refine at_guard_no rfl rfl rfl rfl rfl ?_
        refine at_val rfl rfl rfl (r_pick rfl rfl rfl) ?_
        refine at_nil ?_
        refine at_drop (H := _) .z ?_
        refine at_weak [(2, _), (4, _), (5, _), (54, _)] ⟨rfl, rfl, rfl, rfl, trivial⟩ ?_
        refine at_then_normal ?_
        refine at_cond_true rfl rfl ?_
        refine at_seq ?_
        refine at_region ?_
        refine at_val rfl rfl rfl (r_build_struct (zs := Cd.cs c_api_Endpoint ({ f_A := ({ f_V := (0 : Int), f_B := (Vector.replicate 16 (0 : Int) : (Vector Int 16)) } : S_api_Addr), f_Port := (0 : Int) } : S_api_Endpoint)) (cs := Cd.cs c_api_Endpoint ({ f_A := ({ f_V := (0 : Int), f_B := (Vector.replicate 16 (0 : Int) : (Vector Int 16)) } : S_api_Addr), f_Port := (0 : Int) } : S_api_Endpoint)) Tryz.underlying26 Tryz.zeroValue26 rfl (places_api_Endpoint_26) rfl rfl) ?_
        refine at_store (c := c_api_Endpoint) (z := ({ f_A := ({ f_V := (0 : Int), f_B := (Vector.replicate 16 (0 : Int) : (Vector Int 16)) } : S_api_Addr), f_Port := (0 : Int) } : S_api_Endpoint)) .z (Lens.whole _ _) Tryz.sizeOf26 rfl rfl rfl ?_
        refine at_val rfl rfl rfl (r_assign rfl) ?_
        refine at_nil ?_
        refine at_weak [(2, _), (3, _)] ⟨rfl, rfl, trivial⟩ ?_
        refine at_then_normal ?_
        refine at_ret ?_
        refine at_then_ret ?_
        have K := of_some hF
        subst K
        exact at_res2 rfl (res_cell (c := c_api_Endpoint) (y := ({ f_A := ({ f_V := (0 : Int), f_B := (Vector.replicate 16 (0 : Int) : (Vector Int 16)) } : S_api_Addr), f_Port := (0 : Int) } : S_api_Endpoint)) rfl .z (Lens.whole _ _) Tryz.isAgg26 Tryz.sizeOf26 (.inl rfl)) (res_tmp rfl) (fun w1 hw => ⟨rfl, hw.below⟩)
      · refine at_fix (g := 47) rfl h77 ?_
        refine at_guard_yes rfl rfl rfl ?_
        refine at_val rfl rfl rfl (r_move rfl) ?_
        refine at_guard_yes rfl rfl rfl ?_
        obtain ⟨t78, ht78, hF⟩ := of_bindM hF
        refine at_callO (c := cStr) (e := 9) (ys := t78) (V := fun p cap => .slice p t78.length cap) Tryz.func24 rfl (by kernel_rfl) rfl rfl (fun w hw => crawlwayref06_Parts_ok _ _ _ ht78 w) ?_
        intro p79 c80
        refine at_guard_yes rfl rfl rfl ?_
        refine at_val rfl rfl rfl (r_len_sl Tryz.underlying47 rfl) ?_
        refine at_guard_yes rfl rfl rfl ?_
        refine at_val rfl rfl rfl (r_igtr rfl rfl) ?_
        refine at_guard_yes rfl rfl rfl ?_
        refine at_val rfl rfl rfl (r_move rfl) ?_
        refine at_guard_yes rfl rfl rfl ?_
        refine at_val rfl rfl rfl (r_bool Tryz.underlying4 rfl rfl (.inr rfl) rfl) ?_
        refine at_val rfl rfl rfl (r_pick rfl rfl rfl) ?_
        refine at_nil ?_
        refine at_drop (H := _) .z ?_
        refine at_drop (H := _) .z ?_
        refine at_weak [(2, _), (4, _), (5, _), (54, _)] ⟨rfl, rfl, rfl, rfl, trivial⟩ ?_
        refine at_then_normal ?_
        rcases of_ite hF with ⟨h81, hF⟩ | ⟨h81, hF⟩
        · refine at_cond_true rfl h81 ?_
          refine at_seq ?_
          refine at_region ?_
          refine at_val rfl rfl rfl (r_build_struct (zs := Cd.cs c_api_Endpoint ({ f_A := ({ f_V := (0 : Int), f_B := (Vector.replicate 16 (0 : Int) : (Vector Int 16)) } : S_api_Addr), f_Port := (0 : Int) } : S_api_Endpoint)) (cs := Cd.cs c_api_Endpoint ({ f_A := ({ f_V := (0 : Int), f_B := (Vector.replicate 16 (0 : Int) : (Vector Int 16)) } : S_api_Addr), f_Port := (0 : Int) } : S_api_Endpoint)) Tryz.underlying26 Tryz.zeroValue26 rfl (places_api_Endpoint_26) rfl rfl) ?_
          refine at_store (c := c_api_Endpoint) (z := ({ f_A := ({ f_V := (0 : Int), f_B := (Vector.replicate 16 (0 : Int) : (Vector Int 16)) } : S_api_Addr), f_Port := (0 : Int) } : S_api_Endpoint)) .z (Lens.whole _ _) Tryz.sizeOf26 rfl rfl rfl ?_
          refine at_val rfl rfl rfl (r_assign rfl) ?_
          refine at_nil ?_
          refine at_weak [(2, _), (3, _)] ⟨rfl, rfl, trivial⟩ ?_
          refine at_then_normal ?_
          refine at_ret ?_
          refine at_then_ret ?_
          have K := of_some hF
          subst K
          exact at_res2 rfl (res_cell (c := c_api_Endpoint) (y := ({ f_A := ({ f_V := (0 : Int), f_B := (Vector.replicate 16 (0 : Int) : (Vector Int 16)) } : S_api_Addr), f_Port := (0 : Int) } : S_api_Endpoint)) rfl .z (Lens.whole _ _) Tryz.isAgg26 Tryz.sizeOf26 (.inl rfl)) (res_tmp rfl) (fun w1 hw => ⟨rfl, hw.below⟩)
        · refine at_cond_false rfl h81 ?_
          refine at_skip ?_
          refine at_then_normal ?_
          refine at_seq ?_
          refine at_region ?_
          refine at_val rfl rfl rfl (r_move rfl) ?_
          obtain ⟨t82, ht82, hF⟩ := of_bindM hF
          refine at_callB Tryz.func25 rfl (by kernel_rfl) rfl rfl (fun w hw => crawlwayref10_Parse_ok _ _ ht82 w) ?_
          refine at_val rfl rfl rfl (r_move rfl) ?_
          refine at_val rfl rfl rfl (r_extract rfl rfl) ?_
          refine at_val rfl rfl rfl (r_extract rfl rfl) ?_
          refine at_alloc (cs := Cd.cs c_api_Addr ({ f_V := (0 : Int), f_B := (Vector.replicate 16 (0 : Int) : (Vector Int 16)) } : S_api_Addr)) Tryz.zeroValue24 rfl rfl ?_
          intro b83
          refine at_store (c := c_api_Addr) (z := t82.1) .z (Lens.whole _ _) Tryz.sizeOf24 rfl rfl rfl ?_
          refine at_val rfl rfl rfl (r_assign rfl) ?_
          refine at_nil ?_
          refine at_weak [(2, _), (5, _), (9, _), (10, _)] ⟨rfl, rfl, rfl, rfl, trivial⟩ ?_
          refine at_then_normal ?_
          refine at_seq ?_
          refine at_seq ?_
          refine at_region ?_
          refine at_val rfl rfl rfl (r_move rfl) ?_
          refine at_val rfl rfl rfl (r_ineq rfl rfl) ?_
          refine at_nil ?_
          refine at_weak [(2, _), (5, _), (9, _), (10, _), (62, _)] ⟨rfl, rfl, rfl, rfl, rfl, trivial⟩ ?_
          refine at_then_normal ?_
          rcases of_ite hF with ⟨h84, hF⟩ | ⟨h84, hF⟩
          · refine at_cond_true rfl h84 ?_
            refine at_seq ?_
            refine at_region ?_
            refine at_val rfl rfl rfl (r_build_struct (zs := Cd.cs c_api_Endpoint ({ f_A := ({ f_V := (0 : Int), f_B := (Vector.replicate 16 (0 : Int) : (Vector Int 16)) } : S_api_Addr), f_Port := (0 : Int) } : S_api_Endpoint)) (cs := Cd.cs c_api_Endpoint ({ f_A := ({ f_V := (0 : Int), f_B := (Vector.replicate 16 (0 : Int) : (Vector Int 16)) } : S_api_Addr), f_Port := (0 : Int) } : S_api_Endpoint)) Tryz.underlying26 Tryz.zeroValue26 rfl (places_api_Endpoint_26) rfl rfl) ?_
            refine at_val rfl rfl rfl (r_move rfl) ?_
            refine at_store (c := c_api_Endpoint) (z := ({ f_A := ({ f_V := (0 : Int), f_B := (Vector.replicate 16 (0 : Int) : (Vector Int 16)) } : S_api_Addr), f_Port := (0 : Int) } : S_api_Endpoint)) (.s .z) (Lens.whole _ _) Tryz.sizeOf26 rfl rfl rfl ?_
            refine at_val rfl rfl rfl (r_assign rfl) ?_
            refine at_nil ?_
            refine at_drop (H := _) .z ?_
            refine at_weak [(2, _), (3, _)] ⟨rfl, rfl, trivial⟩ ?_
            refine at_then_normal ?_
            refine at_ret ?_
            refine at_then_ret ?_
            have K := of_some hF
            subst K
            exact at_res2 rfl (res_cell (c := c_api_Endpoint) (y := ({ f_A := ({ f_V := (0 : Int), f_B := (Vector.replicate 16 (0 : Int) : (Vector Int 16)) } : S_api_Addr), f_Port := (0 : Int) } : S_api_Endpoint)) rfl .z (Lens.whole _ _) Tryz.isAgg26 Tryz.sizeOf26 (.inl rfl)) (res_tmp rfl) (fun w1 hw => ⟨rfl, hw.below⟩)
          · refine at_cond_false rfl h84 ?_
            refine at_skip ?_
            refine at_then_normal ?_
            refine at_seq ?_
            refine at_region ?_
            refine at_val rfl rfl rfl (r_move rfl) ?_
            obtain ⟨t85, ht85, hF⟩ := of_bindM hF
            refine at_call0 Tryz.func26 rfl (by kernel_rfl) rfl rfl (fun w => crawlwayref03_Read_ok _ _ _ ht85 w) ?_
            refine at_val rfl rfl rfl (r_move rfl) ?_
            refine at_val rfl rfl rfl (r_extract rfl rfl) ?_
            refine at_val rfl rfl rfl (r_extract rfl rfl) ?_
            refine at_val rfl rfl rfl (r_assign rfl) ?_
            refine at_val rfl rfl rfl (r_assign rfl) ?_
            refine at_nil ?_
            refine at_weak [(2, _), (9, _), (11, _), (12, _)] ⟨rfl, rfl, rfl, rfl, trivial⟩ ?_
            refine at_then_normal ?_
            refine at_seq ?_
            refine at_seq ?_
            refine at_region ?_
            refine at_val rfl rfl rfl (r_move rfl) ?_
            refine at_val rfl rfl rfl (r_ineq rfl rfl) ?_
            refine at_nil ?_
            refine at_weak [(2, _), (9, _), (11, _), (12, _), (71, _)] ⟨rfl, rfl, rfl, rfl, rfl, trivial⟩ ?_
            refine at_then_normal ?_
            rcases of_ite hF with ⟨h86, hF⟩ | ⟨h86, hF⟩
            · refine at_cond_true rfl h86 ?_
              refine at_seq ?_
              refine at_region ?_
              refine at_val rfl rfl rfl (r_build_struct (zs := Cd.cs c_api_Endpoint ({ f_A := ({ f_V := (0 : Int), f_B := (Vector.replicate 16 (0 : Int) : (Vector Int 16)) } : S_api_Addr), f_Port := (0 : Int) } : S_api_Endpoint)) (cs := Cd.cs c_api_Endpoint ({ f_A := ({ f_V := (0 : Int), f_B := (Vector.replicate 16 (0 : Int) : (Vector Int 16)) } : S_api_Addr), f_Port := (0 : Int) } : S_api_Endpoint)) Tryz.underlying26 Tryz.zeroValue26 rfl (places_api_Endpoint_26) rfl rfl) ?_
              refine at_val rfl rfl rfl (r_move rfl) ?_
              refine at_store (c := c_api_Endpoint) (z := ({ f_A := ({ f_V := (0 : Int), f_B := (Vector.replicate 16 (0 : Int) : (Vector Int 16)) } : S_api_Addr), f_Port := (0 : Int) } : S_api_Endpoint)) (.s .z) (Lens.whole _ _) Tryz.sizeOf26 rfl rfl rfl ?_
              refine at_val rfl rfl rfl (r_assign rfl) ?_
              refine at_nil ?_
              refine at_drop (H := _) .z ?_
              refine at_weak [(2, _), (3, _)] ⟨rfl, rfl, trivial⟩ ?_
              refine at_then_normal ?_
              refine at_ret ?_
              refine at_then_ret ?_
              have K := of_some hF
              subst K
              exact at_res2 rfl (res_cell (c := c_api_Endpoint) (y := ({ f_A := ({ f_V := (0 : Int), f_B := (Vector.replicate 16 (0 : Int) : (Vector Int 16)) } : S_api_Addr), f_Port := (0 : Int) } : S_api_Endpoint)) rfl .z (Lens.whole _ _) Tryz.isAgg26 Tryz.sizeOf26 (.inl rfl)) (res_tmp rfl) (fun w1 hw => ⟨rfl, hw.below⟩)
            · refine at_cond_false rfl h86 ?_
              refine at_skip ?_
              refine at_then_normal ?_
              refine at_seq ?_
              refine at_seq ?_
              refine at_region ?_
              refine at_val rfl rfl rfl (r_move rfl) ?_
              refine at_val rfl rfl rfl (r_ieql rfl rfl) ?_
              refine at_nil ?_
              refine at_weak [(2, _), (9, _), (11, _), (75, _)] ⟨rfl, rfl, rfl, rfl, trivial⟩ ?_
              refine at_then_normal ?_
              rcases of_ite hF with ⟨h87, hF⟩ | ⟨h87, hF⟩
              · refine at_cond_true rfl h87 ?_
                refine at_seq ?_
                refine at_region ?_
                refine at_val rfl rfl rfl (r_build_struct (zs := Cd.cs c_api_Endpoint ({ f_A := ({ f_V := (0 : Int), f_B := (Vector.replicate 16 (0 : Int) : (Vector Int 16)) } : S_api_Addr), f_Port := (0 : Int) } : S_api_Endpoint)) (cs := Cd.cs c_api_Endpoint ({ f_A := ({ f_V := (0 : Int), f_B := (Vector.replicate 16 (0 : Int) : (Vector Int 16)) } : S_api_Addr), f_Port := (0 : Int) } : S_api_Endpoint)) Tryz.underlying26 Tryz.zeroValue26 rfl (places_api_Endpoint_26) rfl rfl) ?_
                refine at_store (c := c_api_Endpoint) (z := ({ f_A := ({ f_V := (0 : Int), f_B := (Vector.replicate 16 (0 : Int) : (Vector Int 16)) } : S_api_Addr), f_Port := (0 : Int) } : S_api_Endpoint)) (.s .z) (Lens.whole _ _) Tryz.sizeOf26 rfl rfl rfl ?_
                refine at_val rfl rfl rfl (r_assign rfl) ?_
                refine at_nil ?_
                refine at_drop (H := _) .z ?_
                refine at_weak [(2, _), (3, _)] ⟨rfl, rfl, trivial⟩ ?_
                refine at_then_normal ?_
                refine at_ret ?_
                refine at_then_ret ?_
                have K := of_some hF
                subst K
                exact at_res2 rfl (res_cell (c := c_api_Endpoint) (y := ({ f_A := ({ f_V := (0 : Int), f_B := (Vector.replicate 16 (0 : Int) : (Vector Int 16)) } : S_api_Addr), f_Port := (0 : Int) } : S_api_Endpoint)) rfl .z (Lens.whole _ _) Tryz.isAgg26 Tryz.sizeOf26 (.inl rfl)) (res_tmp rfl) (fun w1 hw => ⟨rfl, hw.below⟩)
              · refine at_cond_false rfl h87 ?_
                refine at_skip ?_
                refine at_then_normal ?_
                refine at_seq ?_
                refine at_region ?_
                refine at_val rfl rfl rfl (r_load_aggc (c := c_api_Addr) (z := t82.1) Tryz.isAgg24 Tryz.sizeOf24 rfl (lens_cell .z (Lens.whole _ _))) ?_
                refine at_val rfl rfl rfl (r_move rfl) ?_
                refine at_val rfl rfl rfl (r_conv Tryz.underlying37 Tryz.underlying3 rfl) ?_
                refine at_val rfl rfl rfl (r_build_struct (zs := Cd.cs c_api_Endpoint ({ f_A := ({ f_V := (0 : Int), f_B := (Vector.replicate 16 (0 : Int) : (Vector Int 16)) } : S_api_Addr), f_Port := (0 : Int) } : S_api_Endpoint)) (cs := Cd.cs c_api_Endpoint ({ { ({ f_A := ({ f_V := (0 : Int), f_B := (Vector.replicate 16 (0 : Int) : (Vector Int 16)) } : S_api_Addr), f_Port := (0 : Int) } : S_api_Endpoint) with f_A := t82.1 } with f_Port := wr .i64 t85.1 })) Tryz.underlying26 Tryz.zeroValue26 rfl (places_api_Endpoint_26) rfl (fill_step (c := c_api_Addr) (z := t82.1) rfl (c_api_Endpoint_f_A ({ f_A := ({ f_V := (0 : Int), f_B := (Vector.replicate 16 (0 : Int) : (Vector Int 16)) } : S_api_Addr), f_Port := (0 : Int) } : S_api_Endpoint)) rfl (fill_step (c := (cInt .i64)) (z := wr .i64 t85.1) rfl (c_api_Endpoint_f_Port ({ ({ f_A := ({ f_V := (0 : Int), f_B := (Vector.replicate 16 (0 : Int) : (Vector Int 16)) } : S_api_Addr), f_Port := (0 : Int) } : S_api_Endpoint) with f_A := t82.1 })) rfl rfl))) ?_
                refine at_store (c := c_api_Endpoint) (z := { { ({ f_A := ({ f_V := (0 : Int), f_B := (Vector.replicate 16 (0 : Int) : (Vector Int 16)) } : S_api_Addr), f_Port := (0 : Int) } : S_api_Endpoint) with f_A := t82.1 } with f_Port := wr .i64 t85.1 }) (.s .z) (Lens.whole _ _) Tryz.sizeOf26 rfl rfl rfl ?_
                refine at_val rfl rfl rfl (r_assign rfl) ?_
                refine at_nil ?_
                refine at_drop (H := _) .z ?_
                refine at_weak [(2, _), (3, _)] ⟨rfl, rfl, trivial⟩ ?_
                refine at_then_normal ?_
                refine at_ret ?_
                have K := of_some hF
                subst K
                exact at_res2 rfl (res_cell (c := c_api_Endpoint) (y := { { ({ f_A := ({ f_V := (0 : Int), f_B := (Vector.replicate 16 (0 : Int) : (Vector Int 16)) } : S_api_Addr), f_Port := (0 : Int) } : S_api_Endpoint) with f_A := t82.1 } with f_Port := wr .i64 t85.1 }) rfl .z (Lens.whole _ _) Tryz.isAgg26 Tryz.sizeOf26 (.inl rfl)) (res_tmp rfl) (fun w1 hw => ⟨rfl, hw.below⟩)

def crawlwaylaw12_alive : Option (Bool) :=
  hostport_Parse (⟨#[91, 58, 58, 49, 93, 58, 53, 49, 56, 50, 48]⟩ : ByteArray) >>= fun t1 => hostport_Parse (⟨#[58, 58, 49, 58, 53, 49, 56, 50, 48]⟩ : ByteArray) >>= fun t3 => if (t1.2 == 0) = true then (hostport_Text t1.1 >>= fun t6 => if (seq t6 (⟨#[91, 58, 58, 49, 93, 58, 53, 49, 56, 50, 48]⟩ : ByteArray)) = true then (if (t3.2 == 5) = true then (hostport_None ({ f_A := ({ f_V := (0 : Int), f_B := (Vector.replicate 16 (0 : Int) : (Vector Int 16)) } : S_api_Addr), f_Port := (0 : Int) } : S_api_Endpoint) >>= fun t9 => some t9) else (some false)) else (some false)) else (some false)
theorem crawlwaylaw12_alive_ok (r : Bool) (hF : crawlwaylaw12_alive  = some r) (w : World) (hg_bytealg_MaxLen : GV_bytealg_MaxLen w) (hg_strconv_ErrRange : GV_strconv_ErrRange w) (hg_strconv_ErrSyntax : GV_strconv_ErrSyntax w) (hg_strconv_uint64pow10 : GV_strconv_uint64pow10 w) :
    Calls Tryz.prog 10 #[] w (fun e w' => e = .returned (.bool r) ∧ Below w.heap.size w w') := by
  unfold crawlwaylaw12_alive at hF
  refine calls_enter (l := []) Tryz.func10 rfl rfl rfl ?_
  refine at_start ?_
  refine at_weak [] trivial ?_
  refine at_seq ?_
  refine at_region ?_
  refine at_val rfl rfl rfl (r_assign rfl) ?_
  refine at_nil ?_
  refine at_weak [] trivial ?_
  refine at_then_normal ?_
  refine at_seq ?_
  refine at_region ?_
  obtain ⟨t1, ht1, hF⟩ := of_bindM hF
  refine at_callB Tryz.func11 rfl (by kernel_rfl) rfl rfl (fun w hw => hostport_Parse_ok _ _ ht1 w (hg_bytealg_MaxLen.on hw.below) (hg_strconv_ErrRange.on hw.below) (hg_strconv_ErrSyntax.on hw.below)) ?_
  refine at_val rfl rfl rfl (r_move rfl) ?_
  refine at_val rfl rfl rfl (r_extract rfl rfl) ?_
  refine at_val rfl rfl rfl (r_extract rfl rfl) ?_
  refine at_alloc (cs := Cd.cs c_api_Endpoint ({ f_A := ({ f_V := (0 : Int), f_B := (Vector.replicate 16 (0 : Int) : (Vector Int 16)) } : S_api_Addr), f_Port := (0 : Int) } : S_api_Endpoint)) Tryz.zeroValue26 rfl rfl ?_
  intro b2
  refine at_store (c := c_api_Endpoint) (z := t1.1) .z (Lens.whole _ _) Tryz.sizeOf26 rfl rfl rfl ?_
  refine at_val rfl rfl rfl (r_assign rfl) ?_
  refine at_nil ?_
  refine at_weak [(1, _), (2, _)] ⟨rfl, rfl, trivial⟩ ?_
  refine at_then_normal ?_
  refine at_seq ?_
  refine at_region ?_
  obtain ⟨t3, ht3, hF⟩ := of_bindM hF
  refine at_callB Tryz.func11 rfl (by kernel_rfl) rfl rfl (fun w hw => hostport_Parse_ok _ _ ht3 w (hg_bytealg_MaxLen.on hw.below) (hg_strconv_ErrRange.on hw.below) (hg_strconv_ErrSyntax.on hw.below)) ?_
  refine at_val rfl rfl rfl (r_move rfl) ?_
  refine at_val rfl rfl rfl (r_extract rfl rfl) ?_
  refine at_val rfl rfl rfl (r_extract rfl rfl) ?_
  refine at_alloc (cs := Cd.cs c_api_Endpoint ({ f_A := ({ f_V := (0 : Int), f_B := (Vector.replicate 16 (0 : Int) : (Vector Int 16)) } : S_api_Addr), f_Port := (0 : Int) } : S_api_Endpoint)) Tryz.zeroValue26 rfl rfl ?_
  intro b4
  refine at_store (c := c_api_Endpoint) (z := t3.1) .z (Lens.whole _ _) Tryz.sizeOf26 rfl rfl rfl ?_
  refine at_val rfl rfl rfl (r_assign rfl) ?_
  refine at_nil ?_
  refine at_drop (H := _) .z ?_
  refine at_weak [(1, _), (2, _), (4, _)] ⟨rfl, rfl, rfl, trivial⟩ ?_
  refine at_then_normal ?_
  refine at_seq ?_
  refine at_region ?_
  refine at_val rfl rfl rfl (r_move rfl) ?_
  refine at_val rfl rfl rfl (r_ieql rfl rfl) ?_
  refine at_val rfl rfl rfl (r_move rfl) ?_
  rcases of_ite hF with ⟨h5, hF⟩ | ⟨h5, hF⟩
  · refine at_fix (g := 15) rfl h5 ?_
    refine at_guard_yes rfl rfl rfl ?_
    refine at_val rfl rfl rfl (r_load_aggc (c := c_api_Endpoint) (z := t1.1) Tryz.isAgg26 Tryz.sizeOf26 rfl (lens_cell .z (Lens.whole _ _))) ?_
    refine at_guard_yes rfl rfl rfl ?_
    obtain ⟨t6, ht6, hF⟩ := of_bindM hF
    refine at_callB Tryz.func5 rfl (by kernel_rfl) rfl rfl (fun w hw => hostport_Text_ok _ _ ht6 w (hg_strconv_uint64pow10.on hw.below)) ?_
    refine at_guard_yes rfl rfl rfl ?_
    refine at_val rfl rfl rfl (r_seql rfl rfl) ?_
    refine at_val rfl rfl rfl (r_pick rfl rfl rfl) ?_
    refine at_val rfl rfl rfl (r_move rfl) ?_
    rcases of_ite hF with ⟨h7, hF⟩ | ⟨h7, hF⟩
    · refine at_fix (g := 20) rfl h7 ?_
      refine at_guard_yes rfl rfl rfl ?_
      refine at_val rfl rfl rfl (r_move rfl) ?_
      refine at_guard_yes rfl rfl rfl ?_
      refine at_val rfl rfl rfl (r_ieql rfl rfl) ?_
      refine at_val rfl rfl rfl (r_pick rfl rfl rfl) ?_
      refine at_val rfl rfl rfl (r_move rfl) ?_
      rcases of_ite hF with ⟨h8, hF⟩ | ⟨h8, hF⟩
      · refine at_fix (g := 24) rfl h8 ?_
        refine at_guard_yes rfl rfl rfl ?_
        refine at_val rfl rfl rfl (r_build_struct (zs := Cd.cs c_api_Endpoint ({ f_A := ({ f_V := (0 : Int), f_B := (Vector.replicate 16 (0 : Int) : (Vector Int 16)) } : S_api_Addr), f_Port := (0 : Int) } : S_api_Endpoint)) (cs := Cd.cs c_api_Endpoint ({ f_A := ({ f_V := (0 : Int), f_B := (Vector.replicate 16 (0 : Int) : (Vector Int 16)) } : S_api_Addr), f_Port := (0 : Int) } : S_api_Endpoint)) Tryz.underlying26 Tryz.zeroValue26 rfl (places_api_Endpoint_26) rfl rfl) ?_
        refine at_guard_yes rfl rfl rfl ?_
        obtain ⟨t9, ht9, hF⟩ := of_bindM hF
        refine at_callB Tryz.func9 rfl (by kernel_rfl) rfl rfl (fun w hw => hostport_None_ok _ _ ht9 w) ?_
        refine at_val rfl rfl rfl (r_pick rfl rfl rfl) ?_
        refine at_val rfl rfl rfl (r_assign rfl) ?_
        refine at_nil ?_
        refine at_drop (H := _) .z ?_
        refine at_weak [(0, _)] ⟨rfl, trivial⟩ ?_
        refine at_then_normal ?_
        refine at_ret ?_
        have K := of_some hF
        subst K
        exact at_return1 rfl rfl (fun w1 hw => ⟨rfl, hw.below⟩)
      · refine at_fix (g := 24) rfl h8 ?_
        refine at_guard_no rfl rfl rfl rfl rfl ?_
        refine at_guard_no rfl rfl rfl rfl rfl ?_
        refine at_val rfl rfl rfl (r_pick rfl rfl rfl) ?_
        refine at_val rfl rfl rfl (r_assign rfl) ?_
        refine at_nil ?_
        refine at_drop (H := _) .z ?_
        refine at_weak [(0, _)] ⟨rfl, trivial⟩ ?_
        refine at_then_normal ?_
        refine at_ret ?_
        have K := of_some hF
        subst K
        exact at_return1 rfl rfl (fun w1 hw => ⟨rfl, hw.below⟩)
    · refine at_fix (g := 20) rfl h7 ?_
      refine at_guard_no rfl rfl rfl rfl rfl ?_
      refine at_guard_no rfl rfl rfl rfl rfl ?_
      refine at_val rfl rfl rfl (r_pick rfl rfl rfl) ?_
      refine at_val rfl rfl rfl (r_move rfl) ?_
      refine at_guard_no rfl rfl rfl rfl rfl ?_
      refine at_guard_no rfl rfl rfl rfl rfl ?_
      refine at_val rfl rfl rfl (r_pick rfl rfl rfl) ?_
      refine at_val rfl rfl rfl (r_assign rfl) ?_
      refine at_nil ?_
      refine at_drop (H := _) .z ?_
      refine at_weak [(0, _)] ⟨rfl, trivial⟩ ?_
      refine at_then_normal ?_
      refine at_ret ?_
      have K := of_some hF
      subst K
      exact at_return1 rfl rfl (fun w1 hw => ⟨rfl, hw.below⟩)
  · refine at_fix (g := 15) rfl h5 ?_
    refine at_guard_no rfl rfl rfl rfl rfl ?_
    refine at_guard_no rfl rfl rfl rfl rfl ?_
    refine at_guard_no rfl rfl rfl rfl rfl ?_
    refine at_val rfl rfl rfl (r_pick rfl rfl rfl) ?_
    refine at_val rfl rfl rfl (r_move rfl) ?_
    refine at_guard_no rfl rfl rfl rfl rfl ?_
    refine at_guard_no rfl rfl rfl rfl rfl ?_
    refine at_val rfl rfl rfl (r_pick rfl rfl rfl) ?_
    refine at_val rfl rfl rfl (r_move rfl) ?_
    refine at_guard_no rfl rfl rfl rfl rfl ?_
    refine at_guard_no rfl rfl rfl rfl rfl ?_
    refine at_val rfl rfl rfl (r_pick rfl rfl rfl) ?_
    refine at_val rfl rfl rfl (r_assign rfl) ?_
    refine at_nil ?_
    refine at_drop (H := _) .z ?_
    refine at_weak [(0, _)] ⟨rfl, trivial⟩ ?_
    refine at_then_normal ?_
    refine at_ret ?_
    have K := of_some hF
    subst K
    exact at_return1 rfl rfl (fun w1 hw => ⟨rfl, hw.below⟩)

def crawlwaylaw12_HostportTexts (x0 : S_api_Endpoint) : Option (Bool) :=
  hostport_Text x0 >>= fun t2 => crawlwayref12_Right x0 >>= fun t3 => hostport_Right x0 >>= fun t4 => if (t4 != t3) = true then (some false) else (crawlwayref12_Text x0 >>= fun t6 => if (!seq t2 t6) = true then (some false) else (hostport_None x0 >>= fun t8 => if (t8 != decide (x0 = ({ f_A := ({ f_V := (0 : Int), f_B := (Vector.replicate 16 (0 : Int) : (Vector Int 16)) } : S_api_Addr), f_Port := (0 : Int) } : S_api_Endpoint))) = true then (some false) else (if (!t3) = true then (if (seq t2 (⟨#[]⟩ : ByteArray)) = true then (crawlwaylaw12_alive >>= fun t12 => some t12) else (some false)) else (hostport_Parse t2 >>= fun t13 => if (decide (t13.1 = x0)) = true then (if (t13.2 == 0) = true then (crawlwaylaw12_alive >>= fun t17 => some t17) else (some false)) else (some false)))))
theorem crawlwaylaw12_HostportTexts_ok (x0 : S_api_Endpoint) (r : Bool) (hF : crawlwaylaw12_HostportTexts x0 = some r) (w : World) (hg_bytealg_MaxLen : GV_bytealg_MaxLen w) (hg_strconv_ErrRange : GV_strconv_ErrRange w) (hg_strconv_ErrSyntax : GV_strconv_ErrSyntax w) (hg_strconv_uint64pow10 : GV_strconv_uint64pow10 w) :
    Calls Tryz.prog 3 #[.agg (Cd.cs c_api_Endpoint x0).toArray] w (fun e w' => e = .returned (.bool r) ∧ Below w.heap.size w w') := by
  unfold crawlwaylaw12_HostportTexts at hF
  refine calls_enter (l := [.agg (Cd.cs c_api_Endpoint x0).toArray]) Tryz.func3 rfl rfl rfl ?_
  refine at_start ?_
  refine at_weak [(0, _)] ⟨rfl, trivial⟩ ?_
  refine at_seq ?_
  refine at_region ?_
  refine at_box (cs := Cd.cs c_api_Endpoint x0) rfl rfl rfl ?_
  intro b1
  refine at_val rfl rfl rfl (r_assign rfl) ?_
  refine at_nil ?_
  refine at_weak [(1, _)] ⟨rfl, trivial⟩ ?_
  refine at_then_normal ?_
  refine at_seq ?_
  refine at_region ?_
  refine at_val rfl rfl rfl (r_load_aggc (c := c_api_Endpoint) (z := x0) Tryz.isAgg26 Tryz.sizeOf26 rfl (lens_cell .z (Lens.whole _ _))) ?_
  obtain ⟨t2, ht2, hF⟩ := of_bindM hF
  refine at_callB Tryz.func5 rfl (by kernel_rfl) rfl rfl (fun w hw => hostport_Text_ok _ _ ht2 w (hg_strconv_uint64pow10.on hw.below)) ?_
  refine at_val rfl rfl rfl (r_assign rfl) ?_
  refine at_nil ?_
  refine at_weak [(1, _), (3, _)] ⟨rfl, rfl, trivial⟩ ?_
  refine at_then_normal ?_
  refine at_seq ?_
  refine at_region ?_
  refine at_val rfl rfl rfl (r_load_aggc (c := c_api_Endpoint) (z := x0) Tryz.isAgg26 Tryz.sizeOf26 rfl (lens_cell .z (Lens.whole _ _))) ?_
  obtain ⟨t3, ht3, hF⟩ := of_bindM hF
  refine at_callB Tryz.func6 rfl (by kernel_rfl) rfl rfl (fun w hw => crawlwayref12_Right_ok _ _ ht3 w) ?_
  refine at_val rfl rfl rfl (r_assign rfl) ?_
  refine at_nil ?_
  refine at_weak [(1, _), (3, _), (4, _)] ⟨rfl, rfl, rfl, trivial⟩ ?_
  refine at_then_normal ?_
  refine at_seq ?_
  refine at_seq ?_
  refine at_draw (by kernel_rfl) (by kernel_rfl) (fun _ h => h.drew) ?_
  refine atq_val rfl rfl rfl (r_load_aggc (c := c_api_Endpoint) (z := x0) Tryz.isAgg26 Tryz.sizeOf26 rfl (lens_cell .z (Lens.whole _ _))) ?_
  obtain ⟨t4, ht4, hF⟩ := of_bindM hF
  refine atq_call Tryz.func7 rfl (by kernel_rfl) rfl rfl (fun w hw => (hostport_Right_ok _ _ ht4 w).mono fun _ _ h => ⟨h.1, hw.call h.2⟩) ?_
  refine atq_val rfl rfl rfl (r_move rfl) ?_
  refine atq_val rfl rfl rfl (r_bool Tryz.underlying4 rfl rfl (.inr rfl) rfl) ?_
  refine atq_val rfl rfl rfl (r_move rfl) ?_
  rcases of_ite hF with ⟨h5, hF⟩ | ⟨h5, hF⟩
  · refine atq_fix (g := 15) rfl h5 ?_
    refine atq_guard_no rfl rfl rfl rfl rfl ?_
    refine atq_guard_no rfl rfl rfl rfl rfl ?_
    refine atq_guard_no rfl rfl rfl rfl rfl ?_
    refine atq_guard_no rfl rfl rfl rfl rfl ?_
    refine atq_val rfl rfl rfl (r_pick rfl rfl rfl) ?_
    refine atq_val rfl rfl rfl (r_move rfl) ?_
    refine atq_guard_no rfl rfl rfl rfl rfl ?_
    refine atq_guard_no rfl rfl rfl rfl rfl ?_
    refine atq_guard_no rfl rfl rfl rfl rfl ?_
    refine atq_guard_no rfl rfl rfl rfl rfl ?_
    refine atq_guard_no rfl rfl rfl rfl rfl ?_
    refine atq_guard_no rfl rfl rfl rfl rfl ?_
    refine atq_val rfl rfl rfl (r_pick rfl rfl rfl) ?_
    refine atq_nil ?_
    refine at_weak [(1, _), (3, _), (4, _), (28, _)] ⟨rfl, rfl, rfl, rfl, trivial⟩ ?_
    refine at_then_normal ?_
    refine at_cond_true rfl rfl ?_
    refine at_seq ?_
    refine at_region ?_
    refine at_val rfl rfl rfl (r_assign rfl) ?_
    refine at_nil ?_
    refine at_drop (H := _) .z ?_
    refine at_weak [(2, _)] ⟨rfl, trivial⟩ ?_
    refine at_then_normal ?_
    refine at_ret ?_
    refine at_then_ret ?_
    have K := of_some hF
    subst K
    exact at_return1 rfl rfl (fun w1 hw => ⟨rfl, hw.below⟩)
  · refine atq_fix (g := 15) rfl h5 ?_
    refine atq_guard_yes rfl rfl rfl ?_
    refine atq_val rfl rfl rfl (r_move rfl) ?_
    refine atq_guard_yes rfl rfl rfl ?_
    refine atq_val rfl rfl rfl (r_load_aggc (c := c_api_Endpoint) (z := x0) Tryz.isAgg26 Tryz.sizeOf26 rfl (lens_cell .z (Lens.whole _ _))) ?_
    refine atq_guard_yes rfl rfl rfl ?_
    obtain ⟨t6, ht6, hF⟩ := of_bindM hF
    refine atq_call Tryz.func8 rfl (by kernel_rfl) rfl rfl (fun w hw => (crawlwayref12_Text_ok _ _ ht6 w).mono fun _ _ h => ⟨h.1, hw.call h.2⟩) ?_
    refine atq_guard_yes rfl rfl rfl ?_
    refine atq_val rfl rfl rfl (r_sneq rfl rfl) ?_
    refine atq_val rfl rfl rfl (r_pick rfl rfl rfl) ?_
    refine atq_val rfl rfl rfl (r_move rfl) ?_
    rcases of_ite hF with ⟨h7, hF⟩ | ⟨h7, hF⟩
    · refine atq_fix (g := 21) rfl h7 ?_
      refine atq_guard_no rfl rfl rfl rfl rfl ?_
      refine atq_guard_no rfl rfl rfl rfl rfl ?_
      refine atq_guard_no rfl rfl rfl rfl rfl ?_
      refine atq_guard_no rfl rfl rfl rfl rfl ?_
      refine atq_guard_no rfl rfl rfl rfl rfl ?_
      refine atq_guard_no rfl rfl rfl rfl rfl ?_
      refine atq_val rfl rfl rfl (r_pick rfl rfl rfl) ?_
      refine atq_nil ?_
      refine at_weak [(1, _), (3, _), (4, _), (28, _)] ⟨rfl, rfl, rfl, rfl, trivial⟩ ?_
      refine at_then_normal ?_
      refine at_cond_true rfl rfl ?_
      refine at_seq ?_
      refine at_region ?_
      refine at_val rfl rfl rfl (r_assign rfl) ?_
      refine at_nil ?_
      refine at_drop (H := _) .z ?_
      refine at_weak [(2, _)] ⟨rfl, trivial⟩ ?_
      refine at_then_normal ?_
      refine at_ret ?_
      refine at_then_ret ?_
      have K := of_some hF
      subst K
      exact at_return1 rfl rfl (fun w1 hw => ⟨rfl, hw.below⟩)
    · refine atq_fix (g := 21) rfl h7 ?_
      refine atq_guard_yes rfl rfl rfl ?_
      refine atq_val rfl rfl rfl (r_load_aggc (c := c_api_Endpoint) (z := x0) Tryz.isAgg26 Tryz.sizeOf26 rfl (lens_cell .z (Lens.whole _ _))) ?_
      refine atq_guard_yes rfl rfl rfl ?_
      obtain ⟨t8, ht8, hF⟩ := of_bindM hF
      refine atq_call Tryz.func9 rfl (by kernel_rfl) rfl rfl (fun w hw => (hostport_None_ok _ _ ht8 w).mono fun _ _ h => ⟨h.1, hw.call h.2⟩) ?_
      refine atq_guard_yes rfl rfl rfl ?_
      refine atq_val rfl rfl rfl (r_load_aggc (c := c_api_Endpoint) (z := x0) Tryz.isAgg26 Tryz.sizeOf26 rfl (lens_cell .z (Lens.whole _ _))) ?_
      refine atq_guard_yes rfl rfl rfl ?_
      refine atq_val rfl rfl rfl (r_build_struct (zs := Cd.cs c_api_Endpoint ({ f_A := ({ f_V := (0 : Int), f_B := (Vector.replicate 16 (0 : Int) : (Vector Int 16)) } : S_api_Addr), f_Port := (0 : Int) } : S_api_Endpoint)) (cs := Cd.cs c_api_Endpoint ({ f_A := ({ f_V := (0 : Int), f_B := (Vector.replicate 16 (0 : Int) : (Vector Int 16)) } : S_api_Addr), f_Port := (0 : Int) } : S_api_Endpoint)) Tryz.underlying26 Tryz.zeroValue26 rfl (places_api_Endpoint_26) rfl rfl) ?_
      refine atq_guard_yes rfl rfl rfl ?_
      refine atq_val rfl rfl rfl (r_eqagg (c := c_api_Endpoint) (a := x0) (b := ({ f_A := ({ f_V := (0 : Int), f_B := (Vector.replicate 16 (0 : Int) : (Vector Int 16)) } : S_api_Addr), f_Port := (0 : Int) } : S_api_Endpoint)) (eq_api_Endpoint_26) rfl Tryz.eqGuardType26 rfl rfl (.inl rfl) rfl) ?_
      refine atq_guard_yes rfl rfl rfl ?_
      refine atq_val rfl rfl rfl (r_bool Tryz.underlying4 rfl rfl (.inr rfl) rfl) ?_
      refine atq_val rfl rfl rfl (r_pick rfl rfl rfl) ?_
      refine atq_nil ?_
      refine at_weak [(1, _), (3, _), (4, _), (28, _)] ⟨rfl, rfl, rfl, rfl, trivial⟩ ?_
      refine at_then_normal ?_
      rcases of_ite hF with ⟨h9, hF⟩ | ⟨h9, hF⟩
      · refine at_cond_true rfl h9 ?_
        refine at_seq ?_
        refine at_region ?_
        refine at_val rfl rfl rfl (r_assign rfl) ?_
        refine at_nil ?_
        refine at_drop (H := _) .z ?_
        refine at_weak [(2, _)] ⟨rfl, trivial⟩ ?_
        refine at_then_normal ?_
        refine at_ret ?_
        refine at_then_ret ?_
        have K := of_some hF
        subst K
        exact at_return1 rfl rfl (fun w1 hw => ⟨rfl, hw.below⟩)
      · refine at_cond_false rfl h9 ?_
        refine at_skip ?_
        refine at_then_normal ?_
        refine at_seq ?_
        refine at_seq ?_
        refine at_region ?_
        refine at_val rfl rfl rfl (r_move rfl) ?_
        refine at_val rfl rfl rfl (r_not rfl) ?_
        refine at_nil ?_
        refine at_weak [(1, _), (3, _), (30, _)] ⟨rfl, rfl, rfl, trivial⟩ ?_
        refine at_then_normal ?_
        rcases of_ite hF with ⟨h10, hF⟩ | ⟨h10, hF⟩
        · refine at_cond_true rfl h10 ?_
          refine at_seq ?_
          refine at_region ?_
          refine at_val rfl rfl rfl (r_move rfl) ?_
          refine at_val rfl rfl rfl (r_seql rfl rfl) ?_
          refine at_val rfl rfl rfl (r_move rfl) ?_
          rcases of_ite hF with ⟨h11, hF⟩ | ⟨h11, hF⟩
          · refine at_fix (g := 33) rfl h11 ?_
            refine at_guard_yes rfl rfl rfl ?_
            obtain ⟨t12, ht12, hF⟩ := of_bindM hF
            refine at_callB Tryz.func10 rfl (by kernel_rfl) rfl rfl (fun w hw => crawlwaylaw12_alive_ok  _ ht12 w (hg_bytealg_MaxLen.on hw.below) (hg_strconv_ErrRange.on hw.below) (hg_strconv_ErrSyntax.on hw.below) (hg_strconv_uint64pow10.on hw.below)) ?_
            refine at_val rfl rfl rfl (r_pick rfl rfl rfl) ?_
            refine at_val rfl rfl rfl (r_assign rfl) ?_
            refine at_nil ?_
            refine at_drop (H := _) .z ?_
            refine at_weak [(2, _)] ⟨rfl, trivial⟩ ?_
            refine at_then_normal ?_
            refine at_ret ?_
            refine at_then_ret ?_
            have K := of_some hF
            subst K
            exact at_return1 rfl rfl (fun w1 hw => ⟨rfl, hw.below⟩)
          · refine at_fix (g := 33) rfl h11 ?_
            refine at_guard_no rfl rfl rfl rfl rfl ?_
            refine at_val rfl rfl rfl (r_pick rfl rfl rfl) ?_
            refine at_val rfl rfl rfl (r_assign rfl) ?_
            refine at_nil ?_
            refine at_drop (H := _) .z ?_
            refine at_weak [(2, _)] ⟨rfl, trivial⟩ ?_
            refine at_then_normal ?_
            refine at_ret ?_
            refine at_then_ret ?_
            have K := of_some hF
            subst K
            exact at_return1 rfl rfl (fun w1 hw => ⟨rfl, hw.below⟩)
        · refine at_cond_false rfl h10 ?_
          refine at_skip ?_
          refine at_then_normal ?_
          refine at_seq ?_
          refine at_region ?_
          refine at_val rfl rfl rfl (r_move rfl) ?_
          obtain ⟨t13, ht13, hF⟩ := of_bindM hF
          refine at_callB Tryz.func11 rfl (by kernel_rfl) rfl rfl (fun w hw => hostport_Parse_ok _ _ ht13 w (hg_bytealg_MaxLen.on hw.below) (hg_strconv_ErrRange.on hw.below) (hg_strconv_ErrSyntax.on hw.below)) ?_
          refine at_val rfl rfl rfl (r_move rfl) ?_
          refine at_val rfl rfl rfl (r_extract rfl rfl) ?_
          refine at_val rfl rfl rfl (r_extract rfl rfl) ?_
          refine at_alloc (cs := Cd.cs c_api_Endpoint ({ f_A := ({ f_V := (0 : Int), f_B := (Vector.replicate 16 (0 : Int) : (Vector Int 16)) } : S_api_Addr), f_Port := (0 : Int) } : S_api_Endpoint)) Tryz.zeroValue26 rfl rfl ?_
          intro b14
          refine at_store (c := c_api_Endpoint) (z := t13.1) .z (Lens.whole _ _) Tryz.sizeOf26 rfl rfl rfl ?_
          refine at_val rfl rfl rfl (r_assign rfl) ?_
          refine at_nil ?_
          refine at_weak [(1, _), (5, _), (6, _)] ⟨rfl, rfl, rfl, trivial⟩ ?_
          refine at_then_normal ?_
          refine at_seq ?_
          refine at_region ?_
          refine at_val rfl rfl rfl (r_load_aggc (c := c_api_Endpoint) (z := t13.1) Tryz.isAgg26 Tryz.sizeOf26 rfl (lens_cell .z (Lens.whole _ _))) ?_
          refine at_val rfl rfl rfl (r_load_aggc (c := c_api_Endpoint) (z := x0) Tryz.isAgg26 Tryz.sizeOf26 rfl (lens_cell (.s .z) (Lens.whole _ _))) ?_
          refine at_val rfl rfl rfl (r_eqagg (c := c_api_Endpoint) (a := t13.1) (b := x0) (eq_api_Endpoint_26) rfl Tryz.eqGuardType26 rfl rfl (.inl rfl) rfl) ?_
          refine at_val rfl rfl rfl (r_move rfl) ?_
          rcases of_ite hF with ⟨h15, hF⟩ | ⟨h15, hF⟩
          · refine at_fix (g := 44) rfl h15 ?_
            refine at_guard_yes rfl rfl rfl ?_
            refine at_val rfl rfl rfl (r_move rfl) ?_
            refine at_guard_yes rfl rfl rfl ?_
            refine at_val rfl rfl rfl (r_ieql rfl rfl) ?_
            refine at_val rfl rfl rfl (r_pick rfl rfl rfl) ?_
            refine at_val rfl rfl rfl (r_move rfl) ?_
            rcases of_ite hF with ⟨h16, hF⟩ | ⟨h16, hF⟩
            · refine at_fix (g := 48) rfl h16 ?_
              refine at_guard_yes rfl rfl rfl ?_
              obtain ⟨t17, ht17, hF⟩ := of_bindM hF
              refine at_callB Tryz.func10 rfl (by kernel_rfl) rfl rfl (fun w hw => crawlwaylaw12_alive_ok  _ ht17 w (hg_bytealg_MaxLen.on hw.below) (hg_strconv_ErrRange.on hw.below) (hg_strconv_ErrSyntax.on hw.below) (hg_strconv_uint64pow10.on hw.below)) ?_
              refine at_val rfl rfl rfl (r_pick rfl rfl rfl) ?_
              refine at_val rfl rfl rfl (r_assign rfl) ?_
              refine at_nil ?_
              refine at_drop (H := _) .z ?_
              refine at_drop (H := _) .z ?_
              refine at_weak [(2, _)] ⟨rfl, trivial⟩ ?_
              refine at_then_normal ?_
              refine at_ret ?_
              have K := of_some hF
              subst K
              exact at_return1 rfl rfl (fun w1 hw => ⟨rfl, hw.below⟩)
            · refine at_fix (g := 48) rfl h16 ?_
              refine at_guard_no rfl rfl rfl rfl rfl ?_
              refine at_val rfl rfl rfl (r_pick rfl rfl rfl) ?_
              refine at_val rfl rfl rfl (r_assign rfl) ?_
              refine at_nil ?_
              refine at_drop (H := _) .z ?_
              refine at_drop (H := _) .z ?_
              refine at_weak [(2, _)] ⟨rfl, trivial⟩ ?_
              refine at_then_normal ?_
              refine at_ret ?_
              have K := of_some hF
              subst K
              exact at_return1 rfl rfl (fun w1 hw => ⟨rfl, hw.below⟩)
          · refine at_fix (g := 44) rfl h15 ?_
            refine at_guard_no rfl rfl rfl rfl rfl ?_
            refine at_guard_no rfl rfl rfl rfl rfl ?_
            refine at_val rfl rfl rfl (r_pick rfl rfl rfl) ?_
            refine at_val rfl rfl rfl (r_move rfl) ?_
            refine at_guard_no rfl rfl rfl rfl rfl ?_
            refine at_val rfl rfl rfl (r_pick rfl rfl rfl) ?_
            refine at_val rfl rfl rfl (r_assign rfl) ?_
            refine at_nil ?_
            refine at_drop (H := _) .z ?_
            refine at_drop (H := _) .z ?_
            refine at_weak [(2, _)] ⟨rfl, trivial⟩ ?_
            refine at_then_normal ?_
            refine at_ret ?_
            have K := of_some hF
            subst K
            exact at_return1 rfl rfl (fun w1 hw => ⟨rfl, hw.below⟩)

def crawlwaylaw12_HostportReads (x0 : ByteArray) : Option (Bool) :=
  if (decide ((x0.size : Int) > 100)) = true then (crawlwaylaw12_alive >>= fun t2 => some t2) else (hostport_Parse x0 >>= fun t3 => crawlwayref12_Parse x0 >>= fun t5 => if (!decide (t3.1 = t5.1)) = true then (some false) else (if (t3.2 != t5.2) = true then (some false) else (if (t5.2 != 0) = true then (crawlwaylaw12_alive >>= fun t10 => some t10) else (hostport_Text t3.1 >>= fun t11 => hostport_Parse t11 >>= fun t12 => if (decide (t12.1 = t3.1)) = true then (if (t12.2 == 0) = true then (crawlwaylaw12_alive >>= fun t16 => some t16) else (some false)) else (some false)))))
theorem crawlwaylaw12_HostportReads_ok (x0 : ByteArray) (r : Bool) (hF : crawlwaylaw12_HostportReads x0 = some r) (w : World) (hg_bytealg_MaxLen : GV_bytealg_MaxLen w) (hg_strconv_ErrRange : GV_strconv_ErrRange w) (hg_strconv_ErrSyntax : GV_strconv_ErrSyntax w) (hg_strconv_uint64pow10 : GV_strconv_uint64pow10 w) :
    Calls Tryz.prog 4 #[.string x0] w (fun e w' => e = .returned (.bool r) ∧ Below w.heap.size w w') := by
  unfold crawlwaylaw12_HostportReads at hF
  refine calls_enter (l := [.string x0]) Tryz.func4 rfl rfl rfl ?_
  refine at_start ?_
  refine at_weak [(0, _)] ⟨rfl, trivial⟩ ?_
  refine at_seq ?_
  refine at_region ?_
  refine at_val rfl rfl rfl (r_assign rfl) ?_
  refine at_nil ?_
  refine at_weak [(0, _)] ⟨rfl, trivial⟩ ?_
  refine at_then_normal ?_
  refine at_seq ?_
  refine at_seq ?_
  refine at_region ?_
  refine at_val rfl rfl rfl (r_move rfl) ?_
  refine at_val rfl rfl rfl (r_len_str Tryz.underlying9 rfl) ?_
  refine at_val rfl rfl rfl (r_igtr rfl rfl) ?_
  refine at_nil ?_
  refine at_weak [(0, _), (11, _)] ⟨rfl, rfl, trivial⟩ ?_
  refine at_then_normal ?_
  rcases of_ite hF with ⟨h1, hF⟩ | ⟨h1, hF⟩
  · refine at_cond_true rfl h1 ?_
    refine at_seq ?_
    refine at_region ?_
    obtain ⟨t2, ht2, hF⟩ := of_bindM hF
    refine at_callB Tryz.func10 rfl (by kernel_rfl) rfl rfl (fun w hw => crawlwaylaw12_alive_ok  _ ht2 w (hg_bytealg_MaxLen.on hw.below) (hg_strconv_ErrRange.on hw.below) (hg_strconv_ErrSyntax.on hw.below) (hg_strconv_uint64pow10.on hw.below)) ?_
    refine at_val rfl rfl rfl (r_assign rfl) ?_
    refine at_nil ?_
    refine at_weak [(2, _)] ⟨rfl, trivial⟩ ?_
    refine at_then_normal ?_
    refine at_ret ?_
    refine at_then_ret ?_
    have K := of_some hF
    subst K
    exact at_return1 rfl rfl (fun w1 hw => ⟨rfl, hw.below⟩)
  · refine at_cond_false rfl h1 ?_
    refine at_skip ?_
    refine at_then_normal ?_
    refine at_seq ?_
    refine at_region ?_
    refine at_val rfl rfl rfl (r_move rfl) ?_
    obtain ⟨t3, ht3, hF⟩ := of_bindM hF
    refine at_callB Tryz.func11 rfl (by kernel_rfl) rfl rfl (fun w hw => hostport_Parse_ok _ _ ht3 w (hg_bytealg_MaxLen.on hw.below) (hg_strconv_ErrRange.on hw.below) (hg_strconv_ErrSyntax.on hw.below)) ?_
    refine at_val rfl rfl rfl (r_move rfl) ?_
    refine at_val rfl rfl rfl (r_extract rfl rfl) ?_
    refine at_val rfl rfl rfl (r_extract rfl rfl) ?_
    refine at_alloc (cs := Cd.cs c_api_Endpoint ({ f_A := ({ f_V := (0 : Int), f_B := (Vector.replicate 16 (0 : Int) : (Vector Int 16)) } : S_api_Addr), f_Port := (0 : Int) } : S_api_Endpoint)) Tryz.zeroValue26 rfl rfl ?_
    intro b4
    refine at_store (c := c_api_Endpoint) (z := t3.1) .z (Lens.whole _ _) Tryz.sizeOf26 rfl rfl rfl ?_
    refine at_val rfl rfl rfl (r_assign rfl) ?_
    refine at_nil ?_
    refine at_weak [(0, _), (3, _), (4, _)] ⟨rfl, rfl, rfl, trivial⟩ ?_
    refine at_then_normal ?_
    refine at_seq ?_
    refine at_region ?_
    refine at_val rfl rfl rfl (r_move rfl) ?_
    obtain ⟨t5, ht5, hF⟩ := of_bindM hF
    refine at_callB Tryz.func12 rfl (by kernel_rfl) rfl rfl (fun w hw => crawlwayref12_Parse_ok _ _ ht5 w) ?_
    refine at_val rfl rfl rfl (r_move rfl) ?_
    refine at_val rfl rfl rfl (r_extract rfl rfl) ?_
    refine at_val rfl rfl rfl (r_extract rfl rfl) ?_
    refine at_alloc (cs := Cd.cs c_api_Endpoint ({ f_A := ({ f_V := (0 : Int), f_B := (Vector.replicate 16 (0 : Int) : (Vector Int 16)) } : S_api_Addr), f_Port := (0 : Int) } : S_api_Endpoint)) Tryz.zeroValue26 rfl rfl ?_
    intro b6
    refine at_store (c := c_api_Endpoint) (z := t5.1) .z (Lens.whole _ _) Tryz.sizeOf26 rfl rfl rfl ?_
    refine at_val rfl rfl rfl (r_assign rfl) ?_
    refine at_nil ?_
    refine at_weak [(3, _), (4, _), (5, _), (6, _)] ⟨rfl, rfl, rfl, rfl, trivial⟩ ?_
    refine at_then_normal ?_
    refine at_seq ?_
    refine at_seq ?_
    refine at_region ?_
    refine at_val rfl rfl rfl (r_load_aggc (c := c_api_Endpoint) (z := t3.1) Tryz.isAgg26 Tryz.sizeOf26 rfl (lens_cell (.s .z) (Lens.whole _ _))) ?_
    refine at_val rfl rfl rfl (r_load_aggc (c := c_api_Endpoint) (z := t5.1) Tryz.isAgg26 Tryz.sizeOf26 rfl (lens_cell .z (Lens.whole _ _))) ?_
    refine at_val rfl rfl rfl (r_eqagg (c := c_api_Endpoint) (a := t3.1) (b := t5.1) (eq_api_Endpoint_26) rfl Tryz.eqGuardType26 rfl rfl (.inr rfl) rfl) ?_
    refine at_val rfl rfl rfl (r_move rfl) ?_
    rcases of_ite hF with ⟨h7, hF⟩ | ⟨h7, hF⟩
    · refine at_fix (g := 26) rfl h7 ?_
      refine at_guard_no rfl rfl rfl rfl rfl ?_
      refine at_guard_no rfl rfl rfl rfl rfl ?_
      refine at_guard_no rfl rfl rfl rfl rfl ?_
      refine at_val rfl rfl rfl (r_pick rfl rfl rfl) ?_
      refine at_nil ?_
      refine at_drop (H := _) .z ?_
      refine at_weak [(3, _), (6, _), (30, _)] ⟨rfl, rfl, rfl, trivial⟩ ?_
      refine at_then_normal ?_
      refine at_cond_true rfl rfl ?_
      refine at_seq ?_
      refine at_region ?_
      refine at_val rfl rfl rfl (r_assign rfl) ?_
      refine at_nil ?_
      refine at_drop (H := _) .z ?_
      refine at_weak [(2, _)] ⟨rfl, trivial⟩ ?_
      refine at_then_normal ?_
      refine at_ret ?_
      refine at_then_ret ?_
      have K := of_some hF
      subst K
      exact at_return1 rfl rfl (fun w1 hw => ⟨rfl, hw.below⟩)
    · refine at_fix (g := 26) rfl h7 ?_
      refine at_guard_yes rfl rfl rfl ?_
      refine at_val rfl rfl rfl (r_move rfl) ?_
      refine at_guard_yes rfl rfl rfl ?_
      refine at_val rfl rfl rfl (r_move rfl) ?_
      refine at_guard_yes rfl rfl rfl ?_
      refine at_val rfl rfl rfl (r_ineq rfl rfl) ?_
      refine at_val rfl rfl rfl (r_pick rfl rfl rfl) ?_
      refine at_nil ?_
      refine at_drop (H := _) .z ?_
      refine at_weak [(3, _), (6, _), (30, _)] ⟨rfl, rfl, rfl, trivial⟩ ?_
      refine at_then_normal ?_
      rcases of_ite hF with ⟨h8, hF⟩ | ⟨h8, hF⟩
      · refine at_cond_true rfl h8 ?_
        refine at_seq ?_
        refine at_region ?_
        refine at_val rfl rfl rfl (r_assign rfl) ?_
        refine at_nil ?_
        refine at_drop (H := _) .z ?_
        refine at_weak [(2, _)] ⟨rfl, trivial⟩ ?_
        refine at_then_normal ?_
        refine at_ret ?_
        refine at_then_ret ?_
        have K := of_some hF
        subst K
        exact at_return1 rfl rfl (fun w1 hw => ⟨rfl, hw.below⟩)
      · refine at_cond_false rfl h8 ?_
        refine at_skip ?_
        refine at_then_normal ?_
        refine at_seq ?_
        refine at_seq ?_
        refine at_region ?_
        refine at_val rfl rfl rfl (r_move rfl) ?_
        refine at_val rfl rfl rfl (r_ineq rfl rfl) ?_
        refine at_nil ?_
        refine at_weak [(3, _), (32, _)] ⟨rfl, rfl, trivial⟩ ?_
        refine at_then_normal ?_
        rcases of_ite hF with ⟨h9, hF⟩ | ⟨h9, hF⟩
        · refine at_cond_true rfl h9 ?_
          refine at_seq ?_
          refine at_region ?_
          obtain ⟨t10, ht10, hF⟩ := of_bindM hF
          refine at_callB Tryz.func10 rfl (by kernel_rfl) rfl rfl (fun w hw => crawlwaylaw12_alive_ok  _ ht10 w (hg_bytealg_MaxLen.on hw.below) (hg_strconv_ErrRange.on hw.below) (hg_strconv_ErrSyntax.on hw.below) (hg_strconv_uint64pow10.on hw.below)) ?_
          refine at_val rfl rfl rfl (r_assign rfl) ?_
          refine at_nil ?_
          refine at_drop (H := _) .z ?_
          refine at_weak [(2, _)] ⟨rfl, trivial⟩ ?_
          refine at_then_normal ?_
          refine at_ret ?_
          refine at_then_ret ?_
          have K := of_some hF
          subst K
          exact at_return1 rfl rfl (fun w1 hw => ⟨rfl, hw.below⟩)
        · refine at_cond_false rfl h9 ?_
          refine at_skip ?_
          refine at_then_normal ?_
          refine at_seq ?_
          refine at_region ?_
          refine at_val rfl rfl rfl (r_load_aggc (c := c_api_Endpoint) (z := t3.1) Tryz.isAgg26 Tryz.sizeOf26 rfl (lens_cell .z (Lens.whole _ _))) ?_
          obtain ⟨t11, ht11, hF⟩ := of_bindM hF
          refine at_callB Tryz.func5 rfl (by kernel_rfl) rfl rfl (fun w hw => hostport_Text_ok _ _ ht11 w (hg_strconv_uint64pow10.on hw.below)) ?_
          obtain ⟨t12, ht12, hF⟩ := of_bindM hF
          refine at_callB Tryz.func11 rfl (by kernel_rfl) rfl rfl (fun w hw => hostport_Parse_ok _ _ ht12 w (hg_bytealg_MaxLen.on hw.below) (hg_strconv_ErrRange.on hw.below) (hg_strconv_ErrSyntax.on hw.below)) ?_
          refine at_val rfl rfl rfl (r_move rfl) ?_
          refine at_val rfl rfl rfl (r_extract rfl rfl) ?_
          refine at_val rfl rfl rfl (r_extract rfl rfl) ?_
          refine at_alloc (cs := Cd.cs c_api_Endpoint ({ f_A := ({ f_V := (0 : Int), f_B := (Vector.replicate 16 (0 : Int) : (Vector Int 16)) } : S_api_Addr), f_Port := (0 : Int) } : S_api_Endpoint)) Tryz.zeroValue26 rfl rfl ?_
          intro b13
          refine at_store (c := c_api_Endpoint) (z := t12.1) .z (Lens.whole _ _) Tryz.sizeOf26 rfl rfl rfl ?_
          refine at_val rfl rfl rfl (r_assign rfl) ?_
          refine at_nil ?_
          refine at_weak [(3, _), (7, _), (8, _)] ⟨rfl, rfl, rfl, trivial⟩ ?_
          refine at_then_normal ?_
          refine at_seq ?_
          refine at_region ?_
          refine at_val rfl rfl rfl (r_load_aggc (c := c_api_Endpoint) (z := t12.1) Tryz.isAgg26 Tryz.sizeOf26 rfl (lens_cell .z (Lens.whole _ _))) ?_
          refine at_val rfl rfl rfl (r_load_aggc (c := c_api_Endpoint) (z := t3.1) Tryz.isAgg26 Tryz.sizeOf26 rfl (lens_cell (.s .z) (Lens.whole _ _))) ?_
          refine at_val rfl rfl rfl (r_eqagg (c := c_api_Endpoint) (a := t12.1) (b := t3.1) (eq_api_Endpoint_26) rfl Tryz.eqGuardType26 rfl rfl (.inl rfl) rfl) ?_
          refine at_val rfl rfl rfl (r_move rfl) ?_
          rcases of_ite hF with ⟨h14, hF⟩ | ⟨h14, hF⟩
          · refine at_fix (g := 43) rfl h14 ?_
            refine at_guard_yes rfl rfl rfl ?_
            refine at_val rfl rfl rfl (r_move rfl) ?_
            refine at_guard_yes rfl rfl rfl ?_
            refine at_val rfl rfl rfl (r_ieql rfl rfl) ?_
            refine at_val rfl rfl rfl (r_pick rfl rfl rfl) ?_
            refine at_val rfl rfl rfl (r_move rfl) ?_
            rcases of_ite hF with ⟨h15, hF⟩ | ⟨h15, hF⟩
            · refine at_fix (g := 47) rfl h15 ?_
              refine at_guard_yes rfl rfl rfl ?_
              obtain ⟨t16, ht16, hF⟩ := of_bindM hF
              refine at_callB Tryz.func10 rfl (by kernel_rfl) rfl rfl (fun w hw => crawlwaylaw12_alive_ok  _ ht16 w (hg_bytealg_MaxLen.on hw.below) (hg_strconv_ErrRange.on hw.below) (hg_strconv_ErrSyntax.on hw.below) (hg_strconv_uint64pow10.on hw.below)) ?_
              refine at_val rfl rfl rfl (r_pick rfl rfl rfl) ?_
              refine at_val rfl rfl rfl (r_assign rfl) ?_
              refine at_nil ?_
              refine at_drop (H := _) .z ?_
              refine at_drop (H := _) .z ?_
              refine at_weak [(2, _)] ⟨rfl, trivial⟩ ?_
              refine at_then_normal ?_
              refine at_ret ?_
              have K := of_some hF
              subst K
              exact at_return1 rfl rfl (fun w1 hw => ⟨rfl, hw.below⟩)
            · refine at_fix (g := 47) rfl h15 ?_
              refine at_guard_no rfl rfl rfl rfl rfl ?_
              refine at_val rfl rfl rfl (r_pick rfl rfl rfl) ?_
              refine at_val rfl rfl rfl (r_assign rfl) ?_
              refine at_nil ?_
              refine at_drop (H := _) .z ?_
              refine at_drop (H := _) .z ?_
              refine at_weak [(2, _)] ⟨rfl, trivial⟩ ?_
              refine at_then_normal ?_
              refine at_ret ?_
              have K := of_some hF
              subst K
              exact at_return1 rfl rfl (fun w1 hw => ⟨rfl, hw.below⟩)
          · refine at_fix (g := 43) rfl h14 ?_
            refine at_guard_no rfl rfl rfl rfl rfl ?_
            refine at_guard_no rfl rfl rfl rfl rfl ?_
            refine at_val rfl rfl rfl (r_pick rfl rfl rfl) ?_
            refine at_val rfl rfl rfl (r_move rfl) ?_
            refine at_guard_no rfl rfl rfl rfl rfl ?_
            refine at_val rfl rfl rfl (r_pick rfl rfl rfl) ?_
            refine at_val rfl rfl rfl (r_assign rfl) ?_
            refine at_nil ?_
            refine at_drop (H := _) .z ?_
            refine at_drop (H := _) .z ?_
            refine at_weak [(2, _)] ⟨rfl, trivial⟩ ?_
            refine at_then_normal ?_
            refine at_ret ?_
            have K := of_some hF
            subst K
            exact at_return1 rfl rfl (fun w1 hw => ⟨rfl, hw.below⟩)
end Go.Proofs.YtcllgijeihiajaaGreatDoor
