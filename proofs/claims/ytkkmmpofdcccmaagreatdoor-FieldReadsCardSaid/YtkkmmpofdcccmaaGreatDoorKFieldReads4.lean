/- Texts of this claim, those in one that belong together; printed by a program of this project. -/
import Derived.Test.YtkkmmpofdcccmaaGreatDoorProg
import Derived.Lib.Itoa
import Derived.Lib.ItoaNum
import Derived.Lib.ParseIntB
import Derived.Lib.IndexLaws
import Derived.Lib.Bytealg
import Derived.Test.YtkkmmpofdcccmaaGreatDoorKFieldReads3
set_option linter.unusedVariables false
set_option linter.unusedSimpArgs false
namespace Go.Proofs.YtkkmmpofdcccmaaGreatDoor
open E Go.RowKit
abbrev zqGR_0 : S_api_Endpoint := ({ f_A := ({ f_V := (0 : Int), f_B := (Vector.replicate 16 (0 : Int) : (Vector Int 16)) } : S_api_Addr), f_Port := (0 : Int) } : S_api_Endpoint)
abbrev zqGR_1 : S_api_Prefix := ({ f_A := ({ f_V := (0 : Int), f_B := (Vector.replicate 16 (0 : Int) : (Vector Int 16)) } : S_api_Addr), f_Bits := (0 : Int) } : S_api_Prefix)
def field_Read (x0 : S_pairline_Pair) : Option (S_api_Field × Int) :=
  field_Word x0.f_Key >>= fun t3 => if (({ ({ f_Word := (0 : Int), f_Key := (Vector.replicate 32 (0 : Int) : (Vector Int 32)), f_N := (0 : Int), f_End := ({ f_A := ({ f_V := (0 : Int), f_B := (Vector.replicate 16 (0 : Int) : (Vector Int 16)) } : S_api_Addr), f_Port := (0 : Int) } : S_api_Endpoint), f_P := ({ f_A := ({ f_V := (0 : Int), f_B := (Vector.replicate 16 (0 : Int) : (Vector Int 16)) } : S_api_Addr), f_Bits := (0 : Int) } : S_api_Prefix) } : S_api_Field) with f_Word := t3 }).f_Word == (0 : Int)) = true then (some (({ f_Word := (0 : Int), f_Key := (Vector.replicate 32 (0 : Int) : (Vector Int 32)), f_N := (0 : Int), f_End := ({ f_A := ({ f_V := (0 : Int), f_B := (Vector.replicate 16 (0 : Int) : (Vector Int 16)) } : S_api_Addr), f_Port := (0 : Int) } : S_api_Endpoint), f_P := ({ f_A := ({ f_V := (0 : Int), f_B := (Vector.replicate 16 (0 : Int) : (Vector Int 16)) } : S_api_Addr), f_Bits := (0 : Int) } : S_api_Prefix) } : S_api_Field), 12)) else (field_shapeOf (({ ({ f_Word := (0 : Int), f_Key := (Vector.replicate 32 (0 : Int) : (Vector Int 32)), f_N := (0 : Int), f_End := ({ f_A := ({ f_V := (0 : Int), f_B := (Vector.replicate 16 (0 : Int) : (Vector Int 16)) } : S_api_Addr), f_Port := (0 : Int) } : S_api_Endpoint), f_P := ({ f_A := ({ f_V := (0 : Int), f_B := (Vector.replicate 16 (0 : Int) : (Vector Int 16)) } : S_api_Addr), f_Bits := (0 : Int) } : S_api_Prefix) } : S_api_Field) with f_Word := t3 }).f_Word) >>= fun t6 => (match t6 with | .s0 => (field_keyed_1 x0.f_Value ({ ({ f_Word := (0 : Int), f_Key := (Vector.replicate 32 (0 : Int) : (Vector Int 32)), f_N := (0 : Int), f_End := ({ f_A := ({ f_V := (0 : Int), f_B := (Vector.replicate 16 (0 : Int) : (Vector Int 16)) } : S_api_Addr), f_Port := (0 : Int) } : S_api_Endpoint), f_P := ({ f_A := ({ f_V := (0 : Int), f_B := (Vector.replicate 16 (0 : Int) : (Vector Int 16)) } : S_api_Addr), f_Bits := (0 : Int) } : S_api_Prefix) } : S_api_Field) with f_Word := t3 }) >>= fun t7 => if (t7.1 != 0) = true then (some (({ f_Word := (0 : Int), f_Key := (Vector.replicate 32 (0 : Int) : (Vector Int 32)), f_N := (0 : Int), f_End := ({ f_A := ({ f_V := (0 : Int), f_B := (Vector.replicate 16 (0 : Int) : (Vector Int 16)) } : S_api_Addr), f_Port := (0 : Int) } : S_api_Endpoint), f_P := ({ f_A := ({ f_V := (0 : Int), f_B := (Vector.replicate 16 (0 : Int) : (Vector Int 16)) } : S_api_Addr), f_Bits := (0 : Int) } : S_api_Prefix) } : S_api_Field), t7.1)) else (some (t7.2, 0))) | .s1 => (field_ended_1 x0.f_Value ({ ({ f_Word := (0 : Int), f_Key := (Vector.replicate 32 (0 : Int) : (Vector Int 32)), f_N := (0 : Int), f_End := ({ f_A := ({ f_V := (0 : Int), f_B := (Vector.replicate 16 (0 : Int) : (Vector Int 16)) } : S_api_Addr), f_Port := (0 : Int) } : S_api_Endpoint), f_P := ({ f_A := ({ f_V := (0 : Int), f_B := (Vector.replicate 16 (0 : Int) : (Vector Int 16)) } : S_api_Addr), f_Bits := (0 : Int) } : S_api_Prefix) } : S_api_Field) with f_Word := t3 }) >>= fun t10 => if (t10.1 != 0) = true then (some (({ f_Word := (0 : Int), f_Key := (Vector.replicate 32 (0 : Int) : (Vector Int 32)), f_N := (0 : Int), f_End := ({ f_A := ({ f_V := (0 : Int), f_B := (Vector.replicate 16 (0 : Int) : (Vector Int 16)) } : S_api_Addr), f_Port := (0 : Int) } : S_api_Endpoint), f_P := ({ f_A := ({ f_V := (0 : Int), f_B := (Vector.replicate 16 (0 : Int) : (Vector Int 16)) } : S_api_Addr), f_Bits := (0 : Int) } : S_api_Prefix) } : S_api_Field), t10.1)) else (some (t10.2, 0))) | .s2 => (field_allowed_1 x0.f_Value ({ ({ f_Word := (0 : Int), f_Key := (Vector.replicate 32 (0 : Int) : (Vector Int 32)), f_N := (0 : Int), f_End := ({ f_A := ({ f_V := (0 : Int), f_B := (Vector.replicate 16 (0 : Int) : (Vector Int 16)) } : S_api_Addr), f_Port := (0 : Int) } : S_api_Endpoint), f_P := ({ f_A := ({ f_V := (0 : Int), f_B := (Vector.replicate 16 (0 : Int) : (Vector Int 16)) } : S_api_Addr), f_Bits := (0 : Int) } : S_api_Prefix) } : S_api_Field) with f_Word := t3 }) >>= fun t13 => if (t13.1 != 0) = true then (some (({ f_Word := (0 : Int), f_Key := (Vector.replicate 32 (0 : Int) : (Vector Int 32)), f_N := (0 : Int), f_End := ({ f_A := ({ f_V := (0 : Int), f_B := (Vector.replicate 16 (0 : Int) : (Vector Int 16)) } : S_api_Addr), f_Port := (0 : Int) } : S_api_Endpoint), f_P := ({ f_A := ({ f_V := (0 : Int), f_B := (Vector.replicate 16 (0 : Int) : (Vector Int 16)) } : S_api_Addr), f_Bits := (0 : Int) } : S_api_Prefix) } : S_api_Field), t13.1)) else (some (t13.2, 0))) | .s3 a16 a17 => (field_counted_1 x0.f_Value ({ ({ f_Word := (0 : Int), f_Key := (Vector.replicate 32 (0 : Int) : (Vector Int 32)), f_N := (0 : Int), f_End := ({ f_A := ({ f_V := (0 : Int), f_B := (Vector.replicate 16 (0 : Int) : (Vector Int 16)) } : S_api_Addr), f_Port := (0 : Int) } : S_api_Endpoint), f_P := ({ f_A := ({ f_V := (0 : Int), f_B := (Vector.replicate 16 (0 : Int) : (Vector Int 16)) } : S_api_Addr), f_Bits := (0 : Int) } : S_api_Prefix) } : S_api_Field) with f_Word := t3 }) a16 a17 >>= fun t20 => if (t20.1 != 0) = true then (some (({ f_Word := (0 : Int), f_Key := (Vector.replicate 32 (0 : Int) : (Vector Int 32)), f_N := (0 : Int), f_End := ({ f_A := ({ f_V := (0 : Int), f_B := (Vector.replicate 16 (0 : Int) : (Vector Int 16)) } : S_api_Addr), f_Port := (0 : Int) } : S_api_Endpoint), f_P := ({ f_A := ({ f_V := (0 : Int), f_B := (Vector.replicate 16 (0 : Int) : (Vector Int 16)) } : S_api_Addr), f_Bits := (0 : Int) } : S_api_Prefix) } : S_api_Field), t20.1)) else (some (t20.2, 0))) | .s4 => (field_said_1 x0.f_Value ({ ({ f_Word := (0 : Int), f_Key := (Vector.replicate 32 (0 : Int) : (Vector Int 32)), f_N := (0 : Int), f_End := ({ f_A := ({ f_V := (0 : Int), f_B := (Vector.replicate 16 (0 : Int) : (Vector Int 16)) } : S_api_Addr), f_Port := (0 : Int) } : S_api_Endpoint), f_P := ({ f_A := ({ f_V := (0 : Int), f_B := (Vector.replicate 16 (0 : Int) : (Vector Int 16)) } : S_api_Addr), f_Bits := (0 : Int) } : S_api_Prefix) } : S_api_Field) with f_Word := t3 }) >>= fun t23 => if (t23.1 != 0) = true then (some (({ f_Word := (0 : Int), f_Key := (Vector.replicate 32 (0 : Int) : (Vector Int 32)), f_N := (0 : Int), f_End := ({ f_A := ({ f_V := (0 : Int), f_B := (Vector.replicate 16 (0 : Int) : (Vector Int 16)) } : S_api_Addr), f_Port := (0 : Int) } : S_api_Endpoint), f_P := ({ f_A := ({ f_V := (0 : Int), f_B := (Vector.replicate 16 (0 : Int) : (Vector Int 16)) } : S_api_Addr), f_Bits := (0 : Int) } : S_api_Prefix) } : S_api_Field), t23.1)) else (some (t23.2, 0)))))
set_option maxHeartbeats 3200000 in
theorem field_Read_ok (x0 : S_pairline_Pair) (r : S_api_Field × Int) (hF : field_Read x0 = some r) (w : World) (hg_bytealg_MaxLen : GV_bytealg_MaxLen w) (hg_field_names : GV_field_names w) (hg_strconv_ErrRange : GV_strconv_ErrRange w) (hg_strconv_ErrSyntax : GV_strconv_ErrSyntax w) (hg_strconv_uint64pow10 : GV_strconv_uint64pow10 w) :
    Calls Tryz.prog 19 #[.agg (Cd.cs c_pairline_Pair x0).toArray] w (fun e w' => e = .returned (.tuple #[.agg (Cd.cs c_api_Field r.1).toArray, .int .i64 r.2]) ∧ Below w.heap.size w w') := by
 unfold field_Read at hF
 refine calls_enter (l := [.agg (Cd.cs c_pairline_Pair x0).toArray]) Tryz.func19 rfl rfl rfl ?_
 refine at_start ?_
 refine at_weak [(0, _)] ⟨rfl, trivial⟩ ?_
 refine sr ?_
 refine at_box (cs := Cd.cs c_pairline_Pair x0) rfl rfl rfl ?_
 intro b1
 refine at_alloc (cs := Cd.cs c_api_Field ({ f_Word := (0 : Int), f_Key := (Vector.replicate 32 (0 : Int) : (Vector Int 32)), f_N := (0 : Int), f_End := zqGR_0, f_P := zqGR_1 } : S_api_Field)) Tryz.zeroValue46 rfl rfl ?_
 intro b2
 refine av rfl (r_assign rfl) ?_
 refine nws [(1, _), (2, _)] ⟨rfl, rfl, trivial⟩ ?_
 refine av rfl (r_fieldAddr (fo := 0) Tryz.underlying51 rfl rfl (fun w => ⟨_, Tryz.sizeOf9 w⟩) rfl) ?_
 refine av rfl (r_load_cell Tryz.isAgg9 rfl (lens_cell0 (c := cStr) (y := x0.f_Key) (.s .z) (Lens.comp (Lens.whole _ _) (fun z => { x0 with f_Key := z }) (c_pairline_Pair_f_Key x0)) rfl)) ?_
 obtain ⟨t3, ht3, hF⟩ := of_bindM hF
 refine at_callB Tryz.func16 rfl (by kernel_rfl) rfl rfl (fun w hw => callB_of_call0 (field_Word_ok _ _ ht3 w (hg_field_names.on hw.below))) ?_
 refine av rfl (r_build_struct (zs := Cd.cs c_api_Field ({ f_Word := (0 : Int), f_Key := (Vector.replicate 32 (0 : Int) : (Vector Int 32)), f_N := (0 : Int), f_End := zqGR_0, f_P := zqGR_1 } : S_api_Field)) (cs := Cd.cs c_api_Field ({ ({ f_Word := (0 : Int), f_Key := (Vector.replicate 32 (0 : Int) : (Vector Int 32)), f_N := (0 : Int), f_End := zqGR_0, f_P := zqGR_1 } : S_api_Field) with f_Word := t3 })) Tryz.underlying46 Tryz.zeroValue46 rfl (places_api_Field_46) rfl (fill_step (c := (cInt .i64)) (z := t3) rfl (c_api_Field_f_Word ({ f_Word := (0 : Int), f_Key := (Vector.replicate 32 (0 : Int) : (Vector Int 32)), f_N := (0 : Int), f_End := zqGR_0, f_P := zqGR_1 } : S_api_Field)) rfl rfl)) ?_
 refine at_alloc (cs := Cd.cs c_api_Field ({ f_Word := (0 : Int), f_Key := (Vector.replicate 32 (0 : Int) : (Vector Int 32)), f_N := (0 : Int), f_End := zqGR_0, f_P := zqGR_1 } : S_api_Field)) Tryz.zeroValue46 rfl rfl ?_
 intro b4
 refine at_store (c := c_api_Field) (z := { ({ f_Word := (0 : Int), f_Key := (Vector.replicate 32 (0 : Int) : (Vector Int 32)), f_N := (0 : Int), f_End := zqGR_0, f_P := zqGR_1 } : S_api_Field) with f_Word := t3 }) .z (Lens.whole _ _) Tryz.sizeOf46 rfl rfl rfl ?_
 refine nwt [(1, _), (2, _), (4, _)] ⟨rfl, rfl, rfl, trivial⟩ ?_
 refine at_seq ?_
 refine sr ?_
 refine av rfl (r_fieldAddr (fo := 0) Tryz.underlying46 rfl rfl (fun w => ⟨_, Tryz.sizeOf3 w⟩) rfl) ?_
 refine av rfl (r_load_cell Tryz.isAgg3 rfl (lens_cell0 (c := (cInt .i64)) (y := ({ ({ f_Word := (0 : Int), f_Key := (Vector.replicate 32 (0 : Int) : (Vector Int 32)), f_N := (0 : Int), f_End := zqGR_0, f_P := zqGR_1 } : S_api_Field) with f_Word := t3 }).f_Word) .z (Lens.comp (Lens.whole _ _) (fun z => { { ({ f_Word := (0 : Int), f_Key := (Vector.replicate 32 (0 : Int) : (Vector Int 32)), f_N := (0 : Int), f_End := zqGR_0, f_P := zqGR_1 } : S_api_Field) with f_Word := t3 } with f_Word := z }) (c_api_Field_f_Word ({ ({ f_Word := (0 : Int), f_Key := (Vector.replicate 32 (0 : Int) : (Vector Int 32)), f_N := (0 : Int), f_End := zqGR_0, f_P := zqGR_1 } : S_api_Field) with f_Word := t3 }))) rfl)) ?_
 refine av rfl (r_ieql rfl rfl) ?_
 refine nwt [(1, _), (2, _), (4, _), (12, _)] ⟨rfl, rfl, rfl, rfl, trivial⟩ ?_
 rcases of_ite hF with ⟨h5, hF⟩ | ⟨h5, hF⟩
 ·refine at_cond_true rfl h5 ?_
  refine sr ?_
  refine av rfl (r_build_struct (zs := Cd.cs c_api_Field ({ f_Word := (0 : Int), f_Key := (Vector.replicate 32 (0 : Int) : (Vector Int 32)), f_N := (0 : Int), f_End := zqGR_0, f_P := zqGR_1 } : S_api_Field)) (cs := Cd.cs c_api_Field ({ f_Word := (0 : Int), f_Key := (Vector.replicate 32 (0 : Int) : (Vector Int 32)), f_N := (0 : Int), f_End := zqGR_0, f_P := zqGR_1 } : S_api_Field)) Tryz.underlying46 Tryz.zeroValue46 rfl (places_api_Field_46) rfl rfl) ?_
  refine at_store (c := c_api_Field) (z := ({ f_Word := (0 : Int), f_Key := (Vector.replicate 32 (0 : Int) : (Vector Int 32)), f_N := (0 : Int), f_End := zqGR_0, f_P := zqGR_1 } : S_api_Field)) (.s .z) (Lens.whole _ _) Tryz.sizeOf46 rfl rfl rfl ?_
  refine av rfl (r_assign rfl) ?_
  refine at_nil ?_
  refine at_drop (H := _) .z ?_
  refine at_drop (H := _) (.s .z) ?_
  refine at_weak [(2, _), (3, _)] ⟨rfl, rfl, trivial⟩ ?_
  refine at_then_normal ?_
  refine rt ?_
  have K := of_some hF
  subst K
  exact at_res2 rfl (res_cell (c := c_api_Field) (y := ({ f_Word := (0 : Int), f_Key := (Vector.replicate 32 (0 : Int) : (Vector Int 32)), f_N := (0 : Int), f_End := zqGR_0, f_P := zqGR_1 } : S_api_Field)) rfl .z (Lens.whole _ _) Tryz.isAgg46 Tryz.sizeOf46 (.inl rfl)) (res_tmp rfl) (fun w1 hw => ⟨rfl, hw.below⟩)
 ·refine at_cond_false rfl h5 ?_
  refine sn ?_
  refine at_seq ?_
  refine at_seq ?_
  refine at_weak [(1, _), (2, _), (4, _)] ⟨rfl, rfl, rfl, trivial⟩ ?_
  obtain ⟨t6, ht6, hF⟩ := of_bindM hF
  cases t6 with
  | s0 =>
   obtain ⟨t7, ht7, hF⟩ := of_bindM hF
   refine at_inv [.q 14 (fun g8 => .pointer (some ⟨b4, 0 + 0, none⟩)) [] 0 0, .q 15 (fun g8 => .int .i64 (({ ({ f_Word := (0 : Int), f_Key := (Vector.replicate 32 (0 : Int) : (Vector Int 32)), f_N := (0 : Int), f_End := zqGR_0, f_P := zqGR_1 } : S_api_Field) with f_Word := t3 }).f_Word)) [0] 0 0, .q 16 (fun g8 => .agg #[.func (.func 93) #[] #[], .func (.func 95) #[] #[], .func (.func 97) #[] #[]]) [1] 0 0, .q 17 (fun g8 => .func (.func 93) #[] #[]) [2] 0 0, .q 18 (fun g8 => .pointer (some ⟨b1, 0 + 1, none⟩)) [] 0 0, .q 19 (fun g8 => .string x0.f_Value) [4] 0 0, .st 0 (some (20, fun g8 => .int .i64 t7.1)) [3, 5], .q 5 (fun g8 => .int .i64 t7.1) [6] 1 1] (fun g8 s => match s with | 0 => (Wd w [cellsE b4 (Cd.cs c_api_Field ({ ({ f_Word := (0 : Int), f_Key := (Vector.replicate 32 (0 : Int) : (Vector Int 32)), f_N := (0 : Int), f_End := zqGR_0, f_P := zqGR_1 } : S_api_Field) with f_Word := t3 })) 46, cellsE b2 (Cd.cs c_api_Field ({ f_Word := (0 : Int), f_Key := (Vector.replicate 32 (0 : Int) : (Vector Int 32)), f_N := (0 : Int), f_End := zqGR_0, f_P := zqGR_1 } : S_api_Field)) 46, cellsE b1 (Cd.cs c_pairline_Pair x0) 51]) | _ => (Wd w [cellsE b4 (Cd.cs c_api_Field t7.2) 46, cellsE b2 (Cd.cs c_api_Field ({ f_Word := (0 : Int), f_Key := (Vector.replicate 32 (0 : Int) : (Vector Int 32)), f_N := (0 : Int), f_End := zqGR_0, f_P := zqGR_1 } : S_api_Field)) 46, cellsE b1 (Cd.cs c_pairline_Pair x0) 51])) 1 (by kernel_rfl) (by kernel_rfl) (by kernel_rfl) (by kernel_rfl) (by kernel_rfl) ⟨fun _ _ _ => rfl, fun _ _ _ => rfl, fun _ _ _ => rfl, fun _ _ _ => rfl, fun _ _ _ => rfl, fun _ _ _ => rfl, fun _ _ _ => rfl, fun _ _ _ => rfl, trivial⟩ (by kernel_rfl) (fun _ h => ⟨fun _ => (0, none, 0, none), h.drew⟩) ⟨?_, ?_, ?_, ?_, ?_, ?_, ?_, ?_, trivial⟩ ?_
   ·intro Lx g8 s K hl hh k
    show At 26 ((1, _) :: (2, _) :: (4, _) :: Lx) _ _
    refine av rfl (r_fieldAddr (fo := 0) Tryz.underlying46 rfl rfl (fun w => ⟨_, Tryz.sizeOf3 w⟩) rfl) ?_
    exact at_nil k
   ·intro Lx g8 s K hl hh k
    show At 26 ((14, _) :: (1, _) :: (2, _) :: (4, _) :: Lx) _ _
    obtain rfl : s = 0 := by omega
    refine av rfl (r_load_cell Tryz.isAgg3 rfl (lens_cell0 (c := (cInt .i64)) (y := ({ ({ f_Word := (0 : Int), f_Key := (Vector.replicate 32 (0 : Int) : (Vector Int 32)), f_N := (0 : Int), f_End := zqGR_0, f_P := zqGR_1 } : S_api_Field) with f_Word := t3 }).f_Word) .z (Lens.comp (Lens.whole _ _) (fun z => { { ({ f_Word := (0 : Int), f_Key := (Vector.replicate 32 (0 : Int) : (Vector Int 32)), f_N := (0 : Int), f_End := zqGR_0, f_P := zqGR_1 } : S_api_Field) with f_Word := t3 } with f_Word := z }) (c_api_Field_f_Word ({ ({ f_Word := (0 : Int), f_Key := (Vector.replicate 32 (0 : Int) : (Vector Int 32)), f_N := (0 : Int), f_End := zqGR_0, f_P := zqGR_1 } : S_api_Field) with f_Word := t3 }))) rfl)) ?_
    exact at_nil k
   ·intro Lx g8 s K hl hh k
    show At 26 ((15, _) :: (1, _) :: (2, _) :: (4, _) :: Lx) _ _
    obtain rfl : s = 0 := by omega
    refine at_callB Tryz.func37 rfl (by kernel_rfl) rfl rfl (fun w hw => (field_shapeOf_ok _ _ ht6 w).mono (by intro e w' h; obtain ⟨v, he, hv, hb⟩ := h; exact ⟨he.trans (congrArg Ending.returned hv), hb⟩)) ?_
    exact at_nil k
   ·intro Lx g8 s K hl hh k
    show At 26 ((16, _) :: (1, _) :: (2, _) :: (4, _) :: Lx) _ _
    refine av rfl (r_fieldR (fo := 0) Tryz.underlying81 rfl rfl Tryz.isAgg77 rfl rfl) ?_
    exact at_nil k
   ·intro Lx g8 s K hl hh k
    show At 26 ((1, _) :: (2, _) :: (4, _) :: Lx) _ _
    refine av rfl (r_fieldAddr (fo := 1) Tryz.underlying51 rfl rfl (fun w => ⟨_, Tryz.sizeOf9 w⟩) rfl) ?_
    exact at_nil k
   ·intro Lx g8 s K hl hh k
    show At 26 ((18, _) :: (1, _) :: (2, _) :: (4, _) :: Lx) _ _
    obtain rfl : s = 0 := by omega
    refine av rfl (r_load_cell Tryz.isAgg9 rfl (lens_cell0 (c := cStr) (y := x0.f_Value) (.s (.s .z)) (Lens.comp (Lens.whole _ _) (fun z => { x0 with f_Value := z }) (c_pairline_Pair_f_Value x0)) rfl)) ?_
    exact at_nil k
   ·intro Lx g8 K k
    show At 26 ((17, _) :: (19, _) :: (1, _) :: (2, _) :: (4, _) :: Lx) _ _
    refine at_callee rfl ?_
    refine at_callP (E' := cellsE b4 (Cd.cs c_api_Field t7.2) 46) Tryz.func93 rfl (by kernel_rfl) rfl rfl (fun w hw => field_keyed_1_ok _ _ _ _ ht7 w .z hw) ?_
    exact at_nil k
   ·intro Lx g8 s K hl hh k
    show At 26 ((20, _) :: (1, _) :: (2, _) :: (4, _) :: Lx) _ _
    refine av rfl (r_assign rfl) ?_
    exact at_nil k
   intro g8
   show At 26 [(14, _), (15, _), (16, _), (17, _), (18, _), (19, _), (20, _), (5, _), (1, _), (2, _), (4, _)] _ _
   refine at_drop (H := _) (.s (.s .z)) ?_
   refine at_weak [(2, _), (4, _), (5, _)] ⟨rfl, rfl, rfl, trivial⟩ ?_
   refine at_then_normal ?_
   refine sr ?_
   refine av rfl (r_move rfl) ?_
   refine av rfl (r_ineq rfl rfl) ?_
   refine nwt [(2, _), (4, _), (5, _), (22, _)] ⟨rfl, rfl, rfl, rfl, trivial⟩ ?_
   rcases of_ite hF with ⟨h9, hF⟩ | ⟨h9, hF⟩
   ·refine at_cond_true rfl h9 ?_
    refine sr ?_
    refine av rfl (r_build_struct (zs := Cd.cs c_api_Field ({ f_Word := (0 : Int), f_Key := (Vector.replicate 32 (0 : Int) : (Vector Int 32)), f_N := (0 : Int), f_End := zqGR_0, f_P := zqGR_1 } : S_api_Field)) (cs := Cd.cs c_api_Field ({ f_Word := (0 : Int), f_Key := (Vector.replicate 32 (0 : Int) : (Vector Int 32)), f_N := (0 : Int), f_End := zqGR_0, f_P := zqGR_1 } : S_api_Field)) Tryz.underlying46 Tryz.zeroValue46 rfl (places_api_Field_46) rfl rfl) ?_
    refine av rfl (r_move rfl) ?_
    refine at_store (c := c_api_Field) (z := ({ f_Word := (0 : Int), f_Key := (Vector.replicate 32 (0 : Int) : (Vector Int 32)), f_N := (0 : Int), f_End := zqGR_0, f_P := zqGR_1 } : S_api_Field)) (.s .z) (Lens.whole _ _) Tryz.sizeOf46 rfl rfl rfl ?_
    refine av rfl (r_assign rfl) ?_
    refine at_nil ?_
    refine at_drop (H := _) .z ?_
    refine at_weak [(2, _), (3, _)] ⟨rfl, rfl, trivial⟩ ?_
    refine at_then_normal ?_
    refine rt ?_
    have K := of_some hF
    subst K
    exact at_res2 rfl (res_cell (c := c_api_Field) (y := ({ f_Word := (0 : Int), f_Key := (Vector.replicate 32 (0 : Int) : (Vector Int 32)), f_N := (0 : Int), f_End := zqGR_0, f_P := zqGR_1 } : S_api_Field)) rfl .z (Lens.whole _ _) Tryz.isAgg46 Tryz.sizeOf46 (.inl rfl)) (res_tmp rfl) (fun w1 hw => ⟨rfl, hw.below⟩)
   ·refine at_cond_false rfl h9 ?_
    refine sns ?_
    refine av rfl (r_load_aggc (c := c_api_Field) (z := t7.2) Tryz.isAgg46 Tryz.sizeOf46 rfl (lens_cell .z (Lens.whole _ _))) ?_
    refine at_store (c := c_api_Field) (z := t7.2) (.s .z) (Lens.whole _ _) Tryz.sizeOf46 rfl rfl rfl ?_
    refine av rfl (r_assign rfl) ?_
    refine at_nil ?_
    refine at_drop (H := _) .z ?_
    refine at_weak [(2, _), (3, _)] ⟨rfl, rfl, trivial⟩ ?_
    refine at_then_normal ?_
    refine at_ret ?_
    have K := of_some hF
    subst K
    exact at_res2 rfl (res_cell (c := c_api_Field) (y := t7.2) rfl .z (Lens.whole _ _) Tryz.isAgg46 Tryz.sizeOf46 (.inl rfl)) (res_tmp rfl) (fun w1 hw => ⟨rfl, hw.below⟩)
  | s1 =>
   obtain ⟨t10, ht10, hF⟩ := of_bindM hF
   refine at_inv [.q 14 (fun g11 => .pointer (some ⟨b4, 0 + 0, none⟩)) [] 0 0, .q 15 (fun g11 => .int .i64 (({ ({ f_Word := (0 : Int), f_Key := (Vector.replicate 32 (0 : Int) : (Vector Int 32)), f_N := (0 : Int), f_End := zqGR_0, f_P := zqGR_1 } : S_api_Field) with f_Word := t3 }).f_Word)) [0] 0 0, .q 16 (fun g11 => .agg #[.func (.func 98) #[] #[], .func (.func 100) #[] #[], .func (.func 103) #[] #[]]) [1] 0 0, .q 17 (fun g11 => .func (.func 98) #[] #[]) [2] 0 0, .q 18 (fun g11 => .pointer (some ⟨b1, 0 + 1, none⟩)) [] 0 0, .q 19 (fun g11 => .string x0.f_Value) [4] 0 0, .st 0 (some (20, fun g11 => .int .i64 t10.1)) [3, 5], .q 5 (fun g11 => .int .i64 t10.1) [6] 1 1] (fun g11 s => match s with | 0 => (Wd w [cellsE b4 (Cd.cs c_api_Field ({ ({ f_Word := (0 : Int), f_Key := (Vector.replicate 32 (0 : Int) : (Vector Int 32)), f_N := (0 : Int), f_End := zqGR_0, f_P := zqGR_1 } : S_api_Field) with f_Word := t3 })) 46, cellsE b2 (Cd.cs c_api_Field ({ f_Word := (0 : Int), f_Key := (Vector.replicate 32 (0 : Int) : (Vector Int 32)), f_N := (0 : Int), f_End := zqGR_0, f_P := zqGR_1 } : S_api_Field)) 46, cellsE b1 (Cd.cs c_pairline_Pair x0) 51]) | _ => (Wd w [cellsE b4 (Cd.cs c_api_Field t10.2) 46, cellsE b2 (Cd.cs c_api_Field ({ f_Word := (0 : Int), f_Key := (Vector.replicate 32 (0 : Int) : (Vector Int 32)), f_N := (0 : Int), f_End := zqGR_0, f_P := zqGR_1 } : S_api_Field)) 46, cellsE b1 (Cd.cs c_pairline_Pair x0) 51])) 1 (by kernel_rfl) (by kernel_rfl) (by kernel_rfl) (by kernel_rfl) (by kernel_rfl) ⟨fun _ _ _ => rfl, fun _ _ _ => rfl, fun _ _ _ => rfl, fun _ _ _ => rfl, fun _ _ _ => rfl, fun _ _ _ => rfl, fun _ _ _ => rfl, fun _ _ _ => rfl, trivial⟩ (by kernel_rfl) (fun _ h => ⟨fun _ => (0, none, 0, none), h.drew⟩) ⟨?_, ?_, ?_, ?_, ?_, ?_, ?_, ?_, trivial⟩ ?_
   ·intro Lx g11 s K hl hh k
    show At 26 ((1, _) :: (2, _) :: (4, _) :: Lx) _ _
    refine av rfl (r_fieldAddr (fo := 0) Tryz.underlying46 rfl rfl (fun w => ⟨_, Tryz.sizeOf3 w⟩) rfl) ?_
    exact at_nil k
   ·intro Lx g11 s K hl hh k
    show At 26 ((14, _) :: (1, _) :: (2, _) :: (4, _) :: Lx) _ _
    obtain rfl : s = 0 := by omega
    refine av rfl (r_load_cell Tryz.isAgg3 rfl (lens_cell0 (c := (cInt .i64)) (y := ({ ({ f_Word := (0 : Int), f_Key := (Vector.replicate 32 (0 : Int) : (Vector Int 32)), f_N := (0 : Int), f_End := zqGR_0, f_P := zqGR_1 } : S_api_Field) with f_Word := t3 }).f_Word) .z (Lens.comp (Lens.whole _ _) (fun z => { { ({ f_Word := (0 : Int), f_Key := (Vector.replicate 32 (0 : Int) : (Vector Int 32)), f_N := (0 : Int), f_End := zqGR_0, f_P := zqGR_1 } : S_api_Field) with f_Word := t3 } with f_Word := z }) (c_api_Field_f_Word ({ ({ f_Word := (0 : Int), f_Key := (Vector.replicate 32 (0 : Int) : (Vector Int 32)), f_N := (0 : Int), f_End := zqGR_0, f_P := zqGR_1 } : S_api_Field) with f_Word := t3 }))) rfl)) ?_
    exact at_nil k
   ·intro Lx g11 s K hl hh k
    show At 26 ((15, _) :: (1, _) :: (2, _) :: (4, _) :: Lx) _ _
    obtain rfl : s = 0 := by omega
    refine at_callB Tryz.func37 rfl (by kernel_rfl) rfl rfl (fun w hw => (field_shapeOf_ok _ _ ht6 w).mono (by intro e w' h; obtain ⟨v, he, hv, hb⟩ := h; exact ⟨he.trans (congrArg Ending.returned hv), hb⟩)) ?_
    exact at_nil k
   ·intro Lx g11 s K hl hh k
    show At 26 ((16, _) :: (1, _) :: (2, _) :: (4, _) :: Lx) _ _
    refine av rfl (r_fieldR (fo := 0) Tryz.underlying81 rfl rfl Tryz.isAgg77 rfl rfl) ?_
    exact at_nil k
   ·intro Lx g11 s K hl hh k
    show At 26 ((1, _) :: (2, _) :: (4, _) :: Lx) _ _
    refine av rfl (r_fieldAddr (fo := 1) Tryz.underlying51 rfl rfl (fun w => ⟨_, Tryz.sizeOf9 w⟩) rfl) ?_
    exact at_nil k
   ·intro Lx g11 s K hl hh k
    show At 26 ((18, _) :: (1, _) :: (2, _) :: (4, _) :: Lx) _ _
    obtain rfl : s = 0 := by omega
    refine av rfl (r_load_cell Tryz.isAgg9 rfl (lens_cell0 (c := cStr) (y := x0.f_Value) (.s (.s .z)) (Lens.comp (Lens.whole _ _) (fun z => { x0 with f_Value := z }) (c_pairline_Pair_f_Value x0)) rfl)) ?_
    exact at_nil k
   ·intro Lx g11 K k
    show At 26 ((17, _) :: (19, _) :: (1, _) :: (2, _) :: (4, _) :: Lx) _ _
    refine at_callee rfl ?_
    refine at_callP (E' := cellsE b4 (Cd.cs c_api_Field t10.2) 46) Tryz.func98 rfl (by kernel_rfl) rfl rfl (fun w hw => field_ended_1_ok _ _ _ _ ht10 w .z hw hg_bytealg_MaxLen hg_strconv_ErrRange hg_strconv_ErrSyntax) ?_
    exact at_nil k
   ·intro Lx g11 s K hl hh k
    show At 26 ((20, _) :: (1, _) :: (2, _) :: (4, _) :: Lx) _ _
    refine av rfl (r_assign rfl) ?_
    exact at_nil k
   intro g11
   show At 26 [(14, _), (15, _), (16, _), (17, _), (18, _), (19, _), (20, _), (5, _), (1, _), (2, _), (4, _)] _ _
   refine at_drop (H := _) (.s (.s .z)) ?_
   refine at_weak [(2, _), (4, _), (5, _)] ⟨rfl, rfl, rfl, trivial⟩ ?_
   refine at_then_normal ?_
   refine sr ?_
   refine av rfl (r_move rfl) ?_
   refine av rfl (r_ineq rfl rfl) ?_
   refine nwt [(2, _), (4, _), (5, _), (22, _)] ⟨rfl, rfl, rfl, rfl, trivial⟩ ?_
   rcases of_ite hF with ⟨h12, hF⟩ | ⟨h12, hF⟩
   ·refine at_cond_true rfl h12 ?_
    refine sr ?_
    refine av rfl (r_build_struct (zs := Cd.cs c_api_Field ({ f_Word := (0 : Int), f_Key := (Vector.replicate 32 (0 : Int) : (Vector Int 32)), f_N := (0 : Int), f_End := zqGR_0, f_P := zqGR_1 } : S_api_Field)) (cs := Cd.cs c_api_Field ({ f_Word := (0 : Int), f_Key := (Vector.replicate 32 (0 : Int) : (Vector Int 32)), f_N := (0 : Int), f_End := zqGR_0, f_P := zqGR_1 } : S_api_Field)) Tryz.underlying46 Tryz.zeroValue46 rfl (places_api_Field_46) rfl rfl) ?_
    refine av rfl (r_move rfl) ?_
    refine at_store (c := c_api_Field) (z := ({ f_Word := (0 : Int), f_Key := (Vector.replicate 32 (0 : Int) : (Vector Int 32)), f_N := (0 : Int), f_End := zqGR_0, f_P := zqGR_1 } : S_api_Field)) (.s .z) (Lens.whole _ _) Tryz.sizeOf46 rfl rfl rfl ?_
    refine av rfl (r_assign rfl) ?_
    refine at_nil ?_
    refine at_drop (H := _) .z ?_
    refine at_weak [(2, _), (3, _)] ⟨rfl, rfl, trivial⟩ ?_
    refine at_then_normal ?_
    refine rt ?_
    have K := of_some hF
    subst K
    exact at_res2 rfl (res_cell (c := c_api_Field) (y := ({ f_Word := (0 : Int), f_Key := (Vector.replicate 32 (0 : Int) : (Vector Int 32)), f_N := (0 : Int), f_End := zqGR_0, f_P := zqGR_1 } : S_api_Field)) rfl .z (Lens.whole _ _) Tryz.isAgg46 Tryz.sizeOf46 (.inl rfl)) (res_tmp rfl) (fun w1 hw => ⟨rfl, hw.below⟩)
   ·refine at_cond_false rfl h12 ?_
    refine sns ?_
    refine av rfl (r_load_aggc (c := c_api_Field) (z := t10.2) Tryz.isAgg46 Tryz.sizeOf46 rfl (lens_cell .z (Lens.whole _ _))) ?_
    refine at_store (c := c_api_Field) (z := t10.2) (.s .z) (Lens.whole _ _) Tryz.sizeOf46 rfl rfl rfl ?_
    refine av rfl (r_assign rfl) ?_
    refine at_nil ?_
    refine at_drop (H := _) .z ?_
    refine at_weak [(2, _), (3, _)] ⟨rfl, rfl, trivial⟩ ?_
    refine at_then_normal ?_
    refine at_ret ?_
    have K := of_some hF
    subst K
    exact at_res2 rfl (res_cell (c := c_api_Field) (y := t10.2) rfl .z (Lens.whole _ _) Tryz.isAgg46 Tryz.sizeOf46 (.inl rfl)) (res_tmp rfl) (fun w1 hw => ⟨rfl, hw.below⟩)
  | s2 =>
   obtain ⟨t13, ht13, hF⟩ := of_bindM hF
   refine at_inv [.q 14 (fun g14 => .pointer (some ⟨b4, 0 + 0, none⟩)) [] 0 0, .q 15 (fun g14 => .int .i64 (({ ({ f_Word := (0 : Int), f_Key := (Vector.replicate 32 (0 : Int) : (Vector Int 32)), f_N := (0 : Int), f_End := zqGR_0, f_P := zqGR_1 } : S_api_Field) with f_Word := t3 }).f_Word)) [0] 0 0, .q 16 (fun g14 => .agg #[.func (.func 104) #[] #[], .func (.func 106) #[] #[], .func (.func 109) #[] #[]]) [1] 0 0, .q 17 (fun g14 => .func (.func 104) #[] #[]) [2] 0 0, .q 18 (fun g14 => .pointer (some ⟨b1, 0 + 1, none⟩)) [] 0 0, .q 19 (fun g14 => .string x0.f_Value) [4] 0 0, .st 0 (some (20, fun g14 => .int .i64 t13.1)) [3, 5], .q 5 (fun g14 => .int .i64 t13.1) [6] 1 1] (fun g14 s => match s with | 0 => (Wd w [cellsE b4 (Cd.cs c_api_Field ({ ({ f_Word := (0 : Int), f_Key := (Vector.replicate 32 (0 : Int) : (Vector Int 32)), f_N := (0 : Int), f_End := zqGR_0, f_P := zqGR_1 } : S_api_Field) with f_Word := t3 })) 46, cellsE b2 (Cd.cs c_api_Field ({ f_Word := (0 : Int), f_Key := (Vector.replicate 32 (0 : Int) : (Vector Int 32)), f_N := (0 : Int), f_End := zqGR_0, f_P := zqGR_1 } : S_api_Field)) 46, cellsE b1 (Cd.cs c_pairline_Pair x0) 51]) | _ => (Wd w [cellsE b4 (Cd.cs c_api_Field t13.2) 46, cellsE b2 (Cd.cs c_api_Field ({ f_Word := (0 : Int), f_Key := (Vector.replicate 32 (0 : Int) : (Vector Int 32)), f_N := (0 : Int), f_End := zqGR_0, f_P := zqGR_1 } : S_api_Field)) 46, cellsE b1 (Cd.cs c_pairline_Pair x0) 51])) 1 (by kernel_rfl) (by kernel_rfl) (by kernel_rfl) (by kernel_rfl) (by kernel_rfl) ⟨fun _ _ _ => rfl, fun _ _ _ => rfl, fun _ _ _ => rfl, fun _ _ _ => rfl, fun _ _ _ => rfl, fun _ _ _ => rfl, fun _ _ _ => rfl, fun _ _ _ => rfl, trivial⟩ (by kernel_rfl) (fun _ h => ⟨fun _ => (0, none, 0, none), h.drew⟩) ⟨?_, ?_, ?_, ?_, ?_, ?_, ?_, ?_, trivial⟩ ?_
   ·intro Lx g14 s K hl hh k
    show At 26 ((1, _) :: (2, _) :: (4, _) :: Lx) _ _
    refine av rfl (r_fieldAddr (fo := 0) Tryz.underlying46 rfl rfl (fun w => ⟨_, Tryz.sizeOf3 w⟩) rfl) ?_
    exact at_nil k
   ·intro Lx g14 s K hl hh k
    show At 26 ((14, _) :: (1, _) :: (2, _) :: (4, _) :: Lx) _ _
    obtain rfl : s = 0 := by omega
    refine av rfl (r_load_cell Tryz.isAgg3 rfl (lens_cell0 (c := (cInt .i64)) (y := ({ ({ f_Word := (0 : Int), f_Key := (Vector.replicate 32 (0 : Int) : (Vector Int 32)), f_N := (0 : Int), f_End := zqGR_0, f_P := zqGR_1 } : S_api_Field) with f_Word := t3 }).f_Word) .z (Lens.comp (Lens.whole _ _) (fun z => { { ({ f_Word := (0 : Int), f_Key := (Vector.replicate 32 (0 : Int) : (Vector Int 32)), f_N := (0 : Int), f_End := zqGR_0, f_P := zqGR_1 } : S_api_Field) with f_Word := t3 } with f_Word := z }) (c_api_Field_f_Word ({ ({ f_Word := (0 : Int), f_Key := (Vector.replicate 32 (0 : Int) : (Vector Int 32)), f_N := (0 : Int), f_End := zqGR_0, f_P := zqGR_1 } : S_api_Field) with f_Word := t3 }))) rfl)) ?_
    exact at_nil k
   ·intro Lx g14 s K hl hh k
    show At 26 ((15, _) :: (1, _) :: (2, _) :: (4, _) :: Lx) _ _
    obtain rfl : s = 0 := by omega
    refine at_callB Tryz.func37 rfl (by kernel_rfl) rfl rfl (fun w hw => (field_shapeOf_ok _ _ ht6 w).mono (by intro e w' h; obtain ⟨v, he, hv, hb⟩ := h; exact ⟨he.trans (congrArg Ending.returned hv), hb⟩)) ?_
    exact at_nil k
   ·intro Lx g14 s K hl hh k
    show At 26 ((16, _) :: (1, _) :: (2, _) :: (4, _) :: Lx) _ _
    refine av rfl (r_fieldR (fo := 0) Tryz.underlying81 rfl rfl Tryz.isAgg77 rfl rfl) ?_
    exact at_nil k
   ·intro Lx g14 s K hl hh k
    show At 26 ((1, _) :: (2, _) :: (4, _) :: Lx) _ _
    refine av rfl (r_fieldAddr (fo := 1) Tryz.underlying51 rfl rfl (fun w => ⟨_, Tryz.sizeOf9 w⟩) rfl) ?_
    exact at_nil k
   ·intro Lx g14 s K hl hh k
    show At 26 ((18, _) :: (1, _) :: (2, _) :: (4, _) :: Lx) _ _
    obtain rfl : s = 0 := by omega
    refine av rfl (r_load_cell Tryz.isAgg9 rfl (lens_cell0 (c := cStr) (y := x0.f_Value) (.s (.s .z)) (Lens.comp (Lens.whole _ _) (fun z => { x0 with f_Value := z }) (c_pairline_Pair_f_Value x0)) rfl)) ?_
    exact at_nil k
   ·intro Lx g14 K k
    show At 26 ((17, _) :: (19, _) :: (1, _) :: (2, _) :: (4, _) :: Lx) _ _
    refine at_callee rfl ?_
    refine at_callP (E' := cellsE b4 (Cd.cs c_api_Field t13.2) 46) Tryz.func104 rfl (by kernel_rfl) rfl rfl (fun w hw => field_allowed_1_ok _ _ _ _ ht13 w .z hw hg_strconv_ErrRange hg_strconv_ErrSyntax) ?_
    exact at_nil k
   ·intro Lx g14 s K hl hh k
    show At 26 ((20, _) :: (1, _) :: (2, _) :: (4, _) :: Lx) _ _
    refine av rfl (r_assign rfl) ?_
    exact at_nil k
   intro g14
   show At 26 [(14, _), (15, _), (16, _), (17, _), (18, _), (19, _), (20, _), (5, _), (1, _), (2, _), (4, _)] _ _
   refine at_drop (H := _) (.s (.s .z)) ?_
   refine at_weak [(2, _), (4, _), (5, _)] ⟨rfl, rfl, rfl, trivial⟩ ?_
   refine at_then_normal ?_
   refine sr ?_
   refine av rfl (r_move rfl) ?_
   refine av rfl (r_ineq rfl rfl) ?_
   refine nwt [(2, _), (4, _), (5, _), (22, _)] ⟨rfl, rfl, rfl, rfl, trivial⟩ ?_
   rcases of_ite hF with ⟨h15, hF⟩ | ⟨h15, hF⟩
   ·refine at_cond_true rfl h15 ?_
    refine sr ?_
    refine av rfl (r_build_struct (zs := Cd.cs c_api_Field ({ f_Word := (0 : Int), f_Key := (Vector.replicate 32 (0 : Int) : (Vector Int 32)), f_N := (0 : Int), f_End := zqGR_0, f_P := zqGR_1 } : S_api_Field)) (cs := Cd.cs c_api_Field ({ f_Word := (0 : Int), f_Key := (Vector.replicate 32 (0 : Int) : (Vector Int 32)), f_N := (0 : Int), f_End := zqGR_0, f_P := zqGR_1 } : S_api_Field)) Tryz.underlying46 Tryz.zeroValue46 rfl (places_api_Field_46) rfl rfl) ?_
    refine av rfl (r_move rfl) ?_
    refine at_store (c := c_api_Field) (z := ({ f_Word := (0 : Int), f_Key := (Vector.replicate 32 (0 : Int) : (Vector Int 32)), f_N := (0 : Int), f_End := zqGR_0, f_P := zqGR_1 } : S_api_Field)) (.s .z) (Lens.whole _ _) Tryz.sizeOf46 rfl rfl rfl ?_
    refine av rfl (r_assign rfl) ?_
    refine at_nil ?_
    refine at_drop (H := _) .z ?_
    refine at_weak [(2, _), (3, _)] ⟨rfl, rfl, trivial⟩ ?_
    refine at_then_normal ?_
    refine rt ?_
    have K := of_some hF
    subst K
    exact at_res2 rfl (res_cell (c := c_api_Field) (y := ({ f_Word := (0 : Int), f_Key := (Vector.replicate 32 (0 : Int) : (Vector Int 32)), f_N := (0 : Int), f_End := zqGR_0, f_P := zqGR_1 } : S_api_Field)) rfl .z (Lens.whole _ _) Tryz.isAgg46 Tryz.sizeOf46 (.inl rfl)) (res_tmp rfl) (fun w1 hw => ⟨rfl, hw.below⟩)
   ·refine at_cond_false rfl h15 ?_
    refine sns ?_
    refine av rfl (r_load_aggc (c := c_api_Field) (z := t13.2) Tryz.isAgg46 Tryz.sizeOf46 rfl (lens_cell .z (Lens.whole _ _))) ?_
    refine at_store (c := c_api_Field) (z := t13.2) (.s .z) (Lens.whole _ _) Tryz.sizeOf46 rfl rfl rfl ?_
    refine av rfl (r_assign rfl) ?_
    refine at_nil ?_
    refine at_drop (H := _) .z ?_
    refine at_weak [(2, _), (3, _)] ⟨rfl, rfl, trivial⟩ ?_
    refine at_then_normal ?_
    refine at_ret ?_
    have K := of_some hF
    subst K
    exact at_res2 rfl (res_cell (c := c_api_Field) (y := t13.2) rfl .z (Lens.whole _ _) Tryz.isAgg46 Tryz.sizeOf46 (.inl rfl)) (res_tmp rfl) (fun w1 hw => ⟨rfl, hw.below⟩)
  | s3 a16 a17 =>
   obtain ⟨t20, ht20, hF⟩ := of_bindM hF
   refine at_inv [.q 14 (fun g21 => .pointer (some ⟨b4, 0 + 0, none⟩)) [] 0 0, .q 15 (fun g21 => .int .i64 (({ ({ f_Word := (0 : Int), f_Key := (Vector.replicate 32 (0 : Int) : (Vector Int 32)), f_N := (0 : Int), f_End := zqGR_0, f_P := zqGR_1 } : S_api_Field) with f_Word := t3 }).f_Word)) [0] 0 0, .al 0 16 (fun g21 => .agg #[.func (.func 110) #[] #[.pointer (some ⟨((g21 0).1), 0, none⟩), .pointer (some ⟨((g21 0).2.2.1), 0, none⟩)], .func (.func 112) #[] #[.pointer (some ⟨((g21 0).2.2.1), 0, none⟩), .pointer (some ⟨((g21 0).1), 0, none⟩)], .func (.func 114) #[] #[]]) [1], .q 17 (fun g21 => .func (.func 110) #[] #[.pointer (some ⟨((g21 0).1), 0, none⟩), .pointer (some ⟨((g21 0).2.2.1), 0, none⟩)]) [2] 1 1, .q 18 (fun g21 => .pointer (some ⟨b1, 0 + 1, none⟩)) [] 0 1, .q 19 (fun g21 => .string x0.f_Value) [4] 0 1, .st 1 (some (20, fun g21 => .int .i64 t20.1)) [3, 5], .q 5 (fun g21 => .int .i64 t20.1) [6] 2 2] (fun g21 s => match s with | 0 => (Wd w [cellsE b4 (Cd.cs c_api_Field ({ ({ f_Word := (0 : Int), f_Key := (Vector.replicate 32 (0 : Int) : (Vector Int 32)), f_N := (0 : Int), f_End := zqGR_0, f_P := zqGR_1 } : S_api_Field) with f_Word := t3 })) 46, cellsE b2 (Cd.cs c_api_Field ({ f_Word := (0 : Int), f_Key := (Vector.replicate 32 (0 : Int) : (Vector Int 32)), f_N := (0 : Int), f_End := zqGR_0, f_P := zqGR_1 } : S_api_Field)) 46, cellsE b1 (Cd.cs c_pairline_Pair x0) 51]) | 1 => (Wd w [cellsE ((g21 0).1) (Cd.cs (cInt .u64) a16) 31, cellsE ((g21 0).2.2.1) (Cd.cs (cInt .u64) a17) 31, cellsE b4 (Cd.cs c_api_Field ({ ({ f_Word := (0 : Int), f_Key := (Vector.replicate 32 (0 : Int) : (Vector Int 32)), f_N := (0 : Int), f_End := zqGR_0, f_P := zqGR_1 } : S_api_Field) with f_Word := t3 })) 46, cellsE b2 (Cd.cs c_api_Field ({ f_Word := (0 : Int), f_Key := (Vector.replicate 32 (0 : Int) : (Vector Int 32)), f_N := (0 : Int), f_End := zqGR_0, f_P := zqGR_1 } : S_api_Field)) 46, cellsE b1 (Cd.cs c_pairline_Pair x0) 51]) | _ => (Wd w [cellsE ((g21 0).1) (Cd.cs (cInt .u64) a16) 31, cellsE ((g21 0).2.2.1) (Cd.cs (cInt .u64) a17) 31, cellsE b4 (Cd.cs c_api_Field t20.2) 46, cellsE b2 (Cd.cs c_api_Field ({ f_Word := (0 : Int), f_Key := (Vector.replicate 32 (0 : Int) : (Vector Int 32)), f_N := (0 : Int), f_End := zqGR_0, f_P := zqGR_1 } : S_api_Field)) 46, cellsE b1 (Cd.cs c_pairline_Pair x0) 51])) 2 (by kernel_rfl) (by kernel_rfl) (by kernel_rfl) (by kernel_rfl) (by kernel_rfl) ⟨fun _ _ _ => rfl, fun _ _ _ => rfl, fun g21 g2 h => by show (.agg #[.func (.func 110) #[] #[.pointer (some ⟨((g21 0).1), 0, none⟩), .pointer (some ⟨((g21 0).2.2.1), 0, none⟩)], .func (.func 112) #[] #[.pointer (some ⟨((g21 0).2.2.1), 0, none⟩), .pointer (some ⟨((g21 0).1), 0, none⟩)], .func (.func 114) #[] #[]] : Value) = .agg #[.func (.func 110) #[] #[.pointer (some ⟨((g2 0).1), 0, none⟩), .pointer (some ⟨((g2 0).2.2.1), 0, none⟩)], .func (.func 112) #[] #[.pointer (some ⟨((g2 0).2.2.1), 0, none⟩), .pointer (some ⟨((g2 0).1), 0, none⟩)], .func (.func 114) #[] #[]]; rw [h 0 (show 0 < 1 by decide)], fun g21 g2 h => by show (.func (.func 110) #[] #[.pointer (some ⟨((g21 0).1), 0, none⟩), .pointer (some ⟨((g21 0).2.2.1), 0, none⟩)] : Value) = .func (.func 110) #[] #[.pointer (some ⟨((g2 0).1), 0, none⟩), .pointer (some ⟨((g2 0).2.2.1), 0, none⟩)]; rw [h 0 (show 0 < 1 by decide)], fun _ _ _ => rfl, fun _ _ _ => rfl, fun _ _ _ => rfl, fun _ _ _ => rfl, trivial⟩ (by kernel_rfl) (fun _ h => ⟨fun _ => (0, none, 0, none), h.drew⟩) ⟨?_, ?_, ?_, ?_, ?_, ?_, ?_, ?_, trivial⟩ ?_
   ·intro Lx g21 s K hl hh k
    show At 26 ((1, _) :: (2, _) :: (4, _) :: Lx) _ _
    refine av rfl (r_fieldAddr (fo := 0) Tryz.underlying46 rfl rfl (fun w => ⟨_, Tryz.sizeOf3 w⟩) rfl) ?_
    exact at_nil k
   ·intro Lx g21 s K hl hh k
    show At 26 ((14, _) :: (1, _) :: (2, _) :: (4, _) :: Lx) _ _
    obtain rfl : s = 0 := by omega
    refine av rfl (r_load_cell Tryz.isAgg3 rfl (lens_cell0 (c := (cInt .i64)) (y := ({ ({ f_Word := (0 : Int), f_Key := (Vector.replicate 32 (0 : Int) : (Vector Int 32)), f_N := (0 : Int), f_End := zqGR_0, f_P := zqGR_1 } : S_api_Field) with f_Word := t3 }).f_Word) .z (Lens.comp (Lens.whole _ _) (fun z => { { ({ f_Word := (0 : Int), f_Key := (Vector.replicate 32 (0 : Int) : (Vector Int 32)), f_N := (0 : Int), f_End := zqGR_0, f_P := zqGR_1 } : S_api_Field) with f_Word := t3 } with f_Word := z }) (c_api_Field_f_Word ({ ({ f_Word := (0 : Int), f_Key := (Vector.replicate 32 (0 : Int) : (Vector Int 32)), f_N := (0 : Int), f_End := zqGR_0, f_P := zqGR_1 } : S_api_Field) with f_Word := t3 }))) rfl)) ?_
    exact at_nil k
   ·intro Lx g21 K k
    show At 26 ((15, _) :: (1, _) :: (2, _) :: (4, _) :: Lx) _ _
    refine at_callC2 (c1 := [.int .u64 a16]) (c2 := [.int .u64 a17]) (t1 := 31) (t2 := 31) (V := fun v_1 v_2 => .agg #[.func (.func 110) #[] #[.pointer (some ⟨v_1, 0, none⟩), .pointer (some ⟨v_2, 0, none⟩)], .func (.func 112) #[] #[.pointer (some ⟨v_2, 0, none⟩), .pointer (some ⟨v_1, 0, none⟩)], .func (.func 114) #[] #[]]) Tryz.func37 rfl (by kernel_rfl) rfl rfl (fun w hw => (field_shapeOf_ok _ _ ht6 w).mono (by intro e w' h; obtain ⟨v, he, hv, hb⟩ := h; obtain ⟨c0, c1, hv, hr⟩ := hv; exact ⟨c0, c1, he.trans (congrArg Ending.returned hv), hr, hb⟩)) ?_
    intro b18 b19
    exact at_nil (k (b18, none, b19, none))
   ·intro Lx g21 s K hl hh k
    show At 26 ((16, _) :: (1, _) :: (2, _) :: (4, _) :: Lx) _ _
    refine av rfl (r_fieldR (fo := 0) Tryz.underlying81 rfl rfl Tryz.isAgg77 rfl rfl) ?_
    exact at_nil k
   ·intro Lx g21 s K hl hh k
    show At 26 ((1, _) :: (2, _) :: (4, _) :: Lx) _ _
    refine av rfl (r_fieldAddr (fo := 1) Tryz.underlying51 rfl rfl (fun w => ⟨_, Tryz.sizeOf9 w⟩) rfl) ?_
    exact at_nil k
   ·intro Lx g21 s K hl hh k
    show At 26 ((18, _) :: (1, _) :: (2, _) :: (4, _) :: Lx) _ _
    rcases (by omega : s = 0 ∨ s = 1) with rfl | rfl
    ·skip
     refine av rfl (r_load_cell Tryz.isAgg9 rfl (lens_cell0 (c := cStr) (y := x0.f_Value) (.s (.s .z)) (Lens.comp (Lens.whole _ _) (fun z => { x0 with f_Value := z }) (c_pairline_Pair_f_Value x0)) rfl)) ?_
     exact at_nil k
    ·skip
     refine av rfl (r_load_cell Tryz.isAgg9 rfl (lens_cell0 (c := cStr) (y := x0.f_Value) (.s (.s (.s (.s .z)))) (Lens.comp (Lens.whole _ _) (fun z => { x0 with f_Value := z }) (c_pairline_Pair_f_Value x0)) rfl)) ?_
     exact at_nil k
   ·intro Lx g21 K k
    show At 26 ((17, _) :: (19, _) :: (1, _) :: (2, _) :: (4, _) :: Lx) _ _
    refine at_calleeC (caps := [.pointer (some ⟨((g21 0).1), 0, none⟩), .pointer (some ⟨((g21 0).2.2.1), 0, none⟩)]) rfl ?_
    refine at_callP (E' := cellsE b4 (Cd.cs c_api_Field t20.2) 46) Tryz.func110 rfl (by kernel_rfl) rfl rfl (fun w hw => field_counted_1_ok _ _ _ _ _ _ _ _ ht20 w (.s (.s .z)) hw (fun X_ w_ h => cells_get (h.ok (Upd.mem .z)) 0 _ rfl) (fun X_ w_ h => cells_get (h.ok (Upd.mem (.s .z))) 0 _ rfl) hg_strconv_ErrRange hg_strconv_ErrSyntax) ?_
    exact at_nil k
   ·intro Lx g21 s K hl hh k
    show At 26 ((20, _) :: (1, _) :: (2, _) :: (4, _) :: Lx) _ _
    refine av rfl (r_assign rfl) ?_
    exact at_nil k
   intro g21
   show At 26 [(14, _), (15, _), (16, _), (17, _), (18, _), (19, _), (20, _), (5, _), (1, _), (2, _), (4, _)] _ _
   refine at_drop (H := _) .z ?_
   refine at_drop (H := _) .z ?_
   refine at_drop (H := _) (.s (.s .z)) ?_
   refine at_weak [(2, _), (4, _), (5, _)] ⟨rfl, rfl, rfl, trivial⟩ ?_
   refine at_then_normal ?_
   refine sr ?_
   refine av rfl (r_move rfl) ?_
   refine av rfl (r_ineq rfl rfl) ?_
   refine nwt [(2, _), (4, _), (5, _), (22, _)] ⟨rfl, rfl, rfl, rfl, trivial⟩ ?_
   rcases of_ite hF with ⟨h22, hF⟩ | ⟨h22, hF⟩
   ·refine at_cond_true rfl h22 ?_
    refine sr ?_
    refine av rfl (r_build_struct (zs := Cd.cs c_api_Field ({ f_Word := (0 : Int), f_Key := (Vector.replicate 32 (0 : Int) : (Vector Int 32)), f_N := (0 : Int), f_End := zqGR_0, f_P := zqGR_1 } : S_api_Field)) (cs := Cd.cs c_api_Field ({ f_Word := (0 : Int), f_Key := (Vector.replicate 32 (0 : Int) : (Vector Int 32)), f_N := (0 : Int), f_End := zqGR_0, f_P := zqGR_1 } : S_api_Field)) Tryz.underlying46 Tryz.zeroValue46 rfl (places_api_Field_46) rfl rfl) ?_
    refine av rfl (r_move rfl) ?_
    refine at_store (c := c_api_Field) (z := ({ f_Word := (0 : Int), f_Key := (Vector.replicate 32 (0 : Int) : (Vector Int 32)), f_N := (0 : Int), f_End := zqGR_0, f_P := zqGR_1 } : S_api_Field)) (.s .z) (Lens.whole _ _) Tryz.sizeOf46 rfl rfl rfl ?_
    refine av rfl (r_assign rfl) ?_
    refine at_nil ?_
    refine at_drop (H := _) .z ?_
    refine at_weak [(2, _), (3, _)] ⟨rfl, rfl, trivial⟩ ?_
    refine at_then_normal ?_
    refine rt ?_
    have K := of_some hF
    subst K
    exact at_res2 rfl (res_cell (c := c_api_Field) (y := ({ f_Word := (0 : Int), f_Key := (Vector.replicate 32 (0 : Int) : (Vector Int 32)), f_N := (0 : Int), f_End := zqGR_0, f_P := zqGR_1 } : S_api_Field)) rfl .z (Lens.whole _ _) Tryz.isAgg46 Tryz.sizeOf46 (.inl rfl)) (res_tmp rfl) (fun w1 hw => ⟨rfl, hw.below⟩)
   ·refine at_cond_false rfl h22 ?_
    refine sns ?_
    refine av rfl (r_load_aggc (c := c_api_Field) (z := t20.2) Tryz.isAgg46 Tryz.sizeOf46 rfl (lens_cell .z (Lens.whole _ _))) ?_
    refine at_store (c := c_api_Field) (z := t20.2) (.s .z) (Lens.whole _ _) Tryz.sizeOf46 rfl rfl rfl ?_
    refine av rfl (r_assign rfl) ?_
    refine at_nil ?_
    refine at_drop (H := _) .z ?_
    refine at_weak [(2, _), (3, _)] ⟨rfl, rfl, trivial⟩ ?_
    refine at_then_normal ?_
    refine at_ret ?_
    have K := of_some hF
    subst K
    exact at_res2 rfl (res_cell (c := c_api_Field) (y := t20.2) rfl .z (Lens.whole _ _) Tryz.isAgg46 Tryz.sizeOf46 (.inl rfl)) (res_tmp rfl) (fun w1 hw => ⟨rfl, hw.below⟩)
  | s4 =>
   obtain ⟨t23, ht23, hF⟩ := of_bindM hF
   refine at_inv [.q 14 (fun g24 => .pointer (some ⟨b4, 0 + 0, none⟩)) [] 0 0, .q 15 (fun g24 => .int .i64 (({ ({ f_Word := (0 : Int), f_Key := (Vector.replicate 32 (0 : Int) : (Vector Int 32)), f_N := (0 : Int), f_End := zqGR_0, f_P := zqGR_1 } : S_api_Field) with f_Word := t3 }).f_Word)) [0] 0 0, .q 16 (fun g24 => .agg #[.func (.func 115) #[] #[], .func (.func 116) #[] #[], .func (.func 117) #[] #[]]) [1] 0 0, .q 17 (fun g24 => .func (.func 115) #[] #[]) [2] 0 0, .q 18 (fun g24 => .pointer (some ⟨b1, 0 + 1, none⟩)) [] 0 0, .q 19 (fun g24 => .string x0.f_Value) [4] 0 0, .st 0 (some (20, fun g24 => .int .i64 t23.1)) [3, 5], .q 5 (fun g24 => .int .i64 t23.1) [6] 1 1] (fun g24 s => match s with | 0 => (Wd w [cellsE b4 (Cd.cs c_api_Field ({ ({ f_Word := (0 : Int), f_Key := (Vector.replicate 32 (0 : Int) : (Vector Int 32)), f_N := (0 : Int), f_End := zqGR_0, f_P := zqGR_1 } : S_api_Field) with f_Word := t3 })) 46, cellsE b2 (Cd.cs c_api_Field ({ f_Word := (0 : Int), f_Key := (Vector.replicate 32 (0 : Int) : (Vector Int 32)), f_N := (0 : Int), f_End := zqGR_0, f_P := zqGR_1 } : S_api_Field)) 46, cellsE b1 (Cd.cs c_pairline_Pair x0) 51]) | _ => (Wd w [cellsE b4 (Cd.cs c_api_Field t23.2) 46, cellsE b2 (Cd.cs c_api_Field ({ f_Word := (0 : Int), f_Key := (Vector.replicate 32 (0 : Int) : (Vector Int 32)), f_N := (0 : Int), f_End := zqGR_0, f_P := zqGR_1 } : S_api_Field)) 46, cellsE b1 (Cd.cs c_pairline_Pair x0) 51])) 1 (by kernel_rfl) (by kernel_rfl) (by kernel_rfl) (by kernel_rfl) (by kernel_rfl) ⟨fun _ _ _ => rfl, fun _ _ _ => rfl, fun _ _ _ => rfl, fun _ _ _ => rfl, fun _ _ _ => rfl, fun _ _ _ => rfl, fun _ _ _ => rfl, fun _ _ _ => rfl, trivial⟩ (by kernel_rfl) (fun _ h => ⟨fun _ => (0, none, 0, none), h.drew⟩) ⟨?_, ?_, ?_, ?_, ?_, ?_, ?_, ?_, trivial⟩ ?_
   ·intro Lx g24 s K hl hh k
    show At 26 ((1, _) :: (2, _) :: (4, _) :: Lx) _ _
    refine av rfl (r_fieldAddr (fo := 0) Tryz.underlying46 rfl rfl (fun w => ⟨_, Tryz.sizeOf3 w⟩) rfl) ?_
    exact at_nil k
   ·intro Lx g24 s K hl hh k
    show At 26 ((14, _) :: (1, _) :: (2, _) :: (4, _) :: Lx) _ _
    obtain rfl : s = 0 := by omega
    refine av rfl (r_load_cell Tryz.isAgg3 rfl (lens_cell0 (c := (cInt .i64)) (y := ({ ({ f_Word := (0 : Int), f_Key := (Vector.replicate 32 (0 : Int) : (Vector Int 32)), f_N := (0 : Int), f_End := zqGR_0, f_P := zqGR_1 } : S_api_Field) with f_Word := t3 }).f_Word) .z (Lens.comp (Lens.whole _ _) (fun z => { { ({ f_Word := (0 : Int), f_Key := (Vector.replicate 32 (0 : Int) : (Vector Int 32)), f_N := (0 : Int), f_End := zqGR_0, f_P := zqGR_1 } : S_api_Field) with f_Word := t3 } with f_Word := z }) (c_api_Field_f_Word ({ ({ f_Word := (0 : Int), f_Key := (Vector.replicate 32 (0 : Int) : (Vector Int 32)), f_N := (0 : Int), f_End := zqGR_0, f_P := zqGR_1 } : S_api_Field) with f_Word := t3 }))) rfl)) ?_
    exact at_nil k
   ·intro Lx g24 s K hl hh k
    show At 26 ((15, _) :: (1, _) :: (2, _) :: (4, _) :: Lx) _ _
    obtain rfl : s = 0 := by omega
    refine at_callB Tryz.func37 rfl (by kernel_rfl) rfl rfl (fun w hw => (field_shapeOf_ok _ _ ht6 w).mono (by intro e w' h; obtain ⟨v, he, hv, hb⟩ := h; exact ⟨he.trans (congrArg Ending.returned hv), hb⟩)) ?_
    exact at_nil k
   ·intro Lx g24 s K hl hh k
    show At 26 ((16, _) :: (1, _) :: (2, _) :: (4, _) :: Lx) _ _
    refine av rfl (r_fieldR (fo := 0) Tryz.underlying81 rfl rfl Tryz.isAgg77 rfl rfl) ?_
    exact at_nil k
   ·intro Lx g24 s K hl hh k
    show At 26 ((1, _) :: (2, _) :: (4, _) :: Lx) _ _
    refine av rfl (r_fieldAddr (fo := 1) Tryz.underlying51 rfl rfl (fun w => ⟨_, Tryz.sizeOf9 w⟩) rfl) ?_
    exact at_nil k
   ·intro Lx g24 s K hl hh k
    show At 26 ((18, _) :: (1, _) :: (2, _) :: (4, _) :: Lx) _ _
    obtain rfl : s = 0 := by omega
    refine av rfl (r_load_cell Tryz.isAgg9 rfl (lens_cell0 (c := cStr) (y := x0.f_Value) (.s (.s .z)) (Lens.comp (Lens.whole _ _) (fun z => { x0 with f_Value := z }) (c_pairline_Pair_f_Value x0)) rfl)) ?_
    exact at_nil k
   ·intro Lx g24 K k
    show At 26 ((17, _) :: (19, _) :: (1, _) :: (2, _) :: (4, _) :: Lx) _ _
    refine at_callee rfl ?_
    refine at_callP (E' := cellsE b4 (Cd.cs c_api_Field t23.2) 46) Tryz.func115 rfl (by kernel_rfl) rfl rfl (fun w hw => field_said_1_ok _ _ _ _ ht23 w .z hw) ?_
    exact at_nil k
   ·intro Lx g24 s K hl hh k
    show At 26 ((20, _) :: (1, _) :: (2, _) :: (4, _) :: Lx) _ _
    refine av rfl (r_assign rfl) ?_
    exact at_nil k
   intro g24
   show At 26 [(14, _), (15, _), (16, _), (17, _), (18, _), (19, _), (20, _), (5, _), (1, _), (2, _), (4, _)] _ _
   refine at_drop (H := _) (.s (.s .z)) ?_
   refine at_weak [(2, _), (4, _), (5, _)] ⟨rfl, rfl, rfl, trivial⟩ ?_
   refine at_then_normal ?_
   refine sr ?_
   refine av rfl (r_move rfl) ?_
   refine av rfl (r_ineq rfl rfl) ?_
   refine nwt [(2, _), (4, _), (5, _), (22, _)] ⟨rfl, rfl, rfl, rfl, trivial⟩ ?_
   rcases of_ite hF with ⟨h25, hF⟩ | ⟨h25, hF⟩
   ·refine at_cond_true rfl h25 ?_
    refine sr ?_
    refine av rfl (r_build_struct (zs := Cd.cs c_api_Field ({ f_Word := (0 : Int), f_Key := (Vector.replicate 32 (0 : Int) : (Vector Int 32)), f_N := (0 : Int), f_End := zqGR_0, f_P := zqGR_1 } : S_api_Field)) (cs := Cd.cs c_api_Field ({ f_Word := (0 : Int), f_Key := (Vector.replicate 32 (0 : Int) : (Vector Int 32)), f_N := (0 : Int), f_End := zqGR_0, f_P := zqGR_1 } : S_api_Field)) Tryz.underlying46 Tryz.zeroValue46 rfl (places_api_Field_46) rfl rfl) ?_
    refine av rfl (r_move rfl) ?_
    refine at_store (c := c_api_Field) (z := ({ f_Word := (0 : Int), f_Key := (Vector.replicate 32 (0 : Int) : (Vector Int 32)), f_N := (0 : Int), f_End := zqGR_0, f_P := zqGR_1 } : S_api_Field)) (.s .z) (Lens.whole _ _) Tryz.sizeOf46 rfl rfl rfl ?_
    refine av rfl (r_assign rfl) ?_
    refine at_nil ?_
    refine at_drop (H := _) .z ?_
    refine at_weak [(2, _), (3, _)] ⟨rfl, rfl, trivial⟩ ?_
    refine at_then_normal ?_
    refine rt ?_
    have K := of_some hF
    subst K
    exact at_res2 rfl (res_cell (c := c_api_Field) (y := ({ f_Word := (0 : Int), f_Key := (Vector.replicate 32 (0 : Int) : (Vector Int 32)), f_N := (0 : Int), f_End := zqGR_0, f_P := zqGR_1 } : S_api_Field)) rfl .z (Lens.whole _ _) Tryz.isAgg46 Tryz.sizeOf46 (.inl rfl)) (res_tmp rfl) (fun w1 hw => ⟨rfl, hw.below⟩)
   ·refine at_cond_false rfl h25 ?_
    refine sns ?_
    refine av rfl (r_load_aggc (c := c_api_Field) (z := t23.2) Tryz.isAgg46 Tryz.sizeOf46 rfl (lens_cell .z (Lens.whole _ _))) ?_
    refine at_store (c := c_api_Field) (z := t23.2) (.s .z) (Lens.whole _ _) Tryz.sizeOf46 rfl rfl rfl ?_
    refine av rfl (r_assign rfl) ?_
    refine at_nil ?_
    refine at_drop (H := _) .z ?_
    refine at_weak [(2, _), (3, _)] ⟨rfl, rfl, trivial⟩ ?_
    refine at_then_normal ?_
    refine at_ret ?_
    have K := of_some hF
    subst K
    exact at_res2 rfl (res_cell (c := c_api_Field) (y := t23.2) rfl .z (Lens.whole _ _) Tryz.isAgg46 Tryz.sizeOf46 (.inl rfl)) (res_tmp rfl) (fun w1 hw => ⟨rfl, hw.below⟩)
def field_Right (x0 : S_api_Field) : Option (Bool) :=
  field_Name x0.f_Word >>= fun t2 => if (seq t2 (⟨#[]⟩ : ByteArray)) = true then (some false) else (field_shapeOf x0.f_Word >>= fun t4 => (match t4 with | .s0 => (field_keyed_2 x0 >>= fun t6 => if t6.2 = true then (field_keyed_3 x0 >>= fun t8 => some (decide (t8 = { ({ f_Word := (0 : Int), f_Key := (Vector.replicate 32 (0 : Int) : (Vector Int 32)), f_N := (0 : Int), f_End := ({ f_A := ({ f_V := (0 : Int), f_B := (Vector.replicate 16 (0 : Int) : (Vector Int 16)) } : S_api_Addr), f_Port := (0 : Int) } : S_api_Endpoint), f_P := ({ f_A := ({ f_V := (0 : Int), f_B := (Vector.replicate 16 (0 : Int) : (Vector Int 16)) } : S_api_Addr), f_Bits := (0 : Int) } : S_api_Prefix) } : S_api_Field) with f_Word := x0.f_Word }))) else (some false)) | .s1 => (field_ended_2 x0 >>= fun t10 => if t10.2 = true then (field_ended_3 x0 >>= fun t12 => some (decide (t12 = { ({ f_Word := (0 : Int), f_Key := (Vector.replicate 32 (0 : Int) : (Vector Int 32)), f_N := (0 : Int), f_End := ({ f_A := ({ f_V := (0 : Int), f_B := (Vector.replicate 16 (0 : Int) : (Vector Int 16)) } : S_api_Addr), f_Port := (0 : Int) } : S_api_Endpoint), f_P := ({ f_A := ({ f_V := (0 : Int), f_B := (Vector.replicate 16 (0 : Int) : (Vector Int 16)) } : S_api_Addr), f_Bits := (0 : Int) } : S_api_Prefix) } : S_api_Field) with f_Word := x0.f_Word }))) else (some false)) | .s2 => (field_allowed_2 x0 >>= fun t14 => if t14.2 = true then (field_allowed_3 x0 >>= fun t16 => some (decide (t16 = { ({ f_Word := (0 : Int), f_Key := (Vector.replicate 32 (0 : Int) : (Vector Int 32)), f_N := (0 : Int), f_End := ({ f_A := ({ f_V := (0 : Int), f_B := (Vector.replicate 16 (0 : Int) : (Vector Int 16)) } : S_api_Addr), f_Port := (0 : Int) } : S_api_Endpoint), f_P := ({ f_A := ({ f_V := (0 : Int), f_B := (Vector.replicate 16 (0 : Int) : (Vector Int 16)) } : S_api_Addr), f_Bits := (0 : Int) } : S_api_Prefix) } : S_api_Field) with f_Word := x0.f_Word }))) else (some false)) | .s3 a17 a18 => (field_counted_2 x0 a18 a17 >>= fun t22 => if t22.2 = true then (field_counted_3 x0 >>= fun t24 => some (decide (t24 = { ({ f_Word := (0 : Int), f_Key := (Vector.replicate 32 (0 : Int) : (Vector Int 32)), f_N := (0 : Int), f_End := ({ f_A := ({ f_V := (0 : Int), f_B := (Vector.replicate 16 (0 : Int) : (Vector Int 16)) } : S_api_Addr), f_Port := (0 : Int) } : S_api_Endpoint), f_P := ({ f_A := ({ f_V := (0 : Int), f_B := (Vector.replicate 16 (0 : Int) : (Vector Int 16)) } : S_api_Addr), f_Bits := (0 : Int) } : S_api_Prefix) } : S_api_Field) with f_Word := x0.f_Word }))) else (some false)) | .s4 => (field_said_2 x0 >>= fun t26 => if t26.2 = true then (field_said_3 x0 >>= fun t28 => some (decide (t28 = { ({ f_Word := (0 : Int), f_Key := (Vector.replicate 32 (0 : Int) : (Vector Int 32)), f_N := (0 : Int), f_End := ({ f_A := ({ f_V := (0 : Int), f_B := (Vector.replicate 16 (0 : Int) : (Vector Int 16)) } : S_api_Addr), f_Port := (0 : Int) } : S_api_Endpoint), f_P := ({ f_A := ({ f_V := (0 : Int), f_B := (Vector.replicate 16 (0 : Int) : (Vector Int 16)) } : S_api_Addr), f_Bits := (0 : Int) } : S_api_Prefix) } : S_api_Field) with f_Word := x0.f_Word }))) else (some false))))
theorem field_Right_ok (x0 : S_api_Field) (r : Bool) (hF : field_Right x0 = some r) (w : World) (hg_bytealg_MaxLen : GV_bytealg_MaxLen w) (hg_field_names : GV_field_names w) (hg_strconv_ErrRange : GV_strconv_ErrRange w) (hg_strconv_ErrSyntax : GV_strconv_ErrSyntax w) (hg_strconv_uint64pow10 : GV_strconv_uint64pow10 w) :
    Calls Tryz.prog 21 #[.agg (Cd.cs c_api_Field x0).toArray] w (fun e w' => e = .returned (.bool r) ∧ Below w.heap.size w w') := by
 unfold field_Right at hF
 refine calls_enter (l := [.agg (Cd.cs c_api_Field x0).toArray]) Tryz.func21 rfl rfl rfl ?_
 refine at_start ?_
 refine at_weak [(0, _)] ⟨rfl, trivial⟩ ?_
 refine sr ?_
 refine at_box (cs := Cd.cs c_api_Field x0) rfl rfl rfl ?_
 intro b1
 refine av rfl (r_assign rfl) ?_
 refine nwt [(1, _)] ⟨rfl, trivial⟩ ?_
 refine at_seq ?_
 refine sr ?_
 refine av rfl (r_fieldAddr (fo := 0) Tryz.underlying46 rfl rfl (fun w => ⟨_, Tryz.sizeOf3 w⟩) rfl) ?_
 refine av rfl (r_load_cell Tryz.isAgg3 rfl (lens_cell0 (c := (cInt .i64)) (y := x0.f_Word) .z (Lens.comp (Lens.whole _ _) (fun z => { x0 with f_Word := z }) (c_api_Field_f_Word x0)) rfl)) ?_
 obtain ⟨t2, ht2, hF⟩ := of_bindM hF
 refine at_callB Tryz.func15 rfl (by kernel_rfl) rfl rfl (fun w hw => callB_of_call0 (field_Name_ok _ _ ht2 w (hg_field_names.on hw.below))) ?_
 refine av rfl (r_seql rfl rfl) ?_
 refine nwt [(1, _), (9, _)] ⟨rfl, rfl, trivial⟩ ?_
 rcases of_ite hF with ⟨h3, hF⟩ | ⟨h3, hF⟩
 ·refine at_cond_true rfl h3 ?_
  refine sr ?_
  refine av rfl (r_assign rfl) ?_
  refine at_nil ?_
  refine at_drop (H := _) .z ?_
  refine at_weak [(2, _)] ⟨rfl, trivial⟩ ?_
  refine at_then_normal ?_
  refine rt ?_
  have K := of_some hF
  subst K
  exact at_return1 rfl rfl (fun w1 hw => ⟨rfl, hw.below⟩)
 ·refine at_cond_false rfl h3 ?_
  refine sns ?_
  refine av rfl (r_fieldAddr (fo := 0) Tryz.underlying46 rfl rfl (fun w => ⟨_, Tryz.sizeOf3 w⟩) rfl) ?_
  refine av rfl (r_load_cell Tryz.isAgg3 rfl (lens_cell0 (c := (cInt .i64)) (y := x0.f_Word) .z (Lens.comp (Lens.whole _ _) (fun z => { x0 with f_Word := z }) (c_api_Field_f_Word x0)) rfl)) ?_
  obtain ⟨t4, ht4, hF⟩ := of_bindM hF
  cases t4 with
  | s0 =>
   refine at_callB Tryz.func37 rfl (by kernel_rfl) rfl rfl (fun w hw => (field_shapeOf_ok _ _ ht4 w).mono (by intro e w' h; obtain ⟨v, he, hv, hb⟩ := h; exact ⟨he.trans (congrArg Ending.returned hv), hb⟩)) ?_
   refine at_alloc (cs := [.nilFunc, .nilFunc, .nilFunc]) Tryz.zeroValue81 rfl rfl ?_
   intro b5
   refine at_storeAll (k := 3) (cs := [.func (.func 93) #[] #[], .func (.func 95) #[] #[], .func (.func 97) #[] #[]]) .z (by decide) ⟨rfl, by simp [Value.oneCell']⟩ ⟨rfl, by simp [Value.oneCell']⟩ Tryz.sizeOf81 rfl rfl rfl ?_
   refine nws [(1, _), (3, _)] ⟨rfl, rfl, trivial⟩ ?_
   refine av rfl (r_fieldAddr (fo := 1) Tryz.underlying81 rfl rfl (fun w => ⟨_, Tryz.sizeOf78 w⟩) rfl) ?_
   refine av rfl (r_load_cell Tryz.isAgg78 rfl (fun w1 hw => cells_get (hw.ok (Upd.mem .z)) 1 _ rfl)) ?_
   refine av rfl (r_load_aggc (c := c_api_Field) (z := x0) Tryz.isAgg46 Tryz.sizeOf46 rfl (lens_cell (.s .z) (Lens.whole _ _))) ?_
   refine at_callee rfl ?_
   obtain ⟨t6, ht6, hF⟩ := of_bindM hF
   refine at_callB Tryz.func95 rfl (by kernel_rfl) rfl rfl (fun w hw => field_keyed_2_ok _ _ ht6 w) ?_
   refine av rfl (r_move rfl) ?_
   refine av rfl (r_extract rfl rfl) ?_
   refine av rfl (r_extract rfl rfl) ?_
   refine av rfl (r_assign rfl) ?_
   refine av rfl (r_assign rfl) ?_
   refine nwt [(1, _), (3, _), (5, _)] ⟨rfl, rfl, rfl, trivial⟩ ?_
   refine at_seq ?_
   refine at_draw (by kernel_rfl) (by kernel_rfl) (fun _ h => h.drew) ?_
   refine atq_val rfl rfl rfl (r_move rfl) ?_
   refine atq_val rfl rfl rfl (r_move rfl) ?_
   rcases of_ite hF with ⟨h7, hF⟩ | ⟨h7, hF⟩
   ·refine atq_fix (g := 21) rfl h7 ?_
    refine atq_guard_yes rfl rfl rfl ?_
    refine atq_val rfl rfl rfl (r_fieldAddr (fo := 2) Tryz.underlying81 rfl rfl (fun w => ⟨_, Tryz.sizeOf79 w⟩) rfl) ?_
    refine atq_guard_yes rfl rfl rfl ?_
    refine atq_val rfl rfl rfl (r_load_cell Tryz.isAgg79 rfl (fun w1 hw => cells_get (hw.ok (Upd.mem .z)) 2 _ rfl)) ?_
    refine atq_guard_yes rfl rfl rfl ?_
    refine atq_val rfl rfl rfl (r_load_aggc (c := c_api_Field) (z := x0) Tryz.isAgg46 Tryz.sizeOf46 rfl (lens_cell (.s .z) (Lens.whole _ _))) ?_
    refine atq_guard_yes rfl rfl rfl ?_
    refine atq_callee rfl ?_
    obtain ⟨t8, ht8, hF⟩ := of_bindM hF
    refine atq_call Tryz.func97 rfl (by kernel_rfl) rfl rfl (fun w hw => (field_keyed_3_ok _ _ ht8 w).mono fun _ _ h => ⟨h.1, hw.call h.2⟩) ?_
    refine atq_guard_yes rfl rfl rfl ?_
    refine atq_val rfl rfl rfl (r_fieldAddr (fo := 0) Tryz.underlying46 rfl rfl (fun w => ⟨_, Tryz.sizeOf3 w⟩) rfl) ?_
    refine atq_guard_yes rfl rfl rfl ?_
    refine atq_val rfl rfl rfl (r_load_cell Tryz.isAgg3 rfl (lens_cell0 (c := (cInt .i64)) (y := x0.f_Word) (.s .z) (Lens.comp (Lens.whole _ _) (fun z => { x0 with f_Word := z }) (c_api_Field_f_Word x0)) rfl)) ?_
    refine atq_guard_yes rfl rfl rfl ?_
    refine atq_val rfl rfl rfl (r_build_struct (zs := Cd.cs c_api_Field ({ f_Word := (0 : Int), f_Key := (Vector.replicate 32 (0 : Int) : (Vector Int 32)), f_N := (0 : Int), f_End := zqGR_0, f_P := zqGR_1 } : S_api_Field)) (cs := Cd.cs c_api_Field ({ ({ f_Word := (0 : Int), f_Key := (Vector.replicate 32 (0 : Int) : (Vector Int 32)), f_N := (0 : Int), f_End := zqGR_0, f_P := zqGR_1 } : S_api_Field) with f_Word := x0.f_Word })) Tryz.underlying46 Tryz.zeroValue46 rfl (places_api_Field_46) rfl (fill_step (c := (cInt .i64)) (z := x0.f_Word) rfl (c_api_Field_f_Word ({ f_Word := (0 : Int), f_Key := (Vector.replicate 32 (0 : Int) : (Vector Int 32)), f_N := (0 : Int), f_End := zqGR_0, f_P := zqGR_1 } : S_api_Field)) rfl rfl)) ?_
    refine atq_guard_yes rfl rfl rfl ?_
    refine atq_val rfl rfl rfl (r_eqagg (c := c_api_Field) (a := t8) (b := { ({ f_Word := (0 : Int), f_Key := (Vector.replicate 32 (0 : Int) : (Vector Int 32)), f_N := (0 : Int), f_End := zqGR_0, f_P := zqGR_1 } : S_api_Field) with f_Word := x0.f_Word }) (eq_api_Field_46) rfl Tryz.eqGuardType46 rfl rfl (.inl rfl) rfl) ?_
    refine atq_val rfl rfl rfl (r_pick rfl rfl rfl) ?_
    refine atq_val rfl rfl rfl (r_assign rfl) ?_
    refine atq_nil ?_
    refine at_drop (H := _) .z ?_
    refine at_drop (H := _) .z ?_
    refine at_weak [(2, _)] ⟨rfl, trivial⟩ ?_
    refine at_then_normal ?_
    refine at_ret ?_
    have K := of_some hF
    subst K
    exact at_return1 rfl rfl (fun w1 hw => ⟨rfl, hw.below⟩)
   ·refine atq_fix (g := 21) rfl h7 ?_
    refine atq_guard_no rfl rfl rfl rfl rfl ?_
    refine atq_guard_no rfl rfl rfl rfl rfl ?_
    refine atq_guard_no rfl rfl rfl rfl rfl ?_
    refine atq_guard_no rfl rfl rfl rfl rfl ?_
    refine atq_guard_no rfl rfl rfl rfl rfl ?_
    refine atq_guard_no rfl rfl rfl rfl rfl ?_
    refine atq_guard_no rfl rfl rfl rfl rfl ?_
    refine atq_guard_no rfl rfl rfl rfl rfl ?_
    refine atq_val rfl rfl rfl (r_pick rfl rfl rfl) ?_
    refine atq_val rfl rfl rfl (r_assign rfl) ?_
    refine atq_nil ?_
    refine at_drop (H := _) .z ?_
    refine at_drop (H := _) .z ?_
    refine at_weak [(2, _)] ⟨rfl, trivial⟩ ?_
    refine at_then_normal ?_
    refine at_ret ?_
    have K := of_some hF
    subst K
    exact at_return1 rfl rfl (fun w1 hw => ⟨rfl, hw.below⟩)
  | s1 =>
   refine at_callB Tryz.func37 rfl (by kernel_rfl) rfl rfl (fun w hw => (field_shapeOf_ok _ _ ht4 w).mono (by intro e w' h; obtain ⟨v, he, hv, hb⟩ := h; exact ⟨he.trans (congrArg Ending.returned hv), hb⟩)) ?_
   refine at_alloc (cs := [.nilFunc, .nilFunc, .nilFunc]) Tryz.zeroValue81 rfl rfl ?_
   intro b9
   refine at_storeAll (k := 3) (cs := [.func (.func 98) #[] #[], .func (.func 100) #[] #[], .func (.func 103) #[] #[]]) .z (by decide) ⟨rfl, by simp [Value.oneCell']⟩ ⟨rfl, by simp [Value.oneCell']⟩ Tryz.sizeOf81 rfl rfl rfl ?_
   refine nws [(1, _), (3, _)] ⟨rfl, rfl, trivial⟩ ?_
   refine av rfl (r_fieldAddr (fo := 1) Tryz.underlying81 rfl rfl (fun w => ⟨_, Tryz.sizeOf78 w⟩) rfl) ?_
   refine av rfl (r_load_cell Tryz.isAgg78 rfl (fun w1 hw => cells_get (hw.ok (Upd.mem .z)) 1 _ rfl)) ?_
   refine av rfl (r_load_aggc (c := c_api_Field) (z := x0) Tryz.isAgg46 Tryz.sizeOf46 rfl (lens_cell (.s .z) (Lens.whole _ _))) ?_
   refine at_callee rfl ?_
   obtain ⟨t10, ht10, hF⟩ := of_bindM hF
   refine at_callB Tryz.func100 rfl (by kernel_rfl) rfl rfl (fun w hw => field_ended_2_ok _ _ ht10 w (hg_strconv_uint64pow10.on hw.below)) ?_
   refine av rfl (r_move rfl) ?_
   refine av rfl (r_extract rfl rfl) ?_
   refine av rfl (r_extract rfl rfl) ?_
   refine av rfl (r_assign rfl) ?_
   refine av rfl (r_assign rfl) ?_
   refine nwt [(1, _), (3, _), (5, _)] ⟨rfl, rfl, rfl, trivial⟩ ?_
   refine at_seq ?_
   refine at_draw (by kernel_rfl) (by kernel_rfl) (fun _ h => h.drew) ?_
   refine atq_val rfl rfl rfl (r_move rfl) ?_
   refine atq_val rfl rfl rfl (r_move rfl) ?_
   rcases of_ite hF with ⟨h11, hF⟩ | ⟨h11, hF⟩
   ·refine atq_fix (g := 21) rfl h11 ?_
    refine atq_guard_yes rfl rfl rfl ?_
    refine atq_val rfl rfl rfl (r_fieldAddr (fo := 2) Tryz.underlying81 rfl rfl (fun w => ⟨_, Tryz.sizeOf79 w⟩) rfl) ?_
    refine atq_guard_yes rfl rfl rfl ?_
    refine atq_val rfl rfl rfl (r_load_cell Tryz.isAgg79 rfl (fun w1 hw => cells_get (hw.ok (Upd.mem .z)) 2 _ rfl)) ?_
    refine atq_guard_yes rfl rfl rfl ?_
    refine atq_val rfl rfl rfl (r_load_aggc (c := c_api_Field) (z := x0) Tryz.isAgg46 Tryz.sizeOf46 rfl (lens_cell (.s .z) (Lens.whole _ _))) ?_
    refine atq_guard_yes rfl rfl rfl ?_
    refine atq_callee rfl ?_
    obtain ⟨t12, ht12, hF⟩ := of_bindM hF
    refine atq_call Tryz.func103 rfl (by kernel_rfl) rfl rfl (fun w hw => (field_ended_3_ok _ _ ht12 w).mono fun _ _ h => ⟨h.1, hw.call h.2⟩) ?_
    refine atq_guard_yes rfl rfl rfl ?_
    refine atq_val rfl rfl rfl (r_fieldAddr (fo := 0) Tryz.underlying46 rfl rfl (fun w => ⟨_, Tryz.sizeOf3 w⟩) rfl) ?_
    refine atq_guard_yes rfl rfl rfl ?_
    refine atq_val rfl rfl rfl (r_load_cell Tryz.isAgg3 rfl (lens_cell0 (c := (cInt .i64)) (y := x0.f_Word) (.s .z) (Lens.comp (Lens.whole _ _) (fun z => { x0 with f_Word := z }) (c_api_Field_f_Word x0)) rfl)) ?_
    refine atq_guard_yes rfl rfl rfl ?_
    refine atq_val rfl rfl rfl (r_build_struct (zs := Cd.cs c_api_Field ({ f_Word := (0 : Int), f_Key := (Vector.replicate 32 (0 : Int) : (Vector Int 32)), f_N := (0 : Int), f_End := zqGR_0, f_P := zqGR_1 } : S_api_Field)) (cs := Cd.cs c_api_Field ({ ({ f_Word := (0 : Int), f_Key := (Vector.replicate 32 (0 : Int) : (Vector Int 32)), f_N := (0 : Int), f_End := zqGR_0, f_P := zqGR_1 } : S_api_Field) with f_Word := x0.f_Word })) Tryz.underlying46 Tryz.zeroValue46 rfl (places_api_Field_46) rfl (fill_step (c := (cInt .i64)) (z := x0.f_Word) rfl (c_api_Field_f_Word ({ f_Word := (0 : Int), f_Key := (Vector.replicate 32 (0 : Int) : (Vector Int 32)), f_N := (0 : Int), f_End := zqGR_0, f_P := zqGR_1 } : S_api_Field)) rfl rfl)) ?_
    refine atq_guard_yes rfl rfl rfl ?_
    refine atq_val rfl rfl rfl (r_eqagg (c := c_api_Field) (a := t12) (b := { ({ f_Word := (0 : Int), f_Key := (Vector.replicate 32 (0 : Int) : (Vector Int 32)), f_N := (0 : Int), f_End := zqGR_0, f_P := zqGR_1 } : S_api_Field) with f_Word := x0.f_Word }) (eq_api_Field_46) rfl Tryz.eqGuardType46 rfl rfl (.inl rfl) rfl) ?_
    refine atq_val rfl rfl rfl (r_pick rfl rfl rfl) ?_
    refine atq_val rfl rfl rfl (r_assign rfl) ?_
    refine atq_nil ?_
    refine at_drop (H := _) .z ?_
    refine at_drop (H := _) .z ?_
    refine at_weak [(2, _)] ⟨rfl, trivial⟩ ?_
    refine at_then_normal ?_
    refine at_ret ?_
    have K := of_some hF
    subst K
    exact at_return1 rfl rfl (fun w1 hw => ⟨rfl, hw.below⟩)
   ·refine atq_fix (g := 21) rfl h11 ?_
    refine atq_guard_no rfl rfl rfl rfl rfl ?_
    refine atq_guard_no rfl rfl rfl rfl rfl ?_
    refine atq_guard_no rfl rfl rfl rfl rfl ?_
    refine atq_guard_no rfl rfl rfl rfl rfl ?_
    refine atq_guard_no rfl rfl rfl rfl rfl ?_
    refine atq_guard_no rfl rfl rfl rfl rfl ?_
    refine atq_guard_no rfl rfl rfl rfl rfl ?_
    refine atq_guard_no rfl rfl rfl rfl rfl ?_
    refine atq_val rfl rfl rfl (r_pick rfl rfl rfl) ?_
    refine atq_val rfl rfl rfl (r_assign rfl) ?_
    refine atq_nil ?_
    refine at_drop (H := _) .z ?_
    refine at_drop (H := _) .z ?_
    refine at_weak [(2, _)] ⟨rfl, trivial⟩ ?_
    refine at_then_normal ?_
    refine at_ret ?_
    have K := of_some hF
    subst K
    exact at_return1 rfl rfl (fun w1 hw => ⟨rfl, hw.below⟩)
  | s2 =>
   refine at_callB Tryz.func37 rfl (by kernel_rfl) rfl rfl (fun w hw => (field_shapeOf_ok _ _ ht4 w).mono (by intro e w' h; obtain ⟨v, he, hv, hb⟩ := h; exact ⟨he.trans (congrArg Ending.returned hv), hb⟩)) ?_
   refine at_alloc (cs := [.nilFunc, .nilFunc, .nilFunc]) Tryz.zeroValue81 rfl rfl ?_
   intro b13
   refine at_storeAll (k := 3) (cs := [.func (.func 104) #[] #[], .func (.func 106) #[] #[], .func (.func 109) #[] #[]]) .z (by decide) ⟨rfl, by simp [Value.oneCell']⟩ ⟨rfl, by simp [Value.oneCell']⟩ Tryz.sizeOf81 rfl rfl rfl ?_
   refine nws [(1, _), (3, _)] ⟨rfl, rfl, trivial⟩ ?_
   refine av rfl (r_fieldAddr (fo := 1) Tryz.underlying81 rfl rfl (fun w => ⟨_, Tryz.sizeOf78 w⟩) rfl) ?_
   refine av rfl (r_load_cell Tryz.isAgg78 rfl (fun w1 hw => cells_get (hw.ok (Upd.mem .z)) 1 _ rfl)) ?_
   refine av rfl (r_load_aggc (c := c_api_Field) (z := x0) Tryz.isAgg46 Tryz.sizeOf46 rfl (lens_cell (.s .z) (Lens.whole _ _))) ?_
   refine at_callee rfl ?_
   obtain ⟨t14, ht14, hF⟩ := of_bindM hF
   refine at_callB Tryz.func106 rfl (by kernel_rfl) rfl rfl (fun w hw => field_allowed_2_ok _ _ ht14 w (hg_strconv_uint64pow10.on hw.below)) ?_
   refine av rfl (r_move rfl) ?_
   refine av rfl (r_extract rfl rfl) ?_
   refine av rfl (r_extract rfl rfl) ?_
   refine av rfl (r_assign rfl) ?_
   refine av rfl (r_assign rfl) ?_
   refine nwt [(1, _), (3, _), (5, _)] ⟨rfl, rfl, rfl, trivial⟩ ?_
   refine at_seq ?_
   refine at_draw (by kernel_rfl) (by kernel_rfl) (fun _ h => h.drew) ?_
   refine atq_val rfl rfl rfl (r_move rfl) ?_
   refine atq_val rfl rfl rfl (r_move rfl) ?_
   rcases of_ite hF with ⟨h15, hF⟩ | ⟨h15, hF⟩
   ·refine atq_fix (g := 21) rfl h15 ?_
    refine atq_guard_yes rfl rfl rfl ?_
    refine atq_val rfl rfl rfl (r_fieldAddr (fo := 2) Tryz.underlying81 rfl rfl (fun w => ⟨_, Tryz.sizeOf79 w⟩) rfl) ?_
    refine atq_guard_yes rfl rfl rfl ?_
    refine atq_val rfl rfl rfl (r_load_cell Tryz.isAgg79 rfl (fun w1 hw => cells_get (hw.ok (Upd.mem .z)) 2 _ rfl)) ?_
    refine atq_guard_yes rfl rfl rfl ?_
    refine atq_val rfl rfl rfl (r_load_aggc (c := c_api_Field) (z := x0) Tryz.isAgg46 Tryz.sizeOf46 rfl (lens_cell (.s .z) (Lens.whole _ _))) ?_
    refine atq_guard_yes rfl rfl rfl ?_
    refine atq_callee rfl ?_
    obtain ⟨t16, ht16, hF⟩ := of_bindM hF
    refine atq_call Tryz.func109 rfl (by kernel_rfl) rfl rfl (fun w hw => (field_allowed_3_ok _ _ ht16 w).mono fun _ _ h => ⟨h.1, hw.call h.2⟩) ?_
    refine atq_guard_yes rfl rfl rfl ?_
    refine atq_val rfl rfl rfl (r_fieldAddr (fo := 0) Tryz.underlying46 rfl rfl (fun w => ⟨_, Tryz.sizeOf3 w⟩) rfl) ?_
    refine atq_guard_yes rfl rfl rfl ?_
    refine atq_val rfl rfl rfl (r_load_cell Tryz.isAgg3 rfl (lens_cell0 (c := (cInt .i64)) (y := x0.f_Word) (.s .z) (Lens.comp (Lens.whole _ _) (fun z => { x0 with f_Word := z }) (c_api_Field_f_Word x0)) rfl)) ?_
    refine atq_guard_yes rfl rfl rfl ?_
    refine atq_val rfl rfl rfl (r_build_struct (zs := Cd.cs c_api_Field ({ f_Word := (0 : Int), f_Key := (Vector.replicate 32 (0 : Int) : (Vector Int 32)), f_N := (0 : Int), f_End := zqGR_0, f_P := zqGR_1 } : S_api_Field)) (cs := Cd.cs c_api_Field ({ ({ f_Word := (0 : Int), f_Key := (Vector.replicate 32 (0 : Int) : (Vector Int 32)), f_N := (0 : Int), f_End := zqGR_0, f_P := zqGR_1 } : S_api_Field) with f_Word := x0.f_Word })) Tryz.underlying46 Tryz.zeroValue46 rfl (places_api_Field_46) rfl (fill_step (c := (cInt .i64)) (z := x0.f_Word) rfl (c_api_Field_f_Word ({ f_Word := (0 : Int), f_Key := (Vector.replicate 32 (0 : Int) : (Vector Int 32)), f_N := (0 : Int), f_End := zqGR_0, f_P := zqGR_1 } : S_api_Field)) rfl rfl)) ?_
    refine atq_guard_yes rfl rfl rfl ?_
    refine atq_val rfl rfl rfl (r_eqagg (c := c_api_Field) (a := t16) (b := { ({ f_Word := (0 : Int), f_Key := (Vector.replicate 32 (0 : Int) : (Vector Int 32)), f_N := (0 : Int), f_End := zqGR_0, f_P := zqGR_1 } : S_api_Field) with f_Word := x0.f_Word }) (eq_api_Field_46) rfl Tryz.eqGuardType46 rfl rfl (.inl rfl) rfl) ?_
    refine atq_val rfl rfl rfl (r_pick rfl rfl rfl) ?_
    refine atq_val rfl rfl rfl (r_assign rfl) ?_
    refine atq_nil ?_
    refine at_drop (H := _) .z ?_
    refine at_drop (H := _) .z ?_
    refine at_weak [(2, _)] ⟨rfl, trivial⟩ ?_
    refine at_then_normal ?_
    refine at_ret ?_
    have K := of_some hF
    subst K
    exact at_return1 rfl rfl (fun w1 hw => ⟨rfl, hw.below⟩)
   ·refine atq_fix (g := 21) rfl h15 ?_
    refine atq_guard_no rfl rfl rfl rfl rfl ?_
    refine atq_guard_no rfl rfl rfl rfl rfl ?_
    refine atq_guard_no rfl rfl rfl rfl rfl ?_
    refine atq_guard_no rfl rfl rfl rfl rfl ?_
    refine atq_guard_no rfl rfl rfl rfl rfl ?_
    refine atq_guard_no rfl rfl rfl rfl rfl ?_
    refine atq_guard_no rfl rfl rfl rfl rfl ?_
    refine atq_guard_no rfl rfl rfl rfl rfl ?_
    refine atq_val rfl rfl rfl (r_pick rfl rfl rfl) ?_
    refine atq_val rfl rfl rfl (r_assign rfl) ?_
    refine atq_nil ?_
    refine at_drop (H := _) .z ?_
    refine at_drop (H := _) .z ?_
    refine at_weak [(2, _)] ⟨rfl, trivial⟩ ?_
    refine at_then_normal ?_
    refine at_ret ?_
    have K := of_some hF
    subst K
    exact at_return1 rfl rfl (fun w1 hw => ⟨rfl, hw.below⟩)
  | s3 a17 a18 =>
   refine at_callC2 (c1 := [.int .u64 a17]) (c2 := [.int .u64 a18]) (t1 := 31) (t2 := 31) (V := fun v_1 v_2 => .agg #[.func (.func 110) #[] #[.pointer (some ⟨v_1, 0, none⟩), .pointer (some ⟨v_2, 0, none⟩)], .func (.func 112) #[] #[.pointer (some ⟨v_2, 0, none⟩), .pointer (some ⟨v_1, 0, none⟩)], .func (.func 114) #[] #[]]) Tryz.func37 rfl (by kernel_rfl) rfl rfl (fun w hw => (field_shapeOf_ok _ _ ht4 w).mono (by intro e w' h; obtain ⟨v, he, hv, hb⟩ := h; obtain ⟨c0, c1, hv, hr⟩ := hv; exact ⟨c0, c1, he.trans (congrArg Ending.returned hv), hr, hb⟩)) ?_
   intro b19 b20
   refine at_alloc (cs := [.nilFunc, .nilFunc, .nilFunc]) Tryz.zeroValue81 rfl rfl ?_
   intro b21
   refine at_storeAll (k := 3) (cs := [.func (.func 110) #[] #[.pointer (some ⟨b19, 0, none⟩), .pointer (some ⟨b20, 0, none⟩)], .func (.func 112) #[] #[.pointer (some ⟨b20, 0, none⟩), .pointer (some ⟨b19, 0, none⟩)], .func (.func 114) #[] #[]]) .z (by decide) ⟨rfl, by simp [Value.oneCell']⟩ ⟨rfl, by simp [Value.oneCell']⟩ Tryz.sizeOf81 rfl rfl rfl ?_
   refine nws [(1, _), (3, _)] ⟨rfl, rfl, trivial⟩ ?_
   refine av rfl (r_fieldAddr (fo := 1) Tryz.underlying81 rfl rfl (fun w => ⟨_, Tryz.sizeOf78 w⟩) rfl) ?_
   refine av rfl (r_load_cell Tryz.isAgg78 rfl (fun w1 hw => cells_get (hw.ok (Upd.mem .z)) 1 _ rfl)) ?_
   refine av rfl (r_load_aggc (c := c_api_Field) (z := x0) Tryz.isAgg46 Tryz.sizeOf46 rfl (lens_cell (.s (.s (.s .z))) (Lens.whole _ _))) ?_
   refine at_calleeC (caps := [.pointer (some ⟨b20, 0, none⟩), .pointer (some ⟨b19, 0, none⟩)]) rfl ?_
   obtain ⟨t22, ht22, hF⟩ := of_bindM hF
   refine at_callB Tryz.func112 rfl (by kernel_rfl) rfl rfl (fun w hw => field_counted_2_ok _ _ _ _ _ _ ht22 w (cells_get (hw.ok (Upd.mem (.s (.s .z)))) 0 _ rfl) (cells_get (hw.ok (Upd.mem (.s .z))) 0 _ rfl) (hg_strconv_uint64pow10.on hw.below)) ?_
   refine av rfl (r_move rfl) ?_
   refine av rfl (r_extract rfl rfl) ?_
   refine av rfl (r_extract rfl rfl) ?_
   refine av rfl (r_assign rfl) ?_
   refine av rfl (r_assign rfl) ?_
   refine nwt [(1, _), (3, _), (5, _)] ⟨rfl, rfl, rfl, trivial⟩ ?_
   refine at_seq ?_
   refine at_draw (by kernel_rfl) (by kernel_rfl) (fun _ h => h.drew) ?_
   refine atq_val rfl rfl rfl (r_move rfl) ?_
   refine atq_val rfl rfl rfl (r_move rfl) ?_
   rcases of_ite hF with ⟨h23, hF⟩ | ⟨h23, hF⟩
   ·refine atq_fix (g := 21) rfl h23 ?_
    refine atq_guard_yes rfl rfl rfl ?_
    refine atq_val rfl rfl rfl (r_fieldAddr (fo := 2) Tryz.underlying81 rfl rfl (fun w => ⟨_, Tryz.sizeOf79 w⟩) rfl) ?_
    refine atq_guard_yes rfl rfl rfl ?_
    refine atq_val rfl rfl rfl (r_load_cell Tryz.isAgg79 rfl (fun w1 hw => cells_get (hw.ok (Upd.mem .z)) 2 _ rfl)) ?_
    refine atq_guard_yes rfl rfl rfl ?_
    refine atq_val rfl rfl rfl (r_load_aggc (c := c_api_Field) (z := x0) Tryz.isAgg46 Tryz.sizeOf46 rfl (lens_cell (.s (.s (.s .z))) (Lens.whole _ _))) ?_
    refine atq_guard_yes rfl rfl rfl ?_
    refine atq_callee rfl ?_
    obtain ⟨t24, ht24, hF⟩ := of_bindM hF
    refine atq_call Tryz.func114 rfl (by kernel_rfl) rfl rfl (fun w hw => (field_counted_3_ok _ _ ht24 w).mono fun _ _ h => ⟨h.1, hw.call h.2⟩) ?_
    refine atq_guard_yes rfl rfl rfl ?_
    refine atq_val rfl rfl rfl (r_fieldAddr (fo := 0) Tryz.underlying46 rfl rfl (fun w => ⟨_, Tryz.sizeOf3 w⟩) rfl) ?_
    refine atq_guard_yes rfl rfl rfl ?_
    refine atq_val rfl rfl rfl (r_load_cell Tryz.isAgg3 rfl (lens_cell0 (c := (cInt .i64)) (y := x0.f_Word) (.s (.s (.s .z))) (Lens.comp (Lens.whole _ _) (fun z => { x0 with f_Word := z }) (c_api_Field_f_Word x0)) rfl)) ?_
    refine atq_guard_yes rfl rfl rfl ?_
    refine atq_val rfl rfl rfl (r_build_struct (zs := Cd.cs c_api_Field ({ f_Word := (0 : Int), f_Key := (Vector.replicate 32 (0 : Int) : (Vector Int 32)), f_N := (0 : Int), f_End := zqGR_0, f_P := zqGR_1 } : S_api_Field)) (cs := Cd.cs c_api_Field ({ ({ f_Word := (0 : Int), f_Key := (Vector.replicate 32 (0 : Int) : (Vector Int 32)), f_N := (0 : Int), f_End := zqGR_0, f_P := zqGR_1 } : S_api_Field) with f_Word := x0.f_Word })) Tryz.underlying46 Tryz.zeroValue46 rfl (places_api_Field_46) rfl (fill_step (c := (cInt .i64)) (z := x0.f_Word) rfl (c_api_Field_f_Word ({ f_Word := (0 : Int), f_Key := (Vector.replicate 32 (0 : Int) : (Vector Int 32)), f_N := (0 : Int), f_End := zqGR_0, f_P := zqGR_1 } : S_api_Field)) rfl rfl)) ?_
    refine atq_guard_yes rfl rfl rfl ?_
    refine atq_val rfl rfl rfl (r_eqagg (c := c_api_Field) (a := t24) (b := { ({ f_Word := (0 : Int), f_Key := (Vector.replicate 32 (0 : Int) : (Vector Int 32)), f_N := (0 : Int), f_End := zqGR_0, f_P := zqGR_1 } : S_api_Field) with f_Word := x0.f_Word }) (eq_api_Field_46) rfl Tryz.eqGuardType46 rfl rfl (.inl rfl) rfl) ?_
    refine atq_val rfl rfl rfl (r_pick rfl rfl rfl) ?_
    refine atq_val rfl rfl rfl (r_assign rfl) ?_
    refine atq_nil ?_
    refine at_drop (H := _) .z ?_
    refine at_drop (H := _) .z ?_
    refine at_drop (H := _) .z ?_
    refine at_drop (H := _) .z ?_
    refine at_weak [(2, _)] ⟨rfl, trivial⟩ ?_
    refine at_then_normal ?_
    refine at_ret ?_
    have K := of_some hF
    subst K
    exact at_return1 rfl rfl (fun w1 hw => ⟨rfl, hw.below⟩)
   ·refine atq_fix (g := 21) rfl h23 ?_
    refine atq_guard_no rfl rfl rfl rfl rfl ?_
    refine atq_guard_no rfl rfl rfl rfl rfl ?_
    refine atq_guard_no rfl rfl rfl rfl rfl ?_
    refine atq_guard_no rfl rfl rfl rfl rfl ?_
    refine atq_guard_no rfl rfl rfl rfl rfl ?_
    refine atq_guard_no rfl rfl rfl rfl rfl ?_
    refine atq_guard_no rfl rfl rfl rfl rfl ?_
    refine atq_guard_no rfl rfl rfl rfl rfl ?_
    refine atq_val rfl rfl rfl (r_pick rfl rfl rfl) ?_
    refine atq_val rfl rfl rfl (r_assign rfl) ?_
    refine atq_nil ?_
    refine at_drop (H := _) .z ?_
    refine at_drop (H := _) .z ?_
    refine at_drop (H := _) .z ?_
    refine at_drop (H := _) .z ?_
    refine at_weak [(2, _)] ⟨rfl, trivial⟩ ?_
    refine at_then_normal ?_
    refine at_ret ?_
    have K := of_some hF
    subst K
    exact at_return1 rfl rfl (fun w1 hw => ⟨rfl, hw.below⟩)
  | s4 =>
   refine at_callB Tryz.func37 rfl (by kernel_rfl) rfl rfl (fun w hw => (field_shapeOf_ok _ _ ht4 w).mono (by intro e w' h; obtain ⟨v, he, hv, hb⟩ := h; exact ⟨he.trans (congrArg Ending.returned hv), hb⟩)) ?_
   refine at_alloc (cs := [.nilFunc, .nilFunc, .nilFunc]) Tryz.zeroValue81 rfl rfl ?_
   intro b25
   refine at_storeAll (k := 3) (cs := [.func (.func 115) #[] #[], .func (.func 116) #[] #[], .func (.func 117) #[] #[]]) .z (by decide) ⟨rfl, by simp [Value.oneCell']⟩ ⟨rfl, by simp [Value.oneCell']⟩ Tryz.sizeOf81 rfl rfl rfl ?_
   refine nws [(1, _), (3, _)] ⟨rfl, rfl, trivial⟩ ?_
   refine av rfl (r_fieldAddr (fo := 1) Tryz.underlying81 rfl rfl (fun w => ⟨_, Tryz.sizeOf78 w⟩) rfl) ?_
   refine av rfl (r_load_cell Tryz.isAgg78 rfl (fun w1 hw => cells_get (hw.ok (Upd.mem .z)) 1 _ rfl)) ?_
   refine av rfl (r_load_aggc (c := c_api_Field) (z := x0) Tryz.isAgg46 Tryz.sizeOf46 rfl (lens_cell (.s .z) (Lens.whole _ _))) ?_
   refine at_callee rfl ?_
   obtain ⟨t26, ht26, hF⟩ := of_bindM hF
   refine at_callB Tryz.func116 rfl (by kernel_rfl) rfl rfl (fun w hw => field_said_2_ok _ _ ht26 w) ?_
   refine av rfl (r_move rfl) ?_
   refine av rfl (r_extract rfl rfl) ?_
   refine av rfl (r_extract rfl rfl) ?_
   refine av rfl (r_assign rfl) ?_
   refine av rfl (r_assign rfl) ?_
   refine nwt [(1, _), (3, _), (5, _)] ⟨rfl, rfl, rfl, trivial⟩ ?_
   refine at_seq ?_
   refine at_draw (by kernel_rfl) (by kernel_rfl) (fun _ h => h.drew) ?_
   refine atq_val rfl rfl rfl (r_move rfl) ?_
   refine atq_val rfl rfl rfl (r_move rfl) ?_
   rcases of_ite hF with ⟨h27, hF⟩ | ⟨h27, hF⟩
   ·refine atq_fix (g := 21) rfl h27 ?_
    refine atq_guard_yes rfl rfl rfl ?_
    refine atq_val rfl rfl rfl (r_fieldAddr (fo := 2) Tryz.underlying81 rfl rfl (fun w => ⟨_, Tryz.sizeOf79 w⟩) rfl) ?_
    refine atq_guard_yes rfl rfl rfl ?_
    refine atq_val rfl rfl rfl (r_load_cell Tryz.isAgg79 rfl (fun w1 hw => cells_get (hw.ok (Upd.mem .z)) 2 _ rfl)) ?_
    refine atq_guard_yes rfl rfl rfl ?_
    refine atq_val rfl rfl rfl (r_load_aggc (c := c_api_Field) (z := x0) Tryz.isAgg46 Tryz.sizeOf46 rfl (lens_cell (.s .z) (Lens.whole _ _))) ?_
    refine atq_guard_yes rfl rfl rfl ?_
    refine atq_callee rfl ?_
    obtain ⟨t28, ht28, hF⟩ := of_bindM hF
    refine atq_call Tryz.func117 rfl (by kernel_rfl) rfl rfl (fun w hw => (field_said_3_ok _ _ ht28 w).mono fun _ _ h => ⟨h.1, hw.call h.2⟩) ?_
    refine atq_guard_yes rfl rfl rfl ?_
    refine atq_val rfl rfl rfl (r_fieldAddr (fo := 0) Tryz.underlying46 rfl rfl (fun w => ⟨_, Tryz.sizeOf3 w⟩) rfl) ?_
    refine atq_guard_yes rfl rfl rfl ?_
    refine atq_val rfl rfl rfl (r_load_cell Tryz.isAgg3 rfl (lens_cell0 (c := (cInt .i64)) (y := x0.f_Word) (.s .z) (Lens.comp (Lens.whole _ _) (fun z => { x0 with f_Word := z }) (c_api_Field_f_Word x0)) rfl)) ?_
    refine atq_guard_yes rfl rfl rfl ?_
    refine atq_val rfl rfl rfl (r_build_struct (zs := Cd.cs c_api_Field ({ f_Word := (0 : Int), f_Key := (Vector.replicate 32 (0 : Int) : (Vector Int 32)), f_N := (0 : Int), f_End := zqGR_0, f_P := zqGR_1 } : S_api_Field)) (cs := Cd.cs c_api_Field ({ ({ f_Word := (0 : Int), f_Key := (Vector.replicate 32 (0 : Int) : (Vector Int 32)), f_N := (0 : Int), f_End := zqGR_0, f_P := zqGR_1 } : S_api_Field) with f_Word := x0.f_Word })) Tryz.underlying46 Tryz.zeroValue46 rfl (places_api_Field_46) rfl (fill_step (c := (cInt .i64)) (z := x0.f_Word) rfl (c_api_Field_f_Word ({ f_Word := (0 : Int), f_Key := (Vector.replicate 32 (0 : Int) : (Vector Int 32)), f_N := (0 : Int), f_End := zqGR_0, f_P := zqGR_1 } : S_api_Field)) rfl rfl)) ?_
    refine atq_guard_yes rfl rfl rfl ?_
    refine atq_val rfl rfl rfl (r_eqagg (c := c_api_Field) (a := t28) (b := { ({ f_Word := (0 : Int), f_Key := (Vector.replicate 32 (0 : Int) : (Vector Int 32)), f_N := (0 : Int), f_End := zqGR_0, f_P := zqGR_1 } : S_api_Field) with f_Word := x0.f_Word }) (eq_api_Field_46) rfl Tryz.eqGuardType46 rfl rfl (.inl rfl) rfl) ?_
    refine atq_val rfl rfl rfl (r_pick rfl rfl rfl) ?_
    refine atq_val rfl rfl rfl (r_assign rfl) ?_
    refine atq_nil ?_
    refine at_drop (H := _) .z ?_
    refine at_drop (H := _) .z ?_
    refine at_weak [(2, _)] ⟨rfl, trivial⟩ ?_
    refine at_then_normal ?_
    refine at_ret ?_
    have K := of_some hF
    subst K
    exact at_return1 rfl rfl (fun w1 hw => ⟨rfl, hw.below⟩)
   ·refine atq_fix (g := 21) rfl h27 ?_
    refine atq_guard_no rfl rfl rfl rfl rfl ?_
    refine atq_guard_no rfl rfl rfl rfl rfl ?_
    refine atq_guard_no rfl rfl rfl rfl rfl ?_
    refine atq_guard_no rfl rfl rfl rfl rfl ?_
    refine atq_guard_no rfl rfl rfl rfl rfl ?_
    refine atq_guard_no rfl rfl rfl rfl rfl ?_
    refine atq_guard_no rfl rfl rfl rfl rfl ?_
    refine atq_guard_no rfl rfl rfl rfl rfl ?_
    refine atq_val rfl rfl rfl (r_pick rfl rfl rfl) ?_
    refine atq_val rfl rfl rfl (r_assign rfl) ?_
    refine atq_nil ?_
    refine at_drop (H := _) .z ?_
    refine at_drop (H := _) .z ?_
    refine at_weak [(2, _)] ⟨rfl, trivial⟩ ?_
    refine at_then_normal ?_
    refine at_ret ?_
    have K := of_some hF
    subst K
    exact at_return1 rfl rfl (fun w1 hw => ⟨rfl, hw.below⟩)
end Go.Proofs.YtkkmmpofdcccmaaGreatDoor
namespace Go.Proofs.YtkkmmpofdcccmaaGreatDoor
open E Go.RowKit
abbrev zqGT_0 : S_api_Endpoint := ({ f_A := ({ f_V := (0 : Int), f_B := (Vector.replicate 16 (0 : Int) : (Vector Int 16)) } : S_api_Addr), f_Port := (0 : Int) } : S_api_Endpoint)
abbrev zqGT_1 : S_api_Prefix := ({ f_A := ({ f_V := (0 : Int), f_B := (Vector.replicate 16 (0 : Int) : (Vector Int 16)) } : S_api_Addr), f_Bits := (0 : Int) } : S_api_Prefix)
def crawlwayref37_key (x0 : Int) : Option (Bool) :=
  if (x0 == 1) = true then (some true) else (if (x0 == 5) = true then (some true) else (some (x0 == 8)))
theorem crawlwayref37_key_ok (x0 : Int) (r : Bool) (hF : crawlwayref37_key x0 = some r) (w : World) :
    Calls Tryz.prog 38 #[.int .i64 x0] w (fun e w' => e = .returned (.bool r) ∧ w' = w) := by
 unfold crawlwayref37_key at hF
 refine calls_enter (l := [.int .i64 x0]) Tryz.func38 rfl rfl rfl ?_
 refine at_weak [(0, _)] ⟨rfl, trivial⟩ ?_
 refine sr ?_
 refine av rfl (r_assign rfl) ?_
 refine nws [(0, _)] ⟨rfl, trivial⟩ ?_
 refine av rfl (r_move rfl) ?_
 refine av rfl (r_ieql rfl rfl) ?_
 refine av rfl (r_move rfl) ?_
 rcases of_ite hF with ⟨h1, hF⟩ | ⟨h1, hF⟩
 ·refine at_fix (g := 5) rfl h1 ?_
  refine at_guard_no rfl rfl rfl rfl rfl ?_
  refine at_guard_no rfl rfl rfl rfl rfl ?_
  refine av rfl (r_pick rfl rfl rfl) ?_
  refine av rfl (r_move rfl) ?_
  refine at_guard_no rfl rfl rfl rfl rfl ?_
  refine at_guard_no rfl rfl rfl rfl rfl ?_
  refine av rfl (r_pick rfl rfl rfl) ?_
  refine av rfl (r_assign rfl) ?_
  refine nwt [(2, _)] ⟨rfl, trivial⟩ ?_
  refine at_ret ?_
  have K := of_some hF
  subst K
  exact at_return1 rfl rfl (fun w1 hw => ⟨rfl, hw⟩)
 ·refine at_fix (g := 5) rfl h1 ?_
  refine at_guard_yes rfl rfl rfl ?_
  refine av rfl (r_move rfl) ?_
  refine at_guard_yes rfl rfl rfl ?_
  refine av rfl (r_ieql rfl rfl) ?_
  refine av rfl (r_pick rfl rfl rfl) ?_
  refine av rfl (r_move rfl) ?_
  rcases of_ite hF with ⟨h2, hF⟩ | ⟨h2, hF⟩
  ·refine at_fix (g := 9) rfl h2 ?_
   refine at_guard_no rfl rfl rfl rfl rfl ?_
   refine at_guard_no rfl rfl rfl rfl rfl ?_
   refine av rfl (r_pick rfl rfl rfl) ?_
   refine av rfl (r_assign rfl) ?_
   refine nwt [(2, _)] ⟨rfl, trivial⟩ ?_
   refine at_ret ?_
   have K := of_some hF
   subst K
   exact at_return1 rfl rfl (fun w1 hw => ⟨rfl, hw⟩)
  ·refine at_fix (g := 9) rfl h2 ?_
   refine at_guard_yes rfl rfl rfl ?_
   refine av rfl (r_move rfl) ?_
   refine at_guard_yes rfl rfl rfl ?_
   refine av rfl (r_ieql rfl rfl) ?_
   refine av rfl (r_pick rfl rfl rfl) ?_
   refine av rfl (r_assign rfl) ?_
   refine nwt [(2, _)] ⟨rfl, trivial⟩ ?_
   refine at_ret ?_
   have K := of_some hF
   subst K
   exact at_return1 rfl rfl (fun w1 hw => ⟨rfl, hw⟩)
def crawlwayref37_flag (x0 : Int) : Option (Bool) :=
  if (x0 == 4) = true then (some true) else (if (x0 == 6) = true then (some true) else (if (x0 == 7) = true then (some true) else (some (x0 == 11))))
theorem crawlwayref37_flag_ok (x0 : Int) (r : Bool) (hF : crawlwayref37_flag x0 = some r) (w : World) :
    Calls Tryz.prog 42 #[.int .i64 x0] w (fun e w' => e = .returned (.bool r) ∧ w' = w) := by
 unfold crawlwayref37_flag at hF
 refine calls_enter (l := [.int .i64 x0]) Tryz.func42 rfl rfl rfl ?_
 refine at_weak [(0, _)] ⟨rfl, trivial⟩ ?_
 refine sr ?_
 refine av rfl (r_assign rfl) ?_
 refine nws [(0, _)] ⟨rfl, trivial⟩ ?_
 refine av rfl (r_move rfl) ?_
 refine av rfl (r_ieql rfl rfl) ?_
 refine av rfl (r_move rfl) ?_
 rcases of_ite hF with ⟨h1, hF⟩ | ⟨h1, hF⟩
 ·refine at_fix (g := 5) rfl h1 ?_
  refine at_guard_no rfl rfl rfl rfl rfl ?_
  refine at_guard_no rfl rfl rfl rfl rfl ?_
  refine av rfl (r_pick rfl rfl rfl) ?_
  refine av rfl (r_move rfl) ?_
  refine at_guard_no rfl rfl rfl rfl rfl ?_
  refine at_guard_no rfl rfl rfl rfl rfl ?_
  refine av rfl (r_pick rfl rfl rfl) ?_
  refine av rfl (r_move rfl) ?_
  refine at_guard_no rfl rfl rfl rfl rfl ?_
  refine at_guard_no rfl rfl rfl rfl rfl ?_
  refine av rfl (r_pick rfl rfl rfl) ?_
  refine av rfl (r_assign rfl) ?_
  refine nwt [(2, _)] ⟨rfl, trivial⟩ ?_
  refine at_ret ?_
  have K := of_some hF
  subst K
  exact at_return1 rfl rfl (fun w1 hw => ⟨rfl, hw⟩)
 ·refine at_fix (g := 5) rfl h1 ?_
  refine at_guard_yes rfl rfl rfl ?_
  refine av rfl (r_move rfl) ?_
  refine at_guard_yes rfl rfl rfl ?_
  refine av rfl (r_ieql rfl rfl) ?_
  refine av rfl (r_pick rfl rfl rfl) ?_
  refine av rfl (r_move rfl) ?_
  rcases of_ite hF with ⟨h2, hF⟩ | ⟨h2, hF⟩
  ·refine at_fix (g := 9) rfl h2 ?_
   refine at_guard_no rfl rfl rfl rfl rfl ?_
   refine at_guard_no rfl rfl rfl rfl rfl ?_
   refine av rfl (r_pick rfl rfl rfl) ?_
   refine av rfl (r_move rfl) ?_
   refine at_guard_no rfl rfl rfl rfl rfl ?_
   refine at_guard_no rfl rfl rfl rfl rfl ?_
   refine av rfl (r_pick rfl rfl rfl) ?_
   refine av rfl (r_assign rfl) ?_
   refine nwt [(2, _)] ⟨rfl, trivial⟩ ?_
   refine at_ret ?_
   have K := of_some hF
   subst K
   exact at_return1 rfl rfl (fun w1 hw => ⟨rfl, hw⟩)
  ·refine at_fix (g := 9) rfl h2 ?_
   refine at_guard_yes rfl rfl rfl ?_
   refine av rfl (r_move rfl) ?_
   refine at_guard_yes rfl rfl rfl ?_
   refine av rfl (r_ieql rfl rfl) ?_
   refine av rfl (r_pick rfl rfl rfl) ?_
   refine av rfl (r_move rfl) ?_
   rcases of_ite hF with ⟨h3, hF⟩ | ⟨h3, hF⟩
   ·refine at_fix (g := 13) rfl h3 ?_
    refine at_guard_no rfl rfl rfl rfl rfl ?_
    refine at_guard_no rfl rfl rfl rfl rfl ?_
    refine av rfl (r_pick rfl rfl rfl) ?_
    refine av rfl (r_assign rfl) ?_
    refine nwt [(2, _)] ⟨rfl, trivial⟩ ?_
    refine at_ret ?_
    have K := of_some hF
    subst K
    exact at_return1 rfl rfl (fun w1 hw => ⟨rfl, hw⟩)
   ·refine at_fix (g := 13) rfl h3 ?_
    refine at_guard_yes rfl rfl rfl ?_
    refine av rfl (r_move rfl) ?_
    refine at_guard_yes rfl rfl rfl ?_
    refine av rfl (r_ieql rfl rfl) ?_
    refine av rfl (r_pick rfl rfl rfl) ?_
    refine av rfl (r_assign rfl) ?_
    refine nwt [(2, _)] ⟨rfl, trivial⟩ ?_
    refine at_ret ?_
    have K := of_some hF
    subst K
    exact at_return1 rfl rfl (fun w1 hw => ⟨rfl, hw⟩)
def crawlwayref37_most (x0 : Int) : Option (Int) :=
  if (x0 == 2) = true then (some 65535) else (if (x0 == 10) = true then (some 65535) else (if (x0 == 3) = true then (some 4294967295) else (if (x0 == 13) = true then (some 1) else (if (x0 == 14) = true then (some 18446744073709551615) else (if (x0 == 15) = true then (some 18446744073709551615) else (some 20))))))
theorem crawlwayref37_most_ok (x0 : Int) (r : Int) (hF : crawlwayref37_most x0 = some r) (w : World) :
    Calls Tryz.prog 44 #[.int .i64 x0] w (fun e w' => e = .returned (.int .u64 r) ∧ w' = w) := by
 unfold crawlwayref37_most at hF
 refine calls_enter (l := [.int .i64 x0]) Tryz.func44 rfl rfl rfl ?_
 refine at_weak [(0, _)] ⟨rfl, trivial⟩ ?_
 refine sr ?_
 refine av rfl (r_assign rfl) ?_
 refine nwt [(0, _)] ⟨rfl, trivial⟩ ?_
 refine at_seq ?_
 refine sr ?_
 refine av rfl (r_move rfl) ?_
 refine nwt [(3, _)] ⟨rfl, trivial⟩ ?_
 refine at_block ?_
 refine at_seq ?_
 refine sr ?_
 refine av rfl (r_ieql rfl rfl) ?_
 refine av rfl (r_assign rfl) ?_
 refine nwt [(3, _), (4, _)] ⟨rfl, rfl, trivial⟩ ?_
 rcases of_ite hF with ⟨h1, hF⟩ | ⟨h1, hF⟩
 ·refine at_cond_true rfl h1 ?_
  refine at_fix (g := 4) rfl h1 ?_
  refine sn ?_
  refine at_cond_true rfl rfl ?_
  refine sr ?_
  refine av rfl (r_assign rfl) ?_
  refine nwt [(2, _)] ⟨rfl, trivial⟩ ?_
  refine at_ret ?_
  refine at_blk_ret (at_then_ret ?_)
  have K := of_some hF
  subst K
  exact at_return1 rfl rfl (fun w1 hw => ⟨rfl, hw⟩)
 ·refine at_cond_false rfl h1 ?_
  refine at_region ?_
  refine av rfl (r_ieql rfl rfl) ?_
  refine av rfl (r_assign rfl) ?_
  refine nwt [(3, _), (4, _)] ⟨rfl, rfl, trivial⟩ ?_
  rcases of_ite hF with ⟨h2, hF⟩ | ⟨h2, hF⟩
  ·refine at_cond_true rfl h2 ?_
   refine sr ?_
   refine av rfl (r_assign rfl) ?_
   refine nwt [(2, _)] ⟨rfl, trivial⟩ ?_
   refine at_ret ?_
   refine at_blk_ret (at_then_ret ?_)
   have K := of_some hF
   subst K
   exact at_return1 rfl rfl (fun w1 hw => ⟨rfl, hw⟩)
  ·refine at_cond_false rfl h2 ?_
   refine sr ?_
   refine av rfl (r_ieql rfl rfl) ?_
   refine av rfl (r_assign rfl) ?_
   refine nwt [(3, _), (7, _)] ⟨rfl, rfl, trivial⟩ ?_
   rcases of_ite hF with ⟨h3, hF⟩ | ⟨h3, hF⟩
   ·refine at_cond_true rfl h3 ?_
    refine sr ?_
    refine av rfl (r_assign rfl) ?_
    refine nwt [(2, _)] ⟨rfl, trivial⟩ ?_
    refine at_ret ?_
    refine at_blk_ret (at_then_ret ?_)
    have K := of_some hF
    subst K
    exact at_return1 rfl rfl (fun w1 hw => ⟨rfl, hw⟩)
   ·refine at_cond_false rfl h3 ?_
    refine sr ?_
    refine av rfl (r_ieql rfl rfl) ?_
    refine av rfl (r_assign rfl) ?_
    refine nwt [(3, _), (9, _)] ⟨rfl, rfl, trivial⟩ ?_
    rcases of_ite hF with ⟨h4, hF⟩ | ⟨h4, hF⟩
    ·refine at_cond_true rfl h4 ?_
     refine sr ?_
     refine av rfl (r_assign rfl) ?_
     refine nwt [(2, _)] ⟨rfl, trivial⟩ ?_
     refine at_ret ?_
     refine at_blk_ret (at_then_ret ?_)
     have K := of_some hF
     subst K
     exact at_return1 rfl rfl (fun w1 hw => ⟨rfl, hw⟩)
    ·refine at_cond_false rfl h4 ?_
     refine at_seq ?_
     refine sr ?_
     refine av rfl (r_ieql rfl rfl) ?_
     refine av rfl (r_assign rfl) ?_
     refine nwt [(3, _), (11, _)] ⟨rfl, rfl, trivial⟩ ?_
     rcases of_ite hF with ⟨h5, hF⟩ | ⟨h5, hF⟩
     ·refine at_cond_true rfl h5 ?_
      refine at_fix (g := 11) rfl h5 ?_
      refine sn ?_
      refine at_cond_true rfl rfl ?_
      refine sr ?_
      refine av rfl (r_assign rfl) ?_
      refine nwt [(2, _)] ⟨rfl, trivial⟩ ?_
      refine at_ret ?_
      refine at_blk_ret (at_then_ret ?_)
      have K := of_some hF
      subst K
      exact at_return1 rfl rfl (fun w1 hw => ⟨rfl, hw⟩)
     ·refine at_cond_false rfl h5 ?_
      refine at_region ?_
      refine av rfl (r_ieql rfl rfl) ?_
      refine av rfl (r_assign rfl) ?_
      refine nwt [(11, _)] ⟨rfl, trivial⟩ ?_
      rcases of_ite hF with ⟨h6, hF⟩ | ⟨h6, hF⟩
      ·refine at_cond_true rfl h6 ?_
       refine sr ?_
       refine av rfl (r_assign rfl) ?_
       refine nwt [(2, _)] ⟨rfl, trivial⟩ ?_
       refine at_ret ?_
       refine at_blk_ret (at_then_ret ?_)
       have K := of_some hF
       subst K
       exact at_return1 rfl rfl (fun w1 hw => ⟨rfl, hw⟩)
      ·refine at_cond_false rfl h6 ?_
       refine at_skip ?_
       refine at_blk_normal (at_then_normal ?_)
       refine sr ?_
       refine av rfl (r_assign rfl) ?_
       refine nwt [(2, _)] ⟨rfl, trivial⟩ ?_
       refine at_ret ?_
       have K := of_some hF
       subst K
       exact at_return1 rfl rfl (fun w1 hw => ⟨rfl, hw⟩)
def crawlwayref37_Read (x0 : S_pairline_Pair) : Option (S_api_Field × Int) :=
  crawlwayref37_Word x0.f_Key >>= fun t3 => if (t3 == 0) = true then (if (12 != 0) = true then (some (({ f_Word := (0 : Int), f_Key := (Vector.replicate 32 (0 : Int) : (Vector Int 32)), f_N := (0 : Int), f_End := ({ f_A := ({ f_V := (0 : Int), f_B := (Vector.replicate 16 (0 : Int) : (Vector Int 16)) } : S_api_Addr), f_Port := (0 : Int) } : S_api_Endpoint), f_P := ({ f_A := ({ f_V := (0 : Int), f_B := (Vector.replicate 16 (0 : Int) : (Vector Int 16)) } : S_api_Addr), f_Bits := (0 : Int) } : S_api_Prefix) } : S_api_Field), 12)) else (some ({ ({ f_Word := (0 : Int), f_Key := (Vector.replicate 32 (0 : Int) : (Vector Int 32)), f_N := (0 : Int), f_End := ({ f_A := ({ f_V := (0 : Int), f_B := (Vector.replicate 16 (0 : Int) : (Vector Int 16)) } : S_api_Addr), f_Port := (0 : Int) } : S_api_Endpoint), f_P := ({ f_A := ({ f_V := (0 : Int), f_B := (Vector.replicate 16 (0 : Int) : (Vector Int 16)) } : S_api_Addr), f_Bits := (0 : Int) } : S_api_Prefix) } : S_api_Field) with f_Word := t3 }, 0))) else (crawlwayref37_key t3 >>= fun t7 => if t7 = true then (crawlwayref07_ParseHex x0.f_Value >>= fun t9 => if (t9.2 != 0) = true then (some (({ f_Word := (0 : Int), f_Key := (Vector.replicate 32 (0 : Int) : (Vector Int 32)), f_N := (0 : Int), f_End := ({ f_A := ({ f_V := (0 : Int), f_B := (Vector.replicate 16 (0 : Int) : (Vector Int 16)) } : S_api_Addr), f_Port := (0 : Int) } : S_api_Endpoint), f_P := ({ f_A := ({ f_V := (0 : Int), f_B := (Vector.replicate 16 (0 : Int) : (Vector Int 16)) } : S_api_Addr), f_Bits := (0 : Int) } : S_api_Prefix) } : S_api_Field), t9.2)) else (some ({ { ({ f_Word := (0 : Int), f_Key := (Vector.replicate 32 (0 : Int) : (Vector Int 32)), f_N := (0 : Int), f_End := ({ f_A := ({ f_V := (0 : Int), f_B := (Vector.replicate 16 (0 : Int) : (Vector Int 16)) } : S_api_Addr), f_Port := (0 : Int) } : S_api_Endpoint), f_P := ({ f_A := ({ f_V := (0 : Int), f_B := (Vector.replicate 16 (0 : Int) : (Vector Int 16)) } : S_api_Addr), f_Bits := (0 : Int) } : S_api_Prefix) } : S_api_Field) with f_Word := t3 } with f_Key := t9.1 }, 0))) else (if (t3 == 9) = true then (crawlwayref12_Parse x0.f_Value >>= fun t13 => if (t13.2 != 0) = true then (some (({ f_Word := (0 : Int), f_Key := (Vector.replicate 32 (0 : Int) : (Vector Int 32)), f_N := (0 : Int), f_End := ({ f_A := ({ f_V := (0 : Int), f_B := (Vector.replicate 16 (0 : Int) : (Vector Int 16)) } : S_api_Addr), f_Port := (0 : Int) } : S_api_Endpoint), f_P := ({ f_A := ({ f_V := (0 : Int), f_B := (Vector.replicate 16 (0 : Int) : (Vector Int 16)) } : S_api_Addr), f_Bits := (0 : Int) } : S_api_Prefix) } : S_api_Field), t13.2)) else (some ({ { ({ f_Word := (0 : Int), f_Key := (Vector.replicate 32 (0 : Int) : (Vector Int 32)), f_N := (0 : Int), f_End := ({ f_A := ({ f_V := (0 : Int), f_B := (Vector.replicate 16 (0 : Int) : (Vector Int 16)) } : S_api_Addr), f_Port := (0 : Int) } : S_api_Endpoint), f_P := ({ f_A := ({ f_V := (0 : Int), f_B := (Vector.replicate 16 (0 : Int) : (Vector Int 16)) } : S_api_Addr), f_Bits := (0 : Int) } : S_api_Prefix) } : S_api_Field) with f_Word := t3 } with f_End := t13.1 }, 0))) else (if (t3 == 12) = true then (crawlwayref11_Parse x0.f_Value >>= fun t17 => if (t17.2 != 0) = true then (some (({ f_Word := (0 : Int), f_Key := (Vector.replicate 32 (0 : Int) : (Vector Int 32)), f_N := (0 : Int), f_End := ({ f_A := ({ f_V := (0 : Int), f_B := (Vector.replicate 16 (0 : Int) : (Vector Int 16)) } : S_api_Addr), f_Port := (0 : Int) } : S_api_Endpoint), f_P := ({ f_A := ({ f_V := (0 : Int), f_B := (Vector.replicate 16 (0 : Int) : (Vector Int 16)) } : S_api_Addr), f_Bits := (0 : Int) } : S_api_Prefix) } : S_api_Field), t17.2)) else (some ({ { ({ f_Word := (0 : Int), f_Key := (Vector.replicate 32 (0 : Int) : (Vector Int 32)), f_N := (0 : Int), f_End := ({ f_A := ({ f_V := (0 : Int), f_B := (Vector.replicate 16 (0 : Int) : (Vector Int 16)) } : S_api_Addr), f_Port := (0 : Int) } : S_api_Endpoint), f_P := ({ f_A := ({ f_V := (0 : Int), f_B := (Vector.replicate 16 (0 : Int) : (Vector Int 16)) } : S_api_Addr), f_Bits := (0 : Int) } : S_api_Prefix) } : S_api_Field) with f_Word := t3 } with f_P := t17.1 }, 0))) else (crawlwayref37_flag t3 >>= fun t20 => if t20 = true then (if (!seq x0.f_Value (⟨#[116, 114, 117, 101]⟩ : ByteArray)) = true then (if (5 != 0) = true then (some (({ f_Word := (0 : Int), f_Key := (Vector.replicate 32 (0 : Int) : (Vector Int 32)), f_N := (0 : Int), f_End := ({ f_A := ({ f_V := (0 : Int), f_B := (Vector.replicate 16 (0 : Int) : (Vector Int 16)) } : S_api_Addr), f_Port := (0 : Int) } : S_api_Endpoint), f_P := ({ f_A := ({ f_V := (0 : Int), f_B := (Vector.replicate 16 (0 : Int) : (Vector Int 16)) } : S_api_Addr), f_Bits := (0 : Int) } : S_api_Prefix) } : S_api_Field), 5)) else (some ({ ({ f_Word := (0 : Int), f_Key := (Vector.replicate 32 (0 : Int) : (Vector Int 32)), f_N := (0 : Int), f_End := ({ f_A := ({ f_V := (0 : Int), f_B := (Vector.replicate 16 (0 : Int) : (Vector Int 16)) } : S_api_Addr), f_Port := (0 : Int) } : S_api_Endpoint), f_P := ({ f_A := ({ f_V := (0 : Int), f_B := (Vector.replicate 16 (0 : Int) : (Vector Int 16)) } : S_api_Addr), f_Bits := (0 : Int) } : S_api_Prefix) } : S_api_Field) with f_Word := t3 }, 0))) else (if (0 != 0) = true then (some (({ f_Word := (0 : Int), f_Key := (Vector.replicate 32 (0 : Int) : (Vector Int 32)), f_N := (0 : Int), f_End := ({ f_A := ({ f_V := (0 : Int), f_B := (Vector.replicate 16 (0 : Int) : (Vector Int 16)) } : S_api_Addr), f_Port := (0 : Int) } : S_api_Endpoint), f_P := ({ f_A := ({ f_V := (0 : Int), f_B := (Vector.replicate 16 (0 : Int) : (Vector Int 16)) } : S_api_Addr), f_Bits := (0 : Int) } : S_api_Prefix) } : S_api_Field), 0)) else (some ({ ({ f_Word := (0 : Int), f_Key := (Vector.replicate 32 (0 : Int) : (Vector Int 32)), f_N := (0 : Int), f_End := ({ f_A := ({ f_V := (0 : Int), f_B := (Vector.replicate 16 (0 : Int) : (Vector Int 16)) } : S_api_Addr), f_Port := (0 : Int) } : S_api_Endpoint), f_P := ({ f_A := ({ f_V := (0 : Int), f_B := (Vector.replicate 16 (0 : Int) : (Vector Int 16)) } : S_api_Addr), f_Bits := (0 : Int) } : S_api_Prefix) } : S_api_Field) with f_Word := t3 }, 0)))) else (crawlwayref37_most t3 >>= fun t25 => crawlwayref03_Read x0.f_Value t25 >>= fun t26 => if (t26.2 == 0) = true then (if (t3 == 13) = true then (if (t26.1 == 0) = true then (if (6 != 0) = true then (some (({ f_Word := (0 : Int), f_Key := (Vector.replicate 32 (0 : Int) : (Vector Int 32)), f_N := (0 : Int), f_End := ({ f_A := ({ f_V := (0 : Int), f_B := (Vector.replicate 16 (0 : Int) : (Vector Int 16)) } : S_api_Addr), f_Port := (0 : Int) } : S_api_Endpoint), f_P := ({ f_A := ({ f_V := (0 : Int), f_B := (Vector.replicate 16 (0 : Int) : (Vector Int 16)) } : S_api_Addr), f_Bits := (0 : Int) } : S_api_Prefix) } : S_api_Field), 6)) else (some ({ { ({ f_Word := (0 : Int), f_Key := (Vector.replicate 32 (0 : Int) : (Vector Int 32)), f_N := (0 : Int), f_End := ({ f_A := ({ f_V := (0 : Int), f_B := (Vector.replicate 16 (0 : Int) : (Vector Int 16)) } : S_api_Addr), f_Port := (0 : Int) } : S_api_Endpoint), f_P := ({ f_A := ({ f_V := (0 : Int), f_B := (Vector.replicate 16 (0 : Int) : (Vector Int 16)) } : S_api_Addr), f_Bits := (0 : Int) } : S_api_Prefix) } : S_api_Field) with f_Word := t3 } with f_N := t26.1 }, 0))) else (if (t26.2 != 0) = true then (some (({ f_Word := (0 : Int), f_Key := (Vector.replicate 32 (0 : Int) : (Vector Int 32)), f_N := (0 : Int), f_End := ({ f_A := ({ f_V := (0 : Int), f_B := (Vector.replicate 16 (0 : Int) : (Vector Int 16)) } : S_api_Addr), f_Port := (0 : Int) } : S_api_Endpoint), f_P := ({ f_A := ({ f_V := (0 : Int), f_B := (Vector.replicate 16 (0 : Int) : (Vector Int 16)) } : S_api_Addr), f_Bits := (0 : Int) } : S_api_Prefix) } : S_api_Field), t26.2)) else (some ({ { ({ f_Word := (0 : Int), f_Key := (Vector.replicate 32 (0 : Int) : (Vector Int 32)), f_N := (0 : Int), f_End := ({ f_A := ({ f_V := (0 : Int), f_B := (Vector.replicate 16 (0 : Int) : (Vector Int 16)) } : S_api_Addr), f_Port := (0 : Int) } : S_api_Endpoint), f_P := ({ f_A := ({ f_V := (0 : Int), f_B := (Vector.replicate 16 (0 : Int) : (Vector Int 16)) } : S_api_Addr), f_Bits := (0 : Int) } : S_api_Prefix) } : S_api_Field) with f_Word := t3 } with f_N := t26.1 }, 0)))) else (if (t26.2 != 0) = true then (some (({ f_Word := (0 : Int), f_Key := (Vector.replicate 32 (0 : Int) : (Vector Int 32)), f_N := (0 : Int), f_End := ({ f_A := ({ f_V := (0 : Int), f_B := (Vector.replicate 16 (0 : Int) : (Vector Int 16)) } : S_api_Addr), f_Port := (0 : Int) } : S_api_Endpoint), f_P := ({ f_A := ({ f_V := (0 : Int), f_B := (Vector.replicate 16 (0 : Int) : (Vector Int 16)) } : S_api_Addr), f_Bits := (0 : Int) } : S_api_Prefix) } : S_api_Field), t26.2)) else (some ({ { ({ f_Word := (0 : Int), f_Key := (Vector.replicate 32 (0 : Int) : (Vector Int 32)), f_N := (0 : Int), f_End := ({ f_A := ({ f_V := (0 : Int), f_B := (Vector.replicate 16 (0 : Int) : (Vector Int 16)) } : S_api_Addr), f_Port := (0 : Int) } : S_api_Endpoint), f_P := ({ f_A := ({ f_V := (0 : Int), f_B := (Vector.replicate 16 (0 : Int) : (Vector Int 16)) } : S_api_Addr), f_Bits := (0 : Int) } : S_api_Prefix) } : S_api_Field) with f_Word := t3 } with f_N := t26.1 }, 0)))) else (if (t26.2 != 0) = true then (some (({ f_Word := (0 : Int), f_Key := (Vector.replicate 32 (0 : Int) : (Vector Int 32)), f_N := (0 : Int), f_End := ({ f_A := ({ f_V := (0 : Int), f_B := (Vector.replicate 16 (0 : Int) : (Vector Int 16)) } : S_api_Addr), f_Port := (0 : Int) } : S_api_Endpoint), f_P := ({ f_A := ({ f_V := (0 : Int), f_B := (Vector.replicate 16 (0 : Int) : (Vector Int 16)) } : S_api_Addr), f_Bits := (0 : Int) } : S_api_Prefix) } : S_api_Field), t26.2)) else (some ({ { ({ f_Word := (0 : Int), f_Key := (Vector.replicate 32 (0 : Int) : (Vector Int 32)), f_N := (0 : Int), f_End := ({ f_A := ({ f_V := (0 : Int), f_B := (Vector.replicate 16 (0 : Int) : (Vector Int 16)) } : S_api_Addr), f_Port := (0 : Int) } : S_api_Endpoint), f_P := ({ f_A := ({ f_V := (0 : Int), f_B := (Vector.replicate 16 (0 : Int) : (Vector Int 16)) } : S_api_Addr), f_Bits := (0 : Int) } : S_api_Prefix) } : S_api_Field) with f_Word := t3 } with f_N := t26.1 }, 0))))))))
theorem crawlwayref37_Read_ok (x0 : S_pairline_Pair) (r : S_api_Field × Int) (hF : crawlwayref37_Read x0 = some r) (w : World) :
    Calls Tryz.prog 20 #[.agg (Cd.cs c_pairline_Pair x0).toArray] w (fun e w' => e = .returned (.tuple #[.agg (Cd.cs c_api_Field r.1).toArray, .int .i64 r.2]) ∧ Below w.heap.size w w') := by
 unfold crawlwayref37_Read at hF
 refine calls_enter (l := [.agg (Cd.cs c_pairline_Pair x0).toArray]) Tryz.func20 rfl rfl rfl ?_
 refine at_start ?_
 refine at_weak [(0, _)] ⟨rfl, trivial⟩ ?_
 refine sr ?_
 refine at_box (cs := Cd.cs c_pairline_Pair x0) rfl rfl rfl ?_
 intro b1
 refine at_alloc (cs := Cd.cs c_api_Field ({ f_Word := (0 : Int), f_Key := (Vector.replicate 32 (0 : Int) : (Vector Int 32)), f_N := (0 : Int), f_End := zqGT_0, f_P := zqGT_1 } : S_api_Field)) Tryz.zeroValue46 rfl rfl ?_
 intro b2
 refine av rfl (r_assign rfl) ?_
 refine nws [(1, _), (2, _)] ⟨rfl, rfl, trivial⟩ ?_
 refine av rfl (r_fieldAddr (fo := 0) Tryz.underlying54 rfl rfl (fun w => ⟨_, Tryz.sizeOf9 w⟩) rfl) ?_
 refine av rfl (r_load_cell Tryz.isAgg9 rfl (lens_cell0 (c := cStr) (y := x0.f_Key) (.s .z) (Lens.comp (Lens.whole _ _) (fun z => { x0 with f_Key := z }) (c_pairline_Pair_f_Key x0)) rfl)) ?_
 obtain ⟨t3, ht3, hF⟩ := of_bindM hF
 refine at_callB Tryz.func17 rfl (by kernel_rfl) rfl rfl (fun w hw => crawlwayref37_Word_ok _ _ ht3 w) ?_
 refine av rfl (r_assign rfl) ?_
 refine nws [(1, _), (2, _), (4, _)] ⟨rfl, rfl, rfl, trivial⟩ ?_
 refine av rfl (r_move rfl) ?_
 refine av rfl (r_build_struct (zs := Cd.cs c_api_Field ({ f_Word := (0 : Int), f_Key := (Vector.replicate 32 (0 : Int) : (Vector Int 32)), f_N := (0 : Int), f_End := zqGT_0, f_P := zqGT_1 } : S_api_Field)) (cs := Cd.cs c_api_Field ({ ({ f_Word := (0 : Int), f_Key := (Vector.replicate 32 (0 : Int) : (Vector Int 32)), f_N := (0 : Int), f_End := zqGT_0, f_P := zqGT_1 } : S_api_Field) with f_Word := t3 })) Tryz.underlying46 Tryz.zeroValue46 rfl (places_api_Field_46) rfl (fill_step (c := (cInt .i64)) (z := t3) rfl (c_api_Field_f_Word ({ f_Word := (0 : Int), f_Key := (Vector.replicate 32 (0 : Int) : (Vector Int 32)), f_N := (0 : Int), f_End := zqGT_0, f_P := zqGT_1 } : S_api_Field)) rfl rfl)) ?_
 refine at_alloc (cs := Cd.cs c_api_Field ({ f_Word := (0 : Int), f_Key := (Vector.replicate 32 (0 : Int) : (Vector Int 32)), f_N := (0 : Int), f_End := zqGT_0, f_P := zqGT_1 } : S_api_Field)) Tryz.zeroValue46 rfl rfl ?_
 intro b4
 refine at_store (c := c_api_Field) (z := { ({ f_Word := (0 : Int), f_Key := (Vector.replicate 32 (0 : Int) : (Vector Int 32)), f_N := (0 : Int), f_End := zqGT_0, f_P := zqGT_1 } : S_api_Field) with f_Word := t3 }) .z (Lens.whole _ _) Tryz.sizeOf46 rfl rfl rfl ?_
 refine nws [(1, _), (2, _), (4, _), (5, _)] ⟨rfl, rfl, rfl, rfl, trivial⟩ ?_
 refine av rfl (r_assign rfl) ?_
 refine nwt [(1, _), (2, _), (4, _), (5, _), (6, _)] ⟨rfl, rfl, rfl, rfl, rfl, trivial⟩ ?_
 refine at_seq ?_
 refine sr ?_
 refine av rfl (r_move rfl) ?_
 refine av rfl (r_ieql rfl rfl) ?_
 refine nwt [(1, _), (2, _), (4, _), (5, _), (6, _), (21, _)] ⟨rfl, rfl, rfl, rfl, rfl, rfl, trivial⟩ ?_
 rcases of_ite hF with ⟨h5, hF⟩ | ⟨h5, hF⟩
 ·refine at_cond_true rfl h5 ?_
  refine at_region ?_
  refine av rfl (r_assign rfl) ?_
  refine at_nil ?_
  refine at_drop (H := _) (.s (.s .z)) ?_
  refine at_weak [(2, _), (5, _), (6, _)] ⟨rfl, rfl, rfl, trivial⟩ ?_
  refine at_then_normal ?_
  refine at_seq ?_
  refine sr ?_
  refine av rfl (r_move rfl) ?_
  refine av rfl (r_ineq rfl rfl) ?_
  refine nwt [(2, _), (5, _), (6, _), (82, _)] ⟨rfl, rfl, rfl, rfl, trivial⟩ ?_
  rcases of_ite hF with ⟨h6, hF⟩ | ⟨h6, hF⟩
  ·refine at_cond_true rfl h6 ?_
   refine sr ?_
   refine av rfl (r_build_struct (zs := Cd.cs c_api_Field ({ f_Word := (0 : Int), f_Key := (Vector.replicate 32 (0 : Int) : (Vector Int 32)), f_N := (0 : Int), f_End := zqGT_0, f_P := zqGT_1 } : S_api_Field)) (cs := Cd.cs c_api_Field ({ f_Word := (0 : Int), f_Key := (Vector.replicate 32 (0 : Int) : (Vector Int 32)), f_N := (0 : Int), f_End := zqGT_0, f_P := zqGT_1 } : S_api_Field)) Tryz.underlying46 Tryz.zeroValue46 rfl (places_api_Field_46) rfl rfl) ?_
   refine av rfl (r_move rfl) ?_
   refine at_store (c := c_api_Field) (z := ({ f_Word := (0 : Int), f_Key := (Vector.replicate 32 (0 : Int) : (Vector Int 32)), f_N := (0 : Int), f_End := zqGT_0, f_P := zqGT_1 } : S_api_Field)) (.s .z) (Lens.whole _ _) Tryz.sizeOf46 rfl rfl rfl ?_
   refine av rfl (r_assign rfl) ?_
   refine at_nil ?_
   refine at_drop (H := _) .z ?_
   refine at_weak [(2, _), (3, _)] ⟨rfl, rfl, trivial⟩ ?_
   refine at_then_normal ?_
   refine rt ?_
   have K := of_some hF
   subst K
   exact at_res2 rfl (res_cell (c := c_api_Field) (y := ({ f_Word := (0 : Int), f_Key := (Vector.replicate 32 (0 : Int) : (Vector Int 32)), f_N := (0 : Int), f_End := zqGT_0, f_P := zqGT_1 } : S_api_Field)) rfl .z (Lens.whole _ _) Tryz.isAgg46 Tryz.sizeOf46 (.inl rfl)) (res_tmp rfl) (fun w1 hw => ⟨rfl, hw.below⟩)
  ·refine at_cond_false rfl h6 ?_
   refine sns ?_
   refine av rfl (r_load_aggc (c := c_api_Field) (z := { ({ f_Word := (0 : Int), f_Key := (Vector.replicate 32 (0 : Int) : (Vector Int 32)), f_N := (0 : Int), f_End := zqGT_0, f_P := zqGT_1 } : S_api_Field) with f_Word := t3 }) Tryz.isAgg46 Tryz.sizeOf46 rfl (lens_cell .z (Lens.whole _ _))) ?_
   refine at_store (c := c_api_Field) (z := { ({ f_Word := (0 : Int), f_Key := (Vector.replicate 32 (0 : Int) : (Vector Int 32)), f_N := (0 : Int), f_End := zqGT_0, f_P := zqGT_1 } : S_api_Field) with f_Word := t3 }) (.s .z) (Lens.whole _ _) Tryz.sizeOf46 rfl rfl rfl ?_
   refine av rfl (r_assign rfl) ?_
   refine at_nil ?_
   refine at_drop (H := _) .z ?_
   refine at_weak [(2, _), (3, _)] ⟨rfl, rfl, trivial⟩ ?_
   refine at_then_normal ?_
   refine at_ret ?_
   have K := of_some hF
   subst K
   exact at_res2 rfl (res_cell (c := c_api_Field) (y := { ({ f_Word := (0 : Int), f_Key := (Vector.replicate 32 (0 : Int) : (Vector Int 32)), f_N := (0 : Int), f_End := zqGT_0, f_P := zqGT_1 } : S_api_Field) with f_Word := t3 }) rfl .z (Lens.whole _ _) Tryz.isAgg46 Tryz.sizeOf46 (.inl rfl)) (res_tmp rfl) (fun w1 hw => ⟨rfl, hw.below⟩)
 ·refine at_cond_false rfl h5 ?_
  refine sr ?_
  refine av rfl (r_move rfl) ?_
  obtain ⟨t7, ht7, hF⟩ := of_bindM hF
  refine at_call0 Tryz.func38 rfl (by kernel_rfl) rfl rfl (fun w => crawlwayref37_key_ok _ _ ht7 w) ?_
  refine nwt [(1, _), (2, _), (4, _), (5, _), (6, _), (23, _)] ⟨rfl, rfl, rfl, rfl, rfl, rfl, trivial⟩ ?_
  rcases of_ite hF with ⟨h8, hF⟩ | ⟨h8, hF⟩
  ·refine at_cond_true rfl h8 ?_
   refine sr ?_
   refine av rfl (r_fieldAddr (fo := 1) Tryz.underlying54 rfl rfl (fun w => ⟨_, Tryz.sizeOf9 w⟩) rfl) ?_
   refine av rfl (r_load_cell Tryz.isAgg9 rfl (lens_cell0 (c := cStr) (y := x0.f_Value) (.s (.s .z)) (Lens.comp (Lens.whole _ _) (fun z => { x0 with f_Value := z }) (c_pairline_Pair_f_Value x0)) rfl)) ?_
   obtain ⟨t9, ht9, hF⟩ := of_bindM hF
   refine at_callB Tryz.func39 rfl (by kernel_rfl) rfl rfl (fun w hw => crawlwayref07_ParseHex_ok _ _ ht9 w) ?_
   refine av rfl (r_move rfl) ?_
   refine av rfl (r_extract rfl rfl) ?_
   refine av rfl (r_extract rfl rfl) ?_
   refine at_alloc (cs := Cd.cs (cVec (cInt .u8) 32 (by decide)) (Vector.replicate 32 (0 : Int) : (Vector Int 32))) Tryz.zeroValue29 rfl rfl ?_
   intro b10
   refine at_store (c := (cVec (cInt .u8) 32 (by decide))) (z := t9.1) .z (Lens.whole _ _) Tryz.sizeOf29 rfl rfl rfl ?_
   refine av rfl (r_assign rfl) ?_
   refine at_nil ?_
   refine at_drop (H := _) (.s (.s (.s .z))) ?_
   refine at_weak [(2, _), (5, _), (7, _), (8, _)] ⟨rfl, rfl, rfl, rfl, trivial⟩ ?_
   refine at_then_normal ?_
   refine sr ?_
   refine av rfl (r_load_aggc (c := (cVec (cInt .u8) 32 (by decide))) (z := t9.1) Tryz.isAgg29 Tryz.sizeOf29 rfl (lens_cell .z (Lens.whole _ _))) ?_
   refine av rfl (r_fieldAddr (fo := 1) Tryz.underlying46 rfl rfl (fun w => ⟨_, Tryz.sizeOf29 w⟩) rfl) ?_
   refine at_store (c := (cVec (cInt .u8) 32 (by decide))) (z := t9.1) (.s .z) (Lens.comp (Lens.whole _ _) (fun z => { { ({ f_Word := (0 : Int), f_Key := (Vector.replicate 32 (0 : Int) : (Vector Int 32)), f_N := (0 : Int), f_End := zqGT_0, f_P := zqGT_1 } : S_api_Field) with f_Word := t3 } with f_Key := z }) (c_api_Field_f_Key ({ ({ f_Word := (0 : Int), f_Key := (Vector.replicate 32 (0 : Int) : (Vector Int 32)), f_N := (0 : Int), f_End := zqGT_0, f_P := zqGT_1 } : S_api_Field) with f_Word := t3 }))) Tryz.sizeOf29 rfl rfl rfl ?_
   refine at_nil ?_
   refine at_drop (H := _) .z ?_
   refine at_weak [(2, _), (5, _), (8, _)] ⟨rfl, rfl, rfl, trivial⟩ ?_
   refine at_then_normal ?_
   refine at_region ?_
   refine av rfl (r_move rfl) ?_
   refine av rfl (r_assign rfl) ?_
   refine nwt [(2, _), (5, _), (6, _)] ⟨rfl, rfl, rfl, trivial⟩ ?_
   refine at_seq ?_
   refine sr ?_
   refine av rfl (r_move rfl) ?_
   refine av rfl (r_ineq rfl rfl) ?_
   refine nwt [(2, _), (5, _), (6, _), (82, _)] ⟨rfl, rfl, rfl, rfl, trivial⟩ ?_
   rcases of_ite hF with ⟨h11, hF⟩ | ⟨h11, hF⟩
   ·refine at_cond_true rfl h11 ?_
    refine sr ?_
    refine av rfl (r_build_struct (zs := Cd.cs c_api_Field ({ f_Word := (0 : Int), f_Key := (Vector.replicate 32 (0 : Int) : (Vector Int 32)), f_N := (0 : Int), f_End := zqGT_0, f_P := zqGT_1 } : S_api_Field)) (cs := Cd.cs c_api_Field ({ f_Word := (0 : Int), f_Key := (Vector.replicate 32 (0 : Int) : (Vector Int 32)), f_N := (0 : Int), f_End := zqGT_0, f_P := zqGT_1 } : S_api_Field)) Tryz.underlying46 Tryz.zeroValue46 rfl (places_api_Field_46) rfl rfl) ?_
    refine av rfl (r_move rfl) ?_
    refine at_store (c := c_api_Field) (z := ({ f_Word := (0 : Int), f_Key := (Vector.replicate 32 (0 : Int) : (Vector Int 32)), f_N := (0 : Int), f_End := zqGT_0, f_P := zqGT_1 } : S_api_Field)) (.s .z) (Lens.whole _ _) Tryz.sizeOf46 rfl rfl rfl ?_
    refine av rfl (r_assign rfl) ?_
    refine at_nil ?_
    refine at_drop (H := _) .z ?_
    refine at_weak [(2, _), (3, _)] ⟨rfl, rfl, trivial⟩ ?_
    refine at_then_normal ?_
    refine rt ?_
    have K := of_some hF
    subst K
    exact at_res2 rfl (res_cell (c := c_api_Field) (y := ({ f_Word := (0 : Int), f_Key := (Vector.replicate 32 (0 : Int) : (Vector Int 32)), f_N := (0 : Int), f_End := zqGT_0, f_P := zqGT_1 } : S_api_Field)) rfl .z (Lens.whole _ _) Tryz.isAgg46 Tryz.sizeOf46 (.inl rfl)) (res_tmp rfl) (fun w1 hw => ⟨rfl, hw.below⟩)
   ·refine at_cond_false rfl h11 ?_
    refine sns ?_
    refine av rfl (r_load_aggc (c := c_api_Field) (z := { { ({ f_Word := (0 : Int), f_Key := (Vector.replicate 32 (0 : Int) : (Vector Int 32)), f_N := (0 : Int), f_End := zqGT_0, f_P := zqGT_1 } : S_api_Field) with f_Word := t3 } with f_Key := t9.1 }) Tryz.isAgg46 Tryz.sizeOf46 rfl (lens_cell .z (Lens.whole _ _))) ?_
    refine at_store (c := c_api_Field) (z := { { ({ f_Word := (0 : Int), f_Key := (Vector.replicate 32 (0 : Int) : (Vector Int 32)), f_N := (0 : Int), f_End := zqGT_0, f_P := zqGT_1 } : S_api_Field) with f_Word := t3 } with f_Key := t9.1 }) (.s .z) (Lens.whole _ _) Tryz.sizeOf46 rfl rfl rfl ?_
    refine av rfl (r_assign rfl) ?_
    refine at_nil ?_
    refine at_drop (H := _) .z ?_
    refine at_weak [(2, _), (3, _)] ⟨rfl, rfl, trivial⟩ ?_
    refine at_then_normal ?_
    refine at_ret ?_
    have K := of_some hF
    subst K
    exact at_res2 rfl (res_cell (c := c_api_Field) (y := { { ({ f_Word := (0 : Int), f_Key := (Vector.replicate 32 (0 : Int) : (Vector Int 32)), f_N := (0 : Int), f_End := zqGT_0, f_P := zqGT_1 } : S_api_Field) with f_Word := t3 } with f_Key := t9.1 }) rfl .z (Lens.whole _ _) Tryz.isAgg46 Tryz.sizeOf46 (.inl rfl)) (res_tmp rfl) (fun w1 hw => ⟨rfl, hw.below⟩)
  ·refine at_cond_false rfl h8 ?_
   refine sr ?_
   refine av rfl (r_move rfl) ?_
   refine av rfl (r_ieql rfl rfl) ?_
   refine nwt [(1, _), (2, _), (4, _), (5, _), (6, _), (34, _)] ⟨rfl, rfl, rfl, rfl, rfl, rfl, trivial⟩ ?_
   rcases of_ite hF with ⟨h12, hF⟩ | ⟨h12, hF⟩
   ·refine at_cond_true rfl h12 ?_
    refine sr ?_
    refine av rfl (r_fieldAddr (fo := 1) Tryz.underlying54 rfl rfl (fun w => ⟨_, Tryz.sizeOf9 w⟩) rfl) ?_
    refine av rfl (r_load_cell Tryz.isAgg9 rfl (lens_cell0 (c := cStr) (y := x0.f_Value) (.s (.s .z)) (Lens.comp (Lens.whole _ _) (fun z => { x0 with f_Value := z }) (c_pairline_Pair_f_Value x0)) rfl)) ?_
    obtain ⟨t13, ht13, hF⟩ := of_bindM hF
    refine at_callB Tryz.func40 rfl (by kernel_rfl) rfl rfl (fun w hw => crawlwayref12_Parse_ok _ _ ht13 w) ?_
    refine av rfl (r_move rfl) ?_
    refine av rfl (r_extract rfl rfl) ?_
    refine av rfl (r_extract rfl rfl) ?_
    refine at_alloc (cs := Cd.cs c_api_Endpoint zqGT_0) Tryz.zeroValue27 rfl rfl ?_
    intro b14
    refine at_store (c := c_api_Endpoint) (z := t13.1) .z (Lens.whole _ _) Tryz.sizeOf27 rfl rfl rfl ?_
    refine av rfl (r_assign rfl) ?_
    refine at_nil ?_
    refine at_drop (H := _) (.s (.s (.s .z))) ?_
    refine at_weak [(2, _), (5, _), (9, _), (10, _)] ⟨rfl, rfl, rfl, rfl, trivial⟩ ?_
    refine at_then_normal ?_
    refine sr ?_
    refine av rfl (r_load_aggc (c := c_api_Endpoint) (z := t13.1) Tryz.isAgg27 Tryz.sizeOf27 rfl (lens_cell .z (Lens.whole _ _))) ?_
    refine av rfl (r_fieldAddr (fo := 34) Tryz.underlying46 rfl rfl (fun w => ⟨_, Tryz.sizeOf27 w⟩) rfl) ?_
    refine at_store (c := c_api_Endpoint) (z := t13.1) (.s .z) (Lens.comp (Lens.whole _ _) (fun z => { { ({ f_Word := (0 : Int), f_Key := (Vector.replicate 32 (0 : Int) : (Vector Int 32)), f_N := (0 : Int), f_End := zqGT_0, f_P := zqGT_1 } : S_api_Field) with f_Word := t3 } with f_End := z }) (c_api_Field_f_End ({ ({ f_Word := (0 : Int), f_Key := (Vector.replicate 32 (0 : Int) : (Vector Int 32)), f_N := (0 : Int), f_End := zqGT_0, f_P := zqGT_1 } : S_api_Field) with f_Word := t3 }))) Tryz.sizeOf27 rfl rfl rfl ?_
    refine at_nil ?_
    refine at_drop (H := _) .z ?_
    refine at_weak [(2, _), (5, _), (10, _)] ⟨rfl, rfl, rfl, trivial⟩ ?_
    refine at_then_normal ?_
    refine at_region ?_
    refine av rfl (r_move rfl) ?_
    refine av rfl (r_assign rfl) ?_
    refine nwt [(2, _), (5, _), (6, _)] ⟨rfl, rfl, rfl, trivial⟩ ?_
    refine at_seq ?_
    refine sr ?_
    refine av rfl (r_move rfl) ?_
    refine av rfl (r_ineq rfl rfl) ?_
    refine nwt [(2, _), (5, _), (6, _), (82, _)] ⟨rfl, rfl, rfl, rfl, trivial⟩ ?_
    rcases of_ite hF with ⟨h15, hF⟩ | ⟨h15, hF⟩
    ·refine at_cond_true rfl h15 ?_
     refine sr ?_
     refine av rfl (r_build_struct (zs := Cd.cs c_api_Field ({ f_Word := (0 : Int), f_Key := (Vector.replicate 32 (0 : Int) : (Vector Int 32)), f_N := (0 : Int), f_End := zqGT_0, f_P := zqGT_1 } : S_api_Field)) (cs := Cd.cs c_api_Field ({ f_Word := (0 : Int), f_Key := (Vector.replicate 32 (0 : Int) : (Vector Int 32)), f_N := (0 : Int), f_End := zqGT_0, f_P := zqGT_1 } : S_api_Field)) Tryz.underlying46 Tryz.zeroValue46 rfl (places_api_Field_46) rfl rfl) ?_
     refine av rfl (r_move rfl) ?_
     refine at_store (c := c_api_Field) (z := ({ f_Word := (0 : Int), f_Key := (Vector.replicate 32 (0 : Int) : (Vector Int 32)), f_N := (0 : Int), f_End := zqGT_0, f_P := zqGT_1 } : S_api_Field)) (.s .z) (Lens.whole _ _) Tryz.sizeOf46 rfl rfl rfl ?_
     refine av rfl (r_assign rfl) ?_
     refine at_nil ?_
     refine at_drop (H := _) .z ?_
     refine at_weak [(2, _), (3, _)] ⟨rfl, rfl, trivial⟩ ?_
     refine at_then_normal ?_
     refine rt ?_
     have K := of_some hF
     subst K
     exact at_res2 rfl (res_cell (c := c_api_Field) (y := ({ f_Word := (0 : Int), f_Key := (Vector.replicate 32 (0 : Int) : (Vector Int 32)), f_N := (0 : Int), f_End := zqGT_0, f_P := zqGT_1 } : S_api_Field)) rfl .z (Lens.whole _ _) Tryz.isAgg46 Tryz.sizeOf46 (.inl rfl)) (res_tmp rfl) (fun w1 hw => ⟨rfl, hw.below⟩)
    ·refine at_cond_false rfl h15 ?_
     refine sns ?_
     refine av rfl (r_load_aggc (c := c_api_Field) (z := { { ({ f_Word := (0 : Int), f_Key := (Vector.replicate 32 (0 : Int) : (Vector Int 32)), f_N := (0 : Int), f_End := zqGT_0, f_P := zqGT_1 } : S_api_Field) with f_Word := t3 } with f_End := t13.1 }) Tryz.isAgg46 Tryz.sizeOf46 rfl (lens_cell .z (Lens.whole _ _))) ?_
     refine at_store (c := c_api_Field) (z := { { ({ f_Word := (0 : Int), f_Key := (Vector.replicate 32 (0 : Int) : (Vector Int 32)), f_N := (0 : Int), f_End := zqGT_0, f_P := zqGT_1 } : S_api_Field) with f_Word := t3 } with f_End := t13.1 }) (.s .z) (Lens.whole _ _) Tryz.sizeOf46 rfl rfl rfl ?_
     refine av rfl (r_assign rfl) ?_
     refine at_nil ?_
     refine at_drop (H := _) .z ?_
     refine at_weak [(2, _), (3, _)] ⟨rfl, rfl, trivial⟩ ?_
     refine at_then_normal ?_
     refine at_ret ?_
     have K := of_some hF
     subst K
     exact at_res2 rfl (res_cell (c := c_api_Field) (y := { { ({ f_Word := (0 : Int), f_Key := (Vector.replicate 32 (0 : Int) : (Vector Int 32)), f_N := (0 : Int), f_End := zqGT_0, f_P := zqGT_1 } : S_api_Field) with f_Word := t3 } with f_End := t13.1 }) rfl .z (Lens.whole _ _) Tryz.isAgg46 Tryz.sizeOf46 (.inl rfl)) (res_tmp rfl) (fun w1 hw => ⟨rfl, hw.below⟩)
   ·refine at_cond_false rfl h12 ?_
    refine sr ?_
    refine av rfl (r_move rfl) ?_
    refine av rfl (r_ieql rfl rfl) ?_
    refine nwt [(1, _), (2, _), (4, _), (5, _), (6, _), (45, _)] ⟨rfl, rfl, rfl, rfl, rfl, rfl, trivial⟩ ?_
    rcases of_ite hF with ⟨h16, hF⟩ | ⟨h16, hF⟩
    ·refine at_cond_true rfl h16 ?_
     refine sr ?_
     refine av rfl (r_fieldAddr (fo := 1) Tryz.underlying54 rfl rfl (fun w => ⟨_, Tryz.sizeOf9 w⟩) rfl) ?_
     refine av rfl (r_load_cell Tryz.isAgg9 rfl (lens_cell0 (c := cStr) (y := x0.f_Value) (.s (.s .z)) (Lens.comp (Lens.whole _ _) (fun z => { x0 with f_Value := z }) (c_pairline_Pair_f_Value x0)) rfl)) ?_
     obtain ⟨t17, ht17, hF⟩ := of_bindM hF
     refine at_callB Tryz.func41 rfl (by kernel_rfl) rfl rfl (fun w hw => crawlwayref11_Parse_ok _ _ ht17 w) ?_
     refine av rfl (r_move rfl) ?_
     refine av rfl (r_extract rfl rfl) ?_
     refine av rfl (r_extract rfl rfl) ?_
     refine at_alloc (cs := Cd.cs c_api_Prefix zqGT_1) Tryz.zeroValue44 rfl rfl ?_
     intro b18
     refine at_store (c := c_api_Prefix) (z := t17.1) .z (Lens.whole _ _) Tryz.sizeOf44 rfl rfl rfl ?_
     refine av rfl (r_assign rfl) ?_
     refine at_nil ?_
     refine at_drop (H := _) (.s (.s (.s .z))) ?_
     refine at_weak [(2, _), (5, _), (11, _), (12, _)] ⟨rfl, rfl, rfl, rfl, trivial⟩ ?_
     refine at_then_normal ?_
     refine sr ?_
     refine av rfl (r_load_aggc (c := c_api_Prefix) (z := t17.1) Tryz.isAgg44 Tryz.sizeOf44 rfl (lens_cell .z (Lens.whole _ _))) ?_
     refine av rfl (r_fieldAddr (fo := 52) Tryz.underlying46 rfl rfl (fun w => ⟨_, Tryz.sizeOf44 w⟩) rfl) ?_
     refine at_store (c := c_api_Prefix) (z := t17.1) (.s .z) (Lens.comp (Lens.whole _ _) (fun z => { { ({ f_Word := (0 : Int), f_Key := (Vector.replicate 32 (0 : Int) : (Vector Int 32)), f_N := (0 : Int), f_End := zqGT_0, f_P := zqGT_1 } : S_api_Field) with f_Word := t3 } with f_P := z }) (c_api_Field_f_P ({ ({ f_Word := (0 : Int), f_Key := (Vector.replicate 32 (0 : Int) : (Vector Int 32)), f_N := (0 : Int), f_End := zqGT_0, f_P := zqGT_1 } : S_api_Field) with f_Word := t3 }))) Tryz.sizeOf44 rfl rfl rfl ?_
     refine at_nil ?_
     refine at_drop (H := _) .z ?_
     refine at_weak [(2, _), (5, _), (12, _)] ⟨rfl, rfl, rfl, trivial⟩ ?_
     refine at_then_normal ?_
     refine at_region ?_
     refine av rfl (r_move rfl) ?_
     refine av rfl (r_assign rfl) ?_
     refine nwt [(2, _), (5, _), (6, _)] ⟨rfl, rfl, rfl, trivial⟩ ?_
     refine at_seq ?_
     refine sr ?_
     refine av rfl (r_move rfl) ?_
     refine av rfl (r_ineq rfl rfl) ?_
     refine nwt [(2, _), (5, _), (6, _), (82, _)] ⟨rfl, rfl, rfl, rfl, trivial⟩ ?_
     rcases of_ite hF with ⟨h19, hF⟩ | ⟨h19, hF⟩
     ·refine at_cond_true rfl h19 ?_
      refine sr ?_
      refine av rfl (r_build_struct (zs := Cd.cs c_api_Field ({ f_Word := (0 : Int), f_Key := (Vector.replicate 32 (0 : Int) : (Vector Int 32)), f_N := (0 : Int), f_End := zqGT_0, f_P := zqGT_1 } : S_api_Field)) (cs := Cd.cs c_api_Field ({ f_Word := (0 : Int), f_Key := (Vector.replicate 32 (0 : Int) : (Vector Int 32)), f_N := (0 : Int), f_End := zqGT_0, f_P := zqGT_1 } : S_api_Field)) Tryz.underlying46 Tryz.zeroValue46 rfl (places_api_Field_46) rfl rfl) ?_
      refine av rfl (r_move rfl) ?_
      refine at_store (c := c_api_Field) (z := ({ f_Word := (0 : Int), f_Key := (Vector.replicate 32 (0 : Int) : (Vector Int 32)), f_N := (0 : Int), f_End := zqGT_0, f_P := zqGT_1 } : S_api_Field)) (.s .z) (Lens.whole _ _) Tryz.sizeOf46 rfl rfl rfl ?_
      refine av rfl (r_assign rfl) ?_
      refine at_nil ?_
      refine at_drop (H := _) .z ?_
      refine at_weak [(2, _), (3, _)] ⟨rfl, rfl, trivial⟩ ?_
      refine at_then_normal ?_
      refine rt ?_
      have K := of_some hF
      subst K
      exact at_res2 rfl (res_cell (c := c_api_Field) (y := ({ f_Word := (0 : Int), f_Key := (Vector.replicate 32 (0 : Int) : (Vector Int 32)), f_N := (0 : Int), f_End := zqGT_0, f_P := zqGT_1 } : S_api_Field)) rfl .z (Lens.whole _ _) Tryz.isAgg46 Tryz.sizeOf46 (.inl rfl)) (res_tmp rfl) (fun w1 hw => ⟨rfl, hw.below⟩)
     ·refine at_cond_false rfl h19 ?_
      refine sns ?_
      refine av rfl (r_load_aggc (c := c_api_Field) (z := { { ({ f_Word := (0 : Int), f_Key := (Vector.replicate 32 (0 : Int) : (Vector Int 32)), f_N := (0 : Int), f_End := zqGT_0, f_P := zqGT_1 } : S_api_Field) with f_Word := t3 } with f_P := t17.1 }) Tryz.isAgg46 Tryz.sizeOf46 rfl (lens_cell .z (Lens.whole _ _))) ?_
      refine at_store (c := c_api_Field) (z := { { ({ f_Word := (0 : Int), f_Key := (Vector.replicate 32 (0 : Int) : (Vector Int 32)), f_N := (0 : Int), f_End := zqGT_0, f_P := zqGT_1 } : S_api_Field) with f_Word := t3 } with f_P := t17.1 }) (.s .z) (Lens.whole _ _) Tryz.sizeOf46 rfl rfl rfl ?_
      refine av rfl (r_assign rfl) ?_
      refine at_nil ?_
      refine at_drop (H := _) .z ?_
      refine at_weak [(2, _), (3, _)] ⟨rfl, rfl, trivial⟩ ?_
      refine at_then_normal ?_
      refine at_ret ?_
      have K := of_some hF
      subst K
      exact at_res2 rfl (res_cell (c := c_api_Field) (y := { { ({ f_Word := (0 : Int), f_Key := (Vector.replicate 32 (0 : Int) : (Vector Int 32)), f_N := (0 : Int), f_End := zqGT_0, f_P := zqGT_1 } : S_api_Field) with f_Word := t3 } with f_P := t17.1 }) rfl .z (Lens.whole _ _) Tryz.isAgg46 Tryz.sizeOf46 (.inl rfl)) (res_tmp rfl) (fun w1 hw => ⟨rfl, hw.below⟩)
    ·refine at_cond_false rfl h16 ?_
     refine sr ?_
     refine av rfl (r_move rfl) ?_
     obtain ⟨t20, ht20, hF⟩ := of_bindM hF
     refine at_call0 Tryz.func42 rfl (by kernel_rfl) rfl rfl (fun w => crawlwayref37_flag_ok _ _ ht20 w) ?_
     refine nwt [(1, _), (2, _), (4, _), (5, _), (6, _), (56, _)] ⟨rfl, rfl, rfl, rfl, rfl, rfl, trivial⟩ ?_
     rcases of_ite hF with ⟨h21, hF⟩ | ⟨h21, hF⟩
     ·refine at_cond_true rfl h21 ?_
      refine sr ?_
      refine av rfl (r_fieldAddr (fo := 1) Tryz.underlying54 rfl rfl (fun w => ⟨_, Tryz.sizeOf9 w⟩) rfl) ?_
      refine av rfl (r_load_cell Tryz.isAgg9 rfl (lens_cell0 (c := cStr) (y := x0.f_Value) (.s (.s .z)) (Lens.comp (Lens.whole _ _) (fun z => { x0 with f_Value := z }) (c_pairline_Pair_f_Value x0)) rfl)) ?_
      refine av rfl (r_sneq rfl rfl) ?_
      refine at_nil ?_
      refine at_drop (H := _) (.s (.s .z)) ?_
      refine at_weak [(2, _), (5, _), (6, _), (59, _)] ⟨rfl, rfl, rfl, rfl, trivial⟩ ?_
      refine at_then_normal ?_
      rcases of_ite hF with ⟨h22, hF⟩ | ⟨h22, hF⟩
      ·refine at_cond_true rfl h22 ?_
       refine at_region ?_
       refine av rfl (r_assign rfl) ?_
       refine nwt [(2, _), (5, _), (6, _)] ⟨rfl, rfl, rfl, trivial⟩ ?_
       refine at_seq ?_
       refine sr ?_
       refine av rfl (r_move rfl) ?_
       refine av rfl (r_ineq rfl rfl) ?_
       refine nwt [(2, _), (5, _), (6, _), (82, _)] ⟨rfl, rfl, rfl, rfl, trivial⟩ ?_
       rcases of_ite hF with ⟨h23, hF⟩ | ⟨h23, hF⟩
       ·refine at_cond_true rfl h23 ?_
        refine sr ?_
        refine av rfl (r_build_struct (zs := Cd.cs c_api_Field ({ f_Word := (0 : Int), f_Key := (Vector.replicate 32 (0 : Int) : (Vector Int 32)), f_N := (0 : Int), f_End := zqGT_0, f_P := zqGT_1 } : S_api_Field)) (cs := Cd.cs c_api_Field ({ f_Word := (0 : Int), f_Key := (Vector.replicate 32 (0 : Int) : (Vector Int 32)), f_N := (0 : Int), f_End := zqGT_0, f_P := zqGT_1 } : S_api_Field)) Tryz.underlying46 Tryz.zeroValue46 rfl (places_api_Field_46) rfl rfl) ?_
        refine av rfl (r_move rfl) ?_
        refine at_store (c := c_api_Field) (z := ({ f_Word := (0 : Int), f_Key := (Vector.replicate 32 (0 : Int) : (Vector Int 32)), f_N := (0 : Int), f_End := zqGT_0, f_P := zqGT_1 } : S_api_Field)) (.s .z) (Lens.whole _ _) Tryz.sizeOf46 rfl rfl rfl ?_
        refine av rfl (r_assign rfl) ?_
        refine at_nil ?_
        refine at_drop (H := _) .z ?_
        refine at_weak [(2, _), (3, _)] ⟨rfl, rfl, trivial⟩ ?_
        refine at_then_normal ?_
        refine rt ?_
        have K := of_some hF
        subst K
        exact at_res2 rfl (res_cell (c := c_api_Field) (y := ({ f_Word := (0 : Int), f_Key := (Vector.replicate 32 (0 : Int) : (Vector Int 32)), f_N := (0 : Int), f_End := zqGT_0, f_P := zqGT_1 } : S_api_Field)) rfl .z (Lens.whole _ _) Tryz.isAgg46 Tryz.sizeOf46 (.inl rfl)) (res_tmp rfl) (fun w1 hw => ⟨rfl, hw.below⟩)
       ·refine at_cond_false rfl h23 ?_
        refine sns ?_
        refine av rfl (r_load_aggc (c := c_api_Field) (z := { ({ f_Word := (0 : Int), f_Key := (Vector.replicate 32 (0 : Int) : (Vector Int 32)), f_N := (0 : Int), f_End := zqGT_0, f_P := zqGT_1 } : S_api_Field) with f_Word := t3 }) Tryz.isAgg46 Tryz.sizeOf46 rfl (lens_cell .z (Lens.whole _ _))) ?_
        refine at_store (c := c_api_Field) (z := { ({ f_Word := (0 : Int), f_Key := (Vector.replicate 32 (0 : Int) : (Vector Int 32)), f_N := (0 : Int), f_End := zqGT_0, f_P := zqGT_1 } : S_api_Field) with f_Word := t3 }) (.s .z) (Lens.whole _ _) Tryz.sizeOf46 rfl rfl rfl ?_
        refine av rfl (r_assign rfl) ?_
        refine at_nil ?_
        refine at_drop (H := _) .z ?_
        refine at_weak [(2, _), (3, _)] ⟨rfl, rfl, trivial⟩ ?_
        refine at_then_normal ?_
        refine at_ret ?_
        have K := of_some hF
        subst K
        exact at_res2 rfl (res_cell (c := c_api_Field) (y := { ({ f_Word := (0 : Int), f_Key := (Vector.replicate 32 (0 : Int) : (Vector Int 32)), f_N := (0 : Int), f_End := zqGT_0, f_P := zqGT_1 } : S_api_Field) with f_Word := t3 }) rfl .z (Lens.whole _ _) Tryz.isAgg46 Tryz.sizeOf46 (.inl rfl)) (res_tmp rfl) (fun w1 hw => ⟨rfl, hw.below⟩)
      ·refine at_cond_false rfl h22 ?_
       refine sn ?_
       refine at_seq ?_
       refine sr ?_
       refine av rfl (r_move rfl) ?_
       refine av rfl (r_ineq rfl rfl) ?_
       refine nwt [(2, _), (5, _), (6, _), (82, _)] ⟨rfl, rfl, rfl, rfl, trivial⟩ ?_
       rcases of_ite hF with ⟨h24, hF⟩ | ⟨h24, hF⟩
       ·refine at_cond_true rfl h24 ?_
        refine sr ?_
        refine av rfl (r_build_struct (zs := Cd.cs c_api_Field ({ f_Word := (0 : Int), f_Key := (Vector.replicate 32 (0 : Int) : (Vector Int 32)), f_N := (0 : Int), f_End := zqGT_0, f_P := zqGT_1 } : S_api_Field)) (cs := Cd.cs c_api_Field ({ f_Word := (0 : Int), f_Key := (Vector.replicate 32 (0 : Int) : (Vector Int 32)), f_N := (0 : Int), f_End := zqGT_0, f_P := zqGT_1 } : S_api_Field)) Tryz.underlying46 Tryz.zeroValue46 rfl (places_api_Field_46) rfl rfl) ?_
        refine av rfl (r_move rfl) ?_
        refine at_store (c := c_api_Field) (z := ({ f_Word := (0 : Int), f_Key := (Vector.replicate 32 (0 : Int) : (Vector Int 32)), f_N := (0 : Int), f_End := zqGT_0, f_P := zqGT_1 } : S_api_Field)) (.s .z) (Lens.whole _ _) Tryz.sizeOf46 rfl rfl rfl ?_
        refine av rfl (r_assign rfl) ?_
        refine at_nil ?_
        refine at_drop (H := _) .z ?_
        refine at_weak [(2, _), (3, _)] ⟨rfl, rfl, trivial⟩ ?_
        refine at_then_normal ?_
        refine rt ?_
        have K := of_some hF
        subst K
        exact at_res2 rfl (res_cell (c := c_api_Field) (y := ({ f_Word := (0 : Int), f_Key := (Vector.replicate 32 (0 : Int) : (Vector Int 32)), f_N := (0 : Int), f_End := zqGT_0, f_P := zqGT_1 } : S_api_Field)) rfl .z (Lens.whole _ _) Tryz.isAgg46 Tryz.sizeOf46 (.inl rfl)) (res_tmp rfl) (fun w1 hw => ⟨rfl, hw.below⟩)
       ·refine at_cond_false rfl h24 ?_
        refine sns ?_
        refine av rfl (r_load_aggc (c := c_api_Field) (z := { ({ f_Word := (0 : Int), f_Key := (Vector.replicate 32 (0 : Int) : (Vector Int 32)), f_N := (0 : Int), f_End := zqGT_0, f_P := zqGT_1 } : S_api_Field) with f_Word := t3 }) Tryz.isAgg46 Tryz.sizeOf46 rfl (lens_cell .z (Lens.whole _ _))) ?_
        refine at_store (c := c_api_Field) (z := { ({ f_Word := (0 : Int), f_Key := (Vector.replicate 32 (0 : Int) : (Vector Int 32)), f_N := (0 : Int), f_End := zqGT_0, f_P := zqGT_1 } : S_api_Field) with f_Word := t3 }) (.s .z) (Lens.whole _ _) Tryz.sizeOf46 rfl rfl rfl ?_
        refine av rfl (r_assign rfl) ?_
        refine at_nil ?_
        refine at_drop (H := _) .z ?_
        refine at_weak [(2, _), (3, _)] ⟨rfl, rfl, trivial⟩ ?_
        refine at_then_normal ?_
        refine at_ret ?_
        have K := of_some hF
        subst K
        exact at_res2 rfl (res_cell (c := c_api_Field) (y := { ({ f_Word := (0 : Int), f_Key := (Vector.replicate 32 (0 : Int) : (Vector Int 32)), f_N := (0 : Int), f_End := zqGT_0, f_P := zqGT_1 } : S_api_Field) with f_Word := t3 }) rfl .z (Lens.whole _ _) Tryz.isAgg46 Tryz.sizeOf46 (.inl rfl)) (res_tmp rfl) (fun w1 hw => ⟨rfl, hw.below⟩)
     ·refine at_cond_false rfl h21 ?_
      refine at_seq ?_
      refine at_draw (by kernel_rfl) (by kernel_rfl) (fun _ h => h.drew) ?_
      refine atq_val rfl rfl rfl (r_fieldAddr (fo := 1) Tryz.underlying54 rfl rfl (fun w => ⟨_, Tryz.sizeOf9 w⟩) rfl) ?_
      refine atq_val rfl rfl rfl (r_load_cell Tryz.isAgg9 rfl (lens_cell0 (c := cStr) (y := x0.f_Value) (.s (.s .z)) (Lens.comp (Lens.whole _ _) (fun z => { x0 with f_Value := z }) (c_pairline_Pair_f_Value x0)) rfl)) ?_
      refine atq_val rfl rfl rfl (r_move rfl) ?_
      obtain ⟨t25, ht25, hF⟩ := of_bindM hF
      refine atq_call Tryz.func44 rfl (by kernel_rfl) rfl rfl (fun w hw => (crawlwayref37_most_ok _ _ ht25 w).mono fun _ _ h => ⟨h.1, h.2 ▸ hw⟩) ?_
      obtain ⟨t26, ht26, hF⟩ := of_bindM hF
      refine atq_call Tryz.func43 rfl (by kernel_rfl) rfl rfl (fun w hw => (crawlwayref03_Read_ok _ _ _ ht26 w).mono fun _ _ h => ⟨h.1, h.2 ▸ hw⟩) ?_
      refine atq_val rfl rfl rfl (r_move rfl) ?_
      refine atq_val rfl rfl rfl (r_extract rfl rfl) ?_
      refine atq_val rfl rfl rfl (r_extract rfl rfl) ?_
      refine atq_val rfl rfl rfl (r_assign rfl) ?_
      refine atq_val rfl rfl rfl (r_assign rfl) ?_
      refine atq_nil ?_
      refine at_drop (H := _) (.s (.s .z)) ?_
      refine at_weak [(2, _), (4, _), (5, _), (13, _), (14, _)] ⟨rfl, rfl, rfl, rfl, rfl, trivial⟩ ?_
      refine at_then_normal ?_
      refine sr ?_
      refine av rfl (r_move rfl) ?_
      refine av rfl (r_fieldAddr (fo := 33) Tryz.underlying46 rfl rfl (fun w => ⟨_, Tryz.sizeOf31 w⟩) rfl) ?_
      refine at_store (c := (cInt .u64)) (z := t26.1) .z (Lens.comp (Lens.whole _ _) (fun z => { { ({ f_Word := (0 : Int), f_Key := (Vector.replicate 32 (0 : Int) : (Vector Int 32)), f_N := (0 : Int), f_End := zqGT_0, f_P := zqGT_1 } : S_api_Field) with f_Word := t3 } with f_N := z }) (c_api_Field_f_N ({ ({ f_Word := (0 : Int), f_Key := (Vector.replicate 32 (0 : Int) : (Vector Int 32)), f_N := (0 : Int), f_End := zqGT_0, f_P := zqGT_1 } : S_api_Field) with f_Word := t3 }))) Tryz.sizeOf31 rfl rfl rfl ?_
      refine nws [(2, _), (4, _), (5, _), (13, _), (14, _)] ⟨rfl, rfl, rfl, rfl, rfl, trivial⟩ ?_
      refine av rfl (r_move rfl) ?_
      refine av rfl (r_assign rfl) ?_
      refine nws [(2, _), (4, _), (5, _), (6, _), (13, _)] ⟨rfl, rfl, rfl, rfl, rfl, trivial⟩ ?_
      refine av rfl (r_move rfl) ?_
      refine av rfl (r_ieql rfl rfl) ?_
      refine av rfl (r_move rfl) ?_
      rcases of_ite hF with ⟨h27, hF⟩ | ⟨h27, hF⟩
      ·refine at_fix (g := 73) rfl h27 ?_
       refine at_guard_yes rfl rfl rfl ?_
       refine av rfl (r_move rfl) ?_
       refine at_guard_yes rfl rfl rfl ?_
       refine av rfl (r_ieql rfl rfl) ?_
       refine av rfl (r_pick rfl rfl rfl) ?_
       refine av rfl (r_move rfl) ?_
       rcases of_ite hF with ⟨h28, hF⟩ | ⟨h28, hF⟩
       ·refine at_fix (g := 77) rfl h28 ?_
        refine at_guard_yes rfl rfl rfl ?_
        refine av rfl (r_move rfl) ?_
        refine at_guard_yes rfl rfl rfl ?_
        refine av rfl (r_ieql rfl rfl) ?_
        refine av rfl (r_pick rfl rfl rfl) ?_
        refine nwt [(2, _), (5, _), (6, _), (80, _)] ⟨rfl, rfl, rfl, rfl, trivial⟩ ?_
        rcases of_ite hF with ⟨h29, hF⟩ | ⟨h29, hF⟩
        ·refine at_cond_true rfl h29 ?_
         refine at_region ?_
         refine av rfl (r_assign rfl) ?_
         refine nwt [(2, _), (5, _), (6, _)] ⟨rfl, rfl, rfl, trivial⟩ ?_
         refine at_seq ?_
         refine sr ?_
         refine av rfl (r_move rfl) ?_
         refine av rfl (r_ineq rfl rfl) ?_
         refine nwt [(2, _), (5, _), (6, _), (82, _)] ⟨rfl, rfl, rfl, rfl, trivial⟩ ?_
         rcases of_ite hF with ⟨h30, hF⟩ | ⟨h30, hF⟩
         ·refine at_cond_true rfl h30 ?_
          refine sr ?_
          refine av rfl (r_build_struct (zs := Cd.cs c_api_Field ({ f_Word := (0 : Int), f_Key := (Vector.replicate 32 (0 : Int) : (Vector Int 32)), f_N := (0 : Int), f_End := zqGT_0, f_P := zqGT_1 } : S_api_Field)) (cs := Cd.cs c_api_Field ({ f_Word := (0 : Int), f_Key := (Vector.replicate 32 (0 : Int) : (Vector Int 32)), f_N := (0 : Int), f_End := zqGT_0, f_P := zqGT_1 } : S_api_Field)) Tryz.underlying46 Tryz.zeroValue46 rfl (places_api_Field_46) rfl rfl) ?_
          refine av rfl (r_move rfl) ?_
          refine at_store (c := c_api_Field) (z := ({ f_Word := (0 : Int), f_Key := (Vector.replicate 32 (0 : Int) : (Vector Int 32)), f_N := (0 : Int), f_End := zqGT_0, f_P := zqGT_1 } : S_api_Field)) (.s .z) (Lens.whole _ _) Tryz.sizeOf46 rfl rfl rfl ?_
          refine av rfl (r_assign rfl) ?_
          refine at_nil ?_
          refine at_drop (H := _) .z ?_
          refine at_weak [(2, _), (3, _)] ⟨rfl, rfl, trivial⟩ ?_
          refine at_then_normal ?_
          refine rt ?_
          have K := of_some hF
          subst K
          exact at_res2 rfl (res_cell (c := c_api_Field) (y := ({ f_Word := (0 : Int), f_Key := (Vector.replicate 32 (0 : Int) : (Vector Int 32)), f_N := (0 : Int), f_End := zqGT_0, f_P := zqGT_1 } : S_api_Field)) rfl .z (Lens.whole _ _) Tryz.isAgg46 Tryz.sizeOf46 (.inl rfl)) (res_tmp rfl) (fun w1 hw => ⟨rfl, hw.below⟩)
         ·refine at_cond_false rfl h30 ?_
          refine sns ?_
          refine av rfl (r_load_aggc (c := c_api_Field) (z := { { ({ f_Word := (0 : Int), f_Key := (Vector.replicate 32 (0 : Int) : (Vector Int 32)), f_N := (0 : Int), f_End := zqGT_0, f_P := zqGT_1 } : S_api_Field) with f_Word := t3 } with f_N := t26.1 }) Tryz.isAgg46 Tryz.sizeOf46 rfl (lens_cell .z (Lens.whole _ _))) ?_
          refine at_store (c := c_api_Field) (z := { { ({ f_Word := (0 : Int), f_Key := (Vector.replicate 32 (0 : Int) : (Vector Int 32)), f_N := (0 : Int), f_End := zqGT_0, f_P := zqGT_1 } : S_api_Field) with f_Word := t3 } with f_N := t26.1 }) (.s .z) (Lens.whole _ _) Tryz.sizeOf46 rfl rfl rfl ?_
          refine av rfl (r_assign rfl) ?_
          refine at_nil ?_
          refine at_drop (H := _) .z ?_
          refine at_weak [(2, _), (3, _)] ⟨rfl, rfl, trivial⟩ ?_
          refine at_then_normal ?_
          refine at_ret ?_
          have K := of_some hF
          subst K
          exact at_res2 rfl (res_cell (c := c_api_Field) (y := { { ({ f_Word := (0 : Int), f_Key := (Vector.replicate 32 (0 : Int) : (Vector Int 32)), f_N := (0 : Int), f_End := zqGT_0, f_P := zqGT_1 } : S_api_Field) with f_Word := t3 } with f_N := t26.1 }) rfl .z (Lens.whole _ _) Tryz.isAgg46 Tryz.sizeOf46 (.inl rfl)) (res_tmp rfl) (fun w1 hw => ⟨rfl, hw.below⟩)
        ·refine at_cond_false rfl h29 ?_
         refine sn ?_
         refine at_seq ?_
         refine sr ?_
         refine av rfl (r_move rfl) ?_
         refine av rfl (r_ineq rfl rfl) ?_
         refine nwt [(2, _), (5, _), (6, _), (82, _)] ⟨rfl, rfl, rfl, rfl, trivial⟩ ?_
         rcases of_ite hF with ⟨h31, hF⟩ | ⟨h31, hF⟩
         ·refine at_cond_true rfl h31 ?_
          refine sr ?_
          refine av rfl (r_build_struct (zs := Cd.cs c_api_Field ({ f_Word := (0 : Int), f_Key := (Vector.replicate 32 (0 : Int) : (Vector Int 32)), f_N := (0 : Int), f_End := zqGT_0, f_P := zqGT_1 } : S_api_Field)) (cs := Cd.cs c_api_Field ({ f_Word := (0 : Int), f_Key := (Vector.replicate 32 (0 : Int) : (Vector Int 32)), f_N := (0 : Int), f_End := zqGT_0, f_P := zqGT_1 } : S_api_Field)) Tryz.underlying46 Tryz.zeroValue46 rfl (places_api_Field_46) rfl rfl) ?_
          refine av rfl (r_move rfl) ?_
          refine at_store (c := c_api_Field) (z := ({ f_Word := (0 : Int), f_Key := (Vector.replicate 32 (0 : Int) : (Vector Int 32)), f_N := (0 : Int), f_End := zqGT_0, f_P := zqGT_1 } : S_api_Field)) (.s .z) (Lens.whole _ _) Tryz.sizeOf46 rfl rfl rfl ?_
          refine av rfl (r_assign rfl) ?_
          refine at_nil ?_
          refine at_drop (H := _) .z ?_
          refine at_weak [(2, _), (3, _)] ⟨rfl, rfl, trivial⟩ ?_
          refine at_then_normal ?_
          refine rt ?_
          have K := of_some hF
          subst K
          exact at_res2 rfl (res_cell (c := c_api_Field) (y := ({ f_Word := (0 : Int), f_Key := (Vector.replicate 32 (0 : Int) : (Vector Int 32)), f_N := (0 : Int), f_End := zqGT_0, f_P := zqGT_1 } : S_api_Field)) rfl .z (Lens.whole _ _) Tryz.isAgg46 Tryz.sizeOf46 (.inl rfl)) (res_tmp rfl) (fun w1 hw => ⟨rfl, hw.below⟩)
         ·refine at_cond_false rfl h31 ?_
          refine sns ?_
          refine av rfl (r_load_aggc (c := c_api_Field) (z := { { ({ f_Word := (0 : Int), f_Key := (Vector.replicate 32 (0 : Int) : (Vector Int 32)), f_N := (0 : Int), f_End := zqGT_0, f_P := zqGT_1 } : S_api_Field) with f_Word := t3 } with f_N := t26.1 }) Tryz.isAgg46 Tryz.sizeOf46 rfl (lens_cell .z (Lens.whole _ _))) ?_
          refine at_store (c := c_api_Field) (z := { { ({ f_Word := (0 : Int), f_Key := (Vector.replicate 32 (0 : Int) : (Vector Int 32)), f_N := (0 : Int), f_End := zqGT_0, f_P := zqGT_1 } : S_api_Field) with f_Word := t3 } with f_N := t26.1 }) (.s .z) (Lens.whole _ _) Tryz.sizeOf46 rfl rfl rfl ?_
          refine av rfl (r_assign rfl) ?_
          refine at_nil ?_
          refine at_drop (H := _) .z ?_
          refine at_weak [(2, _), (3, _)] ⟨rfl, rfl, trivial⟩ ?_
          refine at_then_normal ?_
          refine at_ret ?_
          have K := of_some hF
          subst K
          exact at_res2 rfl (res_cell (c := c_api_Field) (y := { { ({ f_Word := (0 : Int), f_Key := (Vector.replicate 32 (0 : Int) : (Vector Int 32)), f_N := (0 : Int), f_End := zqGT_0, f_P := zqGT_1 } : S_api_Field) with f_Word := t3 } with f_N := t26.1 }) rfl .z (Lens.whole _ _) Tryz.isAgg46 Tryz.sizeOf46 (.inl rfl)) (res_tmp rfl) (fun w1 hw => ⟨rfl, hw.below⟩)
       ·refine at_fix (g := 77) rfl h28 ?_
        refine at_guard_no rfl rfl rfl rfl rfl ?_
        refine at_guard_no rfl rfl rfl rfl rfl ?_
        refine av rfl (r_pick rfl rfl rfl) ?_
        refine nwt [(2, _), (5, _), (6, _), (80, _)] ⟨rfl, rfl, rfl, rfl, trivial⟩ ?_
        refine at_cond_false rfl rfl ?_
        refine sn ?_
        refine at_seq ?_
        refine sr ?_
        refine av rfl (r_move rfl) ?_
        refine av rfl (r_ineq rfl rfl) ?_
        refine nwt [(2, _), (5, _), (6, _), (82, _)] ⟨rfl, rfl, rfl, rfl, trivial⟩ ?_
        rcases of_ite hF with ⟨h32, hF⟩ | ⟨h32, hF⟩
        ·refine at_cond_true rfl h32 ?_
         refine sr ?_
         refine av rfl (r_build_struct (zs := Cd.cs c_api_Field ({ f_Word := (0 : Int), f_Key := (Vector.replicate 32 (0 : Int) : (Vector Int 32)), f_N := (0 : Int), f_End := zqGT_0, f_P := zqGT_1 } : S_api_Field)) (cs := Cd.cs c_api_Field ({ f_Word := (0 : Int), f_Key := (Vector.replicate 32 (0 : Int) : (Vector Int 32)), f_N := (0 : Int), f_End := zqGT_0, f_P := zqGT_1 } : S_api_Field)) Tryz.underlying46 Tryz.zeroValue46 rfl (places_api_Field_46) rfl rfl) ?_
         refine av rfl (r_move rfl) ?_
         refine at_store (c := c_api_Field) (z := ({ f_Word := (0 : Int), f_Key := (Vector.replicate 32 (0 : Int) : (Vector Int 32)), f_N := (0 : Int), f_End := zqGT_0, f_P := zqGT_1 } : S_api_Field)) (.s .z) (Lens.whole _ _) Tryz.sizeOf46 rfl rfl rfl ?_
         refine av rfl (r_assign rfl) ?_
         refine at_nil ?_
         refine at_drop (H := _) .z ?_
         refine at_weak [(2, _), (3, _)] ⟨rfl, rfl, trivial⟩ ?_
         refine at_then_normal ?_
         refine rt ?_
         have K := of_some hF
         subst K
         exact at_res2 rfl (res_cell (c := c_api_Field) (y := ({ f_Word := (0 : Int), f_Key := (Vector.replicate 32 (0 : Int) : (Vector Int 32)), f_N := (0 : Int), f_End := zqGT_0, f_P := zqGT_1 } : S_api_Field)) rfl .z (Lens.whole _ _) Tryz.isAgg46 Tryz.sizeOf46 (.inl rfl)) (res_tmp rfl) (fun w1 hw => ⟨rfl, hw.below⟩)
        ·refine at_cond_false rfl h32 ?_
         refine sns ?_
         refine av rfl (r_load_aggc (c := c_api_Field) (z := { { ({ f_Word := (0 : Int), f_Key := (Vector.replicate 32 (0 : Int) : (Vector Int 32)), f_N := (0 : Int), f_End := zqGT_0, f_P := zqGT_1 } : S_api_Field) with f_Word := t3 } with f_N := t26.1 }) Tryz.isAgg46 Tryz.sizeOf46 rfl (lens_cell .z (Lens.whole _ _))) ?_
         refine at_store (c := c_api_Field) (z := { { ({ f_Word := (0 : Int), f_Key := (Vector.replicate 32 (0 : Int) : (Vector Int 32)), f_N := (0 : Int), f_End := zqGT_0, f_P := zqGT_1 } : S_api_Field) with f_Word := t3 } with f_N := t26.1 }) (.s .z) (Lens.whole _ _) Tryz.sizeOf46 rfl rfl rfl ?_
         refine av rfl (r_assign rfl) ?_
         refine at_nil ?_
         refine at_drop (H := _) .z ?_
         refine at_weak [(2, _), (3, _)] ⟨rfl, rfl, trivial⟩ ?_
         refine at_then_normal ?_
         refine at_ret ?_
         have K := of_some hF
         subst K
         exact at_res2 rfl (res_cell (c := c_api_Field) (y := { { ({ f_Word := (0 : Int), f_Key := (Vector.replicate 32 (0 : Int) : (Vector Int 32)), f_N := (0 : Int), f_End := zqGT_0, f_P := zqGT_1 } : S_api_Field) with f_Word := t3 } with f_N := t26.1 }) rfl .z (Lens.whole _ _) Tryz.isAgg46 Tryz.sizeOf46 (.inl rfl)) (res_tmp rfl) (fun w1 hw => ⟨rfl, hw.below⟩)
      ·refine at_fix (g := 73) rfl h27 ?_
       refine at_guard_no rfl rfl rfl rfl rfl ?_
       refine at_guard_no rfl rfl rfl rfl rfl ?_
       refine av rfl (r_pick rfl rfl rfl) ?_
       refine av rfl (r_move rfl) ?_
       refine at_guard_no rfl rfl rfl rfl rfl ?_
       refine at_guard_no rfl rfl rfl rfl rfl ?_
       refine av rfl (r_pick rfl rfl rfl) ?_
       refine nwt [(2, _), (5, _), (6, _), (80, _)] ⟨rfl, rfl, rfl, rfl, trivial⟩ ?_
       refine at_cond_false rfl rfl ?_
       refine sn ?_
       refine at_seq ?_
       refine sr ?_
       refine av rfl (r_move rfl) ?_
       refine av rfl (r_ineq rfl rfl) ?_
       refine nwt [(2, _), (5, _), (6, _), (82, _)] ⟨rfl, rfl, rfl, rfl, trivial⟩ ?_
       rcases of_ite hF with ⟨h33, hF⟩ | ⟨h33, hF⟩
       ·refine at_cond_true rfl h33 ?_
        refine sr ?_
        refine av rfl (r_build_struct (zs := Cd.cs c_api_Field ({ f_Word := (0 : Int), f_Key := (Vector.replicate 32 (0 : Int) : (Vector Int 32)), f_N := (0 : Int), f_End := zqGT_0, f_P := zqGT_1 } : S_api_Field)) (cs := Cd.cs c_api_Field ({ f_Word := (0 : Int), f_Key := (Vector.replicate 32 (0 : Int) : (Vector Int 32)), f_N := (0 : Int), f_End := zqGT_0, f_P := zqGT_1 } : S_api_Field)) Tryz.underlying46 Tryz.zeroValue46 rfl (places_api_Field_46) rfl rfl) ?_
        refine av rfl (r_move rfl) ?_
        refine at_store (c := c_api_Field) (z := ({ f_Word := (0 : Int), f_Key := (Vector.replicate 32 (0 : Int) : (Vector Int 32)), f_N := (0 : Int), f_End := zqGT_0, f_P := zqGT_1 } : S_api_Field)) (.s .z) (Lens.whole _ _) Tryz.sizeOf46 rfl rfl rfl ?_
        refine av rfl (r_assign rfl) ?_
        refine at_nil ?_
        refine at_drop (H := _) .z ?_
        refine at_weak [(2, _), (3, _)] ⟨rfl, rfl, trivial⟩ ?_
        refine at_then_normal ?_
        refine rt ?_
        have K := of_some hF
        subst K
        exact at_res2 rfl (res_cell (c := c_api_Field) (y := ({ f_Word := (0 : Int), f_Key := (Vector.replicate 32 (0 : Int) : (Vector Int 32)), f_N := (0 : Int), f_End := zqGT_0, f_P := zqGT_1 } : S_api_Field)) rfl .z (Lens.whole _ _) Tryz.isAgg46 Tryz.sizeOf46 (.inl rfl)) (res_tmp rfl) (fun w1 hw => ⟨rfl, hw.below⟩)
       ·refine at_cond_false rfl h33 ?_
        refine sns ?_
        refine av rfl (r_load_aggc (c := c_api_Field) (z := { { ({ f_Word := (0 : Int), f_Key := (Vector.replicate 32 (0 : Int) : (Vector Int 32)), f_N := (0 : Int), f_End := zqGT_0, f_P := zqGT_1 } : S_api_Field) with f_Word := t3 } with f_N := t26.1 }) Tryz.isAgg46 Tryz.sizeOf46 rfl (lens_cell .z (Lens.whole _ _))) ?_
        refine at_store (c := c_api_Field) (z := { { ({ f_Word := (0 : Int), f_Key := (Vector.replicate 32 (0 : Int) : (Vector Int 32)), f_N := (0 : Int), f_End := zqGT_0, f_P := zqGT_1 } : S_api_Field) with f_Word := t3 } with f_N := t26.1 }) (.s .z) (Lens.whole _ _) Tryz.sizeOf46 rfl rfl rfl ?_
        refine av rfl (r_assign rfl) ?_
        refine at_nil ?_
        refine at_drop (H := _) .z ?_
        refine at_weak [(2, _), (3, _)] ⟨rfl, rfl, trivial⟩ ?_
        refine at_then_normal ?_
        refine at_ret ?_
        have K := of_some hF
        subst K
        exact at_res2 rfl (res_cell (c := c_api_Field) (y := { { ({ f_Word := (0 : Int), f_Key := (Vector.replicate 32 (0 : Int) : (Vector Int 32)), f_N := (0 : Int), f_End := zqGT_0, f_P := zqGT_1 } : S_api_Field) with f_Word := t3 } with f_N := t26.1 }) rfl .z (Lens.whole _ _) Tryz.isAgg46 Tryz.sizeOf46 (.inl rfl)) (res_tmp rfl) (fun w1 hw => ⟨rfl, hw.below⟩)
end Go.Proofs.YtkkmmpofdcccmaaGreatDoor
namespace Go.Proofs.YtkkmmpofdcccmaaGreatDoor
open E Go.RowKit
abbrev zqGL_0 : S_api_Endpoint := ({ f_A := ({ f_V := (0 : Int), f_B := (Vector.replicate 16 (0 : Int) : (Vector Int 16)) } : S_api_Addr), f_Port := (0 : Int) } : S_api_Endpoint)
abbrev zqGL_1 : S_api_Prefix := ({ f_A := ({ f_V := (0 : Int), f_B := (Vector.replicate 16 (0 : Int) : (Vector Int 16)) } : S_api_Addr), f_Bits := (0 : Int) } : S_api_Prefix)
abbrev zqGL_2 : S_pairline_Pair := ({ f_Key := (⟨#[]⟩ : ByteArray), f_Value := (⟨#[]⟩ : ByteArray) } : S_pairline_Pair)
def crawlwaylaw37_alive : Option (Bool) :=
  field_Read ({ { ({ f_Key := (⟨#[]⟩ : ByteArray), f_Value := (⟨#[]⟩ : ByteArray) } : S_pairline_Pair) with f_Key := ⟨#[102, 119, 109, 97, 114, 107]⟩ } with f_Value := ⟨#[48, 120, 53]⟩ }) >>= fun t1 => if (t1.2 == 5) = true then (field_Word (⟨#[101, 114, 114, 110, 111]⟩ : ByteArray) >>= fun t4 => if (t4 == 16) = true then (field_Name 1 >>= fun t6 => some (seq t6 (⟨#[112, 114, 105, 118, 97, 116, 101, 95, 107, 101, 121]⟩ : ByteArray))) else (some false)) else (some false)
theorem crawlwaylaw37_alive_ok (r : Bool) (hF : crawlwaylaw37_alive  = some r) (w : World) (hg_bytealg_MaxLen : GV_bytealg_MaxLen w) (hg_field_names : GV_field_names w) (hg_strconv_ErrRange : GV_strconv_ErrRange w) (hg_strconv_ErrSyntax : GV_strconv_ErrSyntax w) (hg_strconv_uint64pow10 : GV_strconv_uint64pow10 w) :
    Calls Tryz.prog 18 #[] w (fun e w' => e = .returned (.bool r) ∧ Below w.heap.size w w') := by
 unfold crawlwaylaw37_alive at hF
 refine calls_enter (l := []) Tryz.func18 rfl rfl rfl ?_
 refine at_start ?_
 refine at_weak [] trivial ?_
 refine sr ?_
 refine av rfl (r_assign rfl) ?_
 refine nws [] trivial ?_
 refine av rfl (r_build_struct (zs := Cd.cs c_pairline_Pair zqGL_2) (cs := Cd.cs c_pairline_Pair ({ { zqGL_2 with f_Key := ⟨#[102, 119, 109, 97, 114, 107]⟩ } with f_Value := ⟨#[48, 120, 53]⟩ })) Tryz.underlying51 Tryz.zeroValue51 rfl (places_pairline_Pair_51) rfl (fill_step (c := cStr) (z := ⟨#[102, 119, 109, 97, 114, 107]⟩) rfl (c_pairline_Pair_f_Key zqGL_2) rfl (fill_step (c := cStr) (z := ⟨#[48, 120, 53]⟩) rfl (c_pairline_Pair_f_Value ({ zqGL_2 with f_Key := ⟨#[102, 119, 109, 97, 114, 107]⟩ })) rfl rfl))) ?_
 obtain ⟨t1, ht1, hF⟩ := of_bindM hF
 refine at_callB Tryz.func19 rfl (by kernel_rfl) rfl rfl (fun w hw => field_Read_ok _ _ ht1 w (hg_bytealg_MaxLen.on hw.below) (hg_field_names.on hw.below) (hg_strconv_ErrRange.on hw.below) (hg_strconv_ErrSyntax.on hw.below) (hg_strconv_uint64pow10.on hw.below)) ?_
 refine av rfl (r_move rfl) ?_
 refine av rfl (r_extract rfl rfl) ?_
 refine av rfl (r_extract rfl rfl) ?_
 refine at_alloc (cs := Cd.cs c_api_Field ({ f_Word := (0 : Int), f_Key := (Vector.replicate 32 (0 : Int) : (Vector Int 32)), f_N := (0 : Int), f_End := zqGL_0, f_P := zqGL_1 } : S_api_Field)) Tryz.zeroValue46 rfl rfl ?_
 intro b2
 refine at_store (c := c_api_Field) (z := t1.1) .z (Lens.whole _ _) Tryz.sizeOf46 rfl rfl rfl ?_
 refine av rfl (r_assign rfl) ?_
 refine at_nil ?_
 refine at_drop (H := _) .z ?_
 refine at_weak [(2, _)] ⟨rfl, trivial⟩ ?_
 refine at_then_normal ?_
 refine sr ?_
 refine av rfl (r_move rfl) ?_
 refine av rfl (r_ieql rfl rfl) ?_
 refine av rfl (r_move rfl) ?_
 rcases of_ite hF with ⟨h3, hF⟩ | ⟨h3, hF⟩
 ·refine at_fix (g := 10) rfl h3 ?_
  refine at_guard_yes rfl rfl rfl ?_
  obtain ⟨t4, ht4, hF⟩ := of_bindM hF
  refine at_callB Tryz.func16 rfl (by kernel_rfl) rfl rfl (fun w hw => callB_of_call0 (field_Word_ok _ _ ht4 w (hg_field_names.on hw.below))) ?_
  refine at_guard_yes rfl rfl rfl ?_
  refine av rfl (r_ieql rfl rfl) ?_
  refine av rfl (r_pick rfl rfl rfl) ?_
  refine av rfl (r_move rfl) ?_
  rcases of_ite hF with ⟨h5, hF⟩ | ⟨h5, hF⟩
  ·refine at_fix (g := 14) rfl h5 ?_
   refine at_guard_yes rfl rfl rfl ?_
   obtain ⟨t6, ht6, hF⟩ := of_bindM hF
   refine at_callB Tryz.func15 rfl (by kernel_rfl) rfl rfl (fun w hw => callB_of_call0 (field_Name_ok _ _ ht6 w (hg_field_names.on hw.below))) ?_
   refine at_guard_yes rfl rfl rfl ?_
   refine av rfl (r_seql rfl rfl) ?_
   refine av rfl (r_pick rfl rfl rfl) ?_
   refine av rfl (r_assign rfl) ?_
   refine nwt [(0, _)] ⟨rfl, trivial⟩ ?_
   refine at_ret ?_
   have K := of_some hF
   subst K
   exact at_return1 rfl rfl (fun w1 hw => ⟨rfl, hw.below⟩)
  ·refine at_fix (g := 14) rfl h5 ?_
   refine at_guard_no rfl rfl rfl rfl rfl ?_
   refine at_guard_no rfl rfl rfl rfl rfl ?_
   refine av rfl (r_pick rfl rfl rfl) ?_
   refine av rfl (r_assign rfl) ?_
   refine nwt [(0, _)] ⟨rfl, trivial⟩ ?_
   refine at_ret ?_
   have K := of_some hF
   subst K
   exact at_return1 rfl rfl (fun w1 hw => ⟨rfl, hw.below⟩)
 ·refine at_fix (g := 10) rfl h3 ?_
  refine at_guard_no rfl rfl rfl rfl rfl ?_
  refine at_guard_no rfl rfl rfl rfl rfl ?_
  refine av rfl (r_pick rfl rfl rfl) ?_
  refine av rfl (r_move rfl) ?_
  refine at_guard_no rfl rfl rfl rfl rfl ?_
  refine at_guard_no rfl rfl rfl rfl rfl ?_
  refine av rfl (r_pick rfl rfl rfl) ?_
  refine av rfl (r_assign rfl) ?_
  refine nwt [(0, _)] ⟨rfl, trivial⟩ ?_
  refine at_ret ?_
  have K := of_some hF
  subst K
  exact at_return1 rfl rfl (fun w1 hw => ⟨rfl, hw.below⟩)
def crawlwaylaw37_FieldReads (x0 : ByteArray) (x1 : ByteArray) : Option (Bool) :=
  if (decide ((x1.size : Int) > 300)) = true then (crawlwaylaw37_alive >>= fun t2 => some t2) else (field_Read ({ { ({ f_Key := (⟨#[]⟩ : ByteArray), f_Value := (⟨#[]⟩ : ByteArray) } : S_pairline_Pair) with f_Key := x0 } with f_Value := x1 }) >>= fun t3 => crawlwayref37_Read ({ { ({ f_Key := (⟨#[]⟩ : ByteArray), f_Value := (⟨#[]⟩ : ByteArray) } : S_pairline_Pair) with f_Key := x0 } with f_Value := x1 }) >>= fun t5 => if (decide (t3.1 = t5.1)) = true then (if (t3.2 == t5.2) = true then (if (t5.2 != 0) = true then (crawlwaylaw37_alive >>= fun t10 => some t10) else (field_Right t3.1 >>= fun t11 => if t11 = true then (crawlwaylaw37_alive >>= fun t13 => some t13) else (some false))) else (some false)) else (some false))
theorem crawlwaylaw37_FieldReads_ok (x0 : ByteArray) (x1 : ByteArray) (r : Bool) (hF : crawlwaylaw37_FieldReads x0 x1 = some r) (w : World) (hg_bytealg_MaxLen : GV_bytealg_MaxLen w) (hg_field_names : GV_field_names w) (hg_strconv_ErrRange : GV_strconv_ErrRange w) (hg_strconv_ErrSyntax : GV_strconv_ErrSyntax w) (hg_strconv_uint64pow10 : GV_strconv_uint64pow10 w) :
    Calls Tryz.prog 5 #[.string x0, .string x1] w (fun e w' => e = .returned (.bool r) ∧ Below w.heap.size w w') := by
 unfold crawlwaylaw37_FieldReads at hF
 refine calls_enter (l := [.string x0, .string x1]) Tryz.func5 rfl rfl rfl ?_
 refine at_start ?_
 refine at_weak [(0, _), (1, _)] ⟨rfl, rfl, trivial⟩ ?_
 refine sr ?_
 refine av rfl (r_assign rfl) ?_
 refine nwt [(0, _), (1, _)] ⟨rfl, rfl, trivial⟩ ?_
 refine at_seq ?_
 refine sr ?_
 refine av rfl (r_move rfl) ?_
 refine av rfl (r_len_str Tryz.underlying9 rfl) ?_
 refine av rfl (r_igtr rfl rfl) ?_
 refine nwt [(0, _), (1, _), (11, _)] ⟨rfl, rfl, rfl, trivial⟩ ?_
 rcases of_ite hF with ⟨h1, hF⟩ | ⟨h1, hF⟩
 ·refine at_cond_true rfl h1 ?_
  refine sr ?_
  obtain ⟨t2, ht2, hF⟩ := of_bindM hF
  refine at_callB Tryz.func18 rfl (by kernel_rfl) rfl rfl (fun w hw => crawlwaylaw37_alive_ok  _ ht2 w (hg_bytealg_MaxLen.on hw.below) (hg_field_names.on hw.below) (hg_strconv_ErrRange.on hw.below) (hg_strconv_ErrSyntax.on hw.below) (hg_strconv_uint64pow10.on hw.below)) ?_
  refine av rfl (r_assign rfl) ?_
  refine nwt [(4, _)] ⟨rfl, trivial⟩ ?_
  refine rt ?_
  have K := of_some hF
  subst K
  exact at_return1 rfl rfl (fun w1 hw => ⟨rfl, hw.below⟩)
 ·refine at_cond_false rfl h1 ?_
  refine sns ?_
  refine av rfl (r_move rfl) ?_
  refine av rfl (r_move rfl) ?_
  refine av rfl (r_build_struct (zs := Cd.cs c_pairline_Pair zqGL_2) (cs := Cd.cs c_pairline_Pair ({ { zqGL_2 with f_Key := x0 } with f_Value := x1 })) Tryz.underlying51 Tryz.zeroValue51 rfl (places_pairline_Pair_51) rfl (fill_step (c := cStr) (z := x0) rfl (c_pairline_Pair_f_Key zqGL_2) rfl (fill_step (c := cStr) (z := x1) rfl (c_pairline_Pair_f_Value ({ zqGL_2 with f_Key := x0 })) rfl rfl))) ?_
  obtain ⟨t3, ht3, hF⟩ := of_bindM hF
  refine at_callB Tryz.func19 rfl (by kernel_rfl) rfl rfl (fun w hw => field_Read_ok _ _ ht3 w (hg_bytealg_MaxLen.on hw.below) (hg_field_names.on hw.below) (hg_strconv_ErrRange.on hw.below) (hg_strconv_ErrSyntax.on hw.below) (hg_strconv_uint64pow10.on hw.below)) ?_
  refine av rfl (r_move rfl) ?_
  refine av rfl (r_extract rfl rfl) ?_
  refine av rfl (r_extract rfl rfl) ?_
  refine at_alloc (cs := Cd.cs c_api_Field ({ f_Word := (0 : Int), f_Key := (Vector.replicate 32 (0 : Int) : (Vector Int 32)), f_N := (0 : Int), f_End := zqGL_0, f_P := zqGL_1 } : S_api_Field)) Tryz.zeroValue46 rfl rfl ?_
  intro b4
  refine at_store (c := c_api_Field) (z := t3.1) .z (Lens.whole _ _) Tryz.sizeOf46 rfl rfl rfl ?_
  refine av rfl (r_assign rfl) ?_
  refine nws [(0, _), (1, _), (5, _), (6, _)] ⟨rfl, rfl, rfl, rfl, trivial⟩ ?_
  refine av rfl (r_move rfl) ?_
  refine av rfl (r_move rfl) ?_
  refine av rfl (r_build_struct (zs := Cd.cs c_pairline_Pair zqGL_2) (cs := Cd.cs c_pairline_Pair ({ { zqGL_2 with f_Key := x0 } with f_Value := x1 })) Tryz.underlying54 Tryz.zeroValue54 rfl (places_pairline_Pair_54) rfl (fill_step (c := cStr) (z := x0) rfl (c_pairline_Pair_f_Key zqGL_2) rfl (fill_step (c := cStr) (z := x1) rfl (c_pairline_Pair_f_Value ({ zqGL_2 with f_Key := x0 })) rfl rfl))) ?_
  obtain ⟨t5, ht5, hF⟩ := of_bindM hF
  refine at_callB Tryz.func20 rfl (by kernel_rfl) rfl rfl (fun w hw => crawlwayref37_Read_ok _ _ ht5 w) ?_
  refine av rfl (r_move rfl) ?_
  refine av rfl (r_extract rfl rfl) ?_
  refine av rfl (r_extract rfl rfl) ?_
  refine at_alloc (cs := Cd.cs c_api_Field ({ f_Word := (0 : Int), f_Key := (Vector.replicate 32 (0 : Int) : (Vector Int 32)), f_N := (0 : Int), f_End := zqGL_0, f_P := zqGL_1 } : S_api_Field)) Tryz.zeroValue46 rfl rfl ?_
  intro b6
  refine at_store (c := c_api_Field) (z := t5.1) .z (Lens.whole _ _) Tryz.sizeOf46 rfl rfl rfl ?_
  refine av rfl (r_assign rfl) ?_
  refine nws [(5, _), (6, _), (7, _), (8, _)] ⟨rfl, rfl, rfl, rfl, trivial⟩ ?_
  refine av rfl (r_load_aggc (c := c_api_Field) (z := t3.1) Tryz.isAgg46 Tryz.sizeOf46 rfl (lens_cell (.s .z) (Lens.whole _ _))) ?_
  refine av rfl (r_load_aggc (c := c_api_Field) (z := t5.1) Tryz.isAgg46 Tryz.sizeOf46 rfl (lens_cell .z (Lens.whole _ _))) ?_
  refine av rfl (r_eqagg (c := c_api_Field) (a := t3.1) (b := t5.1) (eq_api_Field_46) rfl Tryz.eqGuardType46 rfl rfl (.inl rfl) rfl) ?_
  refine av rfl (r_move rfl) ?_
  rcases of_ite hF with ⟨h7, hF⟩ | ⟨h7, hF⟩
  ·refine at_fix (g := 30) rfl h7 ?_
   refine at_guard_yes rfl rfl rfl ?_
   refine av rfl (r_move rfl) ?_
   refine at_guard_yes rfl rfl rfl ?_
   refine av rfl (r_move rfl) ?_
   refine at_guard_yes rfl rfl rfl ?_
   refine av rfl (r_ieql rfl rfl) ?_
   refine av rfl (r_pick rfl rfl rfl) ?_
   refine av rfl (r_move rfl) ?_
   rcases of_ite hF with ⟨h8, hF⟩ | ⟨h8, hF⟩
   ·refine at_fix (g := 35) rfl h8 ?_
    refine at_guard_yes rfl rfl rfl ?_
    refine av rfl (r_move rfl) ?_
    refine at_guard_yes rfl rfl rfl ?_
    refine av rfl (r_ineq rfl rfl) ?_
    refine at_guard_yes rfl rfl rfl ?_
    refine av rfl (r_move rfl) ?_
    rcases of_ite hF with ⟨h9, hF⟩ | ⟨h9, hF⟩
    ·refine at_fix (g := 38) rfl h9 ?_
     refine at_guard_no rfl rfl rfl rfl rfl ?_
     refine at_guard_no rfl rfl rfl rfl rfl ?_
     refine at_guard_yes rfl rfl rfl ?_
     refine av rfl (r_pick rfl rfl rfl) ?_
     refine av rfl (r_pick rfl rfl rfl) ?_
     refine av rfl (r_move rfl) ?_
     refine at_guard_yes rfl rfl rfl ?_
     obtain ⟨t10, ht10, hF⟩ := of_bindM hF
     refine at_callB Tryz.func18 rfl (by kernel_rfl) rfl rfl (fun w hw => crawlwaylaw37_alive_ok  _ ht10 w (hg_bytealg_MaxLen.on hw.below) (hg_field_names.on hw.below) (hg_strconv_ErrRange.on hw.below) (hg_strconv_ErrSyntax.on hw.below) (hg_strconv_uint64pow10.on hw.below)) ?_
     refine av rfl (r_pick rfl rfl rfl) ?_
     refine av rfl (r_assign rfl) ?_
     refine at_nil ?_
     refine at_drop (H := _) .z ?_
     refine at_drop (H := _) .z ?_
     refine at_weak [(4, _)] ⟨rfl, trivial⟩ ?_
     refine at_then_normal ?_
     refine at_ret ?_
     have K := of_some hF
     subst K
     exact at_return1 rfl rfl (fun w1 hw => ⟨rfl, hw.below⟩)
    ·refine at_fix (g := 38) rfl h9 ?_
     refine at_guard_yes rfl rfl rfl ?_
     refine av rfl (r_load_aggc (c := c_api_Field) (z := t3.1) Tryz.isAgg46 Tryz.sizeOf46 rfl (lens_cell (.s .z) (Lens.whole _ _))) ?_
     refine at_guard_yes rfl rfl rfl ?_
     obtain ⟨t11, ht11, hF⟩ := of_bindM hF
     refine at_callB Tryz.func21 rfl (by kernel_rfl) rfl rfl (fun w hw => field_Right_ok _ _ ht11 w (hg_bytealg_MaxLen.on hw.below) (hg_field_names.on hw.below) (hg_strconv_ErrRange.on hw.below) (hg_strconv_ErrSyntax.on hw.below) (hg_strconv_uint64pow10.on hw.below)) ?_
     refine at_guard_yes rfl rfl rfl ?_
     refine av rfl (r_pick rfl rfl rfl) ?_
     refine av rfl (r_pick rfl rfl rfl) ?_
     refine av rfl (r_move rfl) ?_
     rcases of_ite hF with ⟨h12, hF⟩ | ⟨h12, hF⟩
     ·refine at_fix (g := 43) rfl h12 ?_
      refine at_guard_yes rfl rfl rfl ?_
      obtain ⟨t13, ht13, hF⟩ := of_bindM hF
      refine at_callB Tryz.func18 rfl (by kernel_rfl) rfl rfl (fun w hw => crawlwaylaw37_alive_ok  _ ht13 w (hg_bytealg_MaxLen.on hw.below) (hg_field_names.on hw.below) (hg_strconv_ErrRange.on hw.below) (hg_strconv_ErrSyntax.on hw.below) (hg_strconv_uint64pow10.on hw.below)) ?_
      refine av rfl (r_pick rfl rfl rfl) ?_
      refine av rfl (r_assign rfl) ?_
      refine at_nil ?_
      refine at_drop (H := _) .z ?_
      refine at_drop (H := _) .z ?_
      refine at_weak [(4, _)] ⟨rfl, trivial⟩ ?_
      refine at_then_normal ?_
      refine at_ret ?_
      have K := of_some hF
      subst K
      exact at_return1 rfl rfl (fun w1 hw => ⟨rfl, hw.below⟩)
     ·refine at_fix (g := 43) rfl h12 ?_
      refine at_guard_no rfl rfl rfl rfl rfl ?_
      refine av rfl (r_pick rfl rfl rfl) ?_
      refine av rfl (r_assign rfl) ?_
      refine at_nil ?_
      refine at_drop (H := _) .z ?_
      refine at_drop (H := _) .z ?_
      refine at_weak [(4, _)] ⟨rfl, trivial⟩ ?_
      refine at_then_normal ?_
      refine at_ret ?_
      have K := of_some hF
      subst K
      exact at_return1 rfl rfl (fun w1 hw => ⟨rfl, hw.below⟩)
   ·refine at_fix (g := 35) rfl h8 ?_
    refine at_guard_no rfl rfl rfl rfl rfl ?_
    refine at_guard_no rfl rfl rfl rfl rfl ?_
    refine at_guard_no rfl rfl rfl rfl rfl ?_
    refine at_guard_undef rfl rfl rfl rfl ?_
    refine at_guard_undef rfl rfl rfl rfl ?_
    refine at_guard_no rfl rfl rfl rfl rfl ?_
    refine av rfl (r_pick rfl rfl rfl) ?_
    refine av rfl (r_move rfl) ?_
    refine at_guard_no rfl rfl rfl rfl rfl ?_
    refine av rfl (r_pick rfl rfl rfl) ?_
    refine av rfl (r_assign rfl) ?_
    refine at_nil ?_
    refine at_drop (H := _) .z ?_
    refine at_drop (H := _) .z ?_
    refine at_weak [(4, _)] ⟨rfl, trivial⟩ ?_
    refine at_then_normal ?_
    refine at_ret ?_
    have K := of_some hF
    subst K
    exact at_return1 rfl rfl (fun w1 hw => ⟨rfl, hw.below⟩)
  ·refine at_fix (g := 30) rfl h7 ?_
   refine at_guard_no rfl rfl rfl rfl rfl ?_
   refine at_guard_no rfl rfl rfl rfl rfl ?_
   refine at_guard_no rfl rfl rfl rfl rfl ?_
   refine av rfl (r_pick rfl rfl rfl) ?_
   refine av rfl (r_move rfl) ?_
   refine at_guard_no rfl rfl rfl rfl rfl ?_
   refine at_guard_no rfl rfl rfl rfl rfl ?_
   refine at_guard_no rfl rfl rfl rfl rfl ?_
   refine at_guard_undef rfl rfl rfl rfl ?_
   refine at_guard_undef rfl rfl rfl rfl ?_
   refine at_guard_no rfl rfl rfl rfl rfl ?_
   refine av rfl (r_pick rfl rfl rfl) ?_
   refine av rfl (r_move rfl) ?_
   refine at_guard_no rfl rfl rfl rfl rfl ?_
   refine av rfl (r_pick rfl rfl rfl) ?_
   refine av rfl (r_assign rfl) ?_
   refine at_nil ?_
   refine at_drop (H := _) .z ?_
   refine at_drop (H := _) .z ?_
   refine at_weak [(4, _)] ⟨rfl, trivial⟩ ?_
   refine at_then_normal ?_
   refine at_ret ?_
   have K := of_some hF
   subst K
   exact at_return1 rfl rfl (fun w1 hw => ⟨rfl, hw.below⟩)
end Go.Proofs.YtkkmmpofdcccmaaGreatDoor
namespace Go.Proofs.YtkkmmpofdcccmaaGreatDoor
open E
theorem head_app {α : Type} {xs ys : List α} (h : xs ≠ []) : (xs ++ ys).head? = xs.head? := by
  cases xs with
  | nil => exact absurd rfl h
  | cons a r => rfl
def dig (c : UInt8) : Bool := decide (48 ≤ c.toNat) && decide (c.toNat ≤ 57)
theorem dig_iff {c : UInt8} : dig c = true ↔ 48 ≤ c.toNat ∧ c.toNat ≤ 57 := by simp [dig]
def spell (acc : Nat) : List UInt8 → Nat
  | [] => acc
  | c :: r => spell (acc * 10 + (c.toNat - 48)) r
theorem spell_le : ∀ (l : List UInt8) (acc : Nat), acc ≤ spell acc l
  | [], acc => Nat.le_refl _
  | c :: r, acc => by
    have := spell_le r (acc * 10 + (c.toNat - 48))
    unfold spell; omega
theorem spell_snoc : ∀ (l : List UInt8) (acc : Nat) (c : UInt8), spell acc (l ++ [c]) = spell acc l * 10 + (c.toNat - 48)
  | [], acc, c => rfl
  | b :: r, acc, c => by
    rw [List.cons_append]
    unfold spell
    exact spell_snoc r _ c
theorem parseM : ∀ (l : List UInt8) (acc : Nat), l.all dig = true → acc ≤ 18446744073709551615 →
    Lib.parseUintM (2 ^ 64 - 1) acc l = if spell acc l ≤ 18446744073709551615 then .ok (spell acc l) else .range
  | [], acc, _, ha => by
    unfold Lib.parseUintM spell
    rw [if_pos ha]
  | c :: r, acc, h, ha => by
    rw [List.all_cons, Bool.and_eq_true] at h
    have hc := dig_iff.1 h.1
    have hs := spell_le r (acc * 10 + (c.toNat - 48))
    unfold Lib.parseUintM spell
    rw [if_pos hc]
    by_cases h1 : 1844674407370955162 ≤ acc
    · rw [if_pos h1, if_neg (by omega)]
    · rw [if_neg h1]
      by_cases h2 : 2 ^ 64 - 1 < acc * 10 + (c.toNat - 48)
      · rw [if_pos h2, if_neg (by omega)]
      · rw [if_neg h2]
        exact parseM r _ h.2 (by omega)
theorem parB {l : List UInt8} (hl : l ≠ []) (h : l.all dig = true) : Lib.parseUintB 64 l = if spell 0 l ≤ 18446744073709551615 then .ok (spell 0 l) else .range := by
  unfold Lib.parseUintB
  rw [if_neg hl]
  exact parseM l 0 h (by omega)
theorem decDigits_small {n : Nat} (h : n < 10) : Lib.decDigits n = [UInt8.ofNat (48 + n)] := Lib.decDigits_one h
theorem decDigits_big {n : Nat} (h : ¬ n < 10) : Lib.decDigits n = Lib.decDigits (n / 10) ++ [UInt8.ofNat (48 + n % 10)] := by
  rw [Lib.decDigits, dif_neg h]
theorem spell_pos : ∀ (l : List UInt8) (acc : Nat), 0 < acc → 0 < spell acc l := fun l acc h => Nat.lt_of_lt_of_le h (spell_le l acc)
/-- A text of digits that doesn't begin with 0, unless it is 0, is its number's own. -/
theorem spell_decDigits {l : List UInt8} (hl : l ≠ []) (hd : l.all dig = true) (hz : 1 < l.length → l.head? ≠ some 48) : Lib.decDigits (spell 0 l) = l := by
  have key : ∀ (k : Nat) (l : List UInt8), l.length = k → l ≠ [] → l.all dig = true → (1 < l.length → l.head? ≠ some 48) → Lib.decDigits (spell 0 l) = l := by
    intro k
    induction k with
    | zero => intro l h1 h2; exact absurd (List.eq_nil_of_length_eq_zero h1) h2
    | succ k ih =>
      intro l h1 h2 h3 h4
      obtain ⟨r, c, rfl⟩ : ∃ r c, l = r ++ [c] := ⟨l.dropLast, l.getLast h2, (List.dropLast_concat_getLast h2).symm⟩
      rw [List.all_append, Bool.and_eq_true, List.all_cons, List.all_nil, Bool.and_true] at h3
      have hc := dig_iff.1 h3.2
      have hcu : UInt8.ofNat (48 + (c.toNat - 48)) = c := by
        rw [show 48 + (c.toNat - 48) = c.toNat by omega]; exact UInt8.ofNat_toNat
      rw [spell_snoc]
      by_cases hr : r = []
      · subst hr
        show Lib.decDigits (0 * 10 + (c.toNat - 48)) = [c]
        rw [decDigits_small (by omega), show 0 * 10 + (c.toNat - 48) = c.toNat - 48 by omega, hcu]
      · have hlen : 1 < (r ++ [c]).length := by
          have : 0 < r.length := List.length_pos_iff.2 hr
          simp; omega
        have hhead := h4 hlen
        rw [head_app hr] at hhead
        have hpos : 0 < spell 0 r := by
          cases r with
          | nil => exact absurd rfl hr
          | cons b r' =>
            rw [List.all_cons, Bool.and_eq_true] at h3
            have hb := dig_iff.1 h3.1.1
            unfold spell
            refine spell_pos _ _ ?_
            have : b.toNat ≠ 48 := by
              intro e
              refine hhead ?_
              show some b = some 48
              congr 1
              exact UInt8.toNat.inj e
            omega
        rw [decDigits_big (by omega), show (spell 0 r * 10 + (c.toNat - 48)) / 10 = spell 0 r by omega, show (spell 0 r * 10 + (c.toNat - 48)) % 10 = c.toNat - 48 by omega, hcu]
        rw [ih r (by simp at h1; omega) hr h3.1 fun _ => hhead]
  exact key l.length l rfl hl hd hz
end Go.Proofs.YtkkmmpofdcccmaaGreatDoor
namespace Go.Proofs.YtkkmmpofdcccmaaGreatDoor
open E
theorem size_toList (s : ByteArray) : s.data.toList.length = s.size := by
  show s.data.toList.length = s.data.size
  simp
theorem mk_inj {a b : ByteArray} (h : a.data.toList = b.data.toList) : a = b := by
  cases a with | mk a => cases b with | mk b =>
  simp at h; subst h; rfl
theorem fmtU_list (n : Nat) : (fmtU (n : Int)).data.toList = Lib.decDigits n := by simp [fmtU]
theorem decDigits_len (n : Nat) (h : n < 18446744073709551616) : (Lib.decDigits n).length ≤ 20 := by
  have key : ∀ (k n : Nat), n < 10 ^ (k + 1) → (Lib.decDigits n).length ≤ k + 1 := by
    intro k
    induction k with
    | zero => intro n h; rw [decDigits_small (by omega)]; simp
    | succ k ih =>
      intro n h
      by_cases h1 : n < 10
      · rw [decDigits_small h1]; simp
      · rw [decDigits_big h1, List.length_append]
        have := ih (n / 10) (by rw [Nat.pow_succ] at h; omega)
        simp; omega
  exact key 19 n (by omega)
theorem append_list (a b : ByteArray) : (a ++ b).data.toList = a.data.toList ++ b.data.toList := by simp [ByteArray.data_append]
theorem text_code (n : Nat) (h : n < 18446744073709551616) : decimal_Text (n : Int) = some (fmtU n) := by
  unfold decimal_Text
  rw [if_pos (by omega)]
def pfx (l : List UInt8) : Nat := (l.takeWhile dig).length
theorem pfx_cons_yes {c : UInt8} {r : List UInt8} (h : dig c = true) : pfx (c :: r) = pfx r + 1 := by simp [pfx, List.takeWhile_cons, h]
theorem pfx_cons_no {c : UInt8} {r : List UInt8} (h : dig c = false) : pfx (c :: r) = 0 := by simp [pfx, List.takeWhile_cons, h]
theorem pfx_le (l : List UInt8) : pfx l ≤ l.length := (List.takeWhile_prefix dig).length_le
theorem pfx_all : ∀ {l : List UInt8}, pfx l = l.length ↔ l.all dig = true
  | [] => by simp [pfx]
  | c :: r => by
    cases h : dig c
    · rw [pfx_cons_no h]; simp [h]
    · rw [pfx_cons_yes h, List.length_cons, List.all_cons, h, Bool.true_and, ← pfx_all (l := r)]; omega
theorem bt_at {s : ByteArray} {i : Nat} {c : UInt8} (h : s.data.toList[i]? = some c) : bt s (i : Int) = (c.toNat : Int) := by
  rw [bt_nat, h]; rfl
theorem prefix_ref_from (s : ByteArray) (hs : s.size < 9223372036854775808) : ∀ (k i : Nat), s.size - i = k → i ≤ s.size → crawlwayref03_Prefix.l0 s (i : Int) = some ((i + pfx (s.data.toList.drop i) : Nat) : Int) := by
  intro k
  induction k with
  | zero =>
    intro i hk hi
    have : s.data.toList.drop i = [] := List.drop_eq_nil_of_le (by rw [size_toList]; omega)
    rw [crawlwayref03_Prefix.l0.eq_def, if_neg (by rw [decide_eq_true_eq]; omega), this]; rfl
  | succ k ih =>
    intro i hk hi
    obtain ⟨c, hc, hd⟩ := drop_get s.data.toList i (by rw [size_toList]; omega)
    have hb := bt_at hc
    rw [crawlwayref03_Prefix.l0.eq_def, if_pos (decide_eq_true (by omega)), if_pos (by omega), hd, hb]
    cases hdg : dig c
    · rw [pfx_cons_no hdg]
      have hn : ¬ (48 ≤ c.toNat ∧ c.toNat ≤ 57) := fun h => by rw [dig_iff.2 h] at hdg; cases hdg
      by_cases h1 : 48 ≤ c.toNat
      · rw [if_pos (decide_eq_true (by omega)), if_pos (by omega), if_neg (by rw [decide_eq_true_eq]; omega)]; rfl
      · rw [if_neg (by rw [decide_eq_true_eq]; omega)]; rfl
    · have hy := dig_iff.1 hdg
      rw [if_pos (decide_eq_true (by omega)), if_pos (by omega), if_pos (decide_eq_true (by omega)), wr_i64 (by omega) (by omega)]
      have := ih (i + 1) (by omega) (by omega)
      rw [show ((i : Int) + 1) = ((i + 1 : Nat) : Int) by omega, this, pfx_cons_yes hdg]
      congr 2; omega
theorem prefix_ref (s : ByteArray) (hs : s.size < 9223372036854775808) : crawlwayref03_Prefix s = some ((pfx s.data.toList : Nat) : Int) := by
  unfold crawlwayref03_Prefix
  have := prefix_ref_from s hs _ 0 rfl (by omega)
  rw [show ((0 : Nat) : Int) = 0 from rfl] at this
  rw [this, bindM_some]; simp
theorem get_bang {s : ByteArray} {i : Nat} {c : UInt8} (h : s.data.toList[i]? = some c) : s.get! i = c := by
  have hi : i < s.data.size := by
    have := (List.getElem?_eq_some_iff.1 h).1
    simpa using this
  have e : s.data[i]? = some c := by simpa using h
  show s.data[i]! = c
  rw [getElem!_def, e]
theorem dcode_small {s : ByteArray} {i : Nat} {c : UInt8} (h : s.data.toList[i]? = some c) (hc : c.toNat < 128) : Utf8.decode s i = (c.toNat, 1) := by
  unfold Utf8.decode
  simp only [Nat.add_zero, get_bang h]
  rw [if_pos hc]
theorem dcode_great {s : ByteArray} {i : Nat} {c : UInt8} (h : s.data.toList[i]? = some c) (hc : 128 ≤ c.toNat) : 128 ≤ (Utf8.decode s i).1 := by
  unfold Utf8.decode
  simp only [Nat.add_zero, get_bang h]
  rw [if_neg (by omega)]
  repeat' split
  all_goals (first | (simp only [Utf8.runeError]; omega) | skip)
  all_goals (simp only [ge_iff_le, Bool.and_eq_true, decide_eq_true_eq] at *; omega)
theorem prefix_code_from (s : ByteArray) : ∀ (k i : Nat), s.size - i = k → i ≤ s.size → decimal_Prefix.l0 s i = some (if pfx (s.data.toList.drop i) < s.size - i then .ret ((i + pfx (s.data.toList.drop i) : Nat) : Int) else .nx ()) := by
  intro k
  induction k with
  | zero =>
    intro i hk hi
    have : s.data.toList.drop i = [] := List.drop_eq_nil_of_le (by rw [size_toList]; omega)
    have hz : decide (i < s.size) = false := decide_eq_false (by omega)
    have hr : ¬ pfx (s.data.toList.drop i) < s.size - i := by omega
    rw [decimal_Prefix.l0.eq_def, hz, if_neg hr]; rfl
  | succ k ih =>
    intro i hk hi
    obtain ⟨c, hc, hd⟩ := drop_get s.data.toList i (by rw [size_toList]; omega)
    have hz : decide (i < s.size) = true := decide_eq_true (by omega)
    rw [decimal_Prefix.l0.eq_def, if_pos hz, hd]
    cases hdg : dig c
    · have hR : (if pfx (c :: s.data.toList.drop (i + 1)) < s.size - i then (Ctl.ret ((i + pfx (c :: s.data.toList.drop (i + 1)) : Nat) : Int) : Ctl Int Unit) else .nx ()) = .ret (i : Int) := by
        have h0 : 0 < s.size - i := by omega
        rw [pfx_cons_no hdg, if_pos h0]; rfl
      rw [hR]
      have hn : ¬ (48 ≤ c.toNat ∧ c.toNat ≤ 57) := fun h => by rw [dig_iff.2 h] at hdg; cases hdg
      have hv : dcode s i < 48 ∨ dcode s i > 57 := by
        by_cases h1 : c.toNat < 128
        · have : dcode s i = (c.toNat : Int) := by show ((Utf8.decode s i).1 : Int) = _; rw [dcode_small hc h1]
          omega
        · have := dcode_great hc (by omega)
          right; show ((Utf8.decode s i).1 : Int) > 57; omega
      by_cases h2 : dcode s i < 48
      · rw [if_pos (decide_eq_true h2)]
      · have h6 : dcode s i > 57 := by omega
        rw [if_neg (by rw [decide_eq_true_eq]; exact h2), if_pos (decide_eq_true h6)]
    · have hy := dig_iff.1 hdg
      have hdc := dcode_small hc (by omega)
      have h3 : dcode s i = (c.toNat : Int) := by show ((Utf8.decode s i).1 : Int) = _; rw [hdc]
      have h4 : dstep s i = i + 1 := by show i + (Utf8.decode s i).2 = _; rw [hdc]
      have h6 : decide (dcode s i < 48) = false := decide_eq_false (by omega)
      have h7 : decide (dcode s i > 57) = false := decide_eq_false (by omega)
      rw [h6, h7, h4, ih (i + 1) (by omega) (by omega), pfx_cons_yes hdg]
      simp only [Bool.false_eq_true, if_false]
      congr 1
      by_cases h5 : pfx (s.data.toList.drop (i + 1)) < s.size - (i + 1)
      · rw [if_pos h5, if_pos (by omega)]; congr 2; omega
      · rw [if_neg h5, if_neg (by omega)]
theorem prefix_code (s : ByteArray) : decimal_Prefix s = some ((pfx s.data.toList : Nat) : Int) := by
  unfold decimal_Prefix
  rw [prefix_code_from s _ 0 rfl (by omega), bindM_some, List.drop_zero]
  have := pfx_le s.data.toList
  rw [size_toList] at this
  by_cases h : pfx s.data.toList < s.size - 0
  · rw [if_pos h]; simp
  · rw [if_neg h]; show some _ = some _; congr 2; omega
/-- What reading a text comes to: the number, and 0, or 0 and the error's number. -/
def rdU (l : List UInt8) (most : Nat) : Nat × Nat :=
  if l = [] ∨ l.all dig = false ∨ (1 < l.length ∧ l.head? = some 48) then (0, 5)
  else if spell 0 l ≤ most then (spell 0 l, 0) else (0, 6)
def iiOf (p : Nat × Nat) : Int × Int := ((p.1 : Int), (p.2 : Int))
theorem bt_head {s : ByteArray} (h : 0 < s.size) : (bt s 0 == 48) = true ↔ s.data.toList.head? = some 48 := by
  obtain ⟨c, hc, _⟩ := drop_get s.data.toList 0 (by rw [size_toList]; exact h)
  have hb := bt_at hc
  rw [show ((0 : Nat) : Int) = 0 from rfl] at hb
  rw [hb, List.head?_eq_getElem?, hc]
  constructor
  · intro e
    have : (c.toNat : Int) = 48 := by simpa using e
    congr 1; apply UInt8.toNat.inj; show c.toNat = 48; omega
  · intro e
    cases e; rfl
theorem size_ne {s : ByteArray} : s.data.toList = [] ↔ s.size = 0 := by
  rw [← size_toList]; exact List.length_eq_zero_iff.symm
theorem not_all {l : List UInt8} (h : pfx l < l.length) : l.all dig = false := by
  cases e : l.all dig
  · rfl
  · have := pfx_all.2 e; omega
theorem read_code (s : ByteArray) (most : Nat) (hs : s.size ≤ 281474976710656) (hm : most < 18446744073709551616) : decimal_Read s (most : Int) = some (iiOf (rdU s.data.toList most)) := by
  unfold decimal_Read rdU
  have hlen := size_toList s
  by_cases h0 : s.data.toList = []
  · have : s = ⟨#[]⟩ := mk_inj h0
    rw [if_pos ((seq_iff _ _).2 this), if_pos (.inl h0)]; rfl
  · have hne : ¬ (seq s (⟨#[]⟩ : ByteArray)) = true := fun h => h0 (by rw [(seq_iff _ _).1 h])
    have hpos : 0 < s.size := Nat.pos_of_ne_zero fun h => h0 (size_ne.2 h)
    rw [if_neg hne, prefix_code, bindM_some]
    by_cases h1 : pfx s.data.toList < s.size
    · rw [if_pos (decide_eq_true (by omega)), if_pos (.inr (.inl (not_all (by omega))))]; rfl
    · rw [if_neg (by rw [decide_eq_true_eq]; omega)]
      have hall : s.data.toList.all dig = true := pfx_all.1 (by have := pfx_le s.data.toList; omega)
      have hpar : parU s = if spell 0 s.data.toList ≤ 18446744073709551615 then ((spell 0 s.data.toList : Int), false) else (18446744073709551615, true) := by
        unfold parU
        rw [parB h0 hall]
        by_cases h : spell 0 s.data.toList ≤ 18446744073709551615
        · rw [if_pos h, if_pos h]
        · rw [if_neg h, if_neg h]
      have tail : (if s.size ≤ 281474976710656 then (if (!!((parU s).2)) = true then some ((0 : Int), (6 : Int)) else (if (decide ((parU s).1 > (most : Int))) = true then some (0, 6) else some ((parU s).1, 0))) else none) =
          some (iiOf (if spell 0 s.data.toList ≤ most then (spell 0 s.data.toList, 0) else (0, 6))) := by
        rw [if_pos hs, hpar]
        by_cases h : spell 0 s.data.toList ≤ 18446744073709551615
        · rw [if_pos h, if_neg (by simp)]
          by_cases h2 : spell 0 s.data.toList ≤ most
          · rw [if_neg (by rw [decide_eq_true_eq]; show ¬ ((spell 0 s.data.toList : Int) > (most : Int)); omega), if_pos h2]; rfl
          · rw [if_pos (decide_eq_true (show ((spell 0 s.data.toList : Int) > (most : Int)) by omega)), if_neg h2]; rfl
        · rw [if_neg h, if_pos (by simp), if_neg (by omega)]; rfl
      by_cases h2 : 1 < s.size
      · rw [if_pos (decide_eq_true (by omega)), if_pos (by omega)]
        by_cases h3 : s.data.toList.head? = some 48
        · rw [if_pos ((bt_head hpos).2 h3), if_pos (.inr (.inr ⟨by omega, h3⟩))]; rfl
        · have hc : ¬ (s.data.toList = [] ∨ s.data.toList.all dig = false ∨ (1 < s.data.toList.length ∧ s.data.toList.head? = some 48)) := by
            rintro (h | h | h)
            · exact h0 h
            · rw [hall] at h; cases h
            · exact h3 h.2
          rw [if_neg (fun h => h3 ((bt_head hpos).1 h)), tail, if_neg hc]
      · have hc : ¬ (s.data.toList = [] ∨ s.data.toList.all dig = false ∨ (1 < s.data.toList.length ∧ s.data.toList.head? = some 48)) := by
          rintro (h | h | h)
          · exact h0 h
          · rw [hall] at h; cases h
          · omega
        rw [if_neg (by rw [decide_eq_true_eq]; omega), tail, if_neg hc]
theorem read_step (m most : Nat) (c : UInt8) (hc : dig c = true) (hm : most < 18446744073709551616) (hle : m ≤ most) :
    wr .u64 (Int.tdiv (most : Int) 10) = ((most / 10 : Nat) : Int) ∧ wr .u64 ((wr .u64 (c.toNat : Int)) - 48) = ((c.toNat - 48 : Nat) : Int) ∧ (m ≤ most / 10 → wr .u64 (10 * (m : Int)) = ((10 * m : Nat) : Int)) := by
  have hy := dig_iff.1 hc
  refine ⟨?_, ?_, fun h => ?_⟩
  · have : Int.tdiv (most : Int) 10 = ((most / 10 : Nat) : Int) := by rw [Int.tdiv_eq_ediv_of_nonneg (by omega)]; omega
    rw [this, wr_u64 (by omega) (by omega)]
  · have e : wr .u64 (c.toNat : Int) = (c.toNat : Int) := wr_u64 (by omega) (by omega)
    rw [e, wr_u64 (by omega) (by omega)]; omega
  · rw [wr_u64 (by omega) (by omega)]; omega
def outU (l : List UInt8) (m most : Nat) : Ctl (Int × Int) Int := if spell m l ≤ most then .nx (spell m l : Int) else .ret (0, 6)
theorem out_cons {c : UInt8} {r : List UInt8} {m most : Nat} (h : m * 10 + (c.toNat - 48) ≤ most) : outU (c :: r) m most = outU r (10 * m + (c.toNat - 48)) most := by
  have e : spell m (c :: r) = spell (10 * m + (c.toNat - 48)) r := by
    show spell (m * 10 + (c.toNat - 48)) r = _
    rw [Nat.mul_comm]
  unfold outU
  rw [e]
theorem out_over {c : UInt8} {r : List UInt8} {m most : Nat} (h : most < m * 10 + (c.toNat - 48)) : outU (c :: r) m most = .ret (0, 6) := by
  unfold outU
  have := spell_le r (m * 10 + (c.toNat - 48))
  rw [if_neg]; show ¬ spell (m * 10 + (c.toNat - 48)) r ≤ most; omega
theorem read_loop0 (s : ByteArray) (most : Nat) (hs : s.size < 9223372036854775808) (hm : most < 18446744073709551616) (hall : s.data.toList.all dig = true) :
    ∀ (k i m : Nat), s.size - i = k → i ≤ s.size → m ≤ most → crawlwayref03_Read.l0 s most (m : Int) (i : Int) = some (outU (s.data.toList.drop i) m most) := by
  intro k
  induction k with
  | zero =>
    intro i m hk hi hmm
    have : s.data.toList.drop i = [] := List.drop_eq_nil_of_le (by rw [size_toList]; omega)
    rw [crawlwayref03_Read.l0.eq_def, if_neg (by rw [decide_eq_true_eq]; omega), this]
    unfold outU spell; rw [if_pos hmm]
  | succ k ih =>
    intro i m hk hi hmm
    obtain ⟨c, hc, hd⟩ := drop_get s.data.toList i (by rw [size_toList]; omega)
    have hdg : dig c = true := List.all_eq_true.1 hall c (List.mem_of_getElem? hc)
    have hy := dig_iff.1 hdg
    obtain ⟨e1, e2, e3⟩ := read_step m most c hdg hm hmm
    rw [crawlwayref03_Read.l0.eq_def, if_pos (decide_eq_true (by omega)), if_pos (by omega), hd, bt_at hc, e1, e2]
    by_cases h1 : m ≤ most / 10
    · rw [if_neg (by rw [decide_eq_true_eq]; omega), e3 h1]
      have e4 : wr .u64 ((most : Int) - (if (most : Int) < ((c.toNat - 48 : Nat) : Int) then (most : Int) else ((c.toNat - 48 : Nat) : Int))) = ((most - (c.toNat - 48) : Nat) : Int) := by
        by_cases h : (most : Int) < ((c.toNat - 48 : Nat) : Int)
        · rw [if_pos h, wr_u64 (by omega) (by omega)]; omega
        · rw [if_neg h, wr_u64 (by omega) (by omega)]; omega
      rw [e4]
      by_cases h2 : most < m * 10 + (c.toNat - 48)
      · rw [out_over h2]
        by_cases h3 : 10 * m > most - (c.toNat - 48)
        · rw [if_pos (decide_eq_true (by omega))]
        · rw [if_neg (by rw [decide_eq_true_eq]; omega), if_pos (decide_eq_true (by omega))]
      · rw [if_neg (by rw [decide_eq_true_eq]; omega), if_neg (by rw [decide_eq_true_eq]; omega), wr_i64 (by omega) (by omega), out_cons (by omega)]
        have e5 : wr .u64 (((10 * m : Nat) : Int) + ((c.toNat - 48 : Nat) : Int)) = ((10 * m + (c.toNat - 48) : Nat) : Int) := by rw [wr_u64 (by omega) (by omega)]; omega
        rw [e5, show ((i : Int) + 1) = ((i + 1 : Nat) : Int) by omega]
        exact ih (i + 1) _ (by omega) (by omega) (by omega)
    · rw [if_pos (decide_eq_true (by omega)), out_over (by omega)]
theorem read_loop1 (s : ByteArray) (most : Nat) (hs : s.size < 9223372036854775808) (hm : most < 18446744073709551616) (hall : s.data.toList.all dig = true) :
    ∀ (k i m : Nat), s.size - i = k → i ≤ s.size → m ≤ most → crawlwayref03_Read.l1 s most (m : Int) (i : Int) = some (outU (s.data.toList.drop i) m most) := by
  intro k
  induction k with
  | zero =>
    intro i m hk hi hmm
    have : s.data.toList.drop i = [] := List.drop_eq_nil_of_le (by rw [size_toList]; omega)
    rw [crawlwayref03_Read.l1.eq_def, if_neg (by rw [decide_eq_true_eq]; omega), this]
    unfold outU spell; rw [if_pos hmm]
  | succ k ih =>
    intro i m hk hi hmm
    obtain ⟨c, hc, hd⟩ := drop_get s.data.toList i (by rw [size_toList]; omega)
    have hdg : dig c = true := List.all_eq_true.1 hall c (List.mem_of_getElem? hc)
    have hy := dig_iff.1 hdg
    obtain ⟨e1, e2, e3⟩ := read_step m most c hdg hm hmm
    rw [crawlwayref03_Read.l1.eq_def, if_pos (decide_eq_true (by omega)), if_pos (by omega), hd, bt_at hc, e1, e2]
    by_cases h1 : m ≤ most / 10
    · rw [if_neg (by rw [decide_eq_true_eq]; omega), e3 h1]
      have e4 : wr .u64 ((most : Int) - (if (most : Int) < ((c.toNat - 48 : Nat) : Int) then (most : Int) else ((c.toNat - 48 : Nat) : Int))) = ((most - (c.toNat - 48) : Nat) : Int) := by
        by_cases h : (most : Int) < ((c.toNat - 48 : Nat) : Int)
        · rw [if_pos h, wr_u64 (by omega) (by omega)]; omega
        · rw [if_neg h, wr_u64 (by omega) (by omega)]; omega
      rw [e4]
      by_cases h2 : most < m * 10 + (c.toNat - 48)
      · rw [out_over h2]
        by_cases h3 : 10 * m > most - (c.toNat - 48)
        · rw [if_pos (decide_eq_true (by omega))]
        · rw [if_neg (by rw [decide_eq_true_eq]; omega), if_pos (decide_eq_true (by omega))]
      · rw [if_neg (by rw [decide_eq_true_eq]; omega), if_neg (by rw [decide_eq_true_eq]; omega), wr_i64 (by omega) (by omega), out_cons (by omega)]
        have e5 : wr .u64 (((10 * m : Nat) : Int) + ((c.toNat - 48 : Nat) : Int)) = ((10 * m + (c.toNat - 48) : Nat) : Int) := by rw [wr_u64 (by omega) (by omega)]; omega
        rw [e5, show ((i : Int) + 1) = ((i + 1 : Nat) : Int) by omega]
        exact ih (i + 1) _ (by omega) (by omega) (by omega)
    · rw [if_pos (decide_eq_true (by omega)), out_over (by omega)]
theorem read_ref (s : ByteArray) (most : Nat) (hs : s.size < 9223372036854775808) (hm : most < 18446744073709551616) : crawlwayref03_Read s (most : Int) = some (iiOf (rdU s.data.toList most)) := by
  unfold crawlwayref03_Read rdU
  have hlen := size_toList s
  by_cases h0 : s.data.toList = []
  · have h00 := size_ne.1 h0
    rw [if_pos (by rw [h00]; rfl), if_pos (.inl h0)]; rfl
  · have hpos : 0 < s.size := Nat.pos_of_ne_zero fun h => h0 (size_ne.2 h)
    rw [if_neg (by rw [beq_iff_eq]; omega), prefix_ref s hs, bindM_some]
    by_cases h1 : pfx s.data.toList < s.size
    · rw [if_pos (decide_eq_true (by omega)), if_pos (.inr (.inl (not_all (by omega))))]; rfl
    · rw [if_neg (by rw [decide_eq_true_eq]; omega)]
      have hall : s.data.toList.all dig = true := pfx_all.1 (by have := pfx_le s.data.toList; omega)
      have hl0 : crawlwayref03_Read.l0 s most 0 0 = some (outU s.data.toList 0 most) := by
        have := read_loop0 s most hs hm hall _ 0 0 rfl (by omega) (by omega)
        rwa [List.drop_zero] at this
      have hl1 : crawlwayref03_Read.l1 s most 0 0 = some (outU s.data.toList 0 most) := by
        have := read_loop1 s most hs hm hall _ 0 0 rfl (by omega) (by omega)
        rwa [List.drop_zero] at this
      by_cases h2 : 1 < s.size
      · rw [if_pos (decide_eq_true (by omega)), if_pos (by omega)]
        by_cases h3 : s.data.toList.head? = some 48
        · rw [if_pos ((bt_head hpos).2 h3), if_pos (.inr (.inr ⟨by omega, h3⟩))]; rfl
        · have hc : ¬ (s.data.toList = [] ∨ s.data.toList.all dig = false ∨ (1 < s.data.toList.length ∧ s.data.toList.head? = some 48)) := by
            rintro (h | h | h)
            · exact h0 h
            · rw [hall] at h; cases h
            · exact h3 h.2
          rw [if_neg (fun h => h3 ((bt_head hpos).1 h)), hl0, bindM_some, if_neg hc]
          unfold outU
          by_cases h : spell 0 s.data.toList ≤ most
          · rw [if_pos h, if_pos h]; rfl
          · rw [if_neg h, if_neg h]; rfl
      · have hc : ¬ (s.data.toList = [] ∨ s.data.toList.all dig = false ∨ (1 < s.data.toList.length ∧ s.data.toList.head? = some 48)) := by
          rintro (h | h | h)
          · exact h0 h
          · rw [hall] at h; cases h
          · omega
        rw [if_neg (by rw [decide_eq_true_eq]; omega), hl1, bindM_some, if_neg hc]
        unfold outU
        by_cases h : spell 0 s.data.toList ≤ most
        · rw [if_pos h, if_pos h]; rfl
        · rw [if_neg h, if_neg h]; rfl
theorem rdU_back {l : List UInt8} {most : Nat} (h : (rdU l most).2 = 0) : Lib.decDigits (rdU l most).1 = l ∧ (rdU l most).1 ≤ most := by
  unfold rdU at h ⊢
  by_cases h1 : l = [] ∨ l.all dig = false ∨ (1 < l.length ∧ l.head? = some 48)
  · rw [if_pos h1] at h; cases h
  · rw [if_neg h1] at h ⊢
    by_cases h2 : spell 0 l ≤ most
    · rw [if_pos h2]
      refine ⟨spell_decDigits (fun e => h1 (.inl e)) ?_ fun hl he => h1 (.inr (.inr ⟨hl, he⟩)), h2⟩
      cases e : l.all dig
      · exact absurd (.inr (.inl e)) h1
      · rfl
    · rw [if_neg h2] at h; cases h
end Go.Proofs.YtkkmmpofdcccmaaGreatDoor
namespace Go.Proofs.YtkkmmpofdcccmaaGreatDoor
open E Go.RowKit
def bs (l : List UInt8) : ByteArray := ⟨l.toArray⟩
theorem bs_list (l : List UInt8) : (bs l).data.toList = l := by simp [bs]
theorem bs_size (l : List UInt8) : (bs l).size = l.length := by
  show (bs l).data.size = _
  simp [bs]
theorem eq_bs (s : ByteArray) : s = bs s.data.toList := by apply mk_inj; rw [bs_list]
theorem bs_inj {l k : List UInt8} (h : bs l = bs k) : l = k := by rw [← bs_list l, h, bs_list]
theorem bs_extract (l : List UInt8) (i j : Nat) : (bs l).extract i j = bs ((l.take j).drop i) := by
  apply mk_inj
  rw [bs_list]
  simp [bs, ByteArray.data_extract, List.drop_take]
def parts (c : UInt8) : List UInt8 → List (List UInt8)
  | [] => [[]]
  | x :: r => if x = c then [] :: parts c r else (x :: (parts c r).headD []) :: (parts c r).tail
theorem parts_ne (c : UInt8) : ∀ (l : List UInt8), parts c l ≠ []
  | [] => by simp [parts]
  | x :: r => by unfold parts; split <;> simp
theorem parts_none (c : UInt8) : ∀ (l : List UInt8), (∀ x ∈ l, x ≠ c) → parts c l = [l]
  | [], _ => rfl
  | x :: r, h => by
    unfold parts
    rw [if_neg (h x (List.mem_cons_self ..)), parts_none c r fun y hy => h y (List.mem_cons_of_mem _ hy)]; rfl
theorem parts_cons (c : UInt8) (r : List UInt8) : ∀ (p : List UInt8), (∀ x ∈ p, x ≠ c) → parts c (p ++ c :: r) = p :: parts c r
  | [], _ => by
    show (if c = c then [] :: parts c r else (c :: (parts c r).headD []) :: (parts c r).tail) = _
    rw [if_pos rfl]
  | x :: p, h => by
    show parts c (x :: (p ++ c :: r)) = _
    rw [parts, if_neg (h x (List.mem_cons_self ..)), parts_cons c r p fun y hy => h y (List.mem_cons_of_mem _ hy)]; rfl
theorem parts_len (c : UInt8) : ∀ (l : List UInt8), (parts c l).length ≤ l.length + 1
  | [] => by simp [parts]
  | x :: r => by
    have h := parts_len c r
    have hne := parts_ne c r
    unfold parts
    split
    · simp; omega
    · cases hp : parts c r with
      | nil => exact absurd hp hne
      | cons a b => rw [hp] at h; simp at h ⊢; omega
theorem u8_back (c : UInt8) : Nat.toUInt8 (Int.toNat (c.toNat : Int)) = c := by
  rw [Int.toNat_natCast]; exact UInt8.ofNat_toNat
/-- A cut at the first such byte. -/
theorem cut_none (l : List UInt8) (c : UInt8) (h : ∀ x ∈ l, x ≠ c) : lines_Cut (bs l) (c.toNat : Int) = some (bs l, ⟨#[]⟩, false) := by
  unfold lines_Cut
  rw [u8_back, bs_list]
  have hi : Lib.indexByte l c = -1 := by
    have h1 := Lib.indexByte_ge l c
    by_cases h2 : Lib.indexByte l c = -1
    · exact h2
    · obtain ⟨o, ho⟩ := Int.eq_ofNat_of_zero_le (show 0 ≤ Lib.indexByte l c by omega)
      have := (Lib.indexByte_some ho).1
      exact absurd rfl (h c (List.mem_of_getElem? this))
  rw [hi, if_pos (by decide)]
theorem index_at (p r : List UInt8) (c : UInt8) (h : ∀ x ∈ p, x ≠ c) : Lib.indexByte (p ++ c :: r) c = (p.length : Int) := by
  have h1 := Lib.indexByte_ge (p ++ c :: r) c
  have hc : (p ++ c :: r)[p.length]? = some c := by rw [List.getElem?_append_right (Nat.le_refl _), Nat.sub_self]; rfl
  by_cases h2 : Lib.indexByte (p ++ c :: r) c = -1
  · exact absurd hc (Lib.indexByte_none h2 p.length)
  · obtain ⟨o, ho⟩ := Int.eq_ofNat_of_zero_le (show 0 ≤ Lib.indexByte (p ++ c :: r) c by omega)
    obtain ⟨ha, hb⟩ := Lib.indexByte_some ho
    have h3 : ¬ p.length < o := fun hlt => hb p.length hlt hc
    have h4 : ¬ o < p.length := fun hlt => by
      rw [List.getElem?_append_left hlt] at ha
      exact h c (List.mem_of_getElem? ha) rfl
    rw [ho]; omega
theorem cut_some (p r : List UInt8) (c : UInt8) (h : ∀ x ∈ p, x ≠ c) (hl : p.length + r.length < 1000000) : lines_Cut (bs (p ++ c :: r)) (c.toNat : Int) = some (bs p, bs r, true) := by
  unfold lines_Cut
  rw [u8_back, bs_list, index_at p r c h, bs_size]
  have hlen : (p ++ c :: r).length = p.length + (r.length + 1) := by simp
  have e1 : wr .i64 ((p.length : Int) + 1) = ((p.length + 1 : Nat) : Int) := by rw [wr_i64 (by omega) (by omega)]; omega
  have g1 : (0 : Int) ≤ 0 ∧ (0 : Int) ≤ (p.length : Int) ∧ (p.length : Int) ≤ ((p ++ c :: r).length : Int) := by omega
  have g2 : (0 : Int) ≤ ((p.length + 1 : Nat) : Int) ∧ ((p.length + 1 : Nat) : Int) ≤ ((p ++ c :: r).length : Int) ∧ ((p ++ c :: r).length : Int) ≤ ((p ++ c :: r).length : Int) := by omega
  rw [if_neg (by rw [decide_eq_true_eq]; omega), e1, if_pos g1, if_pos g2]
  refine congrArg some ?_
  simp only [Int.toNat_natCast, bs_extract, show (0 : Int).toNat = 0 from rfl, List.drop_zero]
  have t1 : (p ++ c :: r).take p.length = p := List.take_left' rfl
  have t2 : ((p ++ c :: r).take (p ++ c :: r).length).drop (p.length + 1) = r := by
    rw [List.take_of_length_le (Nat.le_refl _), List.drop_append, List.drop_eq_nil_of_le (by omega), show p.length + 1 - p.length = 1 by omega]; rfl
  rw [t1, t2]
theorem split_at (c : UInt8) : ∀ (l : List UInt8), (∀ x ∈ l, x ≠ c) ∨ ∃ p r, l = p ++ c :: r ∧ ∀ x ∈ p, x ≠ c
  | [] => .inl fun x h => by cases h
  | x :: l => by
    by_cases hx : x = c
    · exact .inr ⟨[], l, by rw [hx]; rfl, fun y h => by cases h⟩
    · rcases split_at c l with h | ⟨p, r, rfl, h⟩
      · refine .inl fun y hy => ?_
        rcases List.mem_cons.1 hy with rfl | hy
        · exact hx
        · exact h y hy
      · refine .inr ⟨x :: p, r, rfl, fun y hy => ?_⟩
        rcases List.mem_cons.1 hy with rfl | hy
        · exact hx
        · exact h y hy
theorem parts_loop (c : UInt8) : ∀ (k : Nat) (l : List UInt8) (acc : List ByteArray), l.length ≤ k → acc.length + l.length < 1000000 →
    lines_Parts.l0 (c.toNat : Int) (bs l) acc = some (acc ++ (parts c l).map bs) := by
  intro k
  induction k with
  | zero =>
    intro l acc hk hb
    obtain rfl : l = [] := List.eq_nil_of_length_eq_zero (by omega)
    rw [lines_Parts.l0.eq_def, cut_none [] c (fun x h => by cases h), bindM_some, if_pos (by simp at hb; omega)]; rfl
  | succ k ih =>
    intro l acc hk hb
    rcases split_at c l with h | ⟨p, r, rfl, h⟩
    · rw [lines_Parts.l0.eq_def, cut_none l c h, bindM_some, if_pos (by omega), parts_none c l h]; rfl
    · have hlen : (p ++ c :: r).length = p.length + (r.length + 1) := by simp
      rw [lines_Parts.l0.eq_def, cut_some p r c h (by omega), bindM_some, if_pos (by omega), parts_cons c r p h]
      show lines_Parts.l0 (c.toNat : Int) (bs r) (acc ++ [bs p]) = _
      rw [ih r (acc ++ [bs p]) (by omega) (by simp; omega)]
      simp
theorem parts_code (c : UInt8) (l : List UInt8) (h : l.length < 1000000) : lines_Parts (bs l) (c.toNat : Int) = some ((parts c l).map bs) := by
  unfold lines_Parts
  rw [parts_loop c l.length l [] (Nat.le_refl _) (by simp; omega)]; rfl
theorem refParts_loop (c : UInt8) (l : List UInt8) (hl : l.length < 1000000) : ∀ (k fr i : Nat) (out : List ByteArray), l.length - i = k → fr ≤ i → i ≤ l.length → out.length ≤ i → (∀ x ∈ (l.take i).drop fr, x ≠ c) →
    ∃ (fr' : Nat) (out' : List ByteArray), crawlwayref06_Parts.l0 (bs l) (c.toNat : Int) (fr : Int) out (i : Int) = some (((fr' : Nat) : Int), out') ∧ fr' ≤ l.length ∧ out'.length ≤ l.length ∧ out' ++ [bs (l.drop fr')] = out ++ (parts c (l.drop fr)).map bs := by
  intro k
  induction k with
  | zero =>
    intro fr i out hk hfi hi ho hx
    have hil : i = l.length := by omega
    subst hil
    rw [List.take_of_length_le (Nat.le_refl _)] at hx
    refine ⟨fr, out, ?_, by omega, by omega, by rw [parts_none c _ hx]; rfl⟩
    rw [crawlwayref06_Parts.l0.eq_def, bs_size, if_neg (by rw [decide_eq_true_eq]; omega)]
  | succ k ih =>
    intro fr i out hk hfi hi ho hx
    obtain ⟨b, hb, hd⟩ := drop_get l i (by omega)
    have hbt : bt (bs l) (i : Int) = (b.toNat : Int) := bt_at (by rw [bs_list]; exact hb)
    have hi1 : wr .i64 ((i : Int) + 1) = ((i + 1 : Nat) : Int) := by rw [wr_i64 (by omega) (by omega)]; omega
    have g0 : (0 : Int) ≤ (i : Int) ∧ (i : Int) < ((l.length : Nat) : Int) := by omega
    rw [crawlwayref06_Parts.l0.eq_def, bs_size, if_pos (decide_eq_true (by omega)), if_pos g0, hbt, hi1]
    by_cases hbc : b = c
    · subst hbc
      have g1 : (0 : Int) ≤ (fr : Int) ∧ (fr : Int) ≤ (i : Int) ∧ (i : Int) ≤ ((l.length : Nat) : Int) := by omega
      rw [if_pos (beq_self_eq_true _), if_pos g1, if_pos (by omega)]
      simp only [Int.toNat_natCast, bs_extract]
      obtain ⟨fr', out', h1, h2, h3, h4⟩ := ih (i + 1) (i + 1) (out ++ [bs ((l.take i).drop fr)]) (by omega) (Nat.le_refl _) (by omega) (by simp; omega) (by
        intro x hx2
        rw [List.drop_eq_nil_of_le (by simp; omega)] at hx2
        cases hx2)
      refine ⟨fr', out', h1, h2, h3, ?_⟩
      rw [h4]
      have hsplit : l.drop fr = (l.take i).drop fr ++ b :: l.drop (i + 1) := by
        rw [← hd]
        have := List.take_append_drop (i - fr) (l.drop fr)
        rw [List.drop_drop, show fr + (i - fr) = i by omega] at this
        rw [List.drop_take]
        exact this.symm
      rw [hsplit, parts_cons b _ _ hx]
      simp
    · have hne : ((b.toNat : Int) == (c.toNat : Int)) = false := by
        rw [beq_eq_false_iff_ne]
        intro e
        exact hbc (UInt8.toNat.inj (by omega))
      rw [hne, if_neg Bool.false_ne_true]
      refine ih fr (i + 1) out (by omega) (by omega) (by omega) (by omega) ?_
      intro x hx2
      have : (l.take (i + 1)).drop fr = (l.take i).drop fr ++ [b] := by
        rw [List.take_add_one, hb]
        rw [List.drop_append_of_le_length (by simp; omega)]; rfl
      rw [this] at hx2
      rcases List.mem_append.1 hx2 with h | h
      · exact hx x h
      · have : x = b := by simpa using h
        rw [this]; exact hbc
theorem parts_ref (c : UInt8) (l : List UInt8) (h : l.length < 1000000) : crawlwayref06_Parts (bs l) (c.toNat : Int) = some ((parts c l).map bs) := by
  obtain ⟨fr', out', h1, h2, h3, h4⟩ := refParts_loop c l h l.length 0 0 [] rfl (Nat.le_refl _) (Nat.zero_le _) (Nat.zero_le _) (by
    intro x hx; rw [List.take_zero] at hx; cases hx)
  rw [show ((0 : Nat) : Int) = 0 from rfl] at h1
  unfold crawlwayref06_Parts
  have g : (0 : Int) ≤ (fr' : Int) ∧ (fr' : Int) ≤ ((l.length : Nat) : Int) ∧ ((l.length : Nat) : Int) ≤ ((l.length : Nat) : Int) := by omega
  rw [h1, bindM_some, bs_size, if_pos g, if_pos (by show (out'.length + 1) * 16 ≤ _; omega)]
  simp only [Int.toNat_natCast, bs_extract]
  rw [List.take_of_length_le (Nat.le_refl _), h4, List.drop_zero]; rfl
end Go.Proofs.YtkkmmpofdcccmaaGreatDoor
namespace Go.Proofs.YtkkmmpofdcccmaaGreatDoor
open E Go.RowKit
theorem set_step {α : Type} (A l : List α) (i : Nat) (x : α) (hA : A.length = l.length) (hx : A[i]? = some x) : (A.take i ++ l.drop i).set i x = A.take (i + 1) ++ l.drop (i + 1) := by
  have hi : i < A.length := (List.getElem?_eq_some_iff.1 hx).1
  apply List.ext_getElem?
  intro j
  have h1 : (A.take i).length = i := by simp; omega
  have h2 : (A.take (i + 1)).length = i + 1 := by simp; omega
  rw [List.getElem?_set]
  by_cases hj : i = j
  · subst hj
    have hl : i < (A.take i ++ l.drop i).length := by simp; omega
    rw [if_pos rfl, if_pos hl, List.getElem?_append_left (by omega), List.getElem?_take, if_pos (by omega), hx]
  · rw [if_neg hj]
    by_cases hlt : j < i
    · rw [List.getElem?_append_left (by omega), List.getElem?_append_left (by omega), List.getElem?_take, List.getElem?_take, if_pos hlt, if_pos (by omega)]
    · rw [List.getElem?_append_right (by omega), List.getElem?_append_right (by omega), List.getElem?_drop, List.getElem?_drop, h1, h2]
      congr 1; omega
theorem q_size (n : Nat) (h : n < 256) : (fmtU (n : Int)).size ≤ 3 := by
  have key : ∀ n : Nat, n < 256 → (Lib.decDigits n).length ≤ 3 := by
    intro n hn
    by_cases h1 : n < 10
    · rw [decDigits_small h1]; simp
    · rw [decDigits_big h1, List.length_append]
      by_cases h2 : n / 10 < 10
      · rw [decDigits_small h2]; simp
      · rw [decDigits_big h2, decDigits_small (by omega), List.length_append]; simp
  have := key n h
  rw [← size_toList, fmtU_list]
  omega
def qT (m : List UInt8) : List ByteArray := m.map fun b => fmtU (b.toNat : Int)
def v4 (m : List UInt8) : Vector Int 4 := lvec 4 (ob m)
theorem v4_toList {m : List UInt8} (hm : m.length = 4) : (v4 m).toList = ob m := by
  unfold v4
  rw [lvec_toList 4 _ (by rw [ob_length]; omega), List.take_of_length_le (by rw [ob_length]; omega)]
theorem v4_of {v : Vector Int 4} {m : List UInt8} (h : v.toList = ob m) : v = v4 m := by
  have hl : m.length = 4 := by have := congrArg List.length h; rw [ob_length] at this; simpa using this.symm
  apply Vector.toList_inj.1
  rw [v4_toList hl, h]
theorem vget_v4 {m : List UInt8} (hm : m.length = 4) (i : Nat) (c : UInt8) (hc : m[i]? = some c) : vget (v4 m) (i : Int) = (c.toNat : Int) := by
  unfold vget
  rw [v4_toList hm, Int.toNat_natCast, List.getD_eq_getElem?_getD]
  unfold ob
  rw [List.getElem?_map, hc]; rfl
theorem vset_v4 {m : List UInt8} (hm : m.length = 4) (i : Nat) (c : UInt8) : vset (v4 m) (i : Int) (c.toNat : Int) = v4 (m.set i c) := by
  apply Vector.toList_inj.1
  rw [vset_toList, v4_toList hm, v4_toList (by simpa using hm), Int.toNat_natCast]
  unfold ob
  rw [List.map_set]
def vs4 (xs : List ByteArray) : Vector ByteArray 4 := lvec 4 xs
theorem vs4_toList {xs : List ByteArray} (h : xs.length = 4) : (vs4 xs).toList = xs := by
  unfold vs4
  rw [lvec_toList 4 _ (by omega), List.take_of_length_le (by omega)]
theorem vset_vs4 {xs : List ByteArray} (h : xs.length = 4) (i : Nat) (t : ByteArray) : vset (vs4 xs) (i : Int) t = vs4 (xs.set i t) := by
  apply Vector.toList_inj.1
  rw [vset_toList, vs4_toList h, vs4_toList (by simpa using h), Int.toNat_natCast]
theorem quad_loop {m : List UInt8} (hm : m.length = 4) : ∀ (k i : Nat), i + k = 4 →
    quad_Text.l0 (v4 m) (i : Int) (vs4 ((qT m).take i ++ (List.replicate 4 (⟨#[]⟩ : ByteArray)).drop i)) = some (vs4 (qT m)) := by
  have hql : (qT m).length = 4 := by simp [qT, hm]
  intro k
  induction k with
  | zero =>
    intro i hi
    have hz : decide ((i : Int) < 4) = false := decide_eq_false (by omega)
    rw [quad_Text.l0.eq_def, hz, if_neg Bool.false_ne_true, List.drop_eq_nil_of_le (by simp; omega), List.append_nil, List.take_of_length_le (by omega)]
  | succ k ih =>
    intro i hi
    have hz : decide ((i : Int) < 4) = true := decide_eq_true (by omega)
    have hc : m[i]? = some m[i] := List.getElem?_eq_getElem (by omega)
    generalize m[i] = c at hc
    have hcl := c.toNat_lt
    have hg : (0 : Int) ≤ (i : Int) ∧ (i : Int) < 4 := by omega
    have hA : ((qT m).take i ++ (List.replicate 4 (⟨#[]⟩ : ByteArray)).drop i).length = 4 := by simp; omega
    have hstep := set_step (qT m) (List.replicate 4 (⟨#[]⟩ : ByteArray)) i (fmtU (c.toNat : Int)) (by simp; omega) (by unfold qT; rw [List.getElem?_map, hc]; rfl)
    rw [quad_Text.l0.eq_def, hz, if_pos rfl, if_pos hg, vget_v4 hm i c hc, wr_u64 (by omega) (by omega), text_code _ (by omega), bindM_some, if_pos hg, vset_vs4 hA, hstep, wr_i64 (by omega) (by omega), show ((i : Int) + 1) = ((i + 1 : Nat) : Int) by omega]
    exact ih (i + 1) (by omega)
/-- The text. -/
def qText (m : List UInt8) : List UInt8 := match m with
  | [a, b, c, d] => Lib.decDigits a.toNat ++ 46 :: (Lib.decDigits b.toNat ++ 46 :: (Lib.decDigits c.toNat ++ 46 :: Lib.decDigits d.toNat))
  | _ => []
theorem digits3 (n : Nat) (h : n < 256) : (Lib.decDigits n).length ≤ 3 := by
  have := q_size n h
  rw [← size_toList, fmtU_list] at this
  exact this
theorem qText_len {m : List UInt8} (hm : m.length = 4) : (qText m).length ≤ 15 := by
  match m, hm with
  | [a, b, c, d], _ =>
    have h1 := digits3 a.toNat a.toNat_lt
    have h2 := digits3 b.toNat b.toNat_lt
    have h3 := digits3 c.toNat c.toNat_lt
    have h4 := digits3 d.toNat d.toNat_lt
    simp only [qText, List.length_append, List.length_cons]
    omega
theorem bjoin_qT {m : List UInt8} (hm : m.length = 4) : bjoin (qT m) ⟨#[46]⟩ = bs (qText m) := by
  match m, hm with
  | [a, b, c, d], _ =>
    apply mk_inj
    rw [bs_list]
    show (bjoin [fmtU (a.toNat : Int), fmtU (b.toNat : Int), fmtU (c.toNat : Int), fmtU (d.toNat : Int)] ⟨#[46]⟩).data.toList = _
    unfold bjoin Lib.join
    simp only [List.map_cons, List.map_nil, fmtU_list]
    simp [List.intercalate, List.intersperse, qText]
theorem quad_text {m : List UInt8} (hm : m.length = 4) : quad_Text (v4 m) = some (bs (qText m)) := by
  have hql : (qT m).length = 4 := by simp [qT, hm]
  unfold quad_Text
  have h := quad_loop hm 4 0 rfl
  rw [List.take_zero, List.nil_append, List.drop_zero, show ((0 : Nat) : Int) = 0 from rfl] at h
  have hz : (Vector.replicate 4 (⟨#[]⟩ : ByteArray) : Vector ByteArray 4) = vs4 (List.replicate 4 (⟨#[]⟩ : ByteArray)) := by
    apply Vector.toList_inj.1; rw [vs4_toList (by simp)]; rfl
  have hsz := qText_len hm
  rw [hz, h, bindM_some, vs4_toList hql, if_pos (by omega), bjoin_qT hm, if_pos (by rw [bs_size]; omega)]
def pqs : List (List UInt8) → List UInt8 → Nat × List UInt8
  | [], acc => (0, acc)
  | p :: r, acc => if (rdU p 255).2 = 0 then pqs r (acc ++ [UInt8.ofNat (rdU p 255).1]) else ((rdU p 255).2, acc)
theorem rdU_le (l : List UInt8) (most : Nat) : (rdU l most).1 ≤ most := by
  unfold rdU; split
  · exact Nat.zero_le _
  · split
    · assumption
    · exact Nat.zero_le _
def quadP (l : List UInt8) : Vector Int 4 × Nat :=
  if (parts 46 l).length = 4 then (if (pqs (parts 46 l) []).1 = 0 then (v4 (pqs (parts 46 l) []).2, 0) else (Vector.replicate 4 0, (pqs (parts 46 l) []).1)) else (Vector.replicate 4 0, 5)
def viOf (p : Vector Int 4 × Nat) : Vector Int 4 × Int := (p.1, (p.2 : Int))
theorem pad_set (acc : List UInt8) (i : Nat) (c : UInt8) (hi : acc.length = i) (h4 : i < 4) : (acc ++ List.replicate (4 - i) 0).set i c = (acc ++ [c]) ++ List.replicate (4 - (i + 1)) 0 := by
  subst hi
  rw [List.set_append_right _ _ (Nat.le_refl _), Nat.sub_self, show 4 - acc.length = (4 - (acc.length + 1)) + 1 by omega, List.replicate_succ]
  simp
theorem quadParse_loop (ps : List (List UInt8)) (hps : ps.length = 4) (hsz : ∀ p ∈ ps, p.length < 1000000) : ∀ (k i : Nat) (acc : List UInt8), i + k = 4 → acc.length = i →
    quad_Parse.l0 (ps.map bs) (i : Int) (v4 (acc ++ List.replicate (4 - i) 0)) =
      some (if (pqs (ps.drop i) acc).1 = 0 then .nx (v4 (pqs (ps.drop i) acc).2) else .ret (Vector.replicate 4 0, ((pqs (ps.drop i) acc).1 : Int))) := by
  intro k
  induction k with
  | zero =>
    intro i acc hi ha
    have : i = 4 := by omega
    subst this
    rw [quad_Parse.l0.eq_def, if_neg (by rw [decide_eq_true_eq, List.length_map]; omega), List.drop_eq_nil_of_le (by omega)]
    show _ = some (if (0 : Nat) = 0 then _ else _)
    rw [if_pos rfl]
    show some (Ctl.nx (v4 (acc ++ []))) = _
    rw [List.append_nil]; rfl
  | succ k ih =>
    intro i acc hi ha
    have hp : ps[i]? = some ps[i] := List.getElem?_eq_getElem (by omega)
    have hdrop : ps.drop i = ps[i] :: ps.drop (i + 1) := List.drop_eq_getElem_cons (by omega)
    generalize ps[i] = p at hp hdrop
    have hmem := List.mem_of_getElem? hp
    have hpl := hsz p hmem
    have hl : lget (ps.map bs) (i : Int) = bs p := by
      unfold lget
      rw [Int.toNat_natCast, List.getD_eq_getElem?_getD, List.getElem?_map, hp]; rfl
    have g : (0 : Int) ≤ (i : Int) ∧ (i : Int) < ((ps.map bs).length : Int) := by rw [List.length_map]; omega
    have hr := read_code (bs p) 255 (by rw [bs_size]; omega) (by omega)
    rw [bs_list, show ((255 : Nat) : Int) = 255 from rfl] at hr
    rw [quad_Parse.l0.eq_def, if_pos (decide_eq_true g.2), if_pos g, hl, hr, bindM_some, hdrop]
    unfold pqs
    have hle := rdU_le p 255
    by_cases h0 : (rdU p 255).2 = 0
    · have hb : ((iiOf (rdU p 255)).2 != 0) = false := by simp [iiOf, h0]
      have e8 : wr .u8 (iiOf (rdU p 255)).1 = ((UInt8.ofNat (rdU p 255).1).toNat : Int) := by
        show wr .u8 ((rdU p 255).1 : Int) = _
        rw [wr_u8 (by omega) (by omega), UInt8.toNat_ofNat', Nat.mod_eq_of_lt (by omega)]
      have g4 : (0 : Int) ≤ (i : Int) ∧ (i : Int) < 4 := by omega
      rw [hb, if_neg Bool.false_ne_true, if_pos g4, e8, vset_v4 (by simp; omega), pad_set acc i _ ha (by omega), wr_i64 (by omega) (by omega), show ((i : Int) + 1) = ((i + 1 : Nat) : Int) by omega, if_pos h0]
      exact ih (i + 1) _ (by omega) (by simp; omega)
    · have hb : ((iiOf (rdU p 255)).2 != 0) = true := by rw [bne_iff_ne]; show ((rdU p 255).2 : Int) ≠ 0; omega
      rw [hb, if_pos rfl, if_neg h0, if_neg h0]; rfl
theorem refQuadParse_loop (ps : List (List UInt8)) (hps : ps.length = 4) (hsz : ∀ p ∈ ps, p.length < 1000000) : ∀ (k i : Nat) (acc : List UInt8), i + k = 4 → acc.length = i →
    crawlwayref08_Parse.l0 (ps.map bs) (i : Int) (v4 (acc ++ List.replicate (4 - i) 0)) =
      some (if (pqs (ps.drop i) acc).1 = 0 then .nx (v4 (pqs (ps.drop i) acc).2) else .ret (Vector.replicate 4 0, ((pqs (ps.drop i) acc).1 : Int))) := by
  intro k
  induction k with
  | zero =>
    intro i acc hi ha
    have : i = 4 := by omega
    subst this
    rw [crawlwayref08_Parse.l0.eq_def, if_neg (by decide), List.drop_eq_nil_of_le (by omega)]
    show _ = some (if (0 : Nat) = 0 then _ else _)
    rw [if_pos rfl]
    show some (Ctl.nx (v4 (acc ++ []))) = _
    rw [List.append_nil]; rfl
  | succ k ih =>
    intro i acc hi ha
    have hp : ps[i]? = some ps[i] := List.getElem?_eq_getElem (by omega)
    have hdrop : ps.drop i = ps[i] :: ps.drop (i + 1) := List.drop_eq_getElem_cons (by omega)
    generalize ps[i] = p at hp hdrop
    have hmem := List.mem_of_getElem? hp
    have hpl := hsz p hmem
    have hl : lget (ps.map bs) (i : Int) = bs p := by
      unfold lget
      rw [Int.toNat_natCast, List.getD_eq_getElem?_getD, List.getElem?_map, hp]; rfl
    have g : (0 : Int) ≤ (i : Int) ∧ (i : Int) < ((ps.map bs).length : Int) := by rw [List.length_map]; omega
    have g4 : (0 : Int) ≤ (i : Int) ∧ (i : Int) < 4 := by omega
    have hr := read_ref (bs p) 255 (by rw [bs_size]; omega) (by omega)
    rw [bs_list, show ((255 : Nat) : Int) = 255 from rfl] at hr
    rw [crawlwayref08_Parse.l0.eq_def, if_pos (decide_eq_true g4.2), if_pos g, hl, hr, bindM_some, hdrop]
    unfold pqs
    have hle := rdU_le p 255
    by_cases h0 : (rdU p 255).2 = 0
    · have hb : ((iiOf (rdU p 255)).2 != 0) = false := by simp [iiOf, h0]
      have e8 : wr .u8 (iiOf (rdU p 255)).1 = ((UInt8.ofNat (rdU p 255).1).toNat : Int) := by
        show wr .u8 ((rdU p 255).1 : Int) = _
        rw [wr_u8 (by omega) (by omega), UInt8.toNat_ofNat', Nat.mod_eq_of_lt (by omega)]
      rw [hb, if_neg Bool.false_ne_true, if_pos g4, e8, vset_v4 (by simp; omega), pad_set acc i _ ha (by omega), wr_i64 (by omega) (by omega), show ((i : Int) + 1) = ((i + 1 : Nat) : Int) by omega, if_pos h0]
      exact ih (i + 1) _ (by omega) (by simp; omega)
    · have hb : ((iiOf (rdU p 255)).2 != 0) = true := by rw [bne_iff_ne]; show ((rdU p 255).2 : Int) ≠ 0; omega
      rw [hb, if_pos rfl, if_neg h0, if_neg h0]; rfl
theorem part_short (c : UInt8) : ∀ (l p : List UInt8), p ∈ parts c l → p.length ≤ l.length := by
  intro l
  induction l with
  | nil => intro p hp; simp [parts] at hp; subst hp; exact Nat.le_refl _
  | cons x r ih =>
    intro p hp
    have hne := parts_ne c r
    unfold parts at hp
    split at hp
    · rcases List.mem_cons.1 hp with rfl | hp
      · exact Nat.zero_le _
      · exact Nat.le_trans (ih p hp) (by simp)
    · cases hq : parts c r with
      | nil => exact absurd hq hne
      | cons a b =>
        rw [hq] at hp ih
        rcases List.mem_cons.1 hp with rfl | hp
        · have := ih a (List.mem_cons_self ..)
          simp; omega
        · have := ih p (List.mem_cons_of_mem _ hp)
          simp; omega
theorem zero_v4 : (Vector.replicate 4 (0 : Int) : Vector Int 4) = v4 (List.replicate 4 0) := v4_of rfl
theorem quad_parse (l : List UInt8) (h : l.length < 1000000) : quad_Parse (bs l) = some (viOf (quadP l)) := by
  unfold quad_Parse quadP
  have hp := parts_code 46 l h
  rw [show (((46 : UInt8).toNat : Nat) : Int) = 46 from rfl] at hp
  rw [hp, bindM_some, List.length_map]
  by_cases h4 : (parts 46 l).length = 4
  · have hne : (((parts 46 l).length : Int) != 4) = false := by rw [h4]; rfl
    have hl := quadParse_loop (parts 46 l) h4 (fun p hp => Nat.lt_of_le_of_lt (part_short 46 l p hp) h) 4 0 [] rfl rfl
    rw [List.nil_append, show 4 - 0 = 4 from rfl, ← zero_v4, show ((0 : Nat) : Int) = 0 from rfl, List.drop_zero] at hl
    rw [hne, if_neg Bool.false_ne_true, hl, bindM_some, if_pos h4]
    by_cases h0 : (pqs (parts 46 l) []).1 = 0
    · rw [if_pos h0, if_pos h0]; rfl
    · rw [if_neg h0, if_neg h0]; rfl
  · have hne : (((parts 46 l).length : Int) != 4) = true := by rw [bne_iff_ne]; omega
    rw [hne, if_pos rfl, if_neg h4]; rfl
theorem quad_parse_ref (l : List UInt8) (h : l.length < 1000000) : crawlwayref08_Parse (bs l) = some (viOf (quadP l)) := by
  unfold crawlwayref08_Parse quadP
  have hp := parts_ref 46 l h
  rw [show (((46 : UInt8).toNat : Nat) : Int) = 46 from rfl] at hp
  rw [hp, bindM_some, List.length_map]
  by_cases h4 : (parts 46 l).length = 4
  · have hne : (((parts 46 l).length : Int) != 4) = false := by rw [h4]; rfl
    have hl := refQuadParse_loop (parts 46 l) h4 (fun p hp => Nat.lt_of_le_of_lt (part_short 46 l p hp) h) 4 0 [] rfl rfl
    rw [List.nil_append, show 4 - 0 = 4 from rfl, ← zero_v4, show ((0 : Nat) : Int) = 0 from rfl, List.drop_zero] at hl
    rw [hne, if_neg Bool.false_ne_true, hl, bindM_some, if_pos h4]
    by_cases h0 : (pqs (parts 46 l) []).1 = 0
    · rw [if_pos h0, if_pos h0]; rfl
    · rw [if_neg h0, if_neg h0]; rfl
  · have hne : (((parts 46 l).length : Int) != 4) = true := by rw [bne_iff_ne]; omega
    rw [hne, if_pos rfl, if_neg h4]; rfl
/-- The parts, with the byte between, are the text. -/
theorem parts_join (c : UInt8) : ∀ (l : List UInt8), [c].intercalate (parts c l) = l := by
  have key : ∀ (l : List UInt8), ∃ p r, parts c l = p :: r ∧ p ++ (r.map ([c] ++ ·)).flatten = l := by
    intro l
    induction l with
    | nil => exact ⟨[], [], rfl, rfl⟩
    | cons x l ih =>
      obtain ⟨p, r, h1, h2⟩ := ih
      by_cases hx : x = c
      · subst hx
        refine ⟨[], p :: r, ?_, ?_⟩
        · rw [parts, if_pos rfl, h1]
        · rw [← h2]; simp
      · refine ⟨x :: p, r, ?_, ?_⟩
        · rw [parts, if_neg hx, h1]; rfl
        · rw [← h2]; simp
  intro l
  obtain ⟨p, r, h1, h2⟩ := key l
  rw [h1]
  have : ∀ (r : List (List UInt8)) (p : List UInt8), [c].intercalate (p :: r) = p ++ (r.map ([c] ++ ·)).flatten := by
    intro r
    induction r with
    | nil => intro p; simp [List.intercalate]
    | cons q r ih =>
      intro p
      have := ih q
      simp only [List.intercalate, List.intersperse] at this ⊢
      simp [this]
  rw [this, h2]
theorem pqs_ok : ∀ (ps : List (List UInt8)) (acc : List UInt8), (pqs ps acc).1 = 0 → ∃ m, (pqs ps acc).2 = acc ++ m ∧ m.length = ps.length ∧ ps = m.map fun b => Lib.decDigits b.toNat
  | [], acc, _ => ⟨[], by simp [pqs], rfl, rfl⟩
  | p :: r, acc, h => by
    unfold pqs at h ⊢
    by_cases h0 : (rdU p 255).2 = 0
    · rw [if_pos h0] at h ⊢
      obtain ⟨m, h1, h2, h3⟩ := pqs_ok r _ h
      obtain ⟨b1, b2⟩ := rdU_back h0
      refine ⟨UInt8.ofNat (rdU p 255).1 :: m, by rw [h1]; simp, by simp [h2], ?_⟩
      rw [List.map_cons, ← h3, UInt8.toNat_ofNat', Nat.mod_eq_of_lt (by omega), b1]
    · rw [if_neg h0] at h
      exact absurd h h0
theorem quadP_back {l : List UInt8} (h : (quadP l).2 = 0) : ∃ m, m.length = 4 ∧ quadP l = (v4 m, 0) ∧ qText m = l := by
  unfold quadP at h ⊢
  by_cases h4 : (parts 46 l).length = 4
  · rw [if_pos h4] at h ⊢
    by_cases h0 : (pqs (parts 46 l) []).1 = 0
    · rw [if_pos h0]
      obtain ⟨m, h1, h2, h3⟩ := pqs_ok _ _ h0
      have hm : m.length = 4 := by omega
      refine ⟨m, hm, by rw [h1]; rfl, ?_⟩
      rw [← parts_join 46 l, h3]
      match m, hm with
      | [a, b, c, d], _ =>
        simp [List.intercalate, List.intersperse, qText]
    · rw [if_neg h0] at h; exact absurd h h0
  · rw [if_neg h4] at h; cases h
end Go.Proofs.YtkkmmpofdcccmaaGreatDoor
namespace Go.Proofs.YtkkmmpofdcccmaaGreatDoor.Hex
open Go.Lib (indexByte)
def dgs : ByteArray := ByteArray.mk #[48, 49, 50, 51, 52, 53, 54, 55, 56, 57, 97, 98, 99, 100, 101, 102]
def dgl : List UInt8 := [48, 49, 50, 51, 52, 53, 54, 55, 56, 57, 97, 98, 99, 100, 101, 102]
/-- The digit of a number below 16. -/
def dg (n : Nat) : UInt8 := dgl.getD n 0
def dig (n : Nat) : ByteArray := ByteArray.mk #[dg n]
theorem dig_eq : ∀ n : Fin 16, dgs.extract n.1 (n.1 + 1) = dig n.1 := by decide +kernel
theorem dig_extract (n : Nat) (h : n < 16) : dgs.extract n (n + 1) = dig n := dig_eq ⟨n, h⟩
/-- The reference's Value from place i on. -/
def vf (c : Nat) (great : Bool) : Nat → Nat → Int
  | 0, _ => -1
  | f + 1, i => if (dg i).toNat = c ∨ great = true ∧ i > 9 ∧ (dg i).toNat = (c + 32) % 256 then (i : Int) else vf c great f (i + 1)
def val (c : Nat) (great : Bool) : Int := vf c great 16 0
def small (c : Nat) : Nat := if 65 ≤ c ∧ c ≤ 70 then c ||| 32 else c
def idx (c : Nat) : Int := indexByte dgl c.toUInt8
theorem idx_val : ∀ c : Fin 256, idx c.1 = val c.1 false := by decide +kernel
theorem idx_small : ∀ c : Fin 256, idx (small c.1) = val c.1 true := by decide +kernel
theorem val_lt : ∀ c : Fin 256, ∀ g : Bool, -1 ≤ val c.1 g ∧ val c.1 g < 16 := by decide +kernel
theorem dg_val : ∀ c : Fin 256, val c.1 false ≥ 0 → (dg (val c.1 false).toNat).toNat = c.1 := by decide +kernel
/-- A number's text. -/
def grp (n : Nat) : ByteArray := if n < 16 then dig n else grp (n / 16) ++ dig (n % 16)
def gl (n : Nat) (o : ByteArray) : ByteArray := if n < 16 then dig n ++ o else gl (n / 16) (dig (n % 16) ++ o)
theorem gl_eq (n : Nat) : ∀ o, gl n o = grp n ++ o := by
  induction n using Nat.strongRecOn with
  | _ n ih =>
    intro o
    unfold gl grp
    split
    · rfl
    · rw [ih _ (by omega), ByteArray.append_assoc]
/-- A text's number. -/
def rd (l : List UInt8) : Nat → Option Nat := l.foldr (fun c k n => if val c.toNat true < 0 then none else k (16 * n + (val c.toNat true).toNat)) some
theorem rd_nil (n : Nat) : rd [] n = some n := rfl
theorem rd_cons (c : UInt8) (l : List UInt8) (n : Nat) : rd (c :: l) n = if val c.toNat true < 0 then none else rd l (16 * n + (val c.toNat true).toNat) := rfl
def read (s : ByteArray) : Option Nat := if s.size < 1 ∨ s.size > 4 then none else rd s.data.toList 0
theorem rd_lt (l : List UInt8) : ∀ n m, rd l n = some m → m < (n + 1) * 16 ^ l.length := by
  induction l with
  | nil => intro n m h; simp [rd_nil] at h; simp; omega
  | cons c l ih =>
    intro n m h
    rw [rd_cons] at h
    split at h
    · cases h
    · have hv : val c.toNat true < 16 := (val_lt ⟨c.toNat, c.toNat_lt⟩ true).2
      have := ih _ _ h
      simp only [List.length_cons, Nat.pow_succ]
      have h2 : (val c.toNat true).toNat < 16 := by omega
      calc m < (16 * n + (val c.toNat true).toNat + 1) * 16 ^ l.length := this
        _ ≤ (16 * n + 16) * 16 ^ l.length := Nat.mul_le_mul_right _ (by omega)
        _ = _ := by rw [show 16 * n + 16 = (n + 1) * 16 by omega, Nat.mul_assoc, Nat.mul_comm 16]
theorem grp_size (n : Nat) : 1 ≤ (grp n).size ∧ ∀ k, n < 16 ^ (k + 1) → (grp n).size ≤ k + 1 := by
  induction n using Nat.strongRecOn with
  | _ n ih =>
    unfold grp
    split
    · exact ⟨by simp [dig, ByteArray.size], fun k _ => by simp [dig, ByteArray.size]⟩
    · next h =>
      have ih' := ih _ (show n / 16 < n by omega)
      rw [ByteArray.size_append]
      have hd : (dig (n % 16)).size = 1 := rfl
      refine ⟨by omega, fun k hk => ?_⟩
      cases k with
      | zero => simp at hk; omega
      | succ k =>
        have := ih'.2 k (by rw [Nat.pow_succ] at hk; omega)
        omega
end Go.Proofs.YtkkmmpofdcccmaaGreatDoor.Hex
namespace Go.Proofs.YtkkmmpofdcccmaaGreatDoor.Hex
open E Go.RowKit
theorem tab_size : (⟨#[48, 49, 50, 51, 52, 53, 54, 55, 56, 57, 97, 98, 99, 100, 101, 102]⟩ : ByteArray).size = 16 := rfl
theorem tab_bt (n : Nat) (h : n < 16) : bt (⟨#[48, 49, 50, 51, 52, 53, 54, 55, 56, 57, 97, 98, 99, 100, 101, 102]⟩ : ByteArray) n = (dg n).toNat := by
  have : ∀ n : Fin 16, bt (⟨#[48, 49, 50, 51, 52, 53, 54, 55, 56, 57, 97, 98, 99, 100, 101, 102]⟩ : ByteArray) (n.1 : Int) = (dg n.1).toNat := by decide +kernel
  exact this ⟨n, h⟩
theorem value_eq (c : Nat) : hexes_value c = some (wr .u16 (idx c), decide (idx c ≥ 0)) := rfl
/-- One step of reading a digit, whoever reads. -/
theorem small_value (c : Nat) (hc : c < 256) : idx (small c) = val c true := idx_small ⟨c, hc⟩
theorem value_val (c : Nat) (hc : c < 256) : idx c = val c false := idx_val ⟨c, hc⟩
end Go.Proofs.YtkkmmpofdcccmaaGreatDoor.Hex
namespace Go.Proofs.YtkkmmpofdcccmaaGreatDoor.Hex
open E Go.RowKit
theorem small_eq (c : Nat) (hc : c < 256) : hexes_small c = some ((small c : Nat) : Int) := by
  unfold hexes_small small
  by_cases h1 : 65 ≤ c
  · by_cases h2 : c ≤ 70
    · rw [if_pos (by simp; omega), if_pos (by simp; omega), if_pos ⟨h1, h2⟩]
      rw [show (32 : Int) = ((32 : Nat) : Int) from rfl, ior_nat .u8 rfl c 32 hc (by decide)]
    · rw [if_pos (by simp; omega), if_neg (by simp; omega), if_neg (by omega)]
  · rw [if_neg (by simp; omega), if_neg (by omega)]
theorem enc_digit : ∀ n : Fin 16, Utf8.encode (bt (⟨#[48, 49, 50, 51, 52, 53, 54, 55, 56, 57, 97, 98, 99, 100, 101, 102]⟩ : ByteArray) (n.1 : Int)) = dig n.1 := by decide +kernel
theorem group_l0 (n : Nat) : ∀ o : ByteArray, n < 65536 → o.size + n ≤ 100000 → hexes_Group.l0 n o = some (gl n o) := by
  induction n using Nat.strongRecOn with
  | _ n ih =>
    intro o hn ho
    rw [hexes_Group.l0.eq_def]
    have e1 : iand .u16 (n : Int) 15 = ((n % 16 : Nat) : Int) := by
      rw [show (15 : Int) = ((15 : Nat) : Int) from rfl, iand_nat .u16 rfl n 15 hn (by decide), Nat.and_two_pow_sub_one_eq_mod n 4]
    have e2 : ishr .u16 (n : Int) 4 = ((n / 16 : Nat) : Int) := ishr_nat .u16 n 4 (by decide)
    have e3 := enc_digit ⟨n % 16, by omega⟩
    simp only at e3
    have hd : (dig (n % 16)).size = 1 := rfl
    simp only [e1, e2, e3, hd, tab_size]
    rw [if_pos (by omega), if_pos (by omega)]
    unfold gl
    by_cases h : n < 16
    · rw [if_pos (by simp; omega), if_pos h, Nat.mod_eq_of_lt h]
    · rw [if_neg (by simp; omega), if_neg h]
      exact ih _ (by omega) _ (by omega) (by rw [ByteArray.size_append, hd]; omega)
theorem group_eq (n : Nat) (h : n < 65536) : hexes_Group n = some (grp n) := by
  unfold hexes_Group
  have := group_l0 n ⟨#[]⟩ h (by show 0 + n ≤ _; omega)
  rw [this, bindM_some, gl_eq, show (⟨#[]⟩ : ByteArray) = ByteArray.empty from rfl, ByteArray.append_empty]
/-- Reading a number: from place i on, n being what was read. -/
theorem read_l0 (s : ByteArray) (hs : s.size ≤ 4) (f : Nat) : ∀ (i n : Nat), i + f = s.size → n < 16 ^ i →
    hexes_ReadGroup.l0 s n i = some (match rd (s.data.toList.drop i) n with | some m => .nx (m : Int) | none => .ret (0, 5)) := by
  induction f with
  | zero =>
    intro i n hi hn
    rw [hexes_ReadGroup.l0.eq_def, if_neg (by simp; omega), List.drop_eq_nil_of_le (by simp; omega), rd_nil]
  | succ f ih =>
    intro i n hi hn
    have hlt : i < s.size := by omega
    obtain ⟨c, hc⟩ : ∃ c, s.data.toList[i]? = some c := ⟨_, ba_get s i hlt⟩
    have hdrop : s.data.toList.drop i = c :: s.data.toList.drop (i + 1) := by
      have hl : i < s.data.toList.length := by simpa using hlt
      rw [List.drop_eq_getElem_cons hl]
      congr 1
      rw [List.getElem?_eq_getElem hl] at hc
      exact Option.some.inj hc
    have hb : bt s i = c.toNat := by rw [bt_nat, hc]; rfl
    have hcl := c.toNat_lt
    have hv1 : -1 ≤ val c.toNat true := (val_lt ⟨c.toNat, hcl⟩ true).1
    have hv2 : val c.toNat true < 16 := (val_lt ⟨c.toNat, hcl⟩ true).2
    have hpow : (16 : Nat) ^ i ≤ 16 ^ 3 := Nat.pow_le_pow_right (by decide) (by omega)
    have e0 : wr .i64 ((i : Int) + 1) = ((i + 1 : Nat) : Int) := by rw [wr_i64 (by omega) (by omega)]; omega
    rw [hexes_ReadGroup.l0.eq_def, if_pos (by simp; omega), if_pos (by omega), hb, small_eq _ hcl, hdrop, rd_cons]
    simp only [bindM_some, value_eq, small_value _ hcl, e0]
    by_cases hneg : val c.toNat true < 0
    · rw [if_pos (by simp; omega), if_pos hneg]
    · rw [if_neg (by simp; omega), if_neg hneg]
      obtain ⟨v, hv⟩ : ∃ v : Nat, val c.toNat true = v := ⟨(val c.toNat true).toNat, by omega⟩
      have e1 : wr .u16 (val c.toNat true) = (v : Int) := by rw [hv, wr_u16 (by omega) (by omega)]
      have e2 : ishl .u16 (n : Int) 4 = ((n * 16 : Nat) : Int) := by
        rw [show (4 : Int) = ((4 : Nat) : Int) from rfl, ishl_nat .u16 rfl n 4 (by decide)]
        rw [Nat.mod_eq_of_lt (by show n * 2 ^ 4 < 2 ^ 16; omega)]
      have e3 : ior .u16 ((n * 16 : Nat) : Int) (v : Int) = ((16 * n + v : Nat) : Int) := by
        rw [ior_nat .u16 rfl _ _ (by show n * 16 < 2 ^ 16; omega) (by show v < 2 ^ 16; omega)]
        rw [show n * 16 = n <<< 4 by rw [Nat.shiftLeft_eq], ← Nat.shiftLeft_add_eq_or_of_lt (by omega : v < 2 ^ 4), Nat.shiftLeft_eq]
        congr 1; omega
      rw [e1, e2, e3, ih (i + 1) (16 * n + v) (by omega) (by rw [Nat.pow_succ]; omega), hv]
      simp
theorem read_eq (s : ByteArray) : hexes_ReadGroup s = some (match read s with | some n => ((n : Int), 0) | none => (0, 5)) := by
  unfold hexes_ReadGroup read
  by_cases h1 : s.size < 1
  · rw [if_pos (by simp; omega), if_pos (.inl h1)]
  · by_cases h2 : s.size > 4
    · rw [if_neg (by simp; omega), if_pos (by simp; omega), if_pos (.inr h2)]
    · rw [if_neg (by simp; omega), if_neg (by simp; omega), if_neg (by omega)]
      have := read_l0 s (by omega) s.size 0 0 (by omega) (by simp)
      rw [show ((0 : Nat) : Int) = 0 from rfl, List.drop_zero] at this
      rw [this]
      simp only [bindM_some]
      cases rd s.data.toList 0 <;> rfl
theorem read_lt (s : ByteArray) (n : Nat) (h : read s = some n) : n < 65536 := by
  unfold read at h
  split at h
  · cases h
  · have := rd_lt _ _ _ h
    have hl : s.data.toList.length ≤ 4 := by simp; omega
    have : (16 : Nat) ^ s.data.toList.length ≤ 16 ^ 4 := Nat.pow_le_pow_right (by decide) hl
    omega
end Go.Proofs.YtkkmmpofdcccmaaGreatDoor.Hex
namespace Go.Proofs.YtkkmmpofdcccmaaGreatDoor.Hex
open E Go.RowKit
theorem digit_eq (n : Nat) (h : n < 16) : crawlwayref05_digit n = some (dig n) := by
  unfold crawlwayref05_digit
  rw [wr_i64 (by omega) (by omega), if_pos (by rw [tab_size]; omega)]
  rw [show ((n : Int) + 1).toNat = n + 1 by omega, Int.toNat_natCast]
  exact congrArg some (dig_extract n h)
theorem dig_bt (n : Nat) : bt (dig n) 0 = (dg n).toNat := rfl
theorem value_l0 (c : Nat) (g : Bool) (hc : c < 256) (f : Nat) : ∀ i : Nat, i + f = 16 →
    crawlwayref05_Value.l0 c g i = some (if vf c g f i = -1 then .nx () else .ret (vf c g f i)) := by
  induction f with
  | zero =>
    intro i hi
    obtain rfl : i = 16 := by omega
    rw [crawlwayref05_Value.l0.eq_def]
    simp [vf]
  | succ f ih =>
    intro i hi
    rw [crawlwayref05_Value.l0.eq_def]
    have h1 : decide ((i : Int) < 16) = true := by simp; omega
    have hs : ((dig i).size : Int) = 1 := rfl
    have ih' := ih (i + 1) (by omega)
    have e1 : wr .i64 ((i : Int) + 1) = ((i + 1 : Nat) : Int) := by rw [wr_i64 (by omega) (by omega)]; omega
    have e2 : wr .u8 ((c : Int) + 32) = (((c + 32) % 256 : Nat) : Int) := by rw [wr_u8_mod]; omega
    rw [if_pos h1, digit_eq i (by omega)]
    simp only [bindM_some, dig_bt, hs, e1, e2, ih']
    rw [if_pos (by decide)]
    have hv : vf c g (f + 1) i = if (dg i).toNat = c ∨ g = true ∧ i > 9 ∧ (dg i).toNat = (c + 32) % 256 then (i : Int) else vf c g f (i + 1) := rfl
    by_cases hA : (dg i).toNat = c
    · have hA' : (((dg i).toNat : Int) == (c : Int)) = true := by simp; omega
      rw [if_pos (.inl hA)] at hv
      have : ¬ (i : Int) = -1 := by omega
      simp only [hA', hv, this, ↓reduceIte]
    · have hA' : (((dg i).toNat : Int) == (c : Int)) = false := by simp; omega
      cases g with
      | false => 
        rw [if_neg (by simp [hA])] at hv
        simp only [hA', hv, ↓reduceIte, Bool.false_eq_true]
      | true =>
        by_cases h9 : 9 < i
        · have h9' : decide ((i : Int) > 9) = true := by simp; omega
          by_cases hB : (dg i).toNat = (c + 32) % 256
          · have hB' : (((dg i).toNat : Int) == (((c + 32) % 256 : Nat) : Int)) = true := by simp; omega
            rw [if_pos (.inr ⟨rfl, h9, hB⟩)] at hv
            have : ¬ (i : Int) = -1 := by omega
            simp only [hA', hB', h9', hv, this, ↓reduceIte, Bool.false_eq_true, Int.le_refl, true_and, Int.zero_lt_one]
          · have hB' : (((dg i).toNat : Int) == (((c + 32) % 256 : Nat) : Int)) = false := by simp; omega
            rw [if_neg (by rintro (h | h); exact hA h; exact hB h.2.2)] at hv
            simp only [hA', hB', h9', hv, ↓reduceIte, Bool.false_eq_true, Int.le_refl, true_and, Int.zero_lt_one]
        · have h9' : decide ((i : Int) > 9) = false := by simp; omega
          rw [if_neg (by rintro (h | h); exact hA h; exact h9 h.2.1)] at hv
          simp only [hA', h9', hv, ↓reduceIte, Bool.false_eq_true]
theorem refValue_eq (c : Nat) (g : Bool) (hc : c < 256) : crawlwayref05_Value c g = some (val c g) := by
  unfold crawlwayref05_Value
  have := value_l0 c g hc 16 0 rfl
  rw [show ((0 : Nat) : Int) = 0 from rfl] at this
  rw [this]
  simp only [bindM_some]
  unfold val
  by_cases hv : vf c g 16 0 = -1
  · simp only [hv, ↓reduceIte]
  · simp only [hv, ↓reduceIte]
end Go.Proofs.YtkkmmpofdcccmaaGreatDoor.Hex
namespace Go.Proofs.YtkkmmpofdcccmaaGreatDoor.Hex
open E Go.RowKit
theorem refRead_l0 (s : ByteArray) (hs : s.size ≤ 4) (f : Nat) : ∀ (i n : Nat), i + f = s.size → n < 16 ^ i →
    crawlwayref05_ReadGroup.l0 s n i = some (match rd (s.data.toList.drop i) n with | some m => .nx (m : Int) | none => .ret (-1)) := by
  induction f with
  | zero =>
    intro i n hi hn
    rw [crawlwayref05_ReadGroup.l0.eq_def, if_neg (by simp; omega), List.drop_eq_nil_of_le (by simp; omega), rd_nil]
  | succ f ih =>
    intro i n hi hn
    have hlt : i < s.size := by omega
    obtain ⟨c, hc⟩ : ∃ c, s.data.toList[i]? = some c := ⟨_, ba_get s i hlt⟩
    have hdrop : s.data.toList.drop i = c :: s.data.toList.drop (i + 1) := by
      have hl : i < s.data.toList.length := by simpa using hlt
      rw [List.drop_eq_getElem_cons hl]
      congr 1
      rw [List.getElem?_eq_getElem hl] at hc
      exact Option.some.inj hc
    have hb : bt s i = c.toNat := by rw [bt_nat, hc]; rfl
    have hcl := c.toNat_lt
    have hv1 : -1 ≤ val c.toNat true := (val_lt ⟨c.toNat, hcl⟩ true).1
    have hv2 : val c.toNat true < 16 := (val_lt ⟨c.toNat, hcl⟩ true).2
    have hpow : (16 : Nat) ^ i ≤ 16 ^ 3 := Nat.pow_le_pow_right (by decide) (by omega)
    have e0 : wr .i64 ((i : Int) + 1) = ((i + 1 : Nat) : Int) := by rw [wr_i64 (by omega) (by omega)]; omega
    rw [crawlwayref05_ReadGroup.l0.eq_def, if_pos (by simp; omega), if_pos (by omega), hb, refValue_eq _ _ hcl, hdrop, rd_cons]
    simp only [bindM_some, e0]
    by_cases hneg : val c.toNat true < 0
    · rw [if_pos (by simp; omega), if_pos hneg]
    · rw [if_neg (by simp; omega), if_neg hneg]
      obtain ⟨v, hv⟩ : ∃ v : Nat, val c.toNat true = v := ⟨(val c.toNat true).toNat, by omega⟩
      have e1 : wr .i64 (wr .i64 (16 * (n : Int)) + (v : Int)) = ((16 * n + v : Nat) : Int) := by
        have e2 : wr .i64 (16 * (n : Int)) = 16 * (n : Int) := wr_i64 (by omega) (by omega)
        rw [e2, wr_i64 (by omega) (by omega)]; omega
      rw [hv, e1, ih (i + 1) (16 * n + v) (by omega) (by rw [Nat.pow_succ]; omega)]
      simp
theorem refRead_eq (s : ByteArray) : crawlwayref05_ReadGroup s = some (match read s with | some n => (n : Int) | none => -1) := by
  unfold crawlwayref05_ReadGroup read
  by_cases h1 : s.size < 1
  · rw [if_pos (by simp; omega), if_pos (.inl h1)]
  · by_cases h2 : s.size > 4
    · rw [if_neg (by simp; omega), if_pos (by simp; omega), if_pos (.inr h2)]
    · rw [if_neg (by simp; omega), if_neg (by simp; omega), if_neg (by omega)]
      have := refRead_l0 s (by omega) s.size 0 0 (by omega) (by simp)
      rw [show ((0 : Nat) : Int) = 0 from rfl, List.drop_zero] at this
      rw [this]
      simp only [bindM_some]
      cases rd s.data.toList 0 <;> rfl
end Go.Proofs.YtkkmmpofdcccmaaGreatDoor.Hex
namespace Go.Proofs.YtkkmmpofdcccmaaGreatDoor.Hex
open E Go.RowKit
def encL (l : List UInt8) : List UInt8 := l.flatMap fun b => [dg (b.toNat / 16), dg (b.toNat % 16)]
theorem encL_cons (b : UInt8) (l : List UInt8) : encL (b :: l) = dg (b.toNat / 16) :: dg (b.toNat % 16) :: encL l := rfl
theorem encL_length (l : List UInt8) : (encL l).length = 2 * l.length := by
  induction l with
  | nil => rfl
  | cons b l ih => rw [encL_cons]; simp; omega
def str (l : List UInt8) : ByteArray := ⟨l.toArray⟩
theorem str_size (l : List UInt8) : (str l).size = l.length := by simp [str, ByteArray.size]
theorem str_append (l k : List UInt8) : str (l ++ k) = str l ++ str k := by
  apply ByteArray.ext; simp [str, ByteArray.data_append]
theorem str_push (l : List UInt8) (b : UInt8) : (str l).push b = str (l ++ [b]) := by
  apply ByteArray.ext; simp [str, ByteArray.push]
theorem str_toList (s : ByteArray) : str s.data.toList = s := by cases s; rfl
theorem str_inj {l k : List UInt8} (h : str l = str k) : l = k := by
  have := congrArg (fun s : ByteArray => s.data.toList) h; simpa [str] using this
theorem tab_push (n : Nat) (h : n < 16) : UInt8.ofNat (Int.toNat (bt (⟨#[48, 49, 50, 51, 52, 53, 54, 55, 56, 57, 97, 98, 99, 100, 101, 102]⟩ : ByteArray) n)) = dg n := by
  rw [tab_bt n h, Int.toNat_natCast, UInt8.ofNat_toNat]
theorem encode_l0 (l : List UInt8) (hl : l.length < 1000000) (f : Nat) : ∀ (i : Nat) (o : List UInt8), i + f = l.length → o.length ≤ 2 * i →
    hexes_Encode.l0 (ob l) i (str o) = some (str (o ++ encL (l.drop i))) := by
  induction f with
  | zero =>
    intro i o hi ho
    have c1 : decide ((i : Int) < ((ob l).length : Int)) = false := by rw [ob_length]; simp; omega
    rw [hexes_Encode.l0.eq_def, List.drop_eq_nil_of_le (by omega)]
    simp only [c1, ↓reduceIte, Bool.false_eq_true, encL, List.flatMap_nil, List.append_nil]
  | succ f ih =>
    intro i o hi ho
    obtain ⟨b, hb, hd⟩ := drop_get l i (by omega)
    have hbl := b.toNat_lt
    have e1 := lget_ob l i b hb
    have c1 : decide ((i : Int) < ((ob l).length : Int)) = true := by rw [ob_length]; simp; omega
    have c2 : (0 : Int) ≤ (i : Int) ∧ (i : Int) < ((ob l).length : Int) := by rw [ob_length]; omega
    have e2 : ishr .u8 (b.toNat : Int) 4 = ((b.toNat / 16 : Nat) : Int) := ishr_nat .u8 b.toNat 4 (by decide)
    have e3 : iand .u8 (b.toNat : Int) 15 = ((b.toNat % 16 : Nat) : Int) := by
      rw [show (15 : Int) = ((15 : Nat) : Int) from rfl, iand_nat .u8 rfl b.toNat 15 hbl (by decide), Nat.and_two_pow_sub_one_eq_mod b.toNat 4]
    have e4 : wr .i64 ((i : Int) + 1) = ((i + 1 : Nat) : Int) := by rw [wr_i64 (by omega) (by omega)]; omega
    have t1 := tab_bt (b.toNat / 16) (by omega)
    have t2 := tab_bt (b.toNat % 16) (by omega)
    have p1 := tab_push (b.toNat / 16) (by omega)
    have p2 := tab_push (b.toNat % 16) (by omega)
    have d1 := (dg (b.toNat / 16)).toNat_lt
    have d2 := (dg (b.toNat % 16)).toNat_lt
    rw [hexes_Encode.l0.eq_def]
    simp only [c1, c2, e1, e2, e3, e4, p1, p2, ↓reduceIte, and_self, tab_size, str_push, str_size]
    rw [if_pos, if_pos, if_pos, if_pos, if_pos, if_pos, ih (i + 1) _ (by omega) (by simp; omega), hd, encL_cons]
    all_goals first | omega | (rw [t1]; omega) | (rw [t2]; omega) | (simp; omega) | simp
theorem encode_eq (l : List UInt8) (hl : l.length < 1000000) : hexes_Encode (ob l) = some (str (encL l)) := by
  unfold hexes_Encode
  have := encode_l0 l hl l.length 0 [] (by omega) (by simp)
  rw [show ((0 : Nat) : Int) = 0 from rfl, List.drop_zero, List.nil_append, show str [] = ByteArray.empty from rfl] at this
  rw [this, bindM_some]
/-- The bytes of a text of an even number of signs. -/
def decL : List UInt8 → Option (List UInt8)
  | a :: b :: l => if val a.toNat false < 0 ∨ val b.toNat false < 0 then none else (decL l).map fun k => UInt8.ofNat (16 * (val a.toNat false).toNat + (val b.toNat false).toNat) :: k
  | _ => some []
theorem decL_nil : decL [] = some [] := rfl
theorem decL_cons (a b : UInt8) (l : List UInt8) : decL (a :: b :: l) = if val a.toNat false < 0 ∨ val b.toNat false < 0 then none else (decL l).map fun k => UInt8.ofNat (16 * (val a.toNat false).toNat + (val b.toNat false).toNat) :: k := rfl
theorem decode_l0 (s : ByteArray) (hs : s.size < 1000000) (f : Nat) : ∀ (i : Nat) (o : List UInt8), i + 2 * f = s.size → o.length ≤ i →
    hexes_Decode.l0 s (ob o) i = some (match decL (s.data.toList.drop i) with | some k => .nx (ob (o ++ k)) | none => .ret ([], 5)) := by
  induction f with
  | zero =>
    intro i o hi ho
    have c1 : decide ((i : Int) < (s.size : Int)) = false := by simp; omega
    rw [hexes_Decode.l0.eq_def, List.drop_eq_nil_of_le (by simp; omega)]
    simp only [c1, ↓reduceIte, Bool.false_eq_true, decL_nil, List.append_nil]
  | succ f ih =>
    intro i o hi ho
    obtain ⟨a, ha, hda⟩ := drop_get s.data.toList i (by simp; omega)
    obtain ⟨b, hb, hdb⟩ := drop_get s.data.toList (i + 1) (by simp; omega)
    have hal := a.toNat_lt
    have hbl := b.toNat_lt
    have ea : bt s i = a.toNat := by rw [bt_nat, ha]; rfl
    have e4 : wr .i64 ((i : Int) + 1) = ((i + 1 : Nat) : Int) := by rw [wr_i64 (by omega) (by omega)]; omega
    have e5 : wr .i64 ((i : Int) + 2) = ((i + 2 : Nat) : Int) := by rw [wr_i64 (by omega) (by omega)]; omega
    have eb : bt s ((i + 1 : Nat) : Int) = b.toNat := by rw [bt_nat, hb]; rfl
    have c1 : decide ((i : Int) < (s.size : Int)) = true := by simp; omega
    have c2 : (0 : Int) ≤ (i : Int) ∧ (i : Int) < (s.size : Int) := by omega
    have c3 : (0 : Int) ≤ ((i + 1 : Nat) : Int) ∧ ((i + 1 : Nat) : Int) < (s.size : Int) := by omega
    have va1 : -1 ≤ val a.toNat false := (val_lt ⟨a.toNat, hal⟩ false).1
    have va2 : val a.toNat false < 16 := (val_lt ⟨a.toNat, hal⟩ false).2
    have vb1 : -1 ≤ val b.toNat false := (val_lt ⟨b.toNat, hbl⟩ false).1
    have vb2 : val b.toNat false < 16 := (val_lt ⟨b.toNat, hbl⟩ false).2
    rw [hexes_Decode.l0.eq_def, hda, hdb, decL_cons]
    simp only [c1, c2, c3, ea, e4, e5, eb, value_eq, value_val _ hal, value_val _ hbl, ↓reduceIte, and_self, bindM_some, decide_true]
    by_cases h1 : val a.toNat false < 0
    · have g1 : (!decide (val a.toNat false ≥ 0)) = true := by simp; omega
      simp only [g1, ↓reduceIte, h1, true_or]
    · by_cases h2 : val b.toNat false < 0
      · have g1 : (!decide (val a.toNat false ≥ 0)) = false := by simp; omega
        have g2 : (!decide (val b.toNat false ≥ 0)) = true := by simp; omega
        simp only [g1, g2, ↓reduceIte, h2, or_true, Bool.false_eq_true]
      · have g1 : (!decide (val a.toNat false ≥ 0)) = false := by simp; omega
        have g2 : (!decide (val b.toNat false ≥ 0)) = false := by simp; omega
        obtain ⟨u, hu⟩ : ∃ u : Nat, val a.toNat false = u := ⟨(val a.toNat false).toNat, by omega⟩
        obtain ⟨v, hv⟩ : ∃ v : Nat, val b.toNat false = v := ⟨(val b.toNat false).toNat, by omega⟩
        rw [hu] at va2
        rw [hv] at vb2
        have m1 : wr .u16 (u : Int) = u := wr_u16 (by omega) (by omega)
        have m2 : wr .u16 (v : Int) = v := wr_u16 (by omega) (by omega)
        have m3 : ishl .u16 (u : Int) 4 = ((u * 16 : Nat) : Int) := by
          rw [show (4 : Int) = ((4 : Nat) : Int) from rfl, ishl_nat .u16 rfl u 4 (by decide), Nat.mod_eq_of_lt (by show u * 2 ^ 4 < 2 ^ 16; omega)]
        have m4 : ior .u16 ((u * 16 : Nat) : Int) (v : Int) = ((16 * u + v : Nat) : Int) := by
          rw [ior_nat .u16 rfl _ _ (by show u * 16 < 2 ^ 16; omega) (by show v < 2 ^ 16; omega)]
          rw [show u * 16 = u <<< 4 by rw [Nat.shiftLeft_eq], ← Nat.shiftLeft_add_eq_or_of_lt (by omega : v < 2 ^ 4), Nat.shiftLeft_eq]
          congr 1; omega
        have m5 : wr .u8 ((16 * u + v : Nat) : Int) = ((16 * u + v : Nat) : Int) := wr_u8 (by omega) (by omega)
        have hob : ob o ++ [((16 * u + v : Nat) : Int)] = ob (o ++ [UInt8.ofNat (16 * u + v)]) := by
          rw [ob_append]; congr 1
          simp only [ob, List.map_cons, List.map_nil, UInt8.toNat_ofNat']
          rw [Nat.mod_eq_of_lt (by omega)]
        have hg1 : ¬ ((u : Int) < 0 ∨ (v : Int) < 0) := by omega
        simp only [g1, g2, hu, hv, m1, m2, m3, m4, m5, ↓reduceIte, Bool.false_eq_true, ob_length, hob, hg1, Int.toNat_natCast]
        simp only [hu, hv] at g1 g2
        simp only [g1, g2, ↓reduceIte, Bool.false_eq_true]
        rw [if_pos (by omega), ih (i + 2) _ (by omega) (by simp; omega)]
        cases decL (s.data.toList.drop (i + 1 + 1)) with
        | none => rfl
        | some k => simp
theorem refDecode_l0 (s : ByteArray) (hs : s.size < 1000000) (f : Nat) : ∀ (i : Nat) (o : List UInt8), i + 2 * f = s.size → o.length ≤ i →
    crawlwayref05_Decode.l0 s (ob o) i = some (match decL (s.data.toList.drop i) with | some k => .nx (ob (o ++ k)) | none => .ret ([], 5)) := by
  induction f with
  | zero =>
    intro i o hi ho
    have c1 : decide ((i : Int) < (s.size : Int)) = false := by simp; omega
    rw [crawlwayref05_Decode.l0.eq_def, List.drop_eq_nil_of_le (by simp; omega)]
    simp only [c1, ↓reduceIte, Bool.false_eq_true, decL_nil, List.append_nil]
  | succ f ih =>
    intro i o hi ho
    obtain ⟨a, ha, hda⟩ := drop_get s.data.toList i (by simp; omega)
    obtain ⟨b, hb, hdb⟩ := drop_get s.data.toList (i + 1) (by simp; omega)
    have hal := a.toNat_lt
    have hbl := b.toNat_lt
    have ea : bt s i = a.toNat := by rw [bt_nat, ha]; rfl
    have e4 : wr .i64 ((i : Int) + 1) = ((i + 1 : Nat) : Int) := by rw [wr_i64 (by omega) (by omega)]; omega
    have e5 : wr .i64 ((i : Int) + 2) = ((i + 2 : Nat) : Int) := by rw [wr_i64 (by omega) (by omega)]; omega
    have eb : bt s ((i + 1 : Nat) : Int) = b.toNat := by rw [bt_nat, hb]; rfl
    have c1 : decide ((i : Int) < (s.size : Int)) = true := by simp; omega
    have c2 : (0 : Int) ≤ (i : Int) ∧ (i : Int) < (s.size : Int) := by omega
    have c3 : (0 : Int) ≤ ((i + 1 : Nat) : Int) ∧ ((i + 1 : Nat) : Int) < (s.size : Int) := by omega
    have va1 : -1 ≤ val a.toNat false := (val_lt ⟨a.toNat, hal⟩ false).1
    have va2 : val a.toNat false < 16 := (val_lt ⟨a.toNat, hal⟩ false).2
    have vb1 : -1 ≤ val b.toNat false := (val_lt ⟨b.toNat, hbl⟩ false).1
    have vb2 : val b.toNat false < 16 := (val_lt ⟨b.toNat, hbl⟩ false).2
    rw [crawlwayref05_Decode.l0.eq_def, hda, hdb, decL_cons]
    simp only [c1, c2, c3, ea, e4, e5, eb, refValue_eq _ _ hal, refValue_eq _ _ hbl, ↓reduceIte, and_self, bindM_some, decide_true]
    by_cases h1 : val a.toNat false < 0
    · simp only [h1, ↓reduceIte, true_or, decide_true]
    · by_cases h2 : val b.toNat false < 0
      · simp only [h1, h2, ↓reduceIte, or_true, decide_true, decide_false, Bool.false_eq_true]
      · obtain ⟨u, hu⟩ : ∃ u : Nat, val a.toNat false = u := ⟨(val a.toNat false).toNat, by omega⟩
        obtain ⟨v, hv⟩ : ∃ v : Nat, val b.toNat false = v := ⟨(val b.toNat false).toNat, by omega⟩
        rw [hu] at va2 h1
        rw [hv] at vb2 h2
        have m1 : wr .i64 (16 * (u : Int)) = 16 * (u : Int) := wr_i64 (by omega) (by omega)
        have m2 : wr .i64 (16 * (u : Int) + (v : Int)) = ((16 * u + v : Nat) : Int) := by rw [wr_i64 (by omega) (by omega)]; omega
        have m5 : wr .u8 ((16 * u + v : Nat) : Int) = ((16 * u + v : Nat) : Int) := wr_u8 (by omega) (by omega)
        have hob : ob o ++ [((16 * u + v : Nat) : Int)] = ob (o ++ [UInt8.ofNat (16 * u + v)]) := by
          rw [ob_append]; congr 1
          simp only [ob, List.map_cons, List.map_nil, UInt8.toNat_ofNat']
          rw [Nat.mod_eq_of_lt (by omega)]
        simp only [hu, hv, m1, m2, m5, h1, h2, ↓reduceIte, Bool.false_eq_true, ob_length, hob, Int.toNat_natCast, decide_false, or_self]
        rw [if_pos (by omega), ih (i + 2) _ (by omega) (by simp; omega)]
        cases decL (s.data.toList.drop (i + 1 + 1)) with
        | none => rfl
        | some k => simp
def dec (s : ByteArray) : Option (List UInt8) := if s.size % 2 ≠ 0 then none else decL s.data.toList
theorem odd_c (n : Nat) : (Int.tmod (n : Int) 2 != 0) = decide (n % 2 ≠ 0) := by
  rw [Int.tmod_eq_emod_of_nonneg (by omega)]
  by_cases h : n % 2 = 0
  · have : ((n : Int) % 2) = 0 := by omega
    simp [h, this]
  · have : ((n : Int) % 2) = 1 := by omega
    simp [this]; omega
theorem decode_eq (s : ByteArray) (hs : s.size < 1000000) : hexes_Decode s = some (match dec s with | some k => (ob k, 0) | none => ([], 5)) := by
  unfold hexes_Decode dec
  rw [odd_c]
  by_cases h : s.size % 2 = 0
  · have := decode_l0 s hs (s.size / 2) 0 [] (by omega) (by simp)
    rw [show ((0 : Nat) : Int) = 0 from rfl, List.drop_zero, show ob [] = ([] : List Int) from rfl] at this
    simp only [h, ne_eq, not_true_eq_false, decide_false, ↓reduceIte, Bool.false_eq_true, this, bindM_some, List.nil_append]
    cases decL s.data.toList <;> rfl
  · simp [h]
theorem refDecode_eq (s : ByteArray) (hs : s.size < 1000000) : crawlwayref05_Decode s = some (match dec s with | some k => (ob k, 0) | none => ([], 5)) := by
  unfold crawlwayref05_Decode dec
  rw [odd_c]
  by_cases h : s.size % 2 = 0
  · have := refDecode_l0 s hs (s.size / 2) 0 [] (by omega) (by simp)
    rw [show ((0 : Nat) : Int) = 0 from rfl, List.drop_zero, show ob [] = ([] : List Int) from rfl] at this
    simp only [h, ne_eq, not_true_eq_false, decide_false, ↓reduceIte, Bool.false_eq_true, this, bindM_some, List.nil_append]
    cases decL s.data.toList <;> rfl
  · simp [h]
theorem encL_decL : ∀ (l k : List UInt8), l.length % 2 = 0 → decL l = some k → encL k = l
  | [], k, _, h => by simp [decL] at h; subst h; rfl
  | [a], k, hl, _ => by simp at hl
  | a :: b :: l, k, hl, h => by
    rw [decL_cons] at h
    split at h
    · cases h
    · next hn =>
      cases hk : decL l with
      | none => rw [hk] at h; cases h
      | some m =>
        rw [hk] at h
        cases h
        have ih := encL_decL l m (by simp at hl; omega) hk
        have hal := a.toNat_lt
        have hbl := b.toNat_lt
        have va2 : val a.toNat false < 16 := (val_lt ⟨a.toNat, hal⟩ false).2
        have vb2 : val b.toNat false < 16 := (val_lt ⟨b.toNat, hbl⟩ false).2
        have h1 := dg_val ⟨a.toNat, hal⟩ (by simp only; omega)
        have h2 := dg_val ⟨b.toNat, hbl⟩ (by simp only; omega)
        simp only at h1 h2
        rw [encL_cons, ih, UInt8.toNat_ofNat', Nat.mod_eq_of_lt (by omega)]
        rw [show (16 * (val a.toNat false).toNat + (val b.toNat false).toNat) / 16 = (val a.toNat false).toNat by omega]
        rw [show (16 * (val a.toNat false).toNat + (val b.toNat false).toNat) % 16 = (val b.toNat false).toNat by omega]
        rw [UInt8.toNat_inj.1 h1, UInt8.toNat_inj.1 h2]
theorem enc_dec (s : ByteArray) (k : List UInt8) (h : dec s = some k) : str (encL k) = s := by
  unfold dec at h
  split at h
  · cases h
  · rw [encL_decL _ _ (by simp; omega) h, str_toList]
theorem dec_length (s : ByteArray) (k : List UInt8) (h : dec s = some k) : k.length ≤ s.size := by
  have := congrArg ByteArray.size (enc_dec s k h)
  rw [str_size, encL_length] at this
  omega
end Go.Proofs.YtkkmmpofdcccmaaGreatDoor.Hex
namespace Go.Proofs.YtkkmmpofdcccmaaGreatDoor.Key
open E Go.RowKit
open Hex (str str_size str_append str_push str_toList str_inj)
theorem vget_nat {m : Nat} (v : Vector Int m) (i : Nat) (h : i < m) : vget v (i : Int) = v[i] := by
  unfold vget; rw [Int.toNat_natCast]; simp [List.getD_eq_getElem?_getD, h]
theorem vget_set {m : Nat} (v : Vector Int m) (i j : Nat) (z : Int) (hi : i < m) (hj : j < m) : vget (vset v (i : Int) z) (j : Int) = if i = j then z else vget v (j : Int) := by
  rw [vget_nat _ j hj, vget_nat _ j hj]
  unfold vset
  simp only [Int.toNat_natCast]
  rw [Vector.getElem_setIfInBounds]
def IsB {m : Nat} (v : Vector Int m) : Prop := ∀ n ∈ v.toList, (Lit.int .u8 n).wf = true
theorem IsB.ob {m : Nat} {v : Vector Int m} (h : IsB v) : ∃ l : List UInt8, v.toList = ob l ∧ l.length = m := by
  obtain ⟨l, hl⟩ := exists_ob v.toList h
  refine ⟨l, hl, ?_⟩
  have := congrArg List.length hl
  rw [ob_length, Vector.length_toList] at this
  exact this.symm
theorem IsB.get {m : Nat} {v : Vector Int m} (h : IsB v) (i : Nat) (hi : i < m) : ∃ b : Fin 256, vget v (i : Int) = (b.1 : Int) := by
  have := wf_u8 (h (v[i]) (by simp))
  rw [vget_nat v i hi]
  exact ⟨⟨v[i].toNat, by omega⟩, by simp only; omega⟩
theorem unb_ob (l : List UInt8) : unb (ob l) = l := by
  unfold unb ob
  rw [List.map_map]
  conv => rhs; rw [← List.map_id l]
  apply List.map_congr_left
  intro b _
  simp [Function.comp]
end Go.Proofs.YtkkmmpofdcccmaaGreatDoor.Key
namespace Go.Proofs.YtkkmmpofdcccmaaGreatDoor.Key
open E Go.RowKit
open Hex (str str_size str_append str_push str_toList str_inj)
abbrev zk : Vector Int 32 := (Vector.replicate 32 (0 : Int) : Vector Int 32)
def ofR (xs : List Int) : Vector Int 32 × Int := if xs.length < 32 then (zk, 3) else if xs.length > 32 then (zk, 4) else (lvec 32 xs, 0)
theorem keysOf_eq (xs : List Int) : keys_Of xs = some (ofR xs) := by
  unfold keys_Of ofR
  by_cases h1 : xs.length < 32
  · rw [if_pos (decide_eq_true (by omega)), if_pos h1]
  · by_cases h2 : xs.length > 32
    · rw [if_neg (by simp; omega), if_pos (decide_eq_true (by omega)), if_neg h1, if_pos h2]
    · rw [if_neg (by simp; omega), if_neg (by simp; omega), if_pos (by omega), if_neg h1, if_neg h2]
theorem refOf_l0 (xs : List Int) (hx : xs.length = 32) (f : Nat) : ∀ (i : Nat) (v : Vector Int 32), i + f = 32 → (∀ j, j < i → vget v (j : Int) = lget xs j) → crawlwayref07_Of.l0 xs i v = some (lvec 32 xs) := by
  induction f with
  | zero =>
    intro i v hi hv
    obtain rfl : i = 32 := by omega
    rw [crawlwayref07_Of.l0.eq_def, if_neg (by decide)]
    refine congrArg some (Vector.ext fun j hj => ?_)
    have := hv j hj
    rw [vget_nat v j hj] at this
    rw [this]
    simp [lvec, lget]
  | succ f ih =>
    intro i v hi hv
    have e1 : wr .i64 ((i : Int) + 1) = ((i + 1 : Nat) : Int) := by rw [wr_i64 (by omega) (by omega)]; omega
    rw [crawlwayref07_Of.l0.eq_def, if_pos (decide_eq_true (by omega)), if_pos (by omega), if_pos (by omega), e1]
    refine ih (i + 1) _ (by omega) fun j hj => ?_
    rw [vget_set v i j _ (by omega) (by omega)]
    by_cases h : i = j
    · subst h; rw [if_pos rfl]
    · rw [if_neg h]; exact hv j (by omega)
theorem refOf_eq (xs : List Int) : crawlwayref07_Of xs = some (ofR xs) := by
  unfold crawlwayref07_Of ofR
  by_cases h1 : xs.length < 32
  · rw [if_pos (decide_eq_true (by omega)), if_pos h1]
  · by_cases h2 : xs.length > 32
    · rw [if_neg (by simp; omega), if_pos (decide_eq_true (by omega)), if_neg h1, if_pos h2]
    · have := refOf_l0 xs (by omega) 32 0 zk rfl (fun j hj => by omega)
      rw [show ((0 : Nat) : Int) = 0 from rfl] at this
      rw [if_neg (by simp; omega), if_neg (by simp; omega), this, bindM_some, if_neg h1, if_neg h2]
def par (D : List Int × Int) : Vector Int 32 × Int := if D.2 ≠ 0 then (zk, D.2) else ofR D.1
theorem parse_of (D : List Int × Int) (hO : ∀ xs, keys_Of xs = some (ofR xs)) : (if (D.2 != 0) = true then (some (zk, D.2)) else (keys_Of D.1 >>= fun t6 => some (t6.1, t6.2))) = some (par D) := by
  unfold par
  by_cases h : D.2 = 0
  · rw [if_neg (by simp [h]), if_neg (by simp [h]), keysOf_eq, bindM_some]
  · rw [if_pos (by simpa using h), if_pos h]
theorem parse_ref (D : List Int × Int) : (if (D.2 != 0) = true then (some (zk, D.2)) else (crawlwayref07_Of D.1 >>= fun t6 => some (t6.1, t6.2))) = some (par D) := by
  unfold par
  by_cases h : D.2 = 0
  · rw [if_neg (by simp [h]), if_neg (by simp [h]), refOf_eq, bindM_some]
  · rw [if_pos (by simpa using h), if_pos h]
theorem par_zero (D : List Int × Int) (h : (par D).2 = 0) : D.2 = 0 ∧ (par D).1.toList = D.1 := by
  unfold par at h ⊢
  by_cases h0 : D.2 = 0
  · rw [if_neg (by simp [h0])] at h ⊢
    refine ⟨h0, ?_⟩
    unfold ofR at h ⊢
    by_cases h1 : D.1.length < 32
    · rw [if_pos h1] at h; simp at h
    · by_cases h2 : D.1.length > 32
      · rw [if_neg h1, if_pos h2] at h; simp at h
      · rw [if_neg h1, if_neg h2]
        simp only
        rw [lvec_toList _ _ (by omega), List.take_of_length_le (by omega)]
  · rw [if_pos h0] at h; exact absurd h h0
end Go.Proofs.YtkkmmpofdcccmaaGreatDoor.Key
namespace Go.Proofs.YtkkmmpofdcccmaaGreatDoor.Fld
open E Go.RowKit
def NL : List ByteArray := Vector.toList gval_field_names
theorem names_ref : crawlwayref37_Names = some NL := rfl
theorem NL_len : NL.length = 17 := by unfold NL; simp
def fw (s : ByteArray) : List ByteArray → Int → Int
  | [], _ => -1
  | a :: r, i => if s = a then i else fw s r (i + 1)
def fr (s : ByteArray) : List ByteArray → Int → Int
  | [], _ => 0
  | a :: r, i => if s = a then i else fr s r (i + 1)
theorem fw_cons (s a : ByteArray) (r : List ByteArray) (i : Int) : fw s (a :: r) i = if s = a then i else fw s r (i + 1) := rfl
theorem fr_cons (s a : ByteArray) (r : List ByteArray) (i : Int) : fr s (a :: r) i = if s = a then i else fr s r (i + 1) := rfl
theorem fw_fr (s : ByteArray) : ∀ (l : List ByteArray) (i : Int), 0 ≤ i → (if fw s l i < 0 then 0 else fw s l i) = fr s l i
  | [], i, _ => rfl
  | a :: r, i, h => by
    unfold fw fr
    by_cases hs : s = a
    · rw [if_pos hs, if_pos hs, if_neg (by omega)]
    · rw [if_neg hs, if_neg hs]; exact fw_fr s r (i + 1) (by omega)
theorem lget_at (l : List ByteArray) (i : Nat) (h : i < l.length) : lget l (i : Int) = l[i] := by
  unfold lget
  rw [Int.toNat_natCast, List.getD_eq_getElem?_getD, List.getElem?_eq_getElem h]; rfl
theorem drop_at (l : List ByteArray) (i : Nat) (h : i < l.length) : l.drop i = lget l (i : Int) :: l.drop (i + 1) := by
  rw [lget_at l i h]; exact List.drop_eq_getElem_cons h
theorem seq_dec (a b : ByteArray) : seq a b = decide (a = b) := by rw [Bool.eq_iff_iff, seq_iff, decide_eq_true_eq]
theorem index_l0 (l : List ByteArray) (hl : l.length < 1000) (s : ByteArray) : ∀ (k i : Nat), i + k = l.length → slices_Index_string.l0 l s (i : Int) = some (if fw s (l.drop i) i < 0 then .nx () else .ret (fw s (l.drop i) i))
  | 0, i, h => by
    rw [slices_Index_string.l0.eq_def, decide_eq_false (by omega), if_neg Bool.false_ne_true, List.drop_eq_nil_of_le (by omega)]; rfl
  | k + 1, i, h => by
    have ih := index_l0 l hl s k (i + 1) (by omega)
    rw [slices_Index_string.l0.eq_def, decide_eq_true (by omega : (i : Int) < (l.length : Int)), if_pos rfl, if_pos (by omega), drop_at l i (by omega), seq_dec, wr_i64 (by omega) (by omega), show ((i : Int) + 1) = ((i + 1 : Nat) : Int) by omega, ih, fw_cons]
    by_cases hs : s = lget l (i : Int)
    · rw [if_pos (decide_eq_true hs), if_pos hs, if_neg (by omega)]
    · rw [if_neg (by rw [decide_eq_true_eq]; exact hs), if_neg hs]
      rw [show ((i + 1 : Nat) : Int) = (i : Int) + 1 by omega]
theorem word_code (s : ByteArray) : field_Word s = some (fr s NL 0) := by
  have h := index_l0 NL (by rw [NL_len]; omega) s NL.length 0 (by omega)
  rw [List.drop_zero, show ((0 : Nat) : Int) = 0 from rfl] at h
  unfold field_Word slices_Index_string
  show ((slices_Index_string.l0 NL s 0 >>= fun q1 => match q1 with | .ret r' => some r' | .nx sq1 => (some (-1))) >>= fun t1 => some (if t1 < 0 then 0 else t1)) = _
  rw [h, bindM_some, ← fw_fr s NL 0 (by omega)]
  by_cases h0 : fw s NL 0 < 0
  · rw [if_pos h0, if_pos h0]; rfl
  · rw [if_neg h0, if_neg h0]
    show some (if fw s NL 0 < 0 then 0 else fw s NL 0) = _
    rw [if_neg h0]
theorem ref_l0 (s : ByteArray) : ∀ (k i : Nat), i + k = 17 → crawlwayref37_Word.l0 s NL (i : Int) = some (if (NL.drop i).any (fun a => decide (s = a)) = true then .ret (fr s (NL.drop i) i) else .nx ())
  | 0, i, h => by
    rw [crawlwayref37_Word.l0.eq_def, decide_eq_false (by omega), if_neg Bool.false_ne_true, List.drop_eq_nil_of_le (by rw [NL_len]; omega)]; rfl
  | k + 1, i, h => by
    have ih := ref_l0 s k (i + 1) (by omega)
    have hl := NL_len
    rw [crawlwayref37_Word.l0.eq_def, decide_eq_true (by omega : (i : Int) ≤ 16), if_pos rfl, if_pos (by omega), drop_at NL i (by omega), seq_dec, wr_i64 (by omega) (by omega), show ((i : Int) + 1) = ((i + 1 : Nat) : Int) by omega, ih, List.any_cons, fr_cons]
    by_cases hs : s = lget NL (i : Int)
    · rw [if_pos (decide_eq_true hs.symm), decide_eq_true hs, Bool.true_or, if_pos rfl, if_pos hs]
    · rw [if_neg (by rw [decide_eq_true_eq]; exact fun e => hs e.symm), decide_eq_false hs, Bool.false_or, if_neg hs, show ((i + 1 : Nat) : Int) = (i : Int) + 1 by omega]
theorem fr_none (s : ByteArray) : ∀ (l : List ByteArray) (i : Int), l.any (fun a => decide (s = a)) = false → fr s l i = 0
  | [], i, _ => rfl
  | a :: r, i, h => by
    rw [List.any_cons, Bool.or_eq_false_iff] at h
    unfold fr
    rw [if_neg (of_decide_eq_false h.1)]
    exact fr_none s r (i + 1) h.2
theorem NL_cons : NL = (⟨#[]⟩ : ByteArray) :: NL.drop 1 := rfl
theorem fr_tail (s : ByteArray) : fr s NL 0 = fr s (NL.drop 1) 1 := by
  rw [NL_cons]
  show (if s = (⟨#[]⟩ : ByteArray) then (0 : Int) else fr s (NL.drop 1) (0 + 1)) = fr s (NL.drop 1) 1
  by_cases hs : s = (⟨#[]⟩ : ByteArray)
  · rw [if_pos hs]
    subst hs
    exact (fr_none _ _ _ (by decide +kernel)).symm
  · rw [if_neg hs]; rfl
theorem word_ref (s : ByteArray) : crawlwayref37_Word s = some (fr s NL 0) := by
  unfold crawlwayref37_Word
  have h := ref_l0 s 16 1 rfl
  rw [show ((1 : Nat) : Int) = 1 from rfl] at h
  rw [names_ref, bindM_some, h, bindM_some, fr_tail]
  cases hq : (NL.drop 1).any (fun a => decide (s = a))
  · rw [if_neg Bool.false_ne_true, fr_none _ _ _ hq]
  · rw [if_pos rfl]
theorem name_in (n : Nat) (h1 : 1 ≤ n) (h2 : n ≤ 16) : field_Name (n : Int) = some (lget NL (n : Int)) := by
  unfold field_Name
  rw [if_neg (by rw [decide_eq_true_eq]; omega), if_neg (by rw [decide_eq_true_eq]; omega), if_pos (by omega)]; rfl
theorem back_fin : ∀ n : Fin 17, 1 ≤ n.1 → fr (lget NL (n.1 : Int)) NL 0 = (n.1 : Int) := by decide +kernel
end Go.Proofs.YtkkmmpofdcccmaaGreatDoor.Fld
namespace Go.Proofs.YtkkmmpofdcccmaaGreatDoor.Adr
open E Go.RowKit
def vb (l : List UInt8) : Vector Int 16 := lvec 16 (ob l)
theorem vb_toList {l : List UInt8} (h : l.length = 16) : (vb l).toList = ob l := by
  unfold vb
  rw [lvec_toList 16 (ob l) (by rw [ob_length]; omega), List.take_of_length_le (by rw [ob_length]; omega)]
theorem vb_of {v : Vector Int 16} {l : List UInt8} (h : v.toList = ob l) : v = vb l := by
  have hl : l.length = 16 := by have := congrArg List.length h; rw [ob_length] at this; simpa using this.symm
  apply Vector.toList_inj.1
  rw [vb_toList hl, h]
theorem vb_inj {l k : List UInt8} (hl : l.length = 16) (hk : k.length = 16) : vb l = vb k ↔ l = k := by
  constructor
  · intro h
    have := congrArg Vector.toList h
    rw [vb_toList hl, vb_toList hk] at this
    exact ob_inj this
  · intro h; rw [h]
def mkA (V : Int) (l : List UInt8) : S_api_Addr := { f_V := V, f_B := vb l }
theorem mkA_inj {V W : Int} {l k : List UInt8} (hl : l.length = 16) (hk : k.length = 16) : mkA V l = mkA W k ↔ V = W ∧ l = k := by
  unfold mkA
  rw [S_api_Addr.mk.injEq, vb_inj hl hk]
def bg (l : List UInt8) (i : Nat) : Nat := (l.getD i 0).toNat
theorem bg_lt (l : List UInt8) (i : Nat) : bg l i < 256 := (l.getD i 0).toNat_lt
theorem bg_get {l : List UInt8} {i : Nat} {c : UInt8} (h : l[i]? = some c) : bg l i = c.toNat := by
  unfold bg; rw [List.getD_eq_getElem?_getD, h]; rfl
theorem vget_vb {l : List UInt8} (hl : l.length = 16) (i : Nat) (hi : i < 16) : vget (vb l) (i : Int) = (bg l i : Int) := by
  unfold vget
  rw [vb_toList hl, Int.toNat_natCast]
  have hc : l[i]? = some l[i] := List.getElem?_eq_getElem (by omega)
  rw [bg_get hc, List.getD_eq_getElem?_getD]
  unfold ob
  rw [List.getElem?_map, hc]; rfl
theorem vset_vb {l : List UInt8} (hl : l.length = 16) (i : Nat) (c : UInt8) : vset (vb l) (i : Int) (c.toNat : Int) = vb (l.set i c) := by
  apply Vector.toList_inj.1
  rw [vset_toList, vb_toList hl, vb_toList (by simpa using hl), Int.toNat_natCast]
  unfold ob
  rw [List.map_set]
theorem zero_vb : (Vector.replicate 16 (0 : Int) : Vector Int 16) = vb (List.replicate 16 0) := by
  apply vb_of
  rfl
theorem zero_mkA : ({ f_V := (0 : Int), f_B := (Vector.replicate 16 (0 : Int) : (Vector Int 16)) } : S_api_Addr) = mkA 0 (List.replicate 16 0) := by
  unfold mkA; rw [zero_vb]
theorem ob_take (l : List UInt8) (n : Nat) : (ob l).take n = ob (l.take n) := by unfold ob; rw [List.map_take]
theorem lsub_ob (l : List UInt8) (n : Nat) : lsub (ob l) 0 (n : Int) = ob (l.take n) := by
  unfold lsub
  rw [Int.toNat_natCast, show (0 : Int).toNat = 0 from rfl, List.drop_zero, ob_take]
def fourL (m : List UInt8) : List UInt8 := m ++ List.replicate 12 0
theorem fourL_len {m : List UInt8} (h : m.length = 4) : (fourL m).length = 16 := by simp [fourL, h]
theorem four_eq (v : Vector Int 4) (m : List UInt8) (h : v.toList = ob m) : addr_Four v = some (mkA 4 (fourL m)) := by
  have hm : m.length = 4 := by have := congrArg List.length h; rw [ob_length] at this; simpa using this.symm
  unfold addr_Four mkA
  refine congrArg some ?_
  show S_api_Addr.mk 4 _ = S_api_Addr.mk 4 _
  congr 1
  apply vb_of
  show (vcopy (Vector.replicate 16 (0 : Int)) (Int.toNat 0) (List.take (Int.toNat (16 - 0)) v.toList)).toList = _
  rw [h, show Int.toNat (16 - 0) = 16 from rfl, List.take_of_length_le (by rw [ob_length]; omega), show Int.toNat 0 = 0 from rfl, vcopy_toList _ _ _ (by rw [ob_length]; omega)]
  rw [List.take_zero, List.nil_append, Nat.zero_add, ob_length, hm]
  unfold fourL
  rw [ob_append]; rfl
theorem take4 {l : List UInt8} (hl : l.length = 16) : (lvec 4 (lsub (vb l).toList 0 4)).toList = ob (l.take 4) := by
  have e : lsub (vb l).toList 0 4 = ob (l.take 4) := by rw [vb_toList hl]; exact lsub_ob l 4
  rw [e, lvec_toList 4 _ (by rw [ob_length]; simp; omega), List.take_of_length_le (by rw [ob_length]; simp; omega)]
theorem take4_len {l : List UInt8} (hl : l.length = 16) : 4 ≤ (lsub (vb l).toList 0 4).length := by
  have e : lsub (vb l).toList 0 4 = ob (l.take 4) := by rw [vb_toList hl]; exact lsub_ob l 4
  rw [e, ob_length]; simp; omega
def low (l : List UInt8) : Bool := (l.drop 4).all (· == 0)
def rightL (V : Int) (l : List UInt8) : Bool := V == 6 || (V == 4 && low l)
theorem all_zero : ∀ (k : List UInt8), k.all (· == 0) = true ↔ k = List.replicate k.length 0
  | [] => by simp
  | c :: r => by
    rw [List.all_cons, Bool.and_eq_true, all_zero r, List.length_cons, List.replicate_succ, List.cons.injEq, beq_iff_eq]
theorem low_iff {l : List UInt8} (hl : l.length = 16) : low l = true ↔ l = fourL (l.take 4) := by
  unfold low fourL
  rw [all_zero]
  have h12 : (l.drop 4).length = 12 := by simp; omega
  rw [h12]
  constructor
  · intro h
    rw [← h]; exact (List.take_append_drop 4 l).symm
  · intro h
    have h1 : l.drop 4 = (l.take 4 ++ List.replicate 12 0).drop 4 := congrArg (List.drop 4) h
    rw [h1]
    exact List.drop_left' (by simp; omega)
theorem right_code {V : Int} {l : List UInt8} (hl : l.length = 16) : addr_Right (mkA V l) = some (rightL V l) := by
  unfold addr_Right rightL
  show (if (V == 6) = true then some true else (if (V == 4) = true then (if 4 ≤ (lsub (vb l).toList 0 4).length then addr_Four (lvec 4 (lsub (vb l).toList 0 4)) >>= fun t8 => some (decide (mkA V l = t8)) else none) else some false)) = _
  cases h6 : (V == 6)
  · cases h4 : (V == 4)
    · rfl
    · have hV : V = 4 := by simpa using h4
      rw [if_neg Bool.false_ne_true, if_pos rfl, if_pos (take4_len hl), four_eq _ _ (take4 hl), bindM_some]
      congr 1
      rw [Bool.false_or, Bool.true_and, Bool.eq_iff_iff, decide_eq_true_eq, mkA_inj hl (fourL_len (by simp; omega)), low_iff hl]
      exact ⟨fun h => h.2, fun h => ⟨hV, h⟩⟩
  · rfl
theorem right_loop {V : Int} {l : List UInt8} (hl : l.length = 16) : ∀ (k i : Nat), i + k = 16 → crawlwayref10_Right.l0 (mkA V l) (i : Int) = some (if (l.drop i).all (· == 0) = true then .nx () else .ret false) := by
  intro k
  induction k with
  | zero =>
    intro i hi
    have hz : decide ((i : Int) < 16) = false := decide_eq_false (by omega)
    rw [crawlwayref10_Right.l0.eq_def, hz, List.drop_eq_nil_of_le (by omega)]; rfl
  | succ k ih =>
    intro i hi
    have hz : decide ((i : Int) < 16) = true := decide_eq_true (by omega)
    obtain ⟨c, hc, hd⟩ := drop_get l i (by omega)
    have hg : (0 : Int) ≤ (i : Int) ∧ (i : Int) < 16 := by omega
    rw [crawlwayref10_Right.l0.eq_def, hz, if_pos rfl, if_pos hg, hd, List.all_cons]
    show (if (vget (vb l) (i : Int) != 0) = true then _ else _) = _
    rw [vget_vb hl i (by omega), bg_get hc]
    by_cases h0 : c = 0
    · subst h0
      have e1 : (((0 : UInt8).toNat : Int) != 0) = false := rfl
      rw [e1, if_neg Bool.false_ne_true, wr_i64 (by omega) (by omega), show ((i : Int) + 1) = ((i + 1 : Nat) : Int) by omega, ih (i + 1) (by omega)]
      rw [show ((0 : UInt8) == 0) = true from rfl, Bool.true_and]
    · have hne : c.toNat ≠ 0 := fun e => h0 (UInt8.toNat.inj e)
      have e1 : ((c.toNat : Int) != 0) = true := by rw [bne_iff_ne]; omega
      have e2 : (c == 0) = false := by rw [beq_eq_false_iff_ne]; exact h0
      rw [e1, if_pos rfl, e2, Bool.false_and]; rfl
theorem right_ref {V : Int} {l : List UInt8} (hl : l.length = 16) : crawlwayref10_Right (mkA V l) = some (rightL V l) := by
  unfold crawlwayref10_Right rightL
  have h := right_loop (V := V) hl 12 4 rfl
  rw [show ((4 : Nat) : Int) = 4 from rfl] at h
  rw [h]
  show (if (V == 6) = true then some true else _) = _
  cases h6 : (V == 6)
  · rw [if_neg Bool.false_ne_true, bindM_some]
    unfold low
    by_cases hz : (l.drop 4).all (· == 0) = true
    · rw [if_pos hz, hz]
      show some (V == 4) = _
      rw [Bool.false_or, Bool.and_true]
    · rw [if_neg hz]
      have : (l.drop 4).all (· == 0) = false := by simpa using hz
      rw [this, Bool.and_false]; rfl
  · rfl
def widthL (V : Int) (l : List UInt8) : Nat := if rightL V l = true then (if V = 4 then 32 else 128) else 0
theorem width_code {V : Int} {l : List UInt8} (hl : l.length = 16) : addr_Width (mkA V l) = some ((widthL V l : Nat) : Int) := by
  unfold addr_Width widthL
  rw [right_code hl, bindM_some]
  cases rightL V l
  · rfl
  · show (if (V == 4) = true then some (32 : Int) else some 128) = _
    by_cases h : V = 4
    · rw [if_pos (by simpa using h), if_pos rfl, if_pos h]; rfl
    · rw [if_neg (by simpa using h), if_pos rfl, if_neg h]; rfl
theorem right_cases {V : Int} {l : List UInt8} (h : rightL V l = true) : V = 6 ∨ (V = 4 ∧ low l = true) := by
  unfold rightL at h
  rw [Bool.or_eq_true, Bool.and_eq_true, beq_iff_eq, beq_iff_eq] at h
  exact h
theorem width_le {V : Int} {l : List UInt8} : widthL V l ≤ 128 := by
  unfold widthL; split <;> (try split) <;> omega
end Go.Proofs.YtkkmmpofdcccmaaGreatDoor.Adr
