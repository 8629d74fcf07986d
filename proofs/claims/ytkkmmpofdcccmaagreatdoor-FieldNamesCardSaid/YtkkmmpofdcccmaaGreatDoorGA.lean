/- Functions with the same answers as the Go functions that they are named for, and the proofs of it, by a program of this project (gen.py). -/
import Derived.Test.YtkkmmpofdcccmaaGreatDoorT
import Derived.Test.YtkkmmpofdcccmaaGreatDoorShelf
import Derived.Test.YtkkmmpofdcccmaaGreatDoorW
import Derived.Test.YtkkmmpofdcccmaaGreatDoorL
import Derived.Test.YtkkmmpofdcccmaaGreatDoorS
import Derived.Test.YtkkmmpofdcccmaaGreatDoorJ
import Derived.Test.YtkkmmpofdcccmaaGreatDoorI
import Derived.Test.YtkkmmpofdcccmaaGreatDoorR
import Derived.Test.YtkkmmpofdcccmaaGreatDoorCut
import Derived.Test.YtkkmmpofdcccmaaGreatDoorMap
import Derived.Test.YtkkmmpofdcccmaaGreatDoorLit
import Derived.Test.YtkkmmpofdcccmaaGreatDoorInl
import Derived.Test.YtkkmmpofdcccmaaGreatDoorProg
import Derived.Test.YtkkmmpofdcccmaaGreatDoorG1
import Derived.Test.YtkkmmpofdcccmaaGreatDoorGN
set_option linter.unusedVariables false
set_option linter.unusedSimpArgs false
namespace Go.Proofs.YtkkmmpofdcccmaaGreatDoor
open E Go.RowKit


def field_Read (x0 : S_pairline_Pair) : Option (S_api_Field × Int) :=
  field_Word x0.f_Key >>= fun t3 => if (({ ({ f_Word := (0 : Int), f_Key := (Vector.replicate 32 (0 : Int) : (Vector Int 32)), f_N := (0 : Int), f_End := ({ f_A := ({ f_V := (0 : Int), f_B := (Vector.replicate 16 (0 : Int) : (Vector Int 16)) } : S_api_Addr), f_Port := (0 : Int) } : S_api_Endpoint), f_P := ({ f_A := ({ f_V := (0 : Int), f_B := (Vector.replicate 16 (0 : Int) : (Vector Int 16)) } : S_api_Addr), f_Bits := (0 : Int) } : S_api_Prefix) } : S_api_Field) with f_Word := t3 }).f_Word == (0 : Int)) = true then (some (({ f_Word := (0 : Int), f_Key := (Vector.replicate 32 (0 : Int) : (Vector Int 32)), f_N := (0 : Int), f_End := ({ f_A := ({ f_V := (0 : Int), f_B := (Vector.replicate 16 (0 : Int) : (Vector Int 16)) } : S_api_Addr), f_Port := (0 : Int) } : S_api_Endpoint), f_P := ({ f_A := ({ f_V := (0 : Int), f_B := (Vector.replicate 16 (0 : Int) : (Vector Int 16)) } : S_api_Addr), f_Bits := (0 : Int) } : S_api_Prefix) } : S_api_Field), 12)) else (field_shapeOf (({ ({ f_Word := (0 : Int), f_Key := (Vector.replicate 32 (0 : Int) : (Vector Int 32)), f_N := (0 : Int), f_End := ({ f_A := ({ f_V := (0 : Int), f_B := (Vector.replicate 16 (0 : Int) : (Vector Int 16)) } : S_api_Addr), f_Port := (0 : Int) } : S_api_Endpoint), f_P := ({ f_A := ({ f_V := (0 : Int), f_B := (Vector.replicate 16 (0 : Int) : (Vector Int 16)) } : S_api_Addr), f_Bits := (0 : Int) } : S_api_Prefix) } : S_api_Field) with f_Word := t3 }).f_Word) >>= fun t6 => (match t6 with | .s0 => none | .s1 => none | .s2 => none | .s3 a7 a8 => (field_counted_1 x0.f_Value ({ ({ f_Word := (0 : Int), f_Key := (Vector.replicate 32 (0 : Int) : (Vector Int 32)), f_N := (0 : Int), f_End := ({ f_A := ({ f_V := (0 : Int), f_B := (Vector.replicate 16 (0 : Int) : (Vector Int 16)) } : S_api_Addr), f_Port := (0 : Int) } : S_api_Endpoint), f_P := ({ f_A := ({ f_V := (0 : Int), f_B := (Vector.replicate 16 (0 : Int) : (Vector Int 16)) } : S_api_Addr), f_Bits := (0 : Int) } : S_api_Prefix) } : S_api_Field) with f_Word := t3 }) a7 a8 >>= fun t11 => if (t11.1 != 0) = true then (some (({ f_Word := (0 : Int), f_Key := (Vector.replicate 32 (0 : Int) : (Vector Int 32)), f_N := (0 : Int), f_End := ({ f_A := ({ f_V := (0 : Int), f_B := (Vector.replicate 16 (0 : Int) : (Vector Int 16)) } : S_api_Addr), f_Port := (0 : Int) } : S_api_Endpoint), f_P := ({ f_A := ({ f_V := (0 : Int), f_B := (Vector.replicate 16 (0 : Int) : (Vector Int 16)) } : S_api_Addr), f_Bits := (0 : Int) } : S_api_Prefix) } : S_api_Field), t11.1)) else (some (t11.2, 0))) | .s4 => none))
set_option maxHeartbeats 3200000 in
theorem field_Read_ok (x0 : S_pairline_Pair) (r : S_api_Field × Int) (hF : field_Read x0 = some r) (w : World) (hg_field_names : GV_field_names w) (hg_strconv_ErrRange : GV_strconv_ErrRange w) (hg_strconv_ErrSyntax : GV_strconv_ErrSyntax w) :
    Calls Tryz.prog 19 #[.agg (Cd.cs c_pairline_Pair x0).toArray] w (fun e w' => e = .returned (.tuple #[.agg (Cd.cs c_api_Field r.1).toArray, .int .i64 r.2]) ∧ Below w.heap.size w w') := by
  unfold field_Read at hF
  refine calls_enter (l := [.agg (Cd.cs c_pairline_Pair x0).toArray]) Tryz.func19 rfl rfl rfl ?_
  refine at_start ?_
  refine at_weak [(0, _)] ⟨rfl, trivial⟩ ?_
  refine at_seq ?_
  refine at_region ?_
  refine at_box (cs := Cd.cs c_pairline_Pair x0) rfl rfl rfl ?_
  intro b1
  refine at_alloc (cs := Cd.cs c_api_Field ({ f_Word := (0 : Int), f_Key := (Vector.replicate 32 (0 : Int) : (Vector Int 32)), f_N := (0 : Int), f_End := ({ f_A := ({ f_V := (0 : Int), f_B := (Vector.replicate 16 (0 : Int) : (Vector Int 16)) } : S_api_Addr), f_Port := (0 : Int) } : S_api_Endpoint), f_P := ({ f_A := ({ f_V := (0 : Int), f_B := (Vector.replicate 16 (0 : Int) : (Vector Int 16)) } : S_api_Addr), f_Bits := (0 : Int) } : S_api_Prefix) } : S_api_Field)) Tryz.zeroValue46 rfl rfl ?_
  intro b2
  refine at_val rfl rfl rfl (r_assign rfl) ?_
  refine at_nil ?_
  refine at_weak [(1, _), (2, _)] ⟨rfl, rfl, trivial⟩ ?_
  refine at_then_normal ?_
  refine at_seq ?_
  refine at_region ?_
  refine at_val rfl rfl rfl (r_fieldAddr (fo := 0) Tryz.underlying51 rfl rfl (fun w => ⟨_, Tryz.sizeOf9 w⟩) rfl) ?_
  refine at_val rfl rfl rfl (r_load_cell Tryz.isAgg9 rfl (lens_cell0 (c := cStr) (y := x0.f_Key) (.s .z) (Lens.comp (Lens.whole _ _) (fun z => { x0 with f_Key := z }) (c_pairline_Pair_f_Key x0)) rfl)) ?_
  obtain ⟨t3, ht3, hF⟩ := of_bindM hF
  refine at_callB Tryz.func16 rfl (by kernel_rfl) rfl rfl (fun w hw => callB_of_call0 (field_Word_ok _ _ ht3 w (hg_field_names.on hw.below))) ?_
  refine at_val rfl rfl rfl (r_build_struct (zs := Cd.cs c_api_Field ({ f_Word := (0 : Int), f_Key := (Vector.replicate 32 (0 : Int) : (Vector Int 32)), f_N := (0 : Int), f_End := ({ f_A := ({ f_V := (0 : Int), f_B := (Vector.replicate 16 (0 : Int) : (Vector Int 16)) } : S_api_Addr), f_Port := (0 : Int) } : S_api_Endpoint), f_P := ({ f_A := ({ f_V := (0 : Int), f_B := (Vector.replicate 16 (0 : Int) : (Vector Int 16)) } : S_api_Addr), f_Bits := (0 : Int) } : S_api_Prefix) } : S_api_Field)) (cs := Cd.cs c_api_Field ({ ({ f_Word := (0 : Int), f_Key := (Vector.replicate 32 (0 : Int) : (Vector Int 32)), f_N := (0 : Int), f_End := ({ f_A := ({ f_V := (0 : Int), f_B := (Vector.replicate 16 (0 : Int) : (Vector Int 16)) } : S_api_Addr), f_Port := (0 : Int) } : S_api_Endpoint), f_P := ({ f_A := ({ f_V := (0 : Int), f_B := (Vector.replicate 16 (0 : Int) : (Vector Int 16)) } : S_api_Addr), f_Bits := (0 : Int) } : S_api_Prefix) } : S_api_Field) with f_Word := t3 })) Tryz.underlying46 Tryz.zeroValue46 rfl (places_api_Field_46) rfl (fill_step (c := (cInt .i64)) (z := t3) rfl (c_api_Field_f_Word ({ f_Word := (0 : Int), f_Key := (Vector.replicate 32 (0 : Int) : (Vector Int 32)), f_N := (0 : Int), f_End := ({ f_A := ({ f_V := (0 : Int), f_B := (Vector.replicate 16 (0 : Int) : (Vector Int 16)) } : S_api_Addr), f_Port := (0 : Int) } : S_api_Endpoint), f_P := ({ f_A := ({ f_V := (0 : Int), f_B := (Vector.replicate 16 (0 : Int) : (Vector Int 16)) } : S_api_Addr), f_Bits := (0 : Int) } : S_api_Prefix) } : S_api_Field)) rfl rfl)) ?_
  refine at_alloc (cs := Cd.cs c_api_Field ({ f_Word := (0 : Int), f_Key := (Vector.replicate 32 (0 : Int) : (Vector Int 32)), f_N := (0 : Int), f_End := ({ f_A := ({ f_V := (0 : Int), f_B := (Vector.replicate 16 (0 : Int) : (Vector Int 16)) } : S_api_Addr), f_Port := (0 : Int) } : S_api_Endpoint), f_P := ({ f_A := ({ f_V := (0 : Int), f_B := (Vector.replicate 16 (0 : Int) : (Vector Int 16)) } : S_api_Addr), f_Bits := (0 : Int) } : S_api_Prefix) } : S_api_Field)) Tryz.zeroValue46 rfl rfl ?_
  intro b4
  refine at_store (c := c_api_Field) (z := { ({ f_Word := (0 : Int), f_Key := (Vector.replicate 32 (0 : Int) : (Vector Int 32)), f_N := (0 : Int), f_End := ({ f_A := ({ f_V := (0 : Int), f_B := (Vector.replicate 16 (0 : Int) : (Vector Int 16)) } : S_api_Addr), f_Port := (0 : Int) } : S_api_Endpoint), f_P := ({ f_A := ({ f_V := (0 : Int), f_B := (Vector.replicate 16 (0 : Int) : (Vector Int 16)) } : S_api_Addr), f_Bits := (0 : Int) } : S_api_Prefix) } : S_api_Field) with f_Word := t3 }) .z (Lens.whole _ _) Tryz.sizeOf46 rfl rfl rfl ?_
  refine at_nil ?_
  refine at_weak [(1, _), (2, _), (4, _)] ⟨rfl, rfl, rfl, trivial⟩ ?_
  refine at_then_normal ?_
  refine at_seq ?_
  refine at_seq ?_
  refine at_region ?_
  refine at_val rfl rfl rfl (r_fieldAddr (fo := 0) Tryz.underlying46 rfl rfl (fun w => ⟨_, Tryz.sizeOf3 w⟩) rfl) ?_
  refine at_val rfl rfl rfl (r_load_cell Tryz.isAgg3 rfl (lens_cell0 (c := (cInt .i64)) (y := ({ ({ f_Word := (0 : Int), f_Key := (Vector.replicate 32 (0 : Int) : (Vector Int 32)), f_N := (0 : Int), f_End := ({ f_A := ({ f_V := (0 : Int), f_B := (Vector.replicate 16 (0 : Int) : (Vector Int 16)) } : S_api_Addr), f_Port := (0 : Int) } : S_api_Endpoint), f_P := ({ f_A := ({ f_V := (0 : Int), f_B := (Vector.replicate 16 (0 : Int) : (Vector Int 16)) } : S_api_Addr), f_Bits := (0 : Int) } : S_api_Prefix) } : S_api_Field) with f_Word := t3 }).f_Word) .z (Lens.comp (Lens.whole _ _) (fun z => { { ({ f_Word := (0 : Int), f_Key := (Vector.replicate 32 (0 : Int) : (Vector Int 32)), f_N := (0 : Int), f_End := ({ f_A := ({ f_V := (0 : Int), f_B := (Vector.replicate 16 (0 : Int) : (Vector Int 16)) } : S_api_Addr), f_Port := (0 : Int) } : S_api_Endpoint), f_P := ({ f_A := ({ f_V := (0 : Int), f_B := (Vector.replicate 16 (0 : Int) : (Vector Int 16)) } : S_api_Addr), f_Bits := (0 : Int) } : S_api_Prefix) } : S_api_Field) with f_Word := t3 } with f_Word := z }) (c_api_Field_f_Word ({ ({ f_Word := (0 : Int), f_Key := (Vector.replicate 32 (0 : Int) : (Vector Int 32)), f_N := (0 : Int), f_End := ({ f_A := ({ f_V := (0 : Int), f_B := (Vector.replicate 16 (0 : Int) : (Vector Int 16)) } : S_api_Addr), f_Port := (0 : Int) } : S_api_Endpoint), f_P := ({ f_A := ({ f_V := (0 : Int), f_B := (Vector.replicate 16 (0 : Int) : (Vector Int 16)) } : S_api_Addr), f_Bits := (0 : Int) } : S_api_Prefix) } : S_api_Field) with f_Word := t3 }))) rfl)) ?_
  refine at_val rfl rfl rfl (r_ieql rfl rfl) ?_
  refine at_nil ?_
  refine at_weak [(1, _), (2, _), (4, _), (12, _)] ⟨rfl, rfl, rfl, rfl, trivial⟩ ?_
  refine at_then_normal ?_
  rcases of_ite hF with ⟨h5, hF⟩ | ⟨h5, hF⟩
  · refine at_cond_true rfl h5 ?_
    refine at_seq ?_
    refine at_region ?_
    refine at_val rfl rfl rfl (r_build_struct (zs := Cd.cs c_api_Field ({ f_Word := (0 : Int), f_Key := (Vector.replicate 32 (0 : Int) : (Vector Int 32)), f_N := (0 : Int), f_End := ({ f_A := ({ f_V := (0 : Int), f_B := (Vector.replicate 16 (0 : Int) : (Vector Int 16)) } : S_api_Addr), f_Port := (0 : Int) } : S_api_Endpoint), f_P := ({ f_A := ({ f_V := (0 : Int), f_B := (Vector.replicate 16 (0 : Int) : (Vector Int 16)) } : S_api_Addr), f_Bits := (0 : Int) } : S_api_Prefix) } : S_api_Field)) (cs := Cd.cs c_api_Field ({ f_Word := (0 : Int), f_Key := (Vector.replicate 32 (0 : Int) : (Vector Int 32)), f_N := (0 : Int), f_End := ({ f_A := ({ f_V := (0 : Int), f_B := (Vector.replicate 16 (0 : Int) : (Vector Int 16)) } : S_api_Addr), f_Port := (0 : Int) } : S_api_Endpoint), f_P := ({ f_A := ({ f_V := (0 : Int), f_B := (Vector.replicate 16 (0 : Int) : (Vector Int 16)) } : S_api_Addr), f_Bits := (0 : Int) } : S_api_Prefix) } : S_api_Field)) Tryz.underlying46 Tryz.zeroValue46 rfl (places_api_Field_46) rfl rfl) ?_
    refine at_store (c := c_api_Field) (z := ({ f_Word := (0 : Int), f_Key := (Vector.replicate 32 (0 : Int) : (Vector Int 32)), f_N := (0 : Int), f_End := ({ f_A := ({ f_V := (0 : Int), f_B := (Vector.replicate 16 (0 : Int) : (Vector Int 16)) } : S_api_Addr), f_Port := (0 : Int) } : S_api_Endpoint), f_P := ({ f_A := ({ f_V := (0 : Int), f_B := (Vector.replicate 16 (0 : Int) : (Vector Int 16)) } : S_api_Addr), f_Bits := (0 : Int) } : S_api_Prefix) } : S_api_Field)) (.s .z) (Lens.whole _ _) Tryz.sizeOf46 rfl rfl rfl ?_
    refine at_val rfl rfl rfl (r_assign rfl) ?_
    refine at_nil ?_
    refine at_drop (H := _) .z ?_
    refine at_drop (H := _) (.s .z) ?_
    refine at_weak [(2, _), (3, _)] ⟨rfl, rfl, trivial⟩ ?_
    refine at_then_normal ?_
    refine at_ret ?_
    refine at_then_ret ?_
    have K := of_some hF
    subst K
    exact at_res2 rfl (res_cell (c := c_api_Field) (y := ({ f_Word := (0 : Int), f_Key := (Vector.replicate 32 (0 : Int) : (Vector Int 32)), f_N := (0 : Int), f_End := ({ f_A := ({ f_V := (0 : Int), f_B := (Vector.replicate 16 (0 : Int) : (Vector Int 16)) } : S_api_Addr), f_Port := (0 : Int) } : S_api_Endpoint), f_P := ({ f_A := ({ f_V := (0 : Int), f_B := (Vector.replicate 16 (0 : Int) : (Vector Int 16)) } : S_api_Addr), f_Bits := (0 : Int) } : S_api_Prefix) } : S_api_Field)) rfl .z (Lens.whole _ _) Tryz.isAgg46 Tryz.sizeOf46 (.inl rfl)) (res_tmp rfl) (fun w1 hw => ⟨rfl, hw.below⟩)
  · refine at_cond_false rfl h5 ?_
    refine at_skip ?_
    refine at_then_normal ?_
    refine at_seq ?_
    refine at_seq ?_
    refine at_weak [(1, _), (2, _), (4, _)] ⟨rfl, rfl, rfl, trivial⟩ ?_
    obtain ⟨t6, ht6, hF⟩ := of_bindM hF
    cases t6 with
    | s0 =>
      cases hF
    | s1 =>
      cases hF
    | s2 =>
      cases hF
    | s3 a7 a8 =>
      obtain ⟨t11, ht11, hF⟩ := of_bindM hF
      refine at_inv [.q 14 (fun g12 => .pointer (some ⟨b4, 0 + 0, none⟩)) [] 0 2, .q 15 (fun g12 => .int .i64 (({ ({ f_Word := (0 : Int), f_Key := (Vector.replicate 32 (0 : Int) : (Vector Int 32)), f_N := (0 : Int), f_End := ({ f_A := ({ f_V := (0 : Int), f_B := (Vector.replicate 16 (0 : Int) : (Vector Int 16)) } : S_api_Addr), f_Port := (0 : Int) } : S_api_Endpoint), f_P := ({ f_A := ({ f_V := (0 : Int), f_B := (Vector.replicate 16 (0 : Int) : (Vector Int 16)) } : S_api_Addr), f_Bits := (0 : Int) } : S_api_Prefix) } : S_api_Field) with f_Word := t3 }).f_Word)) [0] 0 0, .al 0 16 (fun g12 => .agg #[.func (.func 110) #[] #[.pointer (some ⟨((g12 0).1), 0, none⟩), .pointer (some ⟨((g12 0).2.2.1), 0, none⟩)], .func (.func 112) #[] #[.pointer (some ⟨((g12 0).2.2.1), 0, none⟩), .pointer (some ⟨((g12 0).1), 0, none⟩)], .func (.func 114) #[] #[]]) [1], .q 17 (fun g12 => .func (.func 110) #[] #[.pointer (some ⟨((g12 0).1), 0, none⟩), .pointer (some ⟨((g12 0).2.2.1), 0, none⟩)]) [2] 1 1, .q 18 (fun g12 => .pointer (some ⟨b1, 0 + 1, none⟩)) [] 0 2, .q 19 (fun g12 => .string x0.f_Value) [4] 0 1, .st 1 (some (20, fun g12 => .int .i64 t11.1)) [3, 5], .q 5 (fun g12 => .int .i64 t11.1) [6] 2 2] (fun g12 s => match s with | 0 => (Wd w [cellsE b4 (Cd.cs c_api_Field ({ ({ f_Word := (0 : Int), f_Key := (Vector.replicate 32 (0 : Int) : (Vector Int 32)), f_N := (0 : Int), f_End := ({ f_A := ({ f_V := (0 : Int), f_B := (Vector.replicate 16 (0 : Int) : (Vector Int 16)) } : S_api_Addr), f_Port := (0 : Int) } : S_api_Endpoint), f_P := ({ f_A := ({ f_V := (0 : Int), f_B := (Vector.replicate 16 (0 : Int) : (Vector Int 16)) } : S_api_Addr), f_Bits := (0 : Int) } : S_api_Prefix) } : S_api_Field) with f_Word := t3 })) 46, cellsE b2 (Cd.cs c_api_Field ({ f_Word := (0 : Int), f_Key := (Vector.replicate 32 (0 : Int) : (Vector Int 32)), f_N := (0 : Int), f_End := ({ f_A := ({ f_V := (0 : Int), f_B := (Vector.replicate 16 (0 : Int) : (Vector Int 16)) } : S_api_Addr), f_Port := (0 : Int) } : S_api_Endpoint), f_P := ({ f_A := ({ f_V := (0 : Int), f_B := (Vector.replicate 16 (0 : Int) : (Vector Int 16)) } : S_api_Addr), f_Bits := (0 : Int) } : S_api_Prefix) } : S_api_Field)) 46, cellsE b1 (Cd.cs c_pairline_Pair x0) 51]) | 1 => (Wd w [cellsE ((g12 0).1) (Cd.cs (cInt .u64) a7) 31, cellsE ((g12 0).2.2.1) (Cd.cs (cInt .u64) a8) 31, cellsE b4 (Cd.cs c_api_Field ({ ({ f_Word := (0 : Int), f_Key := (Vector.replicate 32 (0 : Int) : (Vector Int 32)), f_N := (0 : Int), f_End := ({ f_A := ({ f_V := (0 : Int), f_B := (Vector.replicate 16 (0 : Int) : (Vector Int 16)) } : S_api_Addr), f_Port := (0 : Int) } : S_api_Endpoint), f_P := ({ f_A := ({ f_V := (0 : Int), f_B := (Vector.replicate 16 (0 : Int) : (Vector Int 16)) } : S_api_Addr), f_Bits := (0 : Int) } : S_api_Prefix) } : S_api_Field) with f_Word := t3 })) 46, cellsE b2 (Cd.cs c_api_Field ({ f_Word := (0 : Int), f_Key := (Vector.replicate 32 (0 : Int) : (Vector Int 32)), f_N := (0 : Int), f_End := ({ f_A := ({ f_V := (0 : Int), f_B := (Vector.replicate 16 (0 : Int) : (Vector Int 16)) } : S_api_Addr), f_Port := (0 : Int) } : S_api_Endpoint), f_P := ({ f_A := ({ f_V := (0 : Int), f_B := (Vector.replicate 16 (0 : Int) : (Vector Int 16)) } : S_api_Addr), f_Bits := (0 : Int) } : S_api_Prefix) } : S_api_Field)) 46, cellsE b1 (Cd.cs c_pairline_Pair x0) 51]) | _ => (Wd w [cellsE ((g12 0).1) (Cd.cs (cInt .u64) a7) 31, cellsE ((g12 0).2.2.1) (Cd.cs (cInt .u64) a8) 31, cellsE b4 (Cd.cs c_api_Field t11.2) 46, cellsE b2 (Cd.cs c_api_Field ({ f_Word := (0 : Int), f_Key := (Vector.replicate 32 (0 : Int) : (Vector Int 32)), f_N := (0 : Int), f_End := ({ f_A := ({ f_V := (0 : Int), f_B := (Vector.replicate 16 (0 : Int) : (Vector Int 16)) } : S_api_Addr), f_Port := (0 : Int) } : S_api_Endpoint), f_P := ({ f_A := ({ f_V := (0 : Int), f_B := (Vector.replicate 16 (0 : Int) : (Vector Int 16)) } : S_api_Addr), f_Bits := (0 : Int) } : S_api_Prefix) } : S_api_Field)) 46, cellsE b1 (Cd.cs c_pairline_Pair x0) 51])) 2 (by kernel_rfl) (by kernel_rfl) (by kernel_rfl) (by kernel_rfl) (by kernel_rfl) ⟨fun _ _ _ => rfl, fun _ _ _ => rfl, fun g12 g2 h => by show (.agg #[.func (.func 110) #[] #[.pointer (some ⟨((g12 0).1), 0, none⟩), .pointer (some ⟨((g12 0).2.2.1), 0, none⟩)], .func (.func 112) #[] #[.pointer (some ⟨((g12 0).2.2.1), 0, none⟩), .pointer (some ⟨((g12 0).1), 0, none⟩)], .func (.func 114) #[] #[]] : Value) = .agg #[.func (.func 110) #[] #[.pointer (some ⟨((g2 0).1), 0, none⟩), .pointer (some ⟨((g2 0).2.2.1), 0, none⟩)], .func (.func 112) #[] #[.pointer (some ⟨((g2 0).2.2.1), 0, none⟩), .pointer (some ⟨((g2 0).1), 0, none⟩)], .func (.func 114) #[] #[]]; rw [h 0 (show 0 < 1 by decide)], fun g12 g2 h => by show (.func (.func 110) #[] #[.pointer (some ⟨((g12 0).1), 0, none⟩), .pointer (some ⟨((g12 0).2.2.1), 0, none⟩)] : Value) = .func (.func 110) #[] #[.pointer (some ⟨((g2 0).1), 0, none⟩), .pointer (some ⟨((g2 0).2.2.1), 0, none⟩)]; rw [h 0 (show 0 < 1 by decide)], fun _ _ _ => rfl, fun _ _ _ => rfl, fun _ _ _ => rfl, fun _ _ _ => rfl, trivial⟩ (by kernel_rfl) (fun _ h => ⟨fun _ => (0, none, 0, none), h.drew⟩) ⟨?_, ?_, ?_, ?_, ?_, ?_, ?_, ?_, trivial⟩ ?_
      · intro Lx g12 s K hl hh k
        show At 26 ((1, _) :: (2, _) :: (4, _) :: Lx) _ _
        refine at_val rfl rfl rfl (r_fieldAddr (fo := 0) Tryz.underlying46 rfl rfl (fun w => ⟨_, Tryz.sizeOf3 w⟩) rfl) ?_
        exact at_nil k
      · intro Lx g12 s K hl hh k
        show At 26 ((14, _) :: (1, _) :: (2, _) :: (4, _) :: Lx) _ _
        obtain rfl : s = 0 := by omega
        refine at_val rfl rfl rfl (r_load_cell Tryz.isAgg3 rfl (lens_cell0 (c := (cInt .i64)) (y := ({ ({ f_Word := (0 : Int), f_Key := (Vector.replicate 32 (0 : Int) : (Vector Int 32)), f_N := (0 : Int), f_End := ({ f_A := ({ f_V := (0 : Int), f_B := (Vector.replicate 16 (0 : Int) : (Vector Int 16)) } : S_api_Addr), f_Port := (0 : Int) } : S_api_Endpoint), f_P := ({ f_A := ({ f_V := (0 : Int), f_B := (Vector.replicate 16 (0 : Int) : (Vector Int 16)) } : S_api_Addr), f_Bits := (0 : Int) } : S_api_Prefix) } : S_api_Field) with f_Word := t3 }).f_Word) .z (Lens.comp (Lens.whole _ _) (fun z => { { ({ f_Word := (0 : Int), f_Key := (Vector.replicate 32 (0 : Int) : (Vector Int 32)), f_N := (0 : Int), f_End := ({ f_A := ({ f_V := (0 : Int), f_B := (Vector.replicate 16 (0 : Int) : (Vector Int 16)) } : S_api_Addr), f_Port := (0 : Int) } : S_api_Endpoint), f_P := ({ f_A := ({ f_V := (0 : Int), f_B := (Vector.replicate 16 (0 : Int) : (Vector Int 16)) } : S_api_Addr), f_Bits := (0 : Int) } : S_api_Prefix) } : S_api_Field) with f_Word := t3 } with f_Word := z }) (c_api_Field_f_Word ({ ({ f_Word := (0 : Int), f_Key := (Vector.replicate 32 (0 : Int) : (Vector Int 32)), f_N := (0 : Int), f_End := ({ f_A := ({ f_V := (0 : Int), f_B := (Vector.replicate 16 (0 : Int) : (Vector Int 16)) } : S_api_Addr), f_Port := (0 : Int) } : S_api_Endpoint), f_P := ({ f_A := ({ f_V := (0 : Int), f_B := (Vector.replicate 16 (0 : Int) : (Vector Int 16)) } : S_api_Addr), f_Bits := (0 : Int) } : S_api_Prefix) } : S_api_Field) with f_Word := t3 }))) rfl)) ?_
        exact at_nil k
      · intro Lx g12 K k
        show At 26 ((15, _) :: (1, _) :: (2, _) :: (4, _) :: Lx) _ _
        refine at_callC2 (c1 := [.int .u64 a7]) (c2 := [.int .u64 a8]) (t1 := 31) (t2 := 31) (V := fun v_1 v_2 => .agg #[.func (.func 110) #[] #[.pointer (some ⟨v_1, 0, none⟩), .pointer (some ⟨v_2, 0, none⟩)], .func (.func 112) #[] #[.pointer (some ⟨v_2, 0, none⟩), .pointer (some ⟨v_1, 0, none⟩)], .func (.func 114) #[] #[]]) Tryz.func37 rfl (by kernel_rfl) rfl rfl (fun w hw => (field_shapeOf_ok _ _ ht6 w).mono (by intro e w' h; obtain ⟨v, he, hv, hb⟩ := h; obtain ⟨c0, c1, hv, hr⟩ := hv; exact ⟨c0, c1, he.trans (congrArg Ending.returned hv), hr, hb⟩)) ?_
        intro b9 b10
        exact at_nil (k (b9, none, b10, none))
      · intro Lx g12 s K hl hh k
        show At 26 ((16, _) :: (1, _) :: (2, _) :: (4, _) :: Lx) _ _
        refine at_val rfl rfl rfl (r_fieldR (fo := 0) Tryz.underlying81 rfl rfl Tryz.isAgg77 rfl rfl) ?_
        exact at_nil k
      · intro Lx g12 s K hl hh k
        show At 26 ((1, _) :: (2, _) :: (4, _) :: Lx) _ _
        refine at_val rfl rfl rfl (r_fieldAddr (fo := 1) Tryz.underlying51 rfl rfl (fun w => ⟨_, Tryz.sizeOf9 w⟩) rfl) ?_
        exact at_nil k
      · intro Lx g12 s K hl hh k
        show At 26 ((18, _) :: (1, _) :: (2, _) :: (4, _) :: Lx) _ _
        rcases (by omega : s = 0 ∨ s = 1) with rfl | rfl
        · skip
          refine at_val rfl rfl rfl (r_load_cell Tryz.isAgg9 rfl (lens_cell0 (c := cStr) (y := x0.f_Value) (.s (.s .z)) (Lens.comp (Lens.whole _ _) (fun z => { x0 with f_Value := z }) (c_pairline_Pair_f_Value x0)) rfl)) ?_
          exact at_nil k
        · skip
          refine at_val rfl rfl rfl (r_load_cell Tryz.isAgg9 rfl (lens_cell0 (c := cStr) (y := x0.f_Value) (.s (.s (.s (.s .z)))) (Lens.comp (Lens.whole _ _) (fun z => { x0 with f_Value := z }) (c_pairline_Pair_f_Value x0)) rfl)) ?_
          exact at_nil k
      · intro Lx g12 K k
        show At 26 ((17, _) :: (19, _) :: (1, _) :: (2, _) :: (4, _) :: Lx) _ _
        refine at_calleeC (caps := [.pointer (some ⟨((g12 0).1), 0, none⟩), .pointer (some ⟨((g12 0).2.2.1), 0, none⟩)]) rfl ?_
        refine at_callP (E' := cellsE b4 (Cd.cs c_api_Field t11.2) 46) Tryz.func110 rfl (by kernel_rfl) rfl rfl (fun w hw => field_counted_1_ok _ _ _ _ _ _ _ _ ht11 w (.s (.s .z)) hw (fun X_ w_ h => cells_get (h.ok (Upd.mem .z)) 0 _ rfl) (fun X_ w_ h => cells_get (h.ok (Upd.mem (.s .z))) 0 _ rfl) hg_strconv_ErrRange hg_strconv_ErrSyntax) ?_
        exact at_nil k
      · intro Lx g12 s K hl hh k
        show At 26 ((20, _) :: (1, _) :: (2, _) :: (4, _) :: Lx) _ _
        refine at_val rfl rfl rfl (r_assign rfl) ?_
        exact at_nil k
      intro g12
      show At 26 [(14, _), (15, _), (16, _), (17, _), (18, _), (19, _), (20, _), (5, _), (1, _), (2, _), (4, _)] _ _
      refine at_drop (H := _) .z ?_
      refine at_drop (H := _) .z ?_
      refine at_drop (H := _) (.s (.s .z)) ?_
      refine at_weak [(2, _), (4, _), (5, _)] ⟨rfl, rfl, rfl, trivial⟩ ?_
      refine at_then_normal ?_
      refine at_seq ?_
      refine at_region ?_
      refine at_val rfl rfl rfl (r_move rfl) ?_
      refine at_val rfl rfl rfl (r_ineq rfl rfl) ?_
      refine at_nil ?_
      refine at_weak [(2, _), (4, _), (5, _), (22, _)] ⟨rfl, rfl, rfl, rfl, trivial⟩ ?_
      refine at_then_normal ?_
      rcases of_ite hF with ⟨h13, hF⟩ | ⟨h13, hF⟩
      · refine at_cond_true rfl h13 ?_
        refine at_seq ?_
        refine at_region ?_
        refine at_val rfl rfl rfl (r_build_struct (zs := Cd.cs c_api_Field ({ f_Word := (0 : Int), f_Key := (Vector.replicate 32 (0 : Int) : (Vector Int 32)), f_N := (0 : Int), f_End := ({ f_A := ({ f_V := (0 : Int), f_B := (Vector.replicate 16 (0 : Int) : (Vector Int 16)) } : S_api_Addr), f_Port := (0 : Int) } : S_api_Endpoint), f_P := ({ f_A := ({ f_V := (0 : Int), f_B := (Vector.replicate 16 (0 : Int) : (Vector Int 16)) } : S_api_Addr), f_Bits := (0 : Int) } : S_api_Prefix) } : S_api_Field)) (cs := Cd.cs c_api_Field ({ f_Word := (0 : Int), f_Key := (Vector.replicate 32 (0 : Int) : (Vector Int 32)), f_N := (0 : Int), f_End := ({ f_A := ({ f_V := (0 : Int), f_B := (Vector.replicate 16 (0 : Int) : (Vector Int 16)) } : S_api_Addr), f_Port := (0 : Int) } : S_api_Endpoint), f_P := ({ f_A := ({ f_V := (0 : Int), f_B := (Vector.replicate 16 (0 : Int) : (Vector Int 16)) } : S_api_Addr), f_Bits := (0 : Int) } : S_api_Prefix) } : S_api_Field)) Tryz.underlying46 Tryz.zeroValue46 rfl (places_api_Field_46) rfl rfl) ?_
        refine at_val rfl rfl rfl (r_move rfl) ?_
        refine at_store (c := c_api_Field) (z := ({ f_Word := (0 : Int), f_Key := (Vector.replicate 32 (0 : Int) : (Vector Int 32)), f_N := (0 : Int), f_End := ({ f_A := ({ f_V := (0 : Int), f_B := (Vector.replicate 16 (0 : Int) : (Vector Int 16)) } : S_api_Addr), f_Port := (0 : Int) } : S_api_Endpoint), f_P := ({ f_A := ({ f_V := (0 : Int), f_B := (Vector.replicate 16 (0 : Int) : (Vector Int 16)) } : S_api_Addr), f_Bits := (0 : Int) } : S_api_Prefix) } : S_api_Field)) (.s .z) (Lens.whole _ _) Tryz.sizeOf46 rfl rfl rfl ?_
        refine at_val rfl rfl rfl (r_assign rfl) ?_
        refine at_nil ?_
        refine at_drop (H := _) .z ?_
        refine at_weak [(2, _), (3, _)] ⟨rfl, rfl, trivial⟩ ?_
        refine at_then_normal ?_
        refine at_ret ?_
        refine at_then_ret ?_
        have K := of_some hF
        subst K
        exact at_res2 rfl (res_cell (c := c_api_Field) (y := ({ f_Word := (0 : Int), f_Key := (Vector.replicate 32 (0 : Int) : (Vector Int 32)), f_N := (0 : Int), f_End := ({ f_A := ({ f_V := (0 : Int), f_B := (Vector.replicate 16 (0 : Int) : (Vector Int 16)) } : S_api_Addr), f_Port := (0 : Int) } : S_api_Endpoint), f_P := ({ f_A := ({ f_V := (0 : Int), f_B := (Vector.replicate 16 (0 : Int) : (Vector Int 16)) } : S_api_Addr), f_Bits := (0 : Int) } : S_api_Prefix) } : S_api_Field)) rfl .z (Lens.whole _ _) Tryz.isAgg46 Tryz.sizeOf46 (.inl rfl)) (res_tmp rfl) (fun w1 hw => ⟨rfl, hw.below⟩)
      · refine at_cond_false rfl h13 ?_
        refine at_skip ?_
        refine at_then_normal ?_
        refine at_seq ?_
        refine at_region ?_
        refine at_val rfl rfl rfl (r_load_aggc (c := c_api_Field) (z := t11.2) Tryz.isAgg46 Tryz.sizeOf46 rfl (lens_cell .z (Lens.whole _ _))) ?_
        refine at_store (c := c_api_Field) (z := t11.2) (.s .z) (Lens.whole _ _) Tryz.sizeOf46 rfl rfl rfl ?_
        refine at_val rfl rfl rfl (r_assign rfl) ?_
        refine at_nil ?_
        refine at_drop (H := _) .z ?_
        refine at_weak [(2, _), (3, _)] ⟨rfl, rfl, trivial⟩ ?_
        refine at_then_normal ?_
        refine at_ret ?_
        have K := of_some hF
        subst K
        exact at_res2 rfl (res_cell (c := c_api_Field) (y := t11.2) rfl .z (Lens.whole _ _) Tryz.isAgg46 Tryz.sizeOf46 (.inl rfl)) (res_tmp rfl) (fun w1 hw => ⟨rfl, hw.below⟩)
    | s4 =>
      cases hF

def crawlwaylaw37_alive : Option (Bool) :=
  field_Read ({ { ({ f_Key := (⟨#[]⟩ : ByteArray), f_Value := (⟨#[]⟩ : ByteArray) } : S_pairline_Pair) with f_Key := ⟨#[102, 119, 109, 97, 114, 107]⟩ } with f_Value := ⟨#[48, 120, 53]⟩ }) >>= fun t1 => if (t1.2 == 5) = true then (field_Word (⟨#[101, 114, 114, 110, 111]⟩ : ByteArray) >>= fun t4 => if (t4 == 16) = true then (field_Name 1 >>= fun t6 => some (seq t6 (⟨#[112, 114, 105, 118, 97, 116, 101, 95, 107, 101, 121]⟩ : ByteArray))) else (some false)) else (some false)
theorem crawlwaylaw37_alive_ok (r : Bool) (hF : crawlwaylaw37_alive  = some r) (w : World) (hg_field_names : GV_field_names w) (hg_strconv_ErrRange : GV_strconv_ErrRange w) (hg_strconv_ErrSyntax : GV_strconv_ErrSyntax w) :
    Calls Tryz.prog 18 #[] w (fun e w' => e = .returned (.bool r) ∧ Below w.heap.size w w') := by
  unfold crawlwaylaw37_alive at hF
  refine calls_enter (l := []) Tryz.func18 rfl rfl rfl ?_
  refine at_start ?_
  refine at_weak [] trivial ?_
  refine at_seq ?_
  refine at_region ?_
  refine at_val rfl rfl rfl (r_assign rfl) ?_
  refine at_nil ?_
  refine at_weak [] trivial ?_
  refine at_then_normal ?_
  refine at_seq ?_
  refine at_region ?_
  refine at_val rfl rfl rfl (r_build_struct (zs := Cd.cs c_pairline_Pair ({ f_Key := (⟨#[]⟩ : ByteArray), f_Value := (⟨#[]⟩ : ByteArray) } : S_pairline_Pair)) (cs := Cd.cs c_pairline_Pair ({ { ({ f_Key := (⟨#[]⟩ : ByteArray), f_Value := (⟨#[]⟩ : ByteArray) } : S_pairline_Pair) with f_Key := ⟨#[102, 119, 109, 97, 114, 107]⟩ } with f_Value := ⟨#[48, 120, 53]⟩ })) Tryz.underlying51 Tryz.zeroValue51 rfl (places_pairline_Pair_51) rfl (fill_step (c := cStr) (z := ⟨#[102, 119, 109, 97, 114, 107]⟩) rfl (c_pairline_Pair_f_Key ({ f_Key := (⟨#[]⟩ : ByteArray), f_Value := (⟨#[]⟩ : ByteArray) } : S_pairline_Pair)) rfl (fill_step (c := cStr) (z := ⟨#[48, 120, 53]⟩) rfl (c_pairline_Pair_f_Value ({ ({ f_Key := (⟨#[]⟩ : ByteArray), f_Value := (⟨#[]⟩ : ByteArray) } : S_pairline_Pair) with f_Key := ⟨#[102, 119, 109, 97, 114, 107]⟩ })) rfl rfl))) ?_
  obtain ⟨t1, ht1, hF⟩ := of_bindM hF
  refine at_callB Tryz.func19 rfl (by kernel_rfl) rfl rfl (fun w hw => field_Read_ok _ _ ht1 w (hg_field_names.on hw.below) (hg_strconv_ErrRange.on hw.below) (hg_strconv_ErrSyntax.on hw.below)) ?_
  refine at_val rfl rfl rfl (r_move rfl) ?_
  refine at_val rfl rfl rfl (r_extract rfl rfl) ?_
  refine at_val rfl rfl rfl (r_extract rfl rfl) ?_
  refine at_alloc (cs := Cd.cs c_api_Field ({ f_Word := (0 : Int), f_Key := (Vector.replicate 32 (0 : Int) : (Vector Int 32)), f_N := (0 : Int), f_End := ({ f_A := ({ f_V := (0 : Int), f_B := (Vector.replicate 16 (0 : Int) : (Vector Int 16)) } : S_api_Addr), f_Port := (0 : Int) } : S_api_Endpoint), f_P := ({ f_A := ({ f_V := (0 : Int), f_B := (Vector.replicate 16 (0 : Int) : (Vector Int 16)) } : S_api_Addr), f_Bits := (0 : Int) } : S_api_Prefix) } : S_api_Field)) Tryz.zeroValue46 rfl rfl ?_
  intro b2
  refine at_store (c := c_api_Field) (z := t1.1) .z (Lens.whole _ _) Tryz.sizeOf46 rfl rfl rfl ?_
  refine at_val rfl rfl rfl (r_assign rfl) ?_
  refine at_nil ?_
  refine at_drop (H := _) .z ?_
  refine at_weak [(2, _)] ⟨rfl, trivial⟩ ?_
  refine at_then_normal ?_
  refine at_seq ?_
  refine at_region ?_
  refine at_val rfl rfl rfl (r_move rfl) ?_
  refine at_val rfl rfl rfl (r_ieql rfl rfl) ?_
  refine at_val rfl rfl rfl (r_move rfl) ?_
  rcases of_ite hF with ⟨h3, hF⟩ | ⟨h3, hF⟩
  · refine at_fix (g := 10) rfl h3 ?_
    refine at_guard_yes rfl rfl rfl ?_
    obtain ⟨t4, ht4, hF⟩ := of_bindM hF
    refine at_callB Tryz.func16 rfl (by kernel_rfl) rfl rfl (fun w hw => callB_of_call0 (field_Word_ok _ _ ht4 w (hg_field_names.on hw.below))) ?_
    refine at_guard_yes rfl rfl rfl ?_
    refine at_val rfl rfl rfl (r_ieql rfl rfl) ?_
    refine at_val rfl rfl rfl (r_pick rfl rfl rfl) ?_
    refine at_val rfl rfl rfl (r_move rfl) ?_
    rcases of_ite hF with ⟨h5, hF⟩ | ⟨h5, hF⟩
    · refine at_fix (g := 14) rfl h5 ?_
      refine at_guard_yes rfl rfl rfl ?_
      obtain ⟨t6, ht6, hF⟩ := of_bindM hF
      refine at_callB Tryz.func15 rfl (by kernel_rfl) rfl rfl (fun w hw => callB_of_call0 (field_Name_ok _ _ ht6 w (hg_field_names.on hw.below))) ?_
      refine at_guard_yes rfl rfl rfl ?_
      refine at_val rfl rfl rfl (r_seql rfl rfl) ?_
      refine at_val rfl rfl rfl (r_pick rfl rfl rfl) ?_
      refine at_val rfl rfl rfl (r_assign rfl) ?_
      refine at_nil ?_
      refine at_weak [(0, _)] ⟨rfl, trivial⟩ ?_
      refine at_then_normal ?_
      refine at_ret ?_
      have K := of_some hF
      subst K
      exact at_return1 rfl rfl (fun w1 hw => ⟨rfl, hw.below⟩)
    · refine at_fix (g := 14) rfl h5 ?_
      refine at_guard_no rfl rfl rfl rfl rfl ?_
      refine at_guard_no rfl rfl rfl rfl rfl ?_
      refine at_val rfl rfl rfl (r_pick rfl rfl rfl) ?_
      refine at_val rfl rfl rfl (r_assign rfl) ?_
      refine at_nil ?_
      refine at_weak [(0, _)] ⟨rfl, trivial⟩ ?_
      refine at_then_normal ?_
      refine at_ret ?_
      have K := of_some hF
      subst K
      exact at_return1 rfl rfl (fun w1 hw => ⟨rfl, hw.below⟩)
  · refine at_fix (g := 10) rfl h3 ?_
    refine at_guard_no rfl rfl rfl rfl rfl ?_
    refine at_guard_no rfl rfl rfl rfl rfl ?_
    refine at_val rfl rfl rfl (r_pick rfl rfl rfl) ?_
    refine at_val rfl rfl rfl (r_move rfl) ?_
    refine at_guard_no rfl rfl rfl rfl rfl ?_
    refine at_guard_no rfl rfl rfl rfl rfl ?_
    refine at_val rfl rfl rfl (r_pick rfl rfl rfl) ?_
    refine at_val rfl rfl rfl (r_assign rfl) ?_
    refine at_nil ?_
    refine at_weak [(0, _)] ⟨rfl, trivial⟩ ?_
    refine at_then_normal ?_
    refine at_ret ?_
    have K := of_some hF
    subst K
    exact at_return1 rfl rfl (fun w1 hw => ⟨rfl, hw.below⟩)

def crawlwaylaw37_FieldNames (x0 : Int) (x1 : ByteArray) : Option (Bool) :=
  if (decide (x0 ≥ 1)) = true then (if (decide (x0 ≤ 16)) = true then (crawlwayref37_Names >>= fun t3 => if (0 : Int) ≤ x0 ∧ x0 < (t3.length : Int) then field_Name x0 >>= fun t10 => if (seq t10 (lget t3 x0)) = true then (field_Word x1 >>= fun t12 => crawlwayref37_Word x1 >>= fun t13 => if (t12 == t13) = true then (if (seq (lget t3 x0) (⟨#[]⟩ : ByteArray)) = true then (crawlwaylaw37_alive >>= fun t16 => some t16) else (field_Word (lget t3 x0) >>= fun t17 => if (t17 == x0) = true then (crawlwaylaw37_alive >>= fun t19 => some t19) else (some false))) else (some false)) else (some false) else none) else (field_Name x0 >>= fun t20 => if (seq t20 (⟨#[]⟩ : ByteArray)) = true then (field_Word x1 >>= fun t22 => crawlwayref37_Word x1 >>= fun t23 => if (t22 == t23) = true then (if (seq (⟨#[]⟩ : ByteArray) (⟨#[]⟩ : ByteArray)) = true then (crawlwaylaw37_alive >>= fun t26 => some t26) else (field_Word (⟨#[]⟩ : ByteArray) >>= fun t27 => if (t27 == x0) = true then (crawlwaylaw37_alive >>= fun t29 => some t29) else (some false))) else (some false)) else (some false))) else (field_Name x0 >>= fun t30 => if (seq t30 (⟨#[]⟩ : ByteArray)) = true then (field_Word x1 >>= fun t32 => crawlwayref37_Word x1 >>= fun t33 => if (t32 == t33) = true then (if (seq (⟨#[]⟩ : ByteArray) (⟨#[]⟩ : ByteArray)) = true then (crawlwaylaw37_alive >>= fun t36 => some t36) else (field_Word (⟨#[]⟩ : ByteArray) >>= fun t37 => if (t37 == x0) = true then (crawlwaylaw37_alive >>= fun t39 => some t39) else (some false))) else (some false)) else (some false))
theorem crawlwaylaw37_FieldNames_ok (x0 : Int) (x1 : ByteArray) (r : Bool) (hF : crawlwaylaw37_FieldNames x0 x1 = some r) (w : World) (hg_field_names : GV_field_names w) (hg_strconv_ErrRange : GV_strconv_ErrRange w) (hg_strconv_ErrSyntax : GV_strconv_ErrSyntax w) :
    Calls Tryz.prog 4 #[.int .i64 x0, .string x1] w (fun e w' => e = .returned (.bool r) ∧ Below w.heap.size w w') := by
  unfold crawlwaylaw37_FieldNames at hF
  refine calls_enter (l := [.int .i64 x0, .string x1]) Tryz.func4 rfl rfl rfl ?_
  refine at_start ?_
  refine at_weak [(0, _), (1, _)] ⟨rfl, rfl, trivial⟩ ?_
  refine at_seq ?_
  refine at_region ?_
  refine at_val rfl rfl rfl (r_assign rfl) ?_
  refine at_nil ?_
  refine at_weak [(0, _), (1, _)] ⟨rfl, rfl, trivial⟩ ?_
  refine at_then_normal ?_
  refine at_seq ?_
  refine at_region ?_
  refine at_val rfl rfl rfl (r_assign rfl) ?_
  refine at_nil ?_
  refine at_weak [(0, _), (1, _), (5, _)] ⟨rfl, rfl, rfl, trivial⟩ ?_
  refine at_then_normal ?_
  refine at_seq ?_
  refine at_seq ?_
  refine at_region ?_
  refine at_val rfl rfl rfl (r_move rfl) ?_
  refine at_val rfl rfl rfl (r_igeq rfl rfl) ?_
  refine at_val rfl rfl rfl (r_move rfl) ?_
  rcases of_ite hF with ⟨h1, hF⟩ | ⟨h1, hF⟩
  · refine at_fix (g := 8) rfl h1 ?_
    refine at_guard_yes rfl rfl rfl ?_
    refine at_val rfl rfl rfl (r_move rfl) ?_
    refine at_guard_yes rfl rfl rfl ?_
    refine at_val rfl rfl rfl (r_ileq rfl rfl) ?_
    refine at_val rfl rfl rfl (r_pick rfl rfl rfl) ?_
    refine at_nil ?_
    refine at_weak [(0, _), (1, _), (5, _), (11, _)] ⟨rfl, rfl, rfl, rfl, trivial⟩ ?_
    refine at_then_normal ?_
    rcases of_ite hF with ⟨h2, hF⟩ | ⟨h2, hF⟩
    · refine at_cond_true rfl h2 ?_
      refine at_region ?_
      obtain ⟨t3, ht3, hF⟩ := of_bindM hF
      refine at_callO (c := cStr) (e := 9) (ys := t3) (V := fun p cap => .slice p t3.length cap) Tryz.func14 rfl (by kernel_rfl) rfl rfl (fun w hw => crawlwayref37_Names_ok  _ ht3 w) ?_
      intro p4 c5
      refine at_val rfl rfl rfl (r_move rfl) ?_
      obtain ⟨h6, hF⟩ := of_guard hF
      refine at_pure (φ := ∃ b o, p4 = some ⟨b, o, none⟩) (fun _ hw => row_ptr (hw.own .z).row h6) ?_
      rintro ⟨b8, o9, hp7⟩
      refine at_val rfl rfl rfl (r_idx Tryz.underlying38 Tryz.sizeOf9 rfl rfl h6 hp7) ?_
      refine at_val rfl rfl rfl (r_load_cell Tryz.isAgg9 rfl (fun _ hw => row_cell0 (W := fun w1 => w1 = _) (fun w1 h => by subst h; exact Below.refl _ _) (hw.own .z).row h6 hp7 rfl _ rfl)) ?_
      refine at_val rfl rfl rfl (r_assign rfl) ?_
      refine at_nil ?_
      refine at_drop (H := _) .z ?_
      refine at_weak [(0, _), (1, _), (5, _)] ⟨rfl, rfl, rfl, trivial⟩ ?_
      refine at_then_normal ?_
      refine at_seq ?_
      refine at_region ?_
      refine at_val rfl rfl rfl (r_move rfl) ?_
      obtain ⟨t10, ht10, hF⟩ := of_bindM hF
      refine at_callB Tryz.func15 rfl (by kernel_rfl) rfl rfl (fun w hw => callB_of_call0 (field_Name_ok _ _ ht10 w (hg_field_names.on hw.below))) ?_
      refine at_val rfl rfl rfl (r_move rfl) ?_
      refine at_val rfl rfl rfl (r_seql rfl rfl) ?_
      refine at_val rfl rfl rfl (r_move rfl) ?_
      rcases of_ite hF with ⟨h11, hF⟩ | ⟨h11, hF⟩
      · refine at_fix (g := 20) rfl h11 ?_
        refine at_guard_yes rfl rfl rfl ?_
        refine at_val rfl rfl rfl (r_move rfl) ?_
        refine at_guard_yes rfl rfl rfl ?_
        obtain ⟨t12, ht12, hF⟩ := of_bindM hF
        refine at_callB Tryz.func16 rfl (by kernel_rfl) rfl rfl (fun w hw => callB_of_call0 (field_Word_ok _ _ ht12 w (hg_field_names.on hw.below))) ?_
        refine at_guard_yes rfl rfl rfl ?_
        refine at_val rfl rfl rfl (r_move rfl) ?_
        refine at_guard_yes rfl rfl rfl ?_
        obtain ⟨t13, ht13, hF⟩ := of_bindM hF
        refine at_callB Tryz.func17 rfl (by kernel_rfl) rfl rfl (fun w hw => crawlwayref37_Word_ok _ _ ht13 w) ?_
        refine at_guard_yes rfl rfl rfl ?_
        refine at_val rfl rfl rfl (r_ieql rfl rfl) ?_
        refine at_val rfl rfl rfl (r_pick rfl rfl rfl) ?_
        refine at_val rfl rfl rfl (r_move rfl) ?_
        rcases of_ite hF with ⟨h14, hF⟩ | ⟨h14, hF⟩
        · refine at_fix (g := 27) rfl h14 ?_
          refine at_guard_yes rfl rfl rfl ?_
          refine at_val rfl rfl rfl (r_move rfl) ?_
          refine at_guard_yes rfl rfl rfl ?_
          refine at_val rfl rfl rfl (r_seql rfl rfl) ?_
          refine at_guard_yes rfl rfl rfl ?_
          refine at_val rfl rfl rfl (r_move rfl) ?_
          rcases of_ite hF with ⟨h15, hF⟩ | ⟨h15, hF⟩
          · refine at_fix (g := 30) rfl h15 ?_
            refine at_guard_no rfl rfl rfl rfl rfl ?_
            refine at_guard_no rfl rfl rfl rfl rfl ?_
            refine at_guard_no rfl rfl rfl rfl rfl ?_
            refine at_guard_no rfl rfl rfl rfl rfl ?_
            refine at_guard_yes rfl rfl rfl ?_
            refine at_val rfl rfl rfl (r_pick rfl rfl rfl) ?_
            refine at_val rfl rfl rfl (r_pick rfl rfl rfl) ?_
            refine at_val rfl rfl rfl (r_move rfl) ?_
            refine at_guard_yes rfl rfl rfl ?_
            obtain ⟨t16, ht16, hF⟩ := of_bindM hF
            refine at_callB Tryz.func18 rfl (by kernel_rfl) rfl rfl (fun w hw => crawlwaylaw37_alive_ok  _ ht16 w (hg_field_names.on hw.below) (hg_strconv_ErrRange.on hw.below) (hg_strconv_ErrSyntax.on hw.below)) ?_
            refine at_val rfl rfl rfl (r_pick rfl rfl rfl) ?_
            refine at_val rfl rfl rfl (r_assign rfl) ?_
            refine at_nil ?_
            refine at_weak [(4, _)] ⟨rfl, trivial⟩ ?_
            refine at_then_normal ?_
            refine at_ret ?_
            have K := of_some hF
            subst K
            exact at_return1 rfl rfl (fun w1 hw => ⟨rfl, hw.below⟩)
          · refine at_fix (g := 30) rfl h15 ?_
            refine at_guard_yes rfl rfl rfl ?_
            refine at_val rfl rfl rfl (r_move rfl) ?_
            refine at_guard_yes rfl rfl rfl ?_
            obtain ⟨t17, ht17, hF⟩ := of_bindM hF
            refine at_callB Tryz.func16 rfl (by kernel_rfl) rfl rfl (fun w hw => callB_of_call0 (field_Word_ok _ _ ht17 w (hg_field_names.on hw.below))) ?_
            refine at_guard_yes rfl rfl rfl ?_
            refine at_val rfl rfl rfl (r_move rfl) ?_
            refine at_guard_yes rfl rfl rfl ?_
            refine at_val rfl rfl rfl (r_ieql rfl rfl) ?_
            refine at_guard_yes rfl rfl rfl ?_
            refine at_val rfl rfl rfl (r_pick rfl rfl rfl) ?_
            refine at_val rfl rfl rfl (r_pick rfl rfl rfl) ?_
            refine at_val rfl rfl rfl (r_move rfl) ?_
            rcases of_ite hF with ⟨h18, hF⟩ | ⟨h18, hF⟩
            · refine at_fix (g := 37) rfl h18 ?_
              refine at_guard_yes rfl rfl rfl ?_
              obtain ⟨t19, ht19, hF⟩ := of_bindM hF
              refine at_callB Tryz.func18 rfl (by kernel_rfl) rfl rfl (fun w hw => crawlwaylaw37_alive_ok  _ ht19 w (hg_field_names.on hw.below) (hg_strconv_ErrRange.on hw.below) (hg_strconv_ErrSyntax.on hw.below)) ?_
              refine at_val rfl rfl rfl (r_pick rfl rfl rfl) ?_
              refine at_val rfl rfl rfl (r_assign rfl) ?_
              refine at_nil ?_
              refine at_weak [(4, _)] ⟨rfl, trivial⟩ ?_
              refine at_then_normal ?_
              refine at_ret ?_
              have K := of_some hF
              subst K
              exact at_return1 rfl rfl (fun w1 hw => ⟨rfl, hw.below⟩)
            · refine at_fix (g := 37) rfl h18 ?_
              refine at_guard_no rfl rfl rfl rfl rfl ?_
              refine at_val rfl rfl rfl (r_pick rfl rfl rfl) ?_
              refine at_val rfl rfl rfl (r_assign rfl) ?_
              refine at_nil ?_
              refine at_weak [(4, _)] ⟨rfl, trivial⟩ ?_
              refine at_then_normal ?_
              refine at_ret ?_
              have K := of_some hF
              subst K
              exact at_return1 rfl rfl (fun w1 hw => ⟨rfl, hw.below⟩)
        · refine at_fix (g := 27) rfl h14 ?_
          refine at_guard_no rfl rfl rfl rfl rfl ?_
          refine at_guard_no rfl rfl rfl rfl rfl ?_
          refine at_guard_no rfl rfl rfl rfl rfl ?_
          refine at_guard_undef rfl rfl rfl rfl ?_
          refine at_guard_undef rfl rfl rfl rfl ?_
          refine at_guard_undef rfl rfl rfl rfl ?_
          refine at_guard_undef rfl rfl rfl rfl ?_
          refine at_guard_no rfl rfl rfl rfl rfl ?_
          refine at_val rfl rfl rfl (r_pick rfl rfl rfl) ?_
          refine at_val rfl rfl rfl (r_move rfl) ?_
          refine at_guard_no rfl rfl rfl rfl rfl ?_
          refine at_val rfl rfl rfl (r_pick rfl rfl rfl) ?_
          refine at_val rfl rfl rfl (r_assign rfl) ?_
          refine at_nil ?_
          refine at_weak [(4, _)] ⟨rfl, trivial⟩ ?_
          refine at_then_normal ?_
          refine at_ret ?_
          have K := of_some hF
          subst K
          exact at_return1 rfl rfl (fun w1 hw => ⟨rfl, hw.below⟩)
      · refine at_fix (g := 20) rfl h11 ?_
        refine at_guard_no rfl rfl rfl rfl rfl ?_
        refine at_guard_no rfl rfl rfl rfl rfl ?_
        refine at_guard_no rfl rfl rfl rfl rfl ?_
        refine at_guard_no rfl rfl rfl rfl rfl ?_
        refine at_guard_no rfl rfl rfl rfl rfl ?_
        refine at_val rfl rfl rfl (r_pick rfl rfl rfl) ?_
        refine at_val rfl rfl rfl (r_move rfl) ?_
        refine at_guard_no rfl rfl rfl rfl rfl ?_
        refine at_guard_no rfl rfl rfl rfl rfl ?_
        refine at_guard_no rfl rfl rfl rfl rfl ?_
        refine at_guard_undef rfl rfl rfl rfl ?_
        refine at_guard_undef rfl rfl rfl rfl ?_
        refine at_guard_undef rfl rfl rfl rfl ?_
        refine at_guard_undef rfl rfl rfl rfl ?_
        refine at_guard_no rfl rfl rfl rfl rfl ?_
        refine at_val rfl rfl rfl (r_pick rfl rfl rfl) ?_
        refine at_val rfl rfl rfl (r_move rfl) ?_
        refine at_guard_no rfl rfl rfl rfl rfl ?_
        refine at_val rfl rfl rfl (r_pick rfl rfl rfl) ?_
        refine at_val rfl rfl rfl (r_assign rfl) ?_
        refine at_nil ?_
        refine at_weak [(4, _)] ⟨rfl, trivial⟩ ?_
        refine at_then_normal ?_
        refine at_ret ?_
        have K := of_some hF
        subst K
        exact at_return1 rfl rfl (fun w1 hw => ⟨rfl, hw.below⟩)
    · refine at_cond_false rfl h2 ?_
      refine at_skip ?_
      refine at_then_normal ?_
      refine at_seq ?_
      refine at_region ?_
      refine at_val rfl rfl rfl (r_move rfl) ?_
      obtain ⟨t20, ht20, hF⟩ := of_bindM hF
      refine at_callB Tryz.func15 rfl (by kernel_rfl) rfl rfl (fun w hw => callB_of_call0 (field_Name_ok _ _ ht20 w (hg_field_names.on hw.below))) ?_
      refine at_val rfl rfl rfl (r_move rfl) ?_
      refine at_val rfl rfl rfl (r_seql rfl rfl) ?_
      refine at_val rfl rfl rfl (r_move rfl) ?_
      rcases of_ite hF with ⟨h21, hF⟩ | ⟨h21, hF⟩
      · refine at_fix (g := 20) rfl h21 ?_
        refine at_guard_yes rfl rfl rfl ?_
        refine at_val rfl rfl rfl (r_move rfl) ?_
        refine at_guard_yes rfl rfl rfl ?_
        obtain ⟨t22, ht22, hF⟩ := of_bindM hF
        refine at_callB Tryz.func16 rfl (by kernel_rfl) rfl rfl (fun w hw => callB_of_call0 (field_Word_ok _ _ ht22 w (hg_field_names.on hw.below))) ?_
        refine at_guard_yes rfl rfl rfl ?_
        refine at_val rfl rfl rfl (r_move rfl) ?_
        refine at_guard_yes rfl rfl rfl ?_
        obtain ⟨t23, ht23, hF⟩ := of_bindM hF
        refine at_callB Tryz.func17 rfl (by kernel_rfl) rfl rfl (fun w hw => crawlwayref37_Word_ok _ _ ht23 w) ?_
        refine at_guard_yes rfl rfl rfl ?_
        refine at_val rfl rfl rfl (r_ieql rfl rfl) ?_
        refine at_val rfl rfl rfl (r_pick rfl rfl rfl) ?_
        refine at_val rfl rfl rfl (r_move rfl) ?_
        rcases of_ite hF with ⟨h24, hF⟩ | ⟨h24, hF⟩
        · refine at_fix (g := 27) rfl h24 ?_
          refine at_guard_yes rfl rfl rfl ?_
          refine at_val rfl rfl rfl (r_move rfl) ?_
          refine at_guard_yes rfl rfl rfl ?_
          refine at_val rfl rfl rfl (r_seql rfl rfl) ?_
          refine at_guard_yes rfl rfl rfl ?_
          refine at_val rfl rfl rfl (r_move rfl) ?_
          rcases of_ite hF with ⟨h25, hF⟩ | ⟨h25, hF⟩
          · refine at_fix (g := 30) rfl h25 ?_
            refine at_guard_no rfl rfl rfl rfl rfl ?_
            refine at_guard_no rfl rfl rfl rfl rfl ?_
            refine at_guard_no rfl rfl rfl rfl rfl ?_
            refine at_guard_no rfl rfl rfl rfl rfl ?_
            refine at_guard_yes rfl rfl rfl ?_
            refine at_val rfl rfl rfl (r_pick rfl rfl rfl) ?_
            refine at_val rfl rfl rfl (r_pick rfl rfl rfl) ?_
            refine at_val rfl rfl rfl (r_move rfl) ?_
            refine at_guard_yes rfl rfl rfl ?_
            obtain ⟨t26, ht26, hF⟩ := of_bindM hF
            refine at_callB Tryz.func18 rfl (by kernel_rfl) rfl rfl (fun w hw => crawlwaylaw37_alive_ok  _ ht26 w (hg_field_names.on hw.below) (hg_strconv_ErrRange.on hw.below) (hg_strconv_ErrSyntax.on hw.below)) ?_
            refine at_val rfl rfl rfl (r_pick rfl rfl rfl) ?_
            refine at_val rfl rfl rfl (r_assign rfl) ?_
            refine at_nil ?_
            refine at_weak [(4, _)] ⟨rfl, trivial⟩ ?_
            refine at_then_normal ?_
            refine at_ret ?_
            have K := of_some hF
            subst K
            exact at_return1 rfl rfl (fun w1 hw => ⟨rfl, hw.below⟩)
          · refine at_fix (g := 30) rfl h25 ?_
            refine at_guard_yes rfl rfl rfl ?_
            refine at_val rfl rfl rfl (r_move rfl) ?_
            refine at_guard_yes rfl rfl rfl ?_
            obtain ⟨t27, ht27, hF⟩ := of_bindM hF
            refine at_callB Tryz.func16 rfl (by kernel_rfl) rfl rfl (fun w hw => callB_of_call0 (field_Word_ok _ _ ht27 w (hg_field_names.on hw.below))) ?_
            refine at_guard_yes rfl rfl rfl ?_
            refine at_val rfl rfl rfl (r_move rfl) ?_
            refine at_guard_yes rfl rfl rfl ?_
            refine at_val rfl rfl rfl (r_ieql rfl rfl) ?_
            refine at_guard_yes rfl rfl rfl ?_
            refine at_val rfl rfl rfl (r_pick rfl rfl rfl) ?_
            refine at_val rfl rfl rfl (r_pick rfl rfl rfl) ?_
            refine at_val rfl rfl rfl (r_move rfl) ?_
            rcases of_ite hF with ⟨h28, hF⟩ | ⟨h28, hF⟩
            · refine at_fix (g := 37) rfl h28 ?_
              refine at_guard_yes rfl rfl rfl ?_
              obtain ⟨t29, ht29, hF⟩ := of_bindM hF
              refine at_callB Tryz.func18 rfl (by kernel_rfl) rfl rfl (fun w hw => crawlwaylaw37_alive_ok  _ ht29 w (hg_field_names.on hw.below) (hg_strconv_ErrRange.on hw.below) (hg_strconv_ErrSyntax.on hw.below)) ?_
              refine at_val rfl rfl rfl (r_pick rfl rfl rfl) ?_
              refine at_val rfl rfl rfl (r_assign rfl) ?_
              refine at_nil ?_
              refine at_weak [(4, _)] ⟨rfl, trivial⟩ ?_
              refine at_then_normal ?_
              refine at_ret ?_
              have K := of_some hF
              subst K
              exact at_return1 rfl rfl (fun w1 hw => ⟨rfl, hw.below⟩)
            · refine at_fix (g := 37) rfl h28 ?_
              refine at_guard_no rfl rfl rfl rfl rfl ?_
              refine at_val rfl rfl rfl (r_pick rfl rfl rfl) ?_
              refine at_val rfl rfl rfl (r_assign rfl) ?_
              refine at_nil ?_
              refine at_weak [(4, _)] ⟨rfl, trivial⟩ ?_
              refine at_then_normal ?_
              refine at_ret ?_
              have K := of_some hF
              subst K
              exact at_return1 rfl rfl (fun w1 hw => ⟨rfl, hw.below⟩)
        · refine at_fix (g := 27) rfl h24 ?_
          refine at_guard_no rfl rfl rfl rfl rfl ?_
          refine at_guard_no rfl rfl rfl rfl rfl ?_
          refine at_guard_no rfl rfl rfl rfl rfl ?_
          refine at_guard_undef rfl rfl rfl rfl ?_
          refine at_guard_undef rfl rfl rfl rfl ?_
          refine at_guard_undef rfl rfl rfl rfl ?_
          refine at_guard_undef rfl rfl rfl rfl ?_
          refine at_guard_no rfl rfl rfl rfl rfl ?_
          refine at_val rfl rfl rfl (r_pick rfl rfl rfl) ?_
          refine at_val rfl rfl rfl (r_move rfl) ?_
          refine at_guard_no rfl rfl rfl rfl rfl ?_
          refine at_val rfl rfl rfl (r_pick rfl rfl rfl) ?_
          refine at_val rfl rfl rfl (r_assign rfl) ?_
          refine at_nil ?_
          refine at_weak [(4, _)] ⟨rfl, trivial⟩ ?_
          refine at_then_normal ?_
          refine at_ret ?_
          have K := of_some hF
          subst K
          exact at_return1 rfl rfl (fun w1 hw => ⟨rfl, hw.below⟩)
      · refine at_fix (g := 20) rfl h21 ?_
        refine at_guard_no rfl rfl rfl rfl rfl ?_
        refine at_guard_no rfl rfl rfl rfl rfl ?_
        refine at_guard_no rfl rfl rfl rfl rfl ?_
        refine at_guard_no rfl rfl rfl rfl rfl ?_
        refine at_guard_no rfl rfl rfl rfl rfl ?_
        refine at_val rfl rfl rfl (r_pick rfl rfl rfl) ?_
        refine at_val rfl rfl rfl (r_move rfl) ?_
        refine at_guard_no rfl rfl rfl rfl rfl ?_
        refine at_guard_no rfl rfl rfl rfl rfl ?_
        refine at_guard_no rfl rfl rfl rfl rfl ?_
        refine at_guard_undef rfl rfl rfl rfl ?_
        refine at_guard_undef rfl rfl rfl rfl ?_
        refine at_guard_undef rfl rfl rfl rfl ?_
        refine at_guard_undef rfl rfl rfl rfl ?_
        refine at_guard_no rfl rfl rfl rfl rfl ?_
        refine at_val rfl rfl rfl (r_pick rfl rfl rfl) ?_
        refine at_val rfl rfl rfl (r_move rfl) ?_
        refine at_guard_no rfl rfl rfl rfl rfl ?_
        refine at_val rfl rfl rfl (r_pick rfl rfl rfl) ?_
        refine at_val rfl rfl rfl (r_assign rfl) ?_
        refine at_nil ?_
        refine at_weak [(4, _)] ⟨rfl, trivial⟩ ?_
        refine at_then_normal ?_
        refine at_ret ?_
        have K := of_some hF
        subst K
        exact at_return1 rfl rfl (fun w1 hw => ⟨rfl, hw.below⟩)
  · refine at_fix (g := 8) rfl h1 ?_
    refine at_guard_no rfl rfl rfl rfl rfl ?_
    refine at_guard_no rfl rfl rfl rfl rfl ?_
    refine at_val rfl rfl rfl (r_pick rfl rfl rfl) ?_
    refine at_nil ?_
    refine at_weak [(0, _), (1, _), (5, _), (11, _)] ⟨rfl, rfl, rfl, rfl, trivial⟩ ?_
    refine at_then_normal ?_
    refine at_cond_false rfl rfl ?_
    refine at_skip ?_
    refine at_then_normal ?_
    refine at_seq ?_
    refine at_region ?_
    refine at_val rfl rfl rfl (r_move rfl) ?_
    obtain ⟨t30, ht30, hF⟩ := of_bindM hF
    refine at_callB Tryz.func15 rfl (by kernel_rfl) rfl rfl (fun w hw => callB_of_call0 (field_Name_ok _ _ ht30 w (hg_field_names.on hw.below))) ?_
    refine at_val rfl rfl rfl (r_move rfl) ?_
    refine at_val rfl rfl rfl (r_seql rfl rfl) ?_
    refine at_val rfl rfl rfl (r_move rfl) ?_
    rcases of_ite hF with ⟨h31, hF⟩ | ⟨h31, hF⟩
    · refine at_fix (g := 20) rfl h31 ?_
      refine at_guard_yes rfl rfl rfl ?_
      refine at_val rfl rfl rfl (r_move rfl) ?_
      refine at_guard_yes rfl rfl rfl ?_
      obtain ⟨t32, ht32, hF⟩ := of_bindM hF
      refine at_callB Tryz.func16 rfl (by kernel_rfl) rfl rfl (fun w hw => callB_of_call0 (field_Word_ok _ _ ht32 w (hg_field_names.on hw.below))) ?_
      refine at_guard_yes rfl rfl rfl ?_
      refine at_val rfl rfl rfl (r_move rfl) ?_
      refine at_guard_yes rfl rfl rfl ?_
      obtain ⟨t33, ht33, hF⟩ := of_bindM hF
      refine at_callB Tryz.func17 rfl (by kernel_rfl) rfl rfl (fun w hw => crawlwayref37_Word_ok _ _ ht33 w) ?_
      refine at_guard_yes rfl rfl rfl ?_
      refine at_val rfl rfl rfl (r_ieql rfl rfl) ?_
      refine at_val rfl rfl rfl (r_pick rfl rfl rfl) ?_
      refine at_val rfl rfl rfl (r_move rfl) ?_
      rcases of_ite hF with ⟨h34, hF⟩ | ⟨h34, hF⟩
      · refine at_fix (g := 27) rfl h34 ?_
        refine at_guard_yes rfl rfl rfl ?_
        refine at_val rfl rfl rfl (r_move rfl) ?_
        refine at_guard_yes rfl rfl rfl ?_
        refine at_val rfl rfl rfl (r_seql rfl rfl) ?_
        refine at_guard_yes rfl rfl rfl ?_
        refine at_val rfl rfl rfl (r_move rfl) ?_
        rcases of_ite hF with ⟨h35, hF⟩ | ⟨h35, hF⟩
        · refine at_fix (g := 30) rfl h35 ?_
          refine at_guard_no rfl rfl rfl rfl rfl ?_
          refine at_guard_no rfl rfl rfl rfl rfl ?_
          refine at_guard_no rfl rfl rfl rfl rfl ?_
          refine at_guard_no rfl rfl rfl rfl rfl ?_
          refine at_guard_yes rfl rfl rfl ?_
          refine at_val rfl rfl rfl (r_pick rfl rfl rfl) ?_
          refine at_val rfl rfl rfl (r_pick rfl rfl rfl) ?_
          refine at_val rfl rfl rfl (r_move rfl) ?_
          refine at_guard_yes rfl rfl rfl ?_
          obtain ⟨t36, ht36, hF⟩ := of_bindM hF
          refine at_callB Tryz.func18 rfl (by kernel_rfl) rfl rfl (fun w hw => crawlwaylaw37_alive_ok  _ ht36 w (hg_field_names.on hw.below) (hg_strconv_ErrRange.on hw.below) (hg_strconv_ErrSyntax.on hw.below)) ?_
          refine at_val rfl rfl rfl (r_pick rfl rfl rfl) ?_
          refine at_val rfl rfl rfl (r_assign rfl) ?_
          refine at_nil ?_
          refine at_weak [(4, _)] ⟨rfl, trivial⟩ ?_
          refine at_then_normal ?_
          refine at_ret ?_
          have K := of_some hF
          subst K
          exact at_return1 rfl rfl (fun w1 hw => ⟨rfl, hw.below⟩)
        · refine at_fix (g := 30) rfl h35 ?_
          refine at_guard_yes rfl rfl rfl ?_
          refine at_val rfl rfl rfl (r_move rfl) ?_
          refine at_guard_yes rfl rfl rfl ?_
          obtain ⟨t37, ht37, hF⟩ := of_bindM hF
          refine at_callB Tryz.func16 rfl (by kernel_rfl) rfl rfl (fun w hw => callB_of_call0 (field_Word_ok _ _ ht37 w (hg_field_names.on hw.below))) ?_
          refine at_guard_yes rfl rfl rfl ?_
          refine at_val rfl rfl rfl (r_move rfl) ?_
          refine at_guard_yes rfl rfl rfl ?_
          refine at_val rfl rfl rfl (r_ieql rfl rfl) ?_
          refine at_guard_yes rfl rfl rfl ?_
          refine at_val rfl rfl rfl (r_pick rfl rfl rfl) ?_
          refine at_val rfl rfl rfl (r_pick rfl rfl rfl) ?_
          refine at_val rfl rfl rfl (r_move rfl) ?_
          rcases of_ite hF with ⟨h38, hF⟩ | ⟨h38, hF⟩
          · refine at_fix (g := 37) rfl h38 ?_
            refine at_guard_yes rfl rfl rfl ?_
            obtain ⟨t39, ht39, hF⟩ := of_bindM hF
            refine at_callB Tryz.func18 rfl (by kernel_rfl) rfl rfl (fun w hw => crawlwaylaw37_alive_ok  _ ht39 w (hg_field_names.on hw.below) (hg_strconv_ErrRange.on hw.below) (hg_strconv_ErrSyntax.on hw.below)) ?_
            refine at_val rfl rfl rfl (r_pick rfl rfl rfl) ?_
            refine at_val rfl rfl rfl (r_assign rfl) ?_
            refine at_nil ?_
            refine at_weak [(4, _)] ⟨rfl, trivial⟩ ?_
            refine at_then_normal ?_
            refine at_ret ?_
            have K := of_some hF
            subst K
            exact at_return1 rfl rfl (fun w1 hw => ⟨rfl, hw.below⟩)
          · refine at_fix (g := 37) rfl h38 ?_
            refine at_guard_no rfl rfl rfl rfl rfl ?_
            refine at_val rfl rfl rfl (r_pick rfl rfl rfl) ?_
            refine at_val rfl rfl rfl (r_assign rfl) ?_
            refine at_nil ?_
            refine at_weak [(4, _)] ⟨rfl, trivial⟩ ?_
            refine at_then_normal ?_
            refine at_ret ?_
            have K := of_some hF
            subst K
            exact at_return1 rfl rfl (fun w1 hw => ⟨rfl, hw.below⟩)
      · refine at_fix (g := 27) rfl h34 ?_
        refine at_guard_no rfl rfl rfl rfl rfl ?_
        refine at_guard_no rfl rfl rfl rfl rfl ?_
        refine at_guard_no rfl rfl rfl rfl rfl ?_
        refine at_guard_undef rfl rfl rfl rfl ?_
        refine at_guard_undef rfl rfl rfl rfl ?_
        refine at_guard_undef rfl rfl rfl rfl ?_
        refine at_guard_undef rfl rfl rfl rfl ?_
        refine at_guard_no rfl rfl rfl rfl rfl ?_
        refine at_val rfl rfl rfl (r_pick rfl rfl rfl) ?_
        refine at_val rfl rfl rfl (r_move rfl) ?_
        refine at_guard_no rfl rfl rfl rfl rfl ?_
        refine at_val rfl rfl rfl (r_pick rfl rfl rfl) ?_
        refine at_val rfl rfl rfl (r_assign rfl) ?_
        refine at_nil ?_
        refine at_weak [(4, _)] ⟨rfl, trivial⟩ ?_
        refine at_then_normal ?_
        refine at_ret ?_
        have K := of_some hF
        subst K
        exact at_return1 rfl rfl (fun w1 hw => ⟨rfl, hw.below⟩)
    · refine at_fix (g := 20) rfl h31 ?_
      refine at_guard_no rfl rfl rfl rfl rfl ?_
      refine at_guard_no rfl rfl rfl rfl rfl ?_
      refine at_guard_no rfl rfl rfl rfl rfl ?_
      refine at_guard_no rfl rfl rfl rfl rfl ?_
      refine at_guard_no rfl rfl rfl rfl rfl ?_
      refine at_val rfl rfl rfl (r_pick rfl rfl rfl) ?_
      refine at_val rfl rfl rfl (r_move rfl) ?_
      refine at_guard_no rfl rfl rfl rfl rfl ?_
      refine at_guard_no rfl rfl rfl rfl rfl ?_
      refine at_guard_no rfl rfl rfl rfl rfl ?_
      refine at_guard_undef rfl rfl rfl rfl ?_
      refine at_guard_undef rfl rfl rfl rfl ?_
      refine at_guard_undef rfl rfl rfl rfl ?_
      refine at_guard_undef rfl rfl rfl rfl ?_
      refine at_guard_no rfl rfl rfl rfl rfl ?_
      refine at_val rfl rfl rfl (r_pick rfl rfl rfl) ?_
      refine at_val rfl rfl rfl (r_move rfl) ?_
      refine at_guard_no rfl rfl rfl rfl rfl ?_
      refine at_val rfl rfl rfl (r_pick rfl rfl rfl) ?_
      refine at_val rfl rfl rfl (r_assign rfl) ?_
      refine at_nil ?_
      refine at_weak [(4, _)] ⟨rfl, trivial⟩ ?_
      refine at_then_normal ?_
      refine at_ret ?_
      have K := of_some hF
      subst K
      exact at_return1 rfl rfl (fun w1 hw => ⟨rfl, hw.below⟩)
end Go.Proofs.YtkkmmpofdcccmaaGreatDoor
