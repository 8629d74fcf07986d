/- Texts of this claim, those in one that belong together; printed by a program of this project. -/
import Derived.Test.YtkkmmpofdcccmaaGreatDoorProg
import Derived.Test.YtkkmmpofdcccmaaGreatDoorKFieldPairs2
set_option linter.unusedVariables false
set_option linter.unusedSimpArgs false
namespace Go.Proofs.YtkkmmpofdcccmaaGreatDoor
open E Go.RowKit
abbrev zqGR_0 : S_api_Endpoint := ({ f_A := ({ f_V := (0 : Int), f_B := (Vector.replicate 16 (0 : Int) : (Vector Int 16)) } : S_api_Addr), f_Port := (0 : Int) } : S_api_Endpoint)
abbrev zqGR_1 : S_api_Prefix := ({ f_A := ({ f_V := (0 : Int), f_B := (Vector.replicate 16 (0 : Int) : (Vector Int 16)) } : S_api_Addr), f_Bits := (0 : Int) } : S_api_Prefix)
abbrev zqGR_2 : S_pairline_Pair := ({ f_Key := (⟨#[]⟩ : ByteArray), f_Value := (⟨#[]⟩ : ByteArray) } : S_pairline_Pair)
def field_Read (x0 : S_pairline_Pair) : Option (S_api_Field × Int) :=
  field_Word x0.f_Key >>= fun t3 => if (({ ({ f_Word := (0 : Int), f_Key := (Vector.replicate 32 (0 : Int) : (Vector Int 32)), f_N := (0 : Int), f_End := ({ f_A := ({ f_V := (0 : Int), f_B := (Vector.replicate 16 (0 : Int) : (Vector Int 16)) } : S_api_Addr), f_Port := (0 : Int) } : S_api_Endpoint), f_P := ({ f_A := ({ f_V := (0 : Int), f_B := (Vector.replicate 16 (0 : Int) : (Vector Int 16)) } : S_api_Addr), f_Bits := (0 : Int) } : S_api_Prefix) } : S_api_Field) with f_Word := t3 }).f_Word == (0 : Int)) = true then (some (({ f_Word := (0 : Int), f_Key := (Vector.replicate 32 (0 : Int) : (Vector Int 32)), f_N := (0 : Int), f_End := ({ f_A := ({ f_V := (0 : Int), f_B := (Vector.replicate 16 (0 : Int) : (Vector Int 16)) } : S_api_Addr), f_Port := (0 : Int) } : S_api_Endpoint), f_P := ({ f_A := ({ f_V := (0 : Int), f_B := (Vector.replicate 16 (0 : Int) : (Vector Int 16)) } : S_api_Addr), f_Bits := (0 : Int) } : S_api_Prefix) } : S_api_Field), 12)) else (field_shapeOf (({ ({ f_Word := (0 : Int), f_Key := (Vector.replicate 32 (0 : Int) : (Vector Int 32)), f_N := (0 : Int), f_End := ({ f_A := ({ f_V := (0 : Int), f_B := (Vector.replicate 16 (0 : Int) : (Vector Int 16)) } : S_api_Addr), f_Port := (0 : Int) } : S_api_Endpoint), f_P := ({ f_A := ({ f_V := (0 : Int), f_B := (Vector.replicate 16 (0 : Int) : (Vector Int 16)) } : S_api_Addr), f_Bits := (0 : Int) } : S_api_Prefix) } : S_api_Field) with f_Word := t3 }).f_Word) >>= fun t6 => (match t6 with | .s0 => (field_keyed_1 x0.f_Value ({ ({ f_Word := (0 : Int), f_Key := (Vector.replicate 32 (0 : Int) : (Vector Int 32)), f_N := (0 : Int), f_End := ({ f_A := ({ f_V := (0 : Int), f_B := (Vector.replicate 16 (0 : Int) : (Vector Int 16)) } : S_api_Addr), f_Port := (0 : Int) } : S_api_Endpoint), f_P := ({ f_A := ({ f_V := (0 : Int), f_B := (Vector.replicate 16 (0 : Int) : (Vector Int 16)) } : S_api_Addr), f_Bits := (0 : Int) } : S_api_Prefix) } : S_api_Field) with f_Word := t3 }) >>= fun t7 => if (t7.1 != 0) = true then (some (({ f_Word := (0 : Int), f_Key := (Vector.replicate 32 (0 : Int) : (Vector Int 32)), f_N := (0 : Int), f_End := ({ f_A := ({ f_V := (0 : Int), f_B := (Vector.replicate 16 (0 : Int) : (Vector Int 16)) } : S_api_Addr), f_Port := (0 : Int) } : S_api_Endpoint), f_P := ({ f_A := ({ f_V := (0 : Int), f_B := (Vector.replicate 16 (0 : Int) : (Vector Int 16)) } : S_api_Addr), f_Bits := (0 : Int) } : S_api_Prefix) } : S_api_Field), t7.1)) else (some (t7.2, 0))) | .s1 => (field_ended_1 x0.f_Value ({ ({ f_Word := (0 : Int), f_Key := (Vector.replicate 32 (0 : Int) : (Vector Int 32)), f_N := (0 : Int), f_End := ({ f_A := ({ f_V := (0 : Int), f_B := (Vector.replicate 16 (0 : Int) : (Vector Int 16)) } : S_api_Addr), f_Port := (0 : Int) } : S_api_Endpoint), f_P := ({ f_A := ({ f_V := (0 : Int), f_B := (Vector.replicate 16 (0 : Int) : (Vector Int 16)) } : S_api_Addr), f_Bits := (0 : Int) } : S_api_Prefix) } : S_api_Field) with f_Word := t3 }) >>= fun t10 => if (t10.1 != 0) = true then (some (({ f_Word := (0 : Int), f_Key := (Vector.replicate 32 (0 : Int) : (Vector Int 32)), f_N := (0 : Int), f_End := ({ f_A := ({ f_V := (0 : Int), f_B := (Vector.replicate 16 (0 : Int) : (Vector Int 16)) } : S_api_Addr), f_Port := (0 : Int) } : S_api_Endpoint), f_P := ({ f_A := ({ f_V := (0 : Int), f_B := (Vector.replicate 16 (0 : Int) : (Vector Int 16)) } : S_api_Addr), f_Bits := (0 : Int) } : S_api_Prefix) } : S_api_Field), t10.1)) else (some (t10.2, 0))) | .s2 => (field_allowed_1 x0.f_Value ({ ({ f_Word := (0 : Int), f_Key := (Vector.replicate 32 (0 : Int) : (Vector Int 32)), f_N := (0 : Int), f_End := ({ f_A := ({ f_V := (0 : Int), f_B := (Vector.replicate 16 (0 : Int) : (Vector Int 16)) } : S_api_Addr), f_Port := (0 : Int) } : S_api_Endpoint), f_P := ({ f_A := ({ f_V := (0 : Int), f_B := (Vector.replicate 16 (0 : Int) : (Vector Int 16)) } : S_api_Addr), f_Bits := (0 : Int) } : S_api_Prefix) } : S_api_Field) with f_Word := t3 }) >>= fun t13 => if (t13.1 != 0) = true then (some (({ f_Word := (0 : Int), f_Key := (Vector.replicate 32 (0 : Int) : (Vector Int 32)), f_N := (0 : Int), f_End := ({ f_A := ({ f_V := (0 : Int), f_B := (Vector.replicate 16 (0 : Int) : (Vector Int 16)) } : S_api_Addr), f_Port := (0 : Int) } : S_api_Endpoint), f_P := ({ f_A := ({ f_V := (0 : Int), f_B := (Vector.replicate 16 (0 : Int) : (Vector Int 16)) } : S_api_Addr), f_Bits := (0 : Int) } : S_api_Prefix) } : S_api_Field), t13.1)) else (some (t13.2, 0))) | .s3 a16 a17 => (field_counted_1 x0.f_Value ({ ({ f_Word := (0 : Int), f_Key := (Vector.replicate 32 (0 : Int) : (Vector Int 32)), f_N := (0 : Int), f_End := ({ f_A := ({ f_V := (0 : Int), f_B := (Vector.replicate 16 (0 : Int) : (Vector Int 16)) } : S_api_Addr), f_Port := (0 : Int) } : S_api_Endpoint), f_P := ({ f_A := ({ f_V := (0 : Int), f_B := (Vector.replicate 16 (0 : Int) : (Vector Int 16)) } : S_api_Addr), f_Bits := (0 : Int) } : S_api_Prefix) } : S_api_Field) with f_Word := t3 }) a16 a17 >>= fun t20 => if (t20.1 != 0) = true then (some (({ f_Word := (0 : Int), f_Key := (Vector.replicate 32 (0 : Int) : (Vector Int 32)), f_N := (0 : Int), f_End := ({ f_A := ({ f_V := (0 : Int), f_B := (Vector.replicate 16 (0 : Int) : (Vector Int 16)) } : S_api_Addr), f_Port := (0 : Int) } : S_api_Endpoint), f_P := ({ f_A := ({ f_V := (0 : Int), f_B := (Vector.replicate 16 (0 : Int) : (Vector Int 16)) } : S_api_Addr), f_Bits := (0 : Int) } : S_api_Prefix) } : S_api_Field), t20.1)) else (some (t20.2, 0))) | .s4 => (field_said_1 x0.f_Value ({ ({ f_Word := (0 : Int), f_Key := (Vector.replicate 32 (0 : Int) : (Vector Int 32)), f_N := (0 : Int), f_End := ({ f_A := ({ f_V := (0 : Int), f_B := (Vector.replicate 16 (0 : Int) : (Vector Int 16)) } : S_api_Addr), f_Port := (0 : Int) } : S_api_Endpoint), f_P := ({ f_A := ({ f_V := (0 : Int), f_B := (Vector.replicate 16 (0 : Int) : (Vector Int 16)) } : S_api_Addr), f_Bits := (0 : Int) } : S_api_Prefix) } : S_api_Field) with f_Word := t3 }) >>= fun t23 => if (t23.1 != 0) = true then (some (({ f_Word := (0 : Int), f_Key := (Vector.replicate 32 (0 : Int) : (Vector Int 32)), f_N := (0 : Int), f_End := ({ f_A := ({ f_V := (0 : Int), f_B := (Vector.replicate 16 (0 : Int) : (Vector Int 16)) } : S_api_Addr), f_Port := (0 : Int) } : S_api_Endpoint), f_P := ({ f_A := ({ f_V := (0 : Int), f_B := (Vector.replicate 16 (0 : Int) : (Vector Int 16)) } : S_api_Addr), f_Bits := (0 : Int) } : S_api_Prefix) } : S_api_Field), t23.1)) else (some (t23.2, 0)))))
set_option maxHeartbeats 3200000 in
theorem field_Read_ok (x0 : S_pairline_Pair) (r : S_api_Field × Int) (hF : field_Read x0 = some r) (w : World) (hg_bytealg_MaxLen : GV_bytealg_MaxLen w) (hg_field_names : GV_field_names w) (hg_strconv_ErrRange : GV_strconv_ErrRange w) (hg_strconv_ErrSyntax : GV_strconv_ErrSyntax w) (hg_strconv_uint64pow10 : GV_strconv_uint64pow10 w) :
    Calls Tryz.prog 19 #[.agg (Cd.cs c_pairline_Pair x0).toArray] w (fun e w' => e = .returned (.tuple #[.agg (Cd.cs c_api_Field r.1).toArray, .int .i64 r.2]) ∧ Below w.heap.size w w') := by
 unfold field_Read at hF
 refine calls_enter (l := [.agg (Cd.cs c_pairline_Pair x0).toArray]) Tryz.func19 rfl rfl rfl ?_
 refine at_start ?_
 refine at_weak [(0, _)] ⟨rfl, trivial⟩ ?_
 refine sr ?_
 refine at_box (cs := Cd.cs c_pairline_Pair x0) rfl rfl rfl ?_
 intro b1
 refine at_alloc (cs := Cd.cs c_api_Field ({ f_Word := (0 : Int), f_Key := (Vector.replicate 32 (0 : Int) : (Vector Int 32)), f_N := (0 : Int), f_End := zqGR_0, f_P := zqGR_1 } : S_api_Field)) Tryz.zeroValue46 rfl rfl ?_
 intro b2
 refine av rfl (r_assign rfl) ?_
 refine nws [(1, _), (2, _)] ⟨rfl, rfl, trivial⟩ ?_
 refine av rfl (r_fieldAddr (fo := 0) Tryz.underlying51 rfl rfl (fun w => ⟨_, Tryz.sizeOf9 w⟩) rfl) ?_
 refine av rfl (r_load_cell Tryz.isAgg9 rfl (lens_cell0 (c := cStr) (y := x0.f_Key) (.s .z) (Lens.comp (Lens.whole _ _) (fun z => { x0 with f_Key := z }) (c_pairline_Pair_f_Key x0)) rfl)) ?_
 obtain ⟨t3, ht3, hF⟩ := of_bindM hF
 refine at_callB Tryz.func16 rfl (by kernel_rfl) rfl rfl (fun w hw => callB_of_call0 (field_Word_ok _ _ ht3 w (hg_field_names.on hw.below))) ?_
 refine av rfl (r_build_struct (zs := Cd.cs c_api_Field ({ f_Word := (0 : Int), f_Key := (Vector.replicate 32 (0 : Int) : (Vector Int 32)), f_N := (0 : Int), f_End := zqGR_0, f_P := zqGR_1 } : S_api_Field)) (cs := Cd.cs c_api_Field ({ ({ f_Word := (0 : Int), f_Key := (Vector.replicate 32 (0 : Int) : (Vector Int 32)), f_N := (0 : Int), f_End := zqGR_0, f_P := zqGR_1 } : S_api_Field) with f_Word := t3 })) Tryz.underlying46 Tryz.zeroValue46 rfl (places_api_Field_46) rfl (fill_step (c := (cInt .i64)) (z := t3) rfl (c_api_Field_f_Word ({ f_Word := (0 : Int), f_Key := (Vector.replicate 32 (0 : Int) : (Vector Int 32)), f_N := (0 : Int), f_End := zqGR_0, f_P := zqGR_1 } : S_api_Field)) rfl rfl)) ?_
 refine at_alloc (cs := Cd.cs c_api_Field ({ f_Word := (0 : Int), f_Key := (Vector.replicate 32 (0 : Int) : (Vector Int 32)), f_N := (0 : Int), f_End := zqGR_0, f_P := zqGR_1 } : S_api_Field)) Tryz.zeroValue46 rfl rfl ?_
 intro b4
 refine at_store (c := c_api_Field) (z := { ({ f_Word := (0 : Int), f_Key := (Vector.replicate 32 (0 : Int) : (Vector Int 32)), f_N := (0 : Int), f_End := zqGR_0, f_P := zqGR_1 } : S_api_Field) with f_Word := t3 }) .z (Lens.whole _ _) Tryz.sizeOf46 rfl rfl rfl ?_
 refine nwt [(1, _), (2, _), (4, _)] ⟨rfl, rfl, rfl, trivial⟩ ?_
 refine at_seq ?_
 refine sr ?_
 refine av rfl (r_fieldAddr (fo := 0) Tryz.underlying46 rfl rfl (fun w => ⟨_, Tryz.sizeOf3 w⟩) rfl) ?_
 refine av rfl (r_load_cell Tryz.isAgg3 rfl (lens_cell0 (c := (cInt .i64)) (y := ({ ({ f_Word := (0 : Int), f_Key := (Vector.replicate 32 (0 : Int) : (Vector Int 32)), f_N := (0 : Int), f_End := zqGR_0, f_P := zqGR_1 } : S_api_Field) with f_Word := t3 }).f_Word) .z (Lens.comp (Lens.whole _ _) (fun z => { { ({ f_Word := (0 : Int), f_Key := (Vector.replicate 32 (0 : Int) : (Vector Int 32)), f_N := (0 : Int), f_End := zqGR_0, f_P := zqGR_1 } : S_api_Field) with f_Word := t3 } with f_Word := z }) (c_api_Field_f_Word ({ ({ f_Word := (0 : Int), f_Key := (Vector.replicate 32 (0 : Int) : (Vector Int 32)), f_N := (0 : Int), f_End := zqGR_0, f_P := zqGR_1 } : S_api_Field) with f_Word := t3 }))) rfl)) ?_
 refine av rfl (r_ieql rfl rfl) ?_
 refine nwt [(1, _), (2, _), (4, _), (12, _)] ⟨rfl, rfl, rfl, rfl, trivial⟩ ?_
 rcases of_ite hF with ⟨h5, hF⟩ | ⟨h5, hF⟩
 ·refine at_cond_true rfl h5 ?_
  refine sr ?_
  refine av rfl (r_build_struct (zs := Cd.cs c_api_Field ({ f_Word := (0 : Int), f_Key := (Vector.replicate 32 (0 : Int) : (Vector Int 32)), f_N := (0 : Int), f_End := zqGR_0, f_P := zqGR_1 } : S_api_Field)) (cs := Cd.cs c_api_Field ({ f_Word := (0 : Int), f_Key := (Vector.replicate 32 (0 : Int) : (Vector Int 32)), f_N := (0 : Int), f_End := zqGR_0, f_P := zqGR_1 } : S_api_Field)) Tryz.underlying46 Tryz.zeroValue46 rfl (places_api_Field_46) rfl rfl) ?_
  refine at_store (c := c_api_Field) (z := ({ f_Word := (0 : Int), f_Key := (Vector.replicate 32 (0 : Int) : (Vector Int 32)), f_N := (0 : Int), f_End := zqGR_0, f_P := zqGR_1 } : S_api_Field)) (.s .z) (Lens.whole _ _) Tryz.sizeOf46 rfl rfl rfl ?_
  refine av rfl (r_assign rfl) ?_
  refine at_nil ?_
  refine at_drop (H := _) .z ?_
  refine at_drop (H := _) (.s .z) ?_
  refine at_weak [(2, _), (3, _)] ⟨rfl, rfl, trivial⟩ ?_
  refine at_then_normal ?_
  refine rt ?_
  have K := of_some hF
  subst K
  exact at_res2 rfl (res_cell (c := c_api_Field) (y := ({ f_Word := (0 : Int), f_Key := (Vector.replicate 32 (0 : Int) : (Vector Int 32)), f_N := (0 : Int), f_End := zqGR_0, f_P := zqGR_1 } : S_api_Field)) rfl .z (Lens.whole _ _) Tryz.isAgg46 Tryz.sizeOf46 (.inl rfl)) (res_tmp rfl) (fun w1 hw => ⟨rfl, hw.below⟩)
 ·refine at_cond_false rfl h5 ?_
  refine sn ?_
  refine at_seq ?_
  refine at_seq ?_
  refine at_weak [(1, _), (2, _), (4, _)] ⟨rfl, rfl, rfl, trivial⟩ ?_
  obtain ⟨t6, ht6, hF⟩ := of_bindM hF
  cases t6 with
  | s0 =>
   obtain ⟨t7, ht7, hF⟩ := of_bindM hF
   refine at_inv [.q 14 (fun g8 => .pointer (some ⟨b4, 0 + 0, none⟩)) [] 0 0, .q 15 (fun g8 => .int .i64 (({ ({ f_Word := (0 : Int), f_Key := (Vector.replicate 32 (0 : Int) : (Vector Int 32)), f_N := (0 : Int), f_End := zqGR_0, f_P := zqGR_1 } : S_api_Field) with f_Word := t3 }).f_Word)) [0] 0 0, .q 16 (fun g8 => .agg #[.func (.func 93) #[] #[], .func (.func 95) #[] #[], .func (.func 97) #[] #[]]) [1] 0 0, .q 17 (fun g8 => .func (.func 93) #[] #[]) [2] 0 0, .q 18 (fun g8 => .pointer (some ⟨b1, 0 + 1, none⟩)) [] 0 0, .q 19 (fun g8 => .string x0.f_Value) [4] 0 0, .st 0 (some (20, fun g8 => .int .i64 t7.1)) [3, 5], .q 5 (fun g8 => .int .i64 t7.1) [6] 1 1] (fun g8 s => match s with | 0 => (Wd w [cellsE b4 (Cd.cs c_api_Field ({ ({ f_Word := (0 : Int), f_Key := (Vector.replicate 32 (0 : Int) : (Vector Int 32)), f_N := (0 : Int), f_End := zqGR_0, f_P := zqGR_1 } : S_api_Field) with f_Word := t3 })) 46, cellsE b2 (Cd.cs c_api_Field ({ f_Word := (0 : Int), f_Key := (Vector.replicate 32 (0 : Int) : (Vector Int 32)), f_N := (0 : Int), f_End := zqGR_0, f_P := zqGR_1 } : S_api_Field)) 46, cellsE b1 (Cd.cs c_pairline_Pair x0) 51]) | _ => (Wd w [cellsE b4 (Cd.cs c_api_Field t7.2) 46, cellsE b2 (Cd.cs c_api_Field ({ f_Word := (0 : Int), f_Key := (Vector.replicate 32 (0 : Int) : (Vector Int 32)), f_N := (0 : Int), f_End := zqGR_0, f_P := zqGR_1 } : S_api_Field)) 46, cellsE b1 (Cd.cs c_pairline_Pair x0) 51])) 1 (by kernel_rfl) (by kernel_rfl) (by kernel_rfl) (by kernel_rfl) (by kernel_rfl) ⟨fun _ _ _ => rfl, fun _ _ _ => rfl, fun _ _ _ => rfl, fun _ _ _ => rfl, fun _ _ _ => rfl, fun _ _ _ => rfl, fun _ _ _ => rfl, fun _ _ _ => rfl, trivial⟩ (by kernel_rfl) (fun _ h => ⟨fun _ => (0, none, 0, none), h.drew⟩) ⟨?_, ?_, ?_, ?_, ?_, ?_, ?_, ?_, trivial⟩ ?_
   ·intro Lx g8 s K hl hh k
    show At 26 ((1, _) :: (2, _) :: (4, _) :: Lx) _ _
    refine av rfl (r_fieldAddr (fo := 0) Tryz.underlying46 rfl rfl (fun w => ⟨_, Tryz.sizeOf3 w⟩) rfl) ?_
    exact at_nil k
   ·intro Lx g8 s K hl hh k
    show At 26 ((14, _) :: (1, _) :: (2, _) :: (4, _) :: Lx) _ _
    obtain rfl : s = 0 := by omega
    refine av rfl (r_load_cell Tryz.isAgg3 rfl (lens_cell0 (c := (cInt .i64)) (y := ({ ({ f_Word := (0 : Int), f_Key := (Vector.replicate 32 (0 : Int) : (Vector Int 32)), f_N := (0 : Int), f_End := zqGR_0, f_P := zqGR_1 } : S_api_Field) with f_Word := t3 }).f_Word) .z (Lens.comp (Lens.whole _ _) (fun z => { { ({ f_Word := (0 : Int), f_Key := (Vector.replicate 32 (0 : Int) : (Vector Int 32)), f_N := (0 : Int), f_End := zqGR_0, f_P := zqGR_1 } : S_api_Field) with f_Word := t3 } with f_Word := z }) (c_api_Field_f_Word ({ ({ f_Word := (0 : Int), f_Key := (Vector.replicate 32 (0 : Int) : (Vector Int 32)), f_N := (0 : Int), f_End := zqGR_0, f_P := zqGR_1 } : S_api_Field) with f_Word := t3 }))) rfl)) ?_
    exact at_nil k
   ·intro Lx g8 s K hl hh k
    show At 26 ((15, _) :: (1, _) :: (2, _) :: (4, _) :: Lx) _ _
    obtain rfl : s = 0 := by omega
    refine at_callB Tryz.func37 rfl (by kernel_rfl) rfl rfl (fun w hw => (field_shapeOf_ok _ _ ht6 w).mono (by intro e w' h; obtain ⟨v, he, hv, hb⟩ := h; exact ⟨he.trans (congrArg Ending.returned hv), hb⟩)) ?_
    exact at_nil k
   ·intro Lx g8 s K hl hh k
    show At 26 ((16, _) :: (1, _) :: (2, _) :: (4, _) :: Lx) _ _
    refine av rfl (r_fieldR (fo := 0) Tryz.underlying81 rfl rfl Tryz.isAgg77 rfl rfl) ?_
    exact at_nil k
   ·intro Lx g8 s K hl hh k
    show At 26 ((1, _) :: (2, _) :: (4, _) :: Lx) _ _
    refine av rfl (r_fieldAddr (fo := 1) Tryz.underlying51 rfl rfl (fun w => ⟨_, Tryz.sizeOf9 w⟩) rfl) ?_
    exact at_nil k
   ·intro Lx g8 s K hl hh k
    show At 26 ((18, _) :: (1, _) :: (2, _) :: (4, _) :: Lx) _ _
    obtain rfl : s = 0 := by omega
    refine av rfl (r_load_cell Tryz.isAgg9 rfl (lens_cell0 (c := cStr) (y := x0.f_Value) (.s (.s .z)) (Lens.comp (Lens.whole _ _) (fun z => { x0 with f_Value := z }) (c_pairline_Pair_f_Value x0)) rfl)) ?_
    exact at_nil k
   ·intro Lx g8 K k
    show At 26 ((17, _) :: (19, _) :: (1, _) :: (2, _) :: (4, _) :: Lx) _ _
    refine at_callee rfl ?_
    refine at_callP (E' := cellsE b4 (Cd.cs c_api_Field t7.2) 46) Tryz.func93 rfl (by kernel_rfl) rfl rfl (fun w hw => field_keyed_1_ok _ _ _ _ ht7 w .z hw) ?_
    exact at_nil k
   ·intro Lx g8 s K hl hh k
    show At 26 ((20, _) :: (1, _) :: (2, _) :: (4, _) :: Lx) _ _
    refine av rfl (r_assign rfl) ?_
    exact at_nil k
   intro g8
   show At 26 [(14, _), (15, _), (16, _), (17, _), (18, _), (19, _), (20, _), (5, _), (1, _), (2, _), (4, _)] _ _
   refine at_drop (H := _) (.s (.s .z)) ?_
   refine at_weak [(2, _), (4, _), (5, _)] ⟨rfl, rfl, rfl, trivial⟩ ?_
   refine at_then_normal ?_
   refine sr ?_
   refine av rfl (r_move rfl) ?_
   refine av rfl (r_ineq rfl rfl) ?_
   refine nwt [(2, _), (4, _), (5, _), (22, _)] ⟨rfl, rfl, rfl, rfl, trivial⟩ ?_
   rcases of_ite hF with ⟨h9, hF⟩ | ⟨h9, hF⟩
   ·refine at_cond_true rfl h9 ?_
    refine sr ?_
    refine av rfl (r_build_struct (zs := Cd.cs c_api_Field ({ f_Word := (0 : Int), f_Key := (Vector.replicate 32 (0 : Int) : (Vector Int 32)), f_N := (0 : Int), f_End := zqGR_0, f_P := zqGR_1 } : S_api_Field)) (cs := Cd.cs c_api_Field ({ f_Word := (0 : Int), f_Key := (Vector.replicate 32 (0 : Int) : (Vector Int 32)), f_N := (0 : Int), f_End := zqGR_0, f_P := zqGR_1 } : S_api_Field)) Tryz.underlying46 Tryz.zeroValue46 rfl (places_api_Field_46) rfl rfl) ?_
    refine av rfl (r_move rfl) ?_
    refine at_store (c := c_api_Field) (z := ({ f_Word := (0 : Int), f_Key := (Vector.replicate 32 (0 : Int) : (Vector Int 32)), f_N := (0 : Int), f_End := zqGR_0, f_P := zqGR_1 } : S_api_Field)) (.s .z) (Lens.whole _ _) Tryz.sizeOf46 rfl rfl rfl ?_
    refine av rfl (r_assign rfl) ?_
    refine at_nil ?_
    refine at_drop (H := _) .z ?_
    refine at_weak [(2, _), (3, _)] ⟨rfl, rfl, trivial⟩ ?_
    refine at_then_normal ?_
    refine rt ?_
    have K := of_some hF
    subst K
    exact at_res2 rfl (res_cell (c := c_api_Field) (y := ({ f_Word := (0 : Int), f_Key := (Vector.replicate 32 (0 : Int) : (Vector Int 32)), f_N := (0 : Int), f_End := zqGR_0, f_P := zqGR_1 } : S_api_Field)) rfl .z (Lens.whole _ _) Tryz.isAgg46 Tryz.sizeOf46 (.inl rfl)) (res_tmp rfl) (fun w1 hw => ⟨rfl, hw.below⟩)
   ·refine at_cond_false rfl h9 ?_
    refine sns ?_
    refine av rfl (r_load_aggc (c := c_api_Field) (z := t7.2) Tryz.isAgg46 Tryz.sizeOf46 rfl (lens_cell .z (Lens.whole _ _))) ?_
    refine at_store (c := c_api_Field) (z := t7.2) (.s .z) (Lens.whole _ _) Tryz.sizeOf46 rfl rfl rfl ?_
    refine av rfl (r_assign rfl) ?_
    refine at_nil ?_
    refine at_drop (H := _) .z ?_
    refine at_weak [(2, _), (3, _)] ⟨rfl, rfl, trivial⟩ ?_
    refine at_then_normal ?_
    refine at_ret ?_
    have K := of_some hF
    subst K
    exact at_res2 rfl (res_cell (c := c_api_Field) (y := t7.2) rfl .z (Lens.whole _ _) Tryz.isAgg46 Tryz.sizeOf46 (.inl rfl)) (res_tmp rfl) (fun w1 hw => ⟨rfl, hw.below⟩)
  | s1 =>
   obtain ⟨t10, ht10, hF⟩ := of_bindM hF
   refine at_inv [.q 14 (fun g11 => .pointer (some ⟨b4, 0 + 0, none⟩)) [] 0 0, .q 15 (fun g11 => .int .i64 (({ ({ f_Word := (0 : Int), f_Key := (Vector.replicate 32 (0 : Int) : (Vector Int 32)), f_N := (0 : Int), f_End := zqGR_0, f_P := zqGR_1 } : S_api_Field) with f_Word := t3 }).f_Word)) [0] 0 0, .q 16 (fun g11 => .agg #[.func (.func 98) #[] #[], .func (.func 100) #[] #[], .func (.func 103) #[] #[]]) [1] 0 0, .q 17 (fun g11 => .func (.func 98) #[] #[]) [2] 0 0, .q 18 (fun g11 => .pointer (some ⟨b1, 0 + 1, none⟩)) [] 0 0, .q 19 (fun g11 => .string x0.f_Value) [4] 0 0, .st 0 (some (20, fun g11 => .int .i64 t10.1)) [3, 5], .q 5 (fun g11 => .int .i64 t10.1) [6] 1 1] (fun g11 s => match s with | 0 => (Wd w [cellsE b4 (Cd.cs c_api_Field ({ ({ f_Word := (0 : Int), f_Key := (Vector.replicate 32 (0 : Int) : (Vector Int 32)), f_N := (0 : Int), f_End := zqGR_0, f_P := zqGR_1 } : S_api_Field) with f_Word := t3 })) 46, cellsE b2 (Cd.cs c_api_Field ({ f_Word := (0 : Int), f_Key := (Vector.replicate 32 (0 : Int) : (Vector Int 32)), f_N := (0 : Int), f_End := zqGR_0, f_P := zqGR_1 } : S_api_Field)) 46, cellsE b1 (Cd.cs c_pairline_Pair x0) 51]) | _ => (Wd w [cellsE b4 (Cd.cs c_api_Field t10.2) 46, cellsE b2 (Cd.cs c_api_Field ({ f_Word := (0 : Int), f_Key := (Vector.replicate 32 (0 : Int) : (Vector Int 32)), f_N := (0 : Int), f_End := zqGR_0, f_P := zqGR_1 } : S_api_Field)) 46, cellsE b1 (Cd.cs c_pairline_Pair x0) 51])) 1 (by kernel_rfl) (by kernel_rfl) (by kernel_rfl) (by kernel_rfl) (by kernel_rfl) ⟨fun _ _ _ => rfl, fun _ _ _ => rfl, fun _ _ _ => rfl, fun _ _ _ => rfl, fun _ _ _ => rfl, fun _ _ _ => rfl, fun _ _ _ => rfl, fun _ _ _ => rfl, trivial⟩ (by kernel_rfl) (fun _ h => ⟨fun _ => (0, none, 0, none), h.drew⟩) ⟨?_, ?_, ?_, ?_, ?_, ?_, ?_, ?_, trivial⟩ ?_
   ·intro Lx g11 s K hl hh k
    show At 26 ((1, _) :: (2, _) :: (4, _) :: Lx) _ _
    refine av rfl (r_fieldAddr (fo := 0) Tryz.underlying46 rfl rfl (fun w => ⟨_, Tryz.sizeOf3 w⟩) rfl) ?_
    exact at_nil k
   ·intro Lx g11 s K hl hh k
    show At 26 ((14, _) :: (1, _) :: (2, _) :: (4, _) :: Lx) _ _
    obtain rfl : s = 0 := by omega
    refine av rfl (r_load_cell Tryz.isAgg3 rfl (lens_cell0 (c := (cInt .i64)) (y := ({ ({ f_Word := (0 : Int), f_Key := (Vector.replicate 32 (0 : Int) : (Vector Int 32)), f_N := (0 : Int), f_End := zqGR_0, f_P := zqGR_1 } : S_api_Field) with f_Word := t3 }).f_Word) .z (Lens.comp (Lens.whole _ _) (fun z => { { ({ f_Word := (0 : Int), f_Key := (Vector.replicate 32 (0 : Int) : (Vector Int 32)), f_N := (0 : Int), f_End := zqGR_0, f_P := zqGR_1 } : S_api_Field) with f_Word := t3 } with f_Word := z }) (c_api_Field_f_Word ({ ({ f_Word := (0 : Int), f_Key := (Vector.replicate 32 (0 : Int) : (Vector Int 32)), f_N := (0 : Int), f_End := zqGR_0, f_P := zqGR_1 } : S_api_Field) with f_Word := t3 }))) rfl)) ?_
    exact at_nil k
   ·intro Lx g11 s K hl hh k
    show At 26 ((15, _) :: (1, _) :: (2, _) :: (4, _) :: Lx) _ _
    obtain rfl : s = 0 := by omega
    refine at_callB Tryz.func37 rfl (by kernel_rfl) rfl rfl (fun w hw => (field_shapeOf_ok _ _ ht6 w).mono (by intro e w' h; obtain ⟨v, he, hv, hb⟩ := h; exact ⟨he.trans (congrArg Ending.returned hv), hb⟩)) ?_
    exact at_nil k
   ·intro Lx g11 s K hl hh k
    show At 26 ((16, _) :: (1, _) :: (2, _) :: (4, _) :: Lx) _ _
    refine av rfl (r_fieldR (fo := 0) Tryz.underlying81 rfl rfl Tryz.isAgg77 rfl rfl) ?_
    exact at_nil k
   ·intro Lx g11 s K hl hh k
    show At 26 ((1, _) :: (2, _) :: (4, _) :: Lx) _ _
    refine av rfl (r_fieldAddr (fo := 1) Tryz.underlying51 rfl rfl (fun w => ⟨_, Tryz.sizeOf9 w⟩) rfl) ?_
    exact at_nil k
   ·intro Lx g11 s K hl hh k
    show At 26 ((18, _) :: (1, _) :: (2, _) :: (4, _) :: Lx) _ _
    obtain rfl : s = 0 := by omega
    refine av rfl (r_load_cell Tryz.isAgg9 rfl (lens_cell0 (c := cStr) (y := x0.f_Value) (.s (.s .z)) (Lens.comp (Lens.whole _ _) (fun z => { x0 with f_Value := z }) (c_pairline_Pair_f_Value x0)) rfl)) ?_
    exact at_nil k
   ·intro Lx g11 K k
    show At 26 ((17, _) :: (19, _) :: (1, _) :: (2, _) :: (4, _) :: Lx) _ _
    refine at_callee rfl ?_
    refine at_callP (E' := cellsE b4 (Cd.cs c_api_Field t10.2) 46) Tryz.func98 rfl (by kernel_rfl) rfl rfl (fun w hw => field_ended_1_ok _ _ _ _ ht10 w .z hw hg_bytealg_MaxLen hg_strconv_ErrRange hg_strconv_ErrSyntax) ?_
    exact at_nil k
   ·intro Lx g11 s K hl hh k
    show At 26 ((20, _) :: (1, _) :: (2, _) :: (4, _) :: Lx) _ _
    refine av rfl (r_assign rfl) ?_
    exact at_nil k
   intro g11
   show At 26 [(14, _), (15, _), (16, _), (17, _), (18, _), (19, _), (20, _), (5, _), (1, _), (2, _), (4, _)] _ _
   refine at_drop (H := _) (.s (.s .z)) ?_
   refine at_weak [(2, _), (4, _), (5, _)] ⟨rfl, rfl, rfl, trivial⟩ ?_
   refine at_then_normal ?_
   refine sr ?_
   refine av rfl (r_move rfl) ?_
   refine av rfl (r_ineq rfl rfl) ?_
   refine nwt [(2, _), (4, _), (5, _), (22, _)] ⟨rfl, rfl, rfl, rfl, trivial⟩ ?_
   rcases of_ite hF with ⟨h12, hF⟩ | ⟨h12, hF⟩
   ·refine at_cond_true rfl h12 ?_
    refine sr ?_
    refine av rfl (r_build_struct (zs := Cd.cs c_api_Field ({ f_Word := (0 : Int), f_Key := (Vector.replicate 32 (0 : Int) : (Vector Int 32)), f_N := (0 : Int), f_End := zqGR_0, f_P := zqGR_1 } : S_api_Field)) (cs := Cd.cs c_api_Field ({ f_Word := (0 : Int), f_Key := (Vector.replicate 32 (0 : Int) : (Vector Int 32)), f_N := (0 : Int), f_End := zqGR_0, f_P := zqGR_1 } : S_api_Field)) Tryz.underlying46 Tryz.zeroValue46 rfl (places_api_Field_46) rfl rfl) ?_
    refine av rfl (r_move rfl) ?_
    refine at_store (c := c_api_Field) (z := ({ f_Word := (0 : Int), f_Key := (Vector.replicate 32 (0 : Int) : (Vector Int 32)), f_N := (0 : Int), f_End := zqGR_0, f_P := zqGR_1 } : S_api_Field)) (.s .z) (Lens.whole _ _) Tryz.sizeOf46 rfl rfl rfl ?_
    refine av rfl (r_assign rfl) ?_
    refine at_nil ?_
    refine at_drop (H := _) .z ?_
    refine at_weak [(2, _), (3, _)] ⟨rfl, rfl, trivial⟩ ?_
    refine at_then_normal ?_
    refine rt ?_
    have K := of_some hF
    subst K
    exact at_res2 rfl (res_cell (c := c_api_Field) (y := ({ f_Word := (0 : Int), f_Key := (Vector.replicate 32 (0 : Int) : (Vector Int 32)), f_N := (0 : Int), f_End := zqGR_0, f_P := zqGR_1 } : S_api_Field)) rfl .z (Lens.whole _ _) Tryz.isAgg46 Tryz.sizeOf46 (.inl rfl)) (res_tmp rfl) (fun w1 hw => ⟨rfl, hw.below⟩)
   ·refine at_cond_false rfl h12 ?_
    refine sns ?_
    refine av rfl (r_load_aggc (c := c_api_Field) (z := t10.2) Tryz.isAgg46 Tryz.sizeOf46 rfl (lens_cell .z (Lens.whole _ _))) ?_
    refine at_store (c := c_api_Field) (z := t10.2) (.s .z) (Lens.whole _ _) Tryz.sizeOf46 rfl rfl rfl ?_
    refine av rfl (r_assign rfl) ?_
    refine at_nil ?_
    refine at_drop (H := _) .z ?_
    refine at_weak [(2, _), (3, _)] ⟨rfl, rfl, trivial⟩ ?_
    refine at_then_normal ?_
    refine at_ret ?_
    have K := of_some hF
    subst K
    exact at_res2 rfl (res_cell (c := c_api_Field) (y := t10.2) rfl .z (Lens.whole _ _) Tryz.isAgg46 Tryz.sizeOf46 (.inl rfl)) (res_tmp rfl) (fun w1 hw => ⟨rfl, hw.below⟩)
  | s2 =>
   obtain ⟨t13, ht13, hF⟩ := of_bindM hF
   refine at_inv [.q 14 (fun g14 => .pointer (some ⟨b4, 0 + 0, none⟩)) [] 0 0, .q 15 (fun g14 => .int .i64 (({ ({ f_Word := (0 : Int), f_Key := (Vector.replicate 32 (0 : Int) : (Vector Int 32)), f_N := (0 : Int), f_End := zqGR_0, f_P := zqGR_1 } : S_api_Field) with f_Word := t3 }).f_Word)) [0] 0 0, .q 16 (fun g14 => .agg #[.func (.func 104) #[] #[], .func (.func 106) #[] #[], .func (.func 109) #[] #[]]) [1] 0 0, .q 17 (fun g14 => .func (.func 104) #[] #[]) [2] 0 0, .q 18 (fun g14 => .pointer (some ⟨b1, 0 + 1, none⟩)) [] 0 0, .q 19 (fun g14 => .string x0.f_Value) [4] 0 0, .st 0 (some (20, fun g14 => .int .i64 t13.1)) [3, 5], .q 5 (fun g14 => .int .i64 t13.1) [6] 1 1] (fun g14 s => match s with | 0 => (Wd w [cellsE b4 (Cd.cs c_api_Field ({ ({ f_Word := (0 : Int), f_Key := (Vector.replicate 32 (0 : Int) : (Vector Int 32)), f_N := (0 : Int), f_End := zqGR_0, f_P := zqGR_1 } : S_api_Field) with f_Word := t3 })) 46, cellsE b2 (Cd.cs c_api_Field ({ f_Word := (0 : Int), f_Key := (Vector.replicate 32 (0 : Int) : (Vector Int 32)), f_N := (0 : Int), f_End := zqGR_0, f_P := zqGR_1 } : S_api_Field)) 46, cellsE b1 (Cd.cs c_pairline_Pair x0) 51]) | _ => (Wd w [cellsE b4 (Cd.cs c_api_Field t13.2) 46, cellsE b2 (Cd.cs c_api_Field ({ f_Word := (0 : Int), f_Key := (Vector.replicate 32 (0 : Int) : (Vector Int 32)), f_N := (0 : Int), f_End := zqGR_0, f_P := zqGR_1 } : S_api_Field)) 46, cellsE b1 (Cd.cs c_pairline_Pair x0) 51])) 1 (by kernel_rfl) (by kernel_rfl) (by kernel_rfl) (by kernel_rfl) (by kernel_rfl) ⟨fun _ _ _ => rfl, fun _ _ _ => rfl, fun _ _ _ => rfl, fun _ _ _ => rfl, fun _ _ _ => rfl, fun _ _ _ => rfl, fun _ _ _ => rfl, fun _ _ _ => rfl, trivial⟩ (by kernel_rfl) (fun _ h => ⟨fun _ => (0, none, 0, none), h.drew⟩) ⟨?_, ?_, ?_, ?_, ?_, ?_, ?_, ?_, trivial⟩ ?_
   ·intro Lx g14 s K hl hh k
    show At 26 ((1, _) :: (2, _) :: (4, _) :: Lx) _ _
    refine av rfl (r_fieldAddr (fo := 0) Tryz.underlying46 rfl rfl (fun w => ⟨_, Tryz.sizeOf3 w⟩) rfl) ?_
    exact at_nil k
   ·intro Lx g14 s K hl hh k
    show At 26 ((14, _) :: (1, _) :: (2, _) :: (4, _) :: Lx) _ _
    obtain rfl : s = 0 := by omega
    refine av rfl (r_load_cell Tryz.isAgg3 rfl (lens_cell0 (c := (cInt .i64)) (y := ({ ({ f_Word := (0 : Int), f_Key := (Vector.replicate 32 (0 : Int) : (Vector Int 32)), f_N := (0 : Int), f_End := zqGR_0, f_P := zqGR_1 } : S_api_Field) with f_Word := t3 }).f_Word) .z (Lens.comp (Lens.whole _ _) (fun z => { { ({ f_Word := (0 : Int), f_Key := (Vector.replicate 32 (0 : Int) : (Vector Int 32)), f_N := (0 : Int), f_End := zqGR_0, f_P := zqGR_1 } : S_api_Field) with f_Word := t3 } with f_Word := z }) (c_api_Field_f_Word ({ ({ f_Word := (0 : Int), f_Key := (Vector.replicate 32 (0 : Int) : (Vector Int 32)), f_N := (0 : Int), f_End := zqGR_0, f_P := zqGR_1 } : S_api_Field) with f_Word := t3 }))) rfl)) ?_
    exact at_nil k
   ·intro Lx g14 s K hl hh k
    show At 26 ((15, _) :: (1, _) :: (2, _) :: (4, _) :: Lx) _ _
    obtain rfl : s = 0 := by omega
    refine at_callB Tryz.func37 rfl (by kernel_rfl) rfl rfl (fun w hw => (field_shapeOf_ok _ _ ht6 w).mono (by intro e w' h; obtain ⟨v, he, hv, hb⟩ := h; exact ⟨he.trans (congrArg Ending.returned hv), hb⟩)) ?_
    exact at_nil k
   ·intro Lx g14 s K hl hh k
    show At 26 ((16, _) :: (1, _) :: (2, _) :: (4, _) :: Lx) _ _
    refine av rfl (r_fieldR (fo := 0) Tryz.underlying81 rfl rfl Tryz.isAgg77 rfl rfl) ?_
    exact at_nil k
   ·intro Lx g14 s K hl hh k
    show At 26 ((1, _) :: (2, _) :: (4, _) :: Lx) _ _
    refine av rfl (r_fieldAddr (fo := 1) Tryz.underlying51 rfl rfl (fun w => ⟨_, Tryz.sizeOf9 w⟩) rfl) ?_
    exact at_nil k
   ·intro Lx g14 s K hl hh k
    show At 26 ((18, _) :: (1, _) :: (2, _) :: (4, _) :: Lx) _ _
    obtain rfl : s = 0 := by omega
    refine av rfl (r_load_cell Tryz.isAgg9 rfl (lens_cell0 (c := cStr) (y := x0.f_Value) (.s (.s .z)) (Lens.comp (Lens.whole _ _) (fun z => { x0 with f_Value := z }) (c_pairline_Pair_f_Value x0)) rfl)) ?_
    exact at_nil k
   ·intro Lx g14 K k
    show At 26 ((17, _) :: (19, _) :: (1, _) :: (2, _) :: (4, _) :: Lx) _ _
    refine at_callee rfl ?_
    refine at_callP (E' := cellsE b4 (Cd.cs c_api_Field t13.2) 46) Tryz.func104 rfl (by kernel_rfl) rfl rfl (fun w hw => field_allowed_1_ok _ _ _ _ ht13 w .z hw hg_strconv_ErrRange hg_strconv_ErrSyntax) ?_
    exact at_nil k
   ·intro Lx g14 s K hl hh k
    show At 26 ((20, _) :: (1, _) :: (2, _) :: (4, _) :: Lx) _ _
    refine av rfl (r_assign rfl) ?_
    exact at_nil k
   intro g14
   show At 26 [(14, _), (15, _), (16, _), (17, _), (18, _), (19, _), (20, _), (5, _), (1, _), (2, _), (4, _)] _ _
   refine at_drop (H := _) (.s (.s .z)) ?_
   refine at_weak [(2, _), (4, _), (5, _)] ⟨rfl, rfl, rfl, trivial⟩ ?_
   refine at_then_normal ?_
   refine sr ?_
   refine av rfl (r_move rfl) ?_
   refine av rfl (r_ineq rfl rfl) ?_
   refine nwt [(2, _), (4, _), (5, _), (22, _)] ⟨rfl, rfl, rfl, rfl, trivial⟩ ?_
   rcases of_ite hF with ⟨h15, hF⟩ | ⟨h15, hF⟩
   ·refine at_cond_true rfl h15 ?_
    refine sr ?_
    refine av rfl (r_build_struct (zs := Cd.cs c_api_Field ({ f_Word := (0 : Int), f_Key := (Vector.replicate 32 (0 : Int) : (Vector Int 32)), f_N := (0 : Int), f_End := zqGR_0, f_P := zqGR_1 } : S_api_Field)) (cs := Cd.cs c_api_Field ({ f_Word := (0 : Int), f_Key := (Vector.replicate 32 (0 : Int) : (Vector Int 32)), f_N := (0 : Int), f_End := zqGR_0, f_P := zqGR_1 } : S_api_Field)) Tryz.underlying46 Tryz.zeroValue46 rfl (places_api_Field_46) rfl rfl) ?_
    refine av rfl (r_move rfl) ?_
    refine at_store (c := c_api_Field) (z := ({ f_Word := (0 : Int), f_Key := (Vector.replicate 32 (0 : Int) : (Vector Int 32)), f_N := (0 : Int), f_End := zqGR_0, f_P := zqGR_1 } : S_api_Field)) (.s .z) (Lens.whole _ _) Tryz.sizeOf46 rfl rfl rfl ?_
    refine av rfl (r_assign rfl) ?_
    refine at_nil ?_
    refine at_drop (H := _) .z ?_
    refine at_weak [(2, _), (3, _)] ⟨rfl, rfl, trivial⟩ ?_
    refine at_then_normal ?_
    refine rt ?_
    have K := of_some hF
    subst K
    exact at_res2 rfl (res_cell (c := c_api_Field) (y := ({ f_Word := (0 : Int), f_Key := (Vector.replicate 32 (0 : Int) : (Vector Int 32)), f_N := (0 : Int), f_End := zqGR_0, f_P := zqGR_1 } : S_api_Field)) rfl .z (Lens.whole _ _) Tryz.isAgg46 Tryz.sizeOf46 (.inl rfl)) (res_tmp rfl) (fun w1 hw => ⟨rfl, hw.below⟩)
   ·refine at_cond_false rfl h15 ?_
    refine sns ?_
    refine av rfl (r_load_aggc (c := c_api_Field) (z := t13.2) Tryz.isAgg46 Tryz.sizeOf46 rfl (lens_cell .z (Lens.whole _ _))) ?_
    refine at_store (c := c_api_Field) (z := t13.2) (.s .z) (Lens.whole _ _) Tryz.sizeOf46 rfl rfl rfl ?_
    refine av rfl (r_assign rfl) ?_
    refine at_nil ?_
    refine at_drop (H := _) .z ?_
    refine at_weak [(2, _), (3, _)] ⟨rfl, rfl, trivial⟩ ?_
    refine at_then_normal ?_
    refine at_ret ?_
    have K := of_some hF
    subst K
    exact at_res2 rfl (res_cell (c := c_api_Field) (y := t13.2) rfl .z (Lens.whole _ _) Tryz.isAgg46 Tryz.sizeOf46 (.inl rfl)) (res_tmp rfl) (fun w1 hw => ⟨rfl, hw.below⟩)
  | s3 a16 a17 =>
   obtain ⟨t20, ht20, hF⟩ := of_bindM hF
   refine at_inv [.q 14 (fun g21 => .pointer (some ⟨b4, 0 + 0, none⟩)) [] 0 0, .q 15 (fun g21 => .int .i64 (({ ({ f_Word := (0 : Int), f_Key := (Vector.replicate 32 (0 : Int) : (Vector Int 32)), f_N := (0 : Int), f_End := zqGR_0, f_P := zqGR_1 } : S_api_Field) with f_Word := t3 }).f_Word)) [0] 0 0, .al 0 16 (fun g21 => .agg #[.func (.func 110) #[] #[.pointer (some ⟨((g21 0).1), 0, none⟩), .pointer (some ⟨((g21 0).2.2.1), 0, none⟩)], .func (.func 112) #[] #[.pointer (some ⟨((g21 0).2.2.1), 0, none⟩), .pointer (some ⟨((g21 0).1), 0, none⟩)], .func (.func 114) #[] #[]]) [1], .q 17 (fun g21 => .func (.func 110) #[] #[.pointer (some ⟨((g21 0).1), 0, none⟩), .pointer (some ⟨((g21 0).2.2.1), 0, none⟩)]) [2] 1 1, .q 18 (fun g21 => .pointer (some ⟨b1, 0 + 1, none⟩)) [] 0 1, .q 19 (fun g21 => .string x0.f_Value) [4] 0 1, .st 1 (some (20, fun g21 => .int .i64 t20.1)) [3, 5], .q 5 (fun g21 => .int .i64 t20.1) [6] 2 2] (fun g21 s => match s with | 0 => (Wd w [cellsE b4 (Cd.cs c_api_Field ({ ({ f_Word := (0 : Int), f_Key := (Vector.replicate 32 (0 : Int) : (Vector Int 32)), f_N := (0 : Int), f_End := zqGR_0, f_P := zqGR_1 } : S_api_Field) with f_Word := t3 })) 46, cellsE b2 (Cd.cs c_api_Field ({ f_Word := (0 : Int), f_Key := (Vector.replicate 32 (0 : Int) : (Vector Int 32)), f_N := (0 : Int), f_End := zqGR_0, f_P := zqGR_1 } : S_api_Field)) 46, cellsE b1 (Cd.cs c_pairline_Pair x0) 51]) | 1 => (Wd w [cellsE ((g21 0).1) (Cd.cs (cInt .u64) a16) 31, cellsE ((g21 0).2.2.1) (Cd.cs (cInt .u64) a17) 31, cellsE b4 (Cd.cs c_api_Field ({ ({ f_Word := (0 : Int), f_Key := (Vector.replicate 32 (0 : Int) : (Vector Int 32)), f_N := (0 : Int), f_End := zqGR_0, f_P := zqGR_1 } : S_api_Field) with f_Word := t3 })) 46, cellsE b2 (Cd.cs c_api_Field ({ f_Word := (0 : Int), f_Key := (Vector.replicate 32 (0 : Int) : (Vector Int 32)), f_N := (0 : Int), f_End := zqGR_0, f_P := zqGR_1 } : S_api_Field)) 46, cellsE b1 (Cd.cs c_pairline_Pair x0) 51]) | _ => (Wd w [cellsE ((g21 0).1) (Cd.cs (cInt .u64) a16) 31, cellsE ((g21 0).2.2.1) (Cd.cs (cInt .u64) a17) 31, cellsE b4 (Cd.cs c_api_Field t20.2) 46, cellsE b2 (Cd.cs c_api_Field ({ f_Word := (0 : Int), f_Key := (Vector.replicate 32 (0 : Int) : (Vector Int 32)), f_N := (0 : Int), f_End := zqGR_0, f_P := zqGR_1 } : S_api_Field)) 46, cellsE b1 (Cd.cs c_pairline_Pair x0) 51])) 2 (by kernel_rfl) (by kernel_rfl) (by kernel_rfl) (by kernel_rfl) (by kernel_rfl) ⟨fun _ _ _ => rfl, fun _ _ _ => rfl, fun g21 g2 h => by show (.agg #[.func (.func 110) #[] #[.pointer (some ⟨((g21 0).1), 0, none⟩), .pointer (some ⟨((g21 0).2.2.1), 0, none⟩)], .func (.func 112) #[] #[.pointer (some ⟨((g21 0).2.2.1), 0, none⟩), .pointer (some ⟨((g21 0).1), 0, none⟩)], .func (.func 114) #[] #[]] : Value) = .agg #[.func (.func 110) #[] #[.pointer (some ⟨((g2 0).1), 0, none⟩), .pointer (some ⟨((g2 0).2.2.1), 0, none⟩)], .func (.func 112) #[] #[.pointer (some ⟨((g2 0).2.2.1), 0, none⟩), .pointer (some ⟨((g2 0).1), 0, none⟩)], .func (.func 114) #[] #[]]; rw [h 0 (show 0 < 1 by decide)], fun g21 g2 h => by show (.func (.func 110) #[] #[.pointer (some ⟨((g21 0).1), 0, none⟩), .pointer (some ⟨((g21 0).2.2.1), 0, none⟩)] : Value) = .func (.func 110) #[] #[.pointer (some ⟨((g2 0).1), 0, none⟩), .pointer (some ⟨((g2 0).2.2.1), 0, none⟩)]; rw [h 0 (show 0 < 1 by decide)], fun _ _ _ => rfl, fun _ _ _ => rfl, fun _ _ _ => rfl, fun _ _ _ => rfl, trivial⟩ (by kernel_rfl) (fun _ h => ⟨fun _ => (0, none, 0, none), h.drew⟩) ⟨?_, ?_, ?_, ?_, ?_, ?_, ?_, ?_, trivial⟩ ?_
   ·intro Lx g21 s K hl hh k
    show At 26 ((1, _) :: (2, _) :: (4, _) :: Lx) _ _
    refine av rfl (r_fieldAddr (fo := 0) Tryz.underlying46 rfl rfl (fun w => ⟨_, Tryz.sizeOf3 w⟩) rfl) ?_
    exact at_nil k
   ·intro Lx g21 s K hl hh k
    show At 26 ((14, _) :: (1, _) :: (2, _) :: (4, _) :: Lx) _ _
    obtain rfl : s = 0 := by omega
    refine av rfl (r_load_cell Tryz.isAgg3 rfl (lens_cell0 (c := (cInt .i64)) (y := ({ ({ f_Word := (0 : Int), f_Key := (Vector.replicate 32 (0 : Int) : (Vector Int 32)), f_N := (0 : Int), f_End := zqGR_0, f_P := zqGR_1 } : S_api_Field) with f_Word := t3 }).f_Word) .z (Lens.comp (Lens.whole _ _) (fun z => { { ({ f_Word := (0 : Int), f_Key := (Vector.replicate 32 (0 : Int) : (Vector Int 32)), f_N := (0 : Int), f_End := zqGR_0, f_P := zqGR_1 } : S_api_Field) with f_Word := t3 } with f_Word := z }) (c_api_Field_f_Word ({ ({ f_Word := (0 : Int), f_Key := (Vector.replicate 32 (0 : Int) : (Vector Int 32)), f_N := (0 : Int), f_End := zqGR_0, f_P := zqGR_1 } : S_api_Field) with f_Word := t3 }))) rfl)) ?_
    exact at_nil k
   ·intro Lx g21 K k
    show At 26 ((15, _) :: (1, _) :: (2, _) :: (4, _) :: Lx) _ _
    refine at_callC2 (c1 := [.int .u64 a16]) (c2 := [.int .u64 a17]) (t1 := 31) (t2 := 31) (V := fun v_1 v_2 => .agg #[.func (.func 110) #[] #[.pointer (some ⟨v_1, 0, none⟩), .pointer (some ⟨v_2, 0, none⟩)], .func (.func 112) #[] #[.pointer (some ⟨v_2, 0, none⟩), .pointer (some ⟨v_1, 0, none⟩)], .func (.func 114) #[] #[]]) Tryz.func37 rfl (by kernel_rfl) rfl rfl (fun w hw => (field_shapeOf_ok _ _ ht6 w).mono (by intro e w' h; obtain ⟨v, he, hv, hb⟩ := h; obtain ⟨c0, c1, hv, hr⟩ := hv; exact ⟨c0, c1, he.trans (congrArg Ending.returned hv), hr, hb⟩)) ?_
    intro b18 b19
    exact at_nil (k (b18, none, b19, none))
   ·intro Lx g21 s K hl hh k
    show At 26 ((16, _) :: (1, _) :: (2, _) :: (4, _) :: Lx) _ _
    refine av rfl (r_fieldR (fo := 0) Tryz.underlying81 rfl rfl Tryz.isAgg77 rfl rfl) ?_
    exact at_nil k
   ·intro Lx g21 s K hl hh k
    show At 26 ((1, _) :: (2, _) :: (4, _) :: Lx) _ _
    refine av rfl (r_fieldAddr (fo := 1) Tryz.underlying51 rfl rfl (fun w => ⟨_, Tryz.sizeOf9 w⟩) rfl) ?_
    exact at_nil k
   ·intro Lx g21 s K hl hh k
    show At 26 ((18, _) :: (1, _) :: (2, _) :: (4, _) :: Lx) _ _
    rcases (by omega : s = 0 ∨ s = 1) with rfl | rfl
    ·skip
     refine av rfl (r_load_cell Tryz.isAgg9 rfl (lens_cell0 (c := cStr) (y := x0.f_Value) (.s (.s .z)) (Lens.comp (Lens.whole _ _) (fun z => { x0 with f_Value := z }) (c_pairline_Pair_f_Value x0)) rfl)) ?_
     exact at_nil k
    ·skip
     refine av rfl (r_load_cell Tryz.isAgg9 rfl (lens_cell0 (c := cStr) (y := x0.f_Value) (.s (.s (.s (.s .z)))) (Lens.comp (Lens.whole _ _) (fun z => { x0 with f_Value := z }) (c_pairline_Pair_f_Value x0)) rfl)) ?_
     exact at_nil k
   ·intro Lx g21 K k
    show At 26 ((17, _) :: (19, _) :: (1, _) :: (2, _) :: (4, _) :: Lx) _ _
    refine at_calleeC (caps := [.pointer (some ⟨((g21 0).1), 0, none⟩), .pointer (some ⟨((g21 0).2.2.1), 0, none⟩)]) rfl ?_
    refine at_callP (E' := cellsE b4 (Cd.cs c_api_Field t20.2) 46) Tryz.func110 rfl (by kernel_rfl) rfl rfl (fun w hw => field_counted_1_ok _ _ _ _ _ _ _ _ ht20 w (.s (.s .z)) hw (fun X_ w_ h => cells_get (h.ok (Upd.mem .z)) 0 _ rfl) (fun X_ w_ h => cells_get (h.ok (Upd.mem (.s .z))) 0 _ rfl) hg_strconv_ErrRange hg_strconv_ErrSyntax) ?_
    exact at_nil k
   ·intro Lx g21 s K hl hh k
    show At 26 ((20, _) :: (1, _) :: (2, _) :: (4, _) :: Lx) _ _
    refine av rfl (r_assign rfl) ?_
    exact at_nil k
   intro g21
   show At 26 [(14, _), (15, _), (16, _), (17, _), (18, _), (19, _), (20, _), (5, _), (1, _), (2, _), (4, _)] _ _
   refine at_drop (H := _) .z ?_
   refine at_drop (H := _) .z ?_
   refine at_drop (H := _) (.s (.s .z)) ?_
   refine at_weak [(2, _), (4, _), (5, _)] ⟨rfl, rfl, rfl, trivial⟩ ?_
   refine at_then_normal ?_
   refine sr ?_
   refine av rfl (r_move rfl) ?_
   refine av rfl (r_ineq rfl rfl) ?_
   refine nwt [(2, _), (4, _), (5, _), (22, _)] ⟨rfl, rfl, rfl, rfl, trivial⟩ ?_
   rcases of_ite hF with ⟨h22, hF⟩ | ⟨h22, hF⟩
   ·refine at_cond_true rfl h22 ?_
    refine sr ?_
    refine av rfl (r_build_struct (zs := Cd.cs c_api_Field ({ f_Word := (0 : Int), f_Key := (Vector.replicate 32 (0 : Int) : (Vector Int 32)), f_N := (0 : Int), f_End := zqGR_0, f_P := zqGR_1 } : S_api_Field)) (cs := Cd.cs c_api_Field ({ f_Word := (0 : Int), f_Key := (Vector.replicate 32 (0 : Int) : (Vector Int 32)), f_N := (0 : Int), f_End := zqGR_0, f_P := zqGR_1 } : S_api_Field)) Tryz.underlying46 Tryz.zeroValue46 rfl (places_api_Field_46) rfl rfl) ?_
    refine av rfl (r_move rfl) ?_
    refine at_store (c := c_api_Field) (z := ({ f_Word := (0 : Int), f_Key := (Vector.replicate 32 (0 : Int) : (Vector Int 32)), f_N := (0 : Int), f_End := zqGR_0, f_P := zqGR_1 } : S_api_Field)) (.s .z) (Lens.whole _ _) Tryz.sizeOf46 rfl rfl rfl ?_
    refine av rfl (r_assign rfl) ?_
    refine at_nil ?_
    refine at_drop (H := _) .z ?_
    refine at_weak [(2, _), (3, _)] ⟨rfl, rfl, trivial⟩ ?_
    refine at_then_normal ?_
    refine rt ?_
    have K := of_some hF
    subst K
    exact at_res2 rfl (res_cell (c := c_api_Field) (y := ({ f_Word := (0 : Int), f_Key := (Vector.replicate 32 (0 : Int) : (Vector Int 32)), f_N := (0 : Int), f_End := zqGR_0, f_P := zqGR_1 } : S_api_Field)) rfl .z (Lens.whole _ _) Tryz.isAgg46 Tryz.sizeOf46 (.inl rfl)) (res_tmp rfl) (fun w1 hw => ⟨rfl, hw.below⟩)
   ·refine at_cond_false rfl h22 ?_
    refine sns ?_
    refine av rfl (r_load_aggc (c := c_api_Field) (z := t20.2) Tryz.isAgg46 Tryz.sizeOf46 rfl (lens_cell .z (Lens.whole _ _))) ?_
    refine at_store (c := c_api_Field) (z := t20.2) (.s .z) (Lens.whole _ _) Tryz.sizeOf46 rfl rfl rfl ?_
    refine av rfl (r_assign rfl) ?_
    refine at_nil ?_
    refine at_drop (H := _) .z ?_
    refine at_weak [(2, _), (3, _)] ⟨rfl, rfl, trivial⟩ ?_
    refine at_then_normal ?_
    refine at_ret ?_
    have K := of_some hF
    subst K
    exact at_res2 rfl (res_cell (c := c_api_Field) (y := t20.2) rfl .z (Lens.whole _ _) Tryz.isAgg46 Tryz.sizeOf46 (.inl rfl)) (res_tmp rfl) (fun w1 hw => ⟨rfl, hw.below⟩)
  | s4 =>
   obtain ⟨t23, ht23, hF⟩ := of_bindM hF
   refine at_inv [.q 14 (fun g24 => .pointer (some ⟨b4, 0 + 0, none⟩)) [] 0 0, .q 15 (fun g24 => .int .i64 (({ ({ f_Word := (0 : Int), f_Key := (Vector.replicate 32 (0 : Int) : (Vector Int 32)), f_N := (0 : Int), f_End := zqGR_0, f_P := zqGR_1 } : S_api_Field) with f_Word := t3 }).f_Word)) [0] 0 0, .q 16 (fun g24 => .agg #[.func (.func 115) #[] #[], .func (.func 116) #[] #[], .func (.func 117) #[] #[]]) [1] 0 0, .q 17 (fun g24 => .func (.func 115) #[] #[]) [2] 0 0, .q 18 (fun g24 => .pointer (some ⟨b1, 0 + 1, none⟩)) [] 0 0, .q 19 (fun g24 => .string x0.f_Value) [4] 0 0, .st 0 (some (20, fun g24 => .int .i64 t23.1)) [3, 5], .q 5 (fun g24 => .int .i64 t23.1) [6] 1 1] (fun g24 s => match s with | 0 => (Wd w [cellsE b4 (Cd.cs c_api_Field ({ ({ f_Word := (0 : Int), f_Key := (Vector.replicate 32 (0 : Int) : (Vector Int 32)), f_N := (0 : Int), f_End := zqGR_0, f_P := zqGR_1 } : S_api_Field) with f_Word := t3 })) 46, cellsE b2 (Cd.cs c_api_Field ({ f_Word := (0 : Int), f_Key := (Vector.replicate 32 (0 : Int) : (Vector Int 32)), f_N := (0 : Int), f_End := zqGR_0, f_P := zqGR_1 } : S_api_Field)) 46, cellsE b1 (Cd.cs c_pairline_Pair x0) 51]) | _ => (Wd w [cellsE b4 (Cd.cs c_api_Field t23.2) 46, cellsE b2 (Cd.cs c_api_Field ({ f_Word := (0 : Int), f_Key := (Vector.replicate 32 (0 : Int) : (Vector Int 32)), f_N := (0 : Int), f_End := zqGR_0, f_P := zqGR_1 } : S_api_Field)) 46, cellsE b1 (Cd.cs c_pairline_Pair x0) 51])) 1 (by kernel_rfl) (by kernel_rfl) (by kernel_rfl) (by kernel_rfl) (by kernel_rfl) ⟨fun _ _ _ => rfl, fun _ _ _ => rfl, fun _ _ _ => rfl, fun _ _ _ => rfl, fun _ _ _ => rfl, fun _ _ _ => rfl, fun _ _ _ => rfl, fun _ _ _ => rfl, trivial⟩ (by kernel_rfl) (fun _ h => ⟨fun _ => (0, none, 0, none), h.drew⟩) ⟨?_, ?_, ?_, ?_, ?_, ?_, ?_, ?_, trivial⟩ ?_
   ·intro Lx g24 s K hl hh k
    show At 26 ((1, _) :: (2, _) :: (4, _) :: Lx) _ _
    refine av rfl (r_fieldAddr (fo := 0) Tryz.underlying46 rfl rfl (fun w => ⟨_, Tryz.sizeOf3 w⟩) rfl) ?_
    exact at_nil k
   ·intro Lx g24 s K hl hh k
    show At 26 ((14, _) :: (1, _) :: (2, _) :: (4, _) :: Lx) _ _
    obtain rfl : s = 0 := by omega
    refine av rfl (r_load_cell Tryz.isAgg3 rfl (lens_cell0 (c := (cInt .i64)) (y := ({ ({ f_Word := (0 : Int), f_Key := (Vector.replicate 32 (0 : Int) : (Vector Int 32)), f_N := (0 : Int), f_End := zqGR_0, f_P := zqGR_1 } : S_api_Field) with f_Word := t3 }).f_Word) .z (Lens.comp (Lens.whole _ _) (fun z => { { ({ f_Word := (0 : Int), f_Key := (Vector.replicate 32 (0 : Int) : (Vector Int 32)), f_N := (0 : Int), f_End := zqGR_0, f_P := zqGR_1 } : S_api_Field) with f_Word := t3 } with f_Word := z }) (c_api_Field_f_Word ({ ({ f_Word := (0 : Int), f_Key := (Vector.replicate 32 (0 : Int) : (Vector Int 32)), f_N := (0 : Int), f_End := zqGR_0, f_P := zqGR_1 } : S_api_Field) with f_Word := t3 }))) rfl)) ?_
    exact at_nil k
   ·intro Lx g24 s K hl hh k
    show At 26 ((15, _) :: (1, _) :: (2, _) :: (4, _) :: Lx) _ _
    obtain rfl : s = 0 := by omega
    refine at_callB Tryz.func37 rfl (by kernel_rfl) rfl rfl (fun w hw => (field_shapeOf_ok _ _ ht6 w).mono (by intro e w' h; obtain ⟨v, he, hv, hb⟩ := h; exact ⟨he.trans (congrArg Ending.returned hv), hb⟩)) ?_
    exact at_nil k
   ·intro Lx g24 s K hl hh k
    show At 26 ((16, _) :: (1, _) :: (2, _) :: (4, _) :: Lx) _ _
    refine av rfl (r_fieldR (fo := 0) Tryz.underlying81 rfl rfl Tryz.isAgg77 rfl rfl) ?_
    exact at_nil k
   ·intro Lx g24 s K hl hh k
    show At 26 ((1, _) :: (2, _) :: (4, _) :: Lx) _ _
    refine av rfl (r_fieldAddr (fo := 1) Tryz.underlying51 rfl rfl (fun w => ⟨_, Tryz.sizeOf9 w⟩) rfl) ?_
    exact at_nil k
   ·intro Lx g24 s K hl hh k
    show At 26 ((18, _) :: (1, _) :: (2, _) :: (4, _) :: Lx) _ _
    obtain rfl : s = 0 := by omega
    refine av rfl (r_load_cell Tryz.isAgg9 rfl (lens_cell0 (c := cStr) (y := x0.f_Value) (.s (.s .z)) (Lens.comp (Lens.whole _ _) (fun z => { x0 with f_Value := z }) (c_pairline_Pair_f_Value x0)) rfl)) ?_
    exact at_nil k
   ·intro Lx g24 K k
    show At 26 ((17, _) :: (19, _) :: (1, _) :: (2, _) :: (4, _) :: Lx) _ _
    refine at_callee rfl ?_
    refine at_callP (E' := cellsE b4 (Cd.cs c_api_Field t23.2) 46) Tryz.func115 rfl (by kernel_rfl) rfl rfl (fun w hw => field_said_1_ok _ _ _ _ ht23 w .z hw) ?_
    exact at_nil k
   ·intro Lx g24 s K hl hh k
    show At 26 ((20, _) :: (1, _) :: (2, _) :: (4, _) :: Lx) _ _
    refine av rfl (r_assign rfl) ?_
    exact at_nil k
   intro g24
   show At 26 [(14, _), (15, _), (16, _), (17, _), (18, _), (19, _), (20, _), (5, _), (1, _), (2, _), (4, _)] _ _
   refine at_drop (H := _) (.s (.s .z)) ?_
   refine at_weak [(2, _), (4, _), (5, _)] ⟨rfl, rfl, rfl, trivial⟩ ?_
   refine at_then_normal ?_
   refine sr ?_
   refine av rfl (r_move rfl) ?_
   refine av rfl (r_ineq rfl rfl) ?_
   refine nwt [(2, _), (4, _), (5, _), (22, _)] ⟨rfl, rfl, rfl, rfl, trivial⟩ ?_
   rcases of_ite hF with ⟨h25, hF⟩ | ⟨h25, hF⟩
   ·refine at_cond_true rfl h25 ?_
    refine sr ?_
    refine av rfl (r_build_struct (zs := Cd.cs c_api_Field ({ f_Word := (0 : Int), f_Key := (Vector.replicate 32 (0 : Int) : (Vector Int 32)), f_N := (0 : Int), f_End := zqGR_0, f_P := zqGR_1 } : S_api_Field)) (cs := Cd.cs c_api_Field ({ f_Word := (0 : Int), f_Key := (Vector.replicate 32 (0 : Int) : (Vector Int 32)), f_N := (0 : Int), f_End := zqGR_0, f_P := zqGR_1 } : S_api_Field)) Tryz.underlying46 Tryz.zeroValue46 rfl (places_api_Field_46) rfl rfl) ?_
    refine av rfl (r_move rfl) ?_
    refine at_store (c := c_api_Field) (z := ({ f_Word := (0 : Int), f_Key := (Vector.replicate 32 (0 : Int) : (Vector Int 32)), f_N := (0 : Int), f_End := zqGR_0, f_P := zqGR_1 } : S_api_Field)) (.s .z) (Lens.whole _ _) Tryz.sizeOf46 rfl rfl rfl ?_
    refine av rfl (r_assign rfl) ?_
    refine at_nil ?_
    refine at_drop (H := _) .z ?_
    refine at_weak [(2, _), (3, _)] ⟨rfl, rfl, trivial⟩ ?_
    refine at_then_normal ?_
    refine rt ?_
    have K := of_some hF
    subst K
    exact at_res2 rfl (res_cell (c := c_api_Field) (y := ({ f_Word := (0 : Int), f_Key := (Vector.replicate 32 (0 : Int) : (Vector Int 32)), f_N := (0 : Int), f_End := zqGR_0, f_P := zqGR_1 } : S_api_Field)) rfl .z (Lens.whole _ _) Tryz.isAgg46 Tryz.sizeOf46 (.inl rfl)) (res_tmp rfl) (fun w1 hw => ⟨rfl, hw.below⟩)
   ·refine at_cond_false rfl h25 ?_
    refine sns ?_
    refine av rfl (r_load_aggc (c := c_api_Field) (z := t23.2) Tryz.isAgg46 Tryz.sizeOf46 rfl (lens_cell .z (Lens.whole _ _))) ?_
    refine at_store (c := c_api_Field) (z := t23.2) (.s .z) (Lens.whole _ _) Tryz.sizeOf46 rfl rfl rfl ?_
    refine av rfl (r_assign rfl) ?_
    refine at_nil ?_
    refine at_drop (H := _) .z ?_
    refine at_weak [(2, _), (3, _)] ⟨rfl, rfl, trivial⟩ ?_
    refine at_then_normal ?_
    refine at_ret ?_
    have K := of_some hF
    subst K
    exact at_res2 rfl (res_cell (c := c_api_Field) (y := t23.2) rfl .z (Lens.whole _ _) Tryz.isAgg46 Tryz.sizeOf46 (.inl rfl)) (res_tmp rfl) (fun w1 hw => ⟨rfl, hw.below⟩)
def field_Right (x0 : S_api_Field) : Option (Bool) :=
  field_Name x0.f_Word >>= fun t2 => if (seq t2 (⟨#[]⟩ : ByteArray)) = true then (some false) else (field_shapeOf x0.f_Word >>= fun t4 => (match t4 with | .s0 => (field_keyed_2 x0 >>= fun t6 => if t6.2 = true then (field_keyed_3 x0 >>= fun t8 => some (decide (t8 = { ({ f_Word := (0 : Int), f_Key := (Vector.replicate 32 (0 : Int) : (Vector Int 32)), f_N := (0 : Int), f_End := ({ f_A := ({ f_V := (0 : Int), f_B := (Vector.replicate 16 (0 : Int) : (Vector Int 16)) } : S_api_Addr), f_Port := (0 : Int) } : S_api_Endpoint), f_P := ({ f_A := ({ f_V := (0 : Int), f_B := (Vector.replicate 16 (0 : Int) : (Vector Int 16)) } : S_api_Addr), f_Bits := (0 : Int) } : S_api_Prefix) } : S_api_Field) with f_Word := x0.f_Word }))) else (some false)) | .s1 => (field_ended_2 x0 >>= fun t10 => if t10.2 = true then (field_ended_3 x0 >>= fun t12 => some (decide (t12 = { ({ f_Word := (0 : Int), f_Key := (Vector.replicate 32 (0 : Int) : (Vector Int 32)), f_N := (0 : Int), f_End := ({ f_A := ({ f_V := (0 : Int), f_B := (Vector.replicate 16 (0 : Int) : (Vector Int 16)) } : S_api_Addr), f_Port := (0 : Int) } : S_api_Endpoint), f_P := ({ f_A := ({ f_V := (0 : Int), f_B := (Vector.replicate 16 (0 : Int) : (Vector Int 16)) } : S_api_Addr), f_Bits := (0 : Int) } : S_api_Prefix) } : S_api_Field) with f_Word := x0.f_Word }))) else (some false)) | .s2 => (field_allowed_2 x0 >>= fun t14 => if t14.2 = true then (field_allowed_3 x0 >>= fun t16 => some (decide (t16 = { ({ f_Word := (0 : Int), f_Key := (Vector.replicate 32 (0 : Int) : (Vector Int 32)), f_N := (0 : Int), f_End := ({ f_A := ({ f_V := (0 : Int), f_B := (Vector.replicate 16 (0 : Int) : (Vector Int 16)) } : S_api_Addr), f_Port := (0 : Int) } : S_api_Endpoint), f_P := ({ f_A := ({ f_V := (0 : Int), f_B := (Vector.replicate 16 (0 : Int) : (Vector Int 16)) } : S_api_Addr), f_Bits := (0 : Int) } : S_api_Prefix) } : S_api_Field) with f_Word := x0.f_Word }))) else (some false)) | .s3 a17 a18 => (field_counted_2 x0 a18 a17 >>= fun t22 => if t22.2 = true then (field_counted_3 x0 >>= fun t24 => some (decide (t24 = { ({ f_Word := (0 : Int), f_Key := (Vector.replicate 32 (0 : Int) : (Vector Int 32)), f_N := (0 : Int), f_End := ({ f_A := ({ f_V := (0 : Int), f_B := (Vector.replicate 16 (0 : Int) : (Vector Int 16)) } : S_api_Addr), f_Port := (0 : Int) } : S_api_Endpoint), f_P := ({ f_A := ({ f_V := (0 : Int), f_B := (Vector.replicate 16 (0 : Int) : (Vector Int 16)) } : S_api_Addr), f_Bits := (0 : Int) } : S_api_Prefix) } : S_api_Field) with f_Word := x0.f_Word }))) else (some false)) | .s4 => (field_said_2 x0 >>= fun t26 => if t26.2 = true then (field_said_3 x0 >>= fun t28 => some (decide (t28 = { ({ f_Word := (0 : Int), f_Key := (Vector.replicate 32 (0 : Int) : (Vector Int 32)), f_N := (0 : Int), f_End := ({ f_A := ({ f_V := (0 : Int), f_B := (Vector.replicate 16 (0 : Int) : (Vector Int 16)) } : S_api_Addr), f_Port := (0 : Int) } : S_api_Endpoint), f_P := ({ f_A := ({ f_V := (0 : Int), f_B := (Vector.replicate 16 (0 : Int) : (Vector Int 16)) } : S_api_Addr), f_Bits := (0 : Int) } : S_api_Prefix) } : S_api_Field) with f_Word := x0.f_Word }))) else (some false))))
theorem field_Right_ok (x0 : S_api_Field) (r : Bool) (hF : field_Right x0 = some r) (w : World) (hg_bytealg_MaxLen : GV_bytealg_MaxLen w) (hg_field_names : GV_field_names w) (hg_strconv_ErrRange : GV_strconv_ErrRange w) (hg_strconv_ErrSyntax : GV_strconv_ErrSyntax w) (hg_strconv_uint64pow10 : GV_strconv_uint64pow10 w) :
    Calls Tryz.prog 21 #[.agg (Cd.cs c_api_Field x0).toArray] w (fun e w' => e = .returned (.bool r) ∧ Below w.heap.size w w') := by
 unfold field_Right at hF
 refine calls_enter (l := [.agg (Cd.cs c_api_Field x0).toArray]) Tryz.func21 rfl rfl rfl ?_
 refine at_start ?_
 refine at_weak [(0, _)] ⟨rfl, trivial⟩ ?_
 refine sr ?_
 refine at_box (cs := Cd.cs c_api_Field x0) rfl rfl rfl ?_
 intro b1
 refine av rfl (r_assign rfl) ?_
 refine nwt [(1, _)] ⟨rfl, trivial⟩ ?_
 refine at_seq ?_
 refine sr ?_
 refine av rfl (r_fieldAddr (fo := 0) Tryz.underlying46 rfl rfl (fun w => ⟨_, Tryz.sizeOf3 w⟩) rfl) ?_
 refine av rfl (r_load_cell Tryz.isAgg3 rfl (lens_cell0 (c := (cInt .i64)) (y := x0.f_Word) .z (Lens.comp (Lens.whole _ _) (fun z => { x0 with f_Word := z }) (c_api_Field_f_Word x0)) rfl)) ?_
 obtain ⟨t2, ht2, hF⟩ := of_bindM hF
 refine at_callB Tryz.func15 rfl (by kernel_rfl) rfl rfl (fun w hw => callB_of_call0 (field_Name_ok _ _ ht2 w (hg_field_names.on hw.below))) ?_
 refine av rfl (r_seql rfl rfl) ?_
 refine nwt [(1, _), (9, _)] ⟨rfl, rfl, trivial⟩ ?_
 rcases of_ite hF with ⟨h3, hF⟩ | ⟨h3, hF⟩
 ·refine at_cond_true rfl h3 ?_
  refine sr ?_
  refine av rfl (r_assign rfl) ?_
  refine at_nil ?_
  refine at_drop (H := _) .z ?_
  refine at_weak [(2, _)] ⟨rfl, trivial⟩ ?_
  refine at_then_normal ?_
  refine rt ?_
  have K := of_some hF
  subst K
  exact at_return1 rfl rfl (fun w1 hw => ⟨rfl, hw.below⟩)
 ·refine at_cond_false rfl h3 ?_
  refine sns ?_
  refine av rfl (r_fieldAddr (fo := 0) Tryz.underlying46 rfl rfl (fun w => ⟨_, Tryz.sizeOf3 w⟩) rfl) ?_
  refine av rfl (r_load_cell Tryz.isAgg3 rfl (lens_cell0 (c := (cInt .i64)) (y := x0.f_Word) .z (Lens.comp (Lens.whole _ _) (fun z => { x0 with f_Word := z }) (c_api_Field_f_Word x0)) rfl)) ?_
  obtain ⟨t4, ht4, hF⟩ := of_bindM hF
  cases t4 with
  | s0 =>
   refine at_callB Tryz.func37 rfl (by kernel_rfl) rfl rfl (fun w hw => (field_shapeOf_ok _ _ ht4 w).mono (by intro e w' h; obtain ⟨v, he, hv, hb⟩ := h; exact ⟨he.trans (congrArg Ending.returned hv), hb⟩)) ?_
   refine at_alloc (cs := [.nilFunc, .nilFunc, .nilFunc]) Tryz.zeroValue81 rfl rfl ?_
   intro b5
   refine at_storeAll (k := 3) (cs := [.func (.func 93) #[] #[], .func (.func 95) #[] #[], .func (.func 97) #[] #[]]) .z (by decide) ⟨rfl, by simp [Value.oneCell']⟩ ⟨rfl, by simp [Value.oneCell']⟩ Tryz.sizeOf81 rfl rfl rfl ?_
   refine nws [(1, _), (3, _)] ⟨rfl, rfl, trivial⟩ ?_
   refine av rfl (r_fieldAddr (fo := 1) Tryz.underlying81 rfl rfl (fun w => ⟨_, Tryz.sizeOf78 w⟩) rfl) ?_
   refine av rfl (r_load_cell Tryz.isAgg78 rfl (fun w1 hw => cells_get (hw.ok (Upd.mem .z)) 1 _ rfl)) ?_
   refine av rfl (r_load_aggc (c := c_api_Field) (z := x0) Tryz.isAgg46 Tryz.sizeOf46 rfl (lens_cell (.s .z) (Lens.whole _ _))) ?_
   refine at_callee rfl ?_
   obtain ⟨t6, ht6, hF⟩ := of_bindM hF
   refine at_callB Tryz.func95 rfl (by kernel_rfl) rfl rfl (fun w hw => field_keyed_2_ok _ _ ht6 w) ?_
   refine av rfl (r_move rfl) ?_
   refine av rfl (r_extract rfl rfl) ?_
   refine av rfl (r_extract rfl rfl) ?_
   refine av rfl (r_assign rfl) ?_
   refine av rfl (r_assign rfl) ?_
   refine nwt [(1, _), (3, _), (5, _)] ⟨rfl, rfl, rfl, trivial⟩ ?_
   refine at_seq ?_
   refine at_draw (by kernel_rfl) (by kernel_rfl) (fun _ h => h.drew) ?_
   refine atq_val rfl rfl rfl (r_move rfl) ?_
   refine atq_val rfl rfl rfl (r_move rfl) ?_
   rcases of_ite hF with ⟨h7, hF⟩ | ⟨h7, hF⟩
   ·refine atq_fix (g := 21) rfl h7 ?_
    refine atq_guard_yes rfl rfl rfl ?_
    refine atq_val rfl rfl rfl (r_fieldAddr (fo := 2) Tryz.underlying81 rfl rfl (fun w => ⟨_, Tryz.sizeOf79 w⟩) rfl) ?_
    refine atq_guard_yes rfl rfl rfl ?_
    refine atq_val rfl rfl rfl (r_load_cell Tryz.isAgg79 rfl (fun w1 hw => cells_get (hw.ok (Upd.mem .z)) 2 _ rfl)) ?_
    refine atq_guard_yes rfl rfl rfl ?_
    refine atq_val rfl rfl rfl (r_load_aggc (c := c_api_Field) (z := x0) Tryz.isAgg46 Tryz.sizeOf46 rfl (lens_cell (.s .z) (Lens.whole _ _))) ?_
    refine atq_guard_yes rfl rfl rfl ?_
    refine atq_callee rfl ?_
    obtain ⟨t8, ht8, hF⟩ := of_bindM hF
    refine atq_call Tryz.func97 rfl (by kernel_rfl) rfl rfl (fun w hw => (field_keyed_3_ok _ _ ht8 w).mono fun _ _ h => ⟨h.1, hw.call h.2⟩) ?_
    refine atq_guard_yes rfl rfl rfl ?_
    refine atq_val rfl rfl rfl (r_fieldAddr (fo := 0) Tryz.underlying46 rfl rfl (fun w => ⟨_, Tryz.sizeOf3 w⟩) rfl) ?_
    refine atq_guard_yes rfl rfl rfl ?_
    refine atq_val rfl rfl rfl (r_load_cell Tryz.isAgg3 rfl (lens_cell0 (c := (cInt .i64)) (y := x0.f_Word) (.s .z) (Lens.comp (Lens.whole _ _) (fun z => { x0 with f_Word := z }) (c_api_Field_f_Word x0)) rfl)) ?_
    refine atq_guard_yes rfl rfl rfl ?_
    refine atq_val rfl rfl rfl (r_build_struct (zs := Cd.cs c_api_Field ({ f_Word := (0 : Int), f_Key := (Vector.replicate 32 (0 : Int) : (Vector Int 32)), f_N := (0 : Int), f_End := zqGR_0, f_P := zqGR_1 } : S_api_Field)) (cs := Cd.cs c_api_Field ({ ({ f_Word := (0 : Int), f_Key := (Vector.replicate 32 (0 : Int) : (Vector Int 32)), f_N := (0 : Int), f_End := zqGR_0, f_P := zqGR_1 } : S_api_Field) with f_Word := x0.f_Word })) Tryz.underlying46 Tryz.zeroValue46 rfl (places_api_Field_46) rfl (fill_step (c := (cInt .i64)) (z := x0.f_Word) rfl (c_api_Field_f_Word ({ f_Word := (0 : Int), f_Key := (Vector.replicate 32 (0 : Int) : (Vector Int 32)), f_N := (0 : Int), f_End := zqGR_0, f_P := zqGR_1 } : S_api_Field)) rfl rfl)) ?_
    refine atq_guard_yes rfl rfl rfl ?_
    refine atq_val rfl rfl rfl (r_eqagg (c := c_api_Field) (a := t8) (b := { ({ f_Word := (0 : Int), f_Key := (Vector.replicate 32 (0 : Int) : (Vector Int 32)), f_N := (0 : Int), f_End := zqGR_0, f_P := zqGR_1 } : S_api_Field) with f_Word := x0.f_Word }) (eq_api_Field_46) rfl Tryz.eqGuardType46 rfl rfl (.inl rfl) rfl) ?_
    refine atq_val rfl rfl rfl (r_pick rfl rfl rfl) ?_
    refine atq_val rfl rfl rfl (r_assign rfl) ?_
    refine atq_nil ?_
    refine at_drop (H := _) .z ?_
    refine at_drop (H := _) .z ?_
    refine at_weak [(2, _)] ⟨rfl, trivial⟩ ?_
    refine at_then_normal ?_
    refine at_ret ?_
    have K := of_some hF
    subst K
    exact at_return1 rfl rfl (fun w1 hw => ⟨rfl, hw.below⟩)
   ·refine atq_fix (g := 21) rfl h7 ?_
    refine atq_guard_no rfl rfl rfl rfl rfl ?_
    refine atq_guard_no rfl rfl rfl rfl rfl ?_
    refine atq_guard_no rfl rfl rfl rfl rfl ?_
    refine atq_guard_no rfl rfl rfl rfl rfl ?_
    refine atq_guard_no rfl rfl rfl rfl rfl ?_
    refine atq_guard_no rfl rfl rfl rfl rfl ?_
    refine atq_guard_no rfl rfl rfl rfl rfl ?_
    refine atq_guard_no rfl rfl rfl rfl rfl ?_
    refine atq_val rfl rfl rfl (r_pick rfl rfl rfl) ?_
    refine atq_val rfl rfl rfl (r_assign rfl) ?_
    refine atq_nil ?_
    refine at_drop (H := _) .z ?_
    refine at_drop (H := _) .z ?_
    refine at_weak [(2, _)] ⟨rfl, trivial⟩ ?_
    refine at_then_normal ?_
    refine at_ret ?_
    have K := of_some hF
    subst K
    exact at_return1 rfl rfl (fun w1 hw => ⟨rfl, hw.below⟩)
  | s1 =>
   refine at_callB Tryz.func37 rfl (by kernel_rfl) rfl rfl (fun w hw => (field_shapeOf_ok _ _ ht4 w).mono (by intro e w' h; obtain ⟨v, he, hv, hb⟩ := h; exact ⟨he.trans (congrArg Ending.returned hv), hb⟩)) ?_
   refine at_alloc (cs := [.nilFunc, .nilFunc, .nilFunc]) Tryz.zeroValue81 rfl rfl ?_
   intro b9
   refine at_storeAll (k := 3) (cs := [.func (.func 98) #[] #[], .func (.func 100) #[] #[], .func (.func 103) #[] #[]]) .z (by decide) ⟨rfl, by simp [Value.oneCell']⟩ ⟨rfl, by simp [Value.oneCell']⟩ Tryz.sizeOf81 rfl rfl rfl ?_
   refine nws [(1, _), (3, _)] ⟨rfl, rfl, trivial⟩ ?_
   refine av rfl (r_fieldAddr (fo := 1) Tryz.underlying81 rfl rfl (fun w => ⟨_, Tryz.sizeOf78 w⟩) rfl) ?_
   refine av rfl (r_load_cell Tryz.isAgg78 rfl (fun w1 hw => cells_get (hw.ok (Upd.mem .z)) 1 _ rfl)) ?_
   refine av rfl (r_load_aggc (c := c_api_Field) (z := x0) Tryz.isAgg46 Tryz.sizeOf46 rfl (lens_cell (.s .z) (Lens.whole _ _))) ?_
   refine at_callee rfl ?_
   obtain ⟨t10, ht10, hF⟩ := of_bindM hF
   refine at_callB Tryz.func100 rfl (by kernel_rfl) rfl rfl (fun w hw => field_ended_2_ok _ _ ht10 w (hg_strconv_uint64pow10.on hw.below)) ?_
   refine av rfl (r_move rfl) ?_
   refine av rfl (r_extract rfl rfl) ?_
   refine av rfl (r_extract rfl rfl) ?_
   refine av rfl (r_assign rfl) ?_
   refine av rfl (r_assign rfl) ?_
   refine nwt [(1, _), (3, _), (5, _)] ⟨rfl, rfl, rfl, trivial⟩ ?_
   refine at_seq ?_
   refine at_draw (by kernel_rfl) (by kernel_rfl) (fun _ h => h.drew) ?_
   refine atq_val rfl rfl rfl (r_move rfl) ?_
   refine atq_val rfl rfl rfl (r_move rfl) ?_
   rcases of_ite hF with ⟨h11, hF⟩ | ⟨h11, hF⟩
   ·refine atq_fix (g := 21) rfl h11 ?_
    refine atq_guard_yes rfl rfl rfl ?_
    refine atq_val rfl rfl rfl (r_fieldAddr (fo := 2) Tryz.underlying81 rfl rfl (fun w => ⟨_, Tryz.sizeOf79 w⟩) rfl) ?_
    refine atq_guard_yes rfl rfl rfl ?_
    refine atq_val rfl rfl rfl (r_load_cell Tryz.isAgg79 rfl (fun w1 hw => cells_get (hw.ok (Upd.mem .z)) 2 _ rfl)) ?_
    refine atq_guard_yes rfl rfl rfl ?_
    refine atq_val rfl rfl rfl (r_load_aggc (c := c_api_Field) (z := x0) Tryz.isAgg46 Tryz.sizeOf46 rfl (lens_cell (.s .z) (Lens.whole _ _))) ?_
    refine atq_guard_yes rfl rfl rfl ?_
    refine atq_callee rfl ?_
    obtain ⟨t12, ht12, hF⟩ := of_bindM hF
    refine atq_call Tryz.func103 rfl (by kernel_rfl) rfl rfl (fun w hw => (field_ended_3_ok _ _ ht12 w).mono fun _ _ h => ⟨h.1, hw.call h.2⟩) ?_
    refine atq_guard_yes rfl rfl rfl ?_
    refine atq_val rfl rfl rfl (r_fieldAddr (fo := 0) Tryz.underlying46 rfl rfl (fun w => ⟨_, Tryz.sizeOf3 w⟩) rfl) ?_
    refine atq_guard_yes rfl rfl rfl ?_
    refine atq_val rfl rfl rfl (r_load_cell Tryz.isAgg3 rfl (lens_cell0 (c := (cInt .i64)) (y := x0.f_Word) (.s .z) (Lens.comp (Lens.whole _ _) (fun z => { x0 with f_Word := z }) (c_api_Field_f_Word x0)) rfl)) ?_
    refine atq_guard_yes rfl rfl rfl ?_
    refine atq_val rfl rfl rfl (r_build_struct (zs := Cd.cs c_api_Field ({ f_Word := (0 : Int), f_Key := (Vector.replicate 32 (0 : Int) : (Vector Int 32)), f_N := (0 : Int), f_End := zqGR_0, f_P := zqGR_1 } : S_api_Field)) (cs := Cd.cs c_api_Field ({ ({ f_Word := (0 : Int), f_Key := (Vector.replicate 32 (0 : Int) : (Vector Int 32)), f_N := (0 : Int), f_End := zqGR_0, f_P := zqGR_1 } : S_api_Field) with f_Word := x0.f_Word })) Tryz.underlying46 Tryz.zeroValue46 rfl (places_api_Field_46) rfl (fill_step (c := (cInt .i64)) (z := x0.f_Word) rfl (c_api_Field_f_Word ({ f_Word := (0 : Int), f_Key := (Vector.replicate 32 (0 : Int) : (Vector Int 32)), f_N := (0 : Int), f_End := zqGR_0, f_P := zqGR_1 } : S_api_Field)) rfl rfl)) ?_
    refine atq_guard_yes rfl rfl rfl ?_
    refine atq_val rfl rfl rfl (r_eqagg (c := c_api_Field) (a := t12) (b := { ({ f_Word := (0 : Int), f_Key := (Vector.replicate 32 (0 : Int) : (Vector Int 32)), f_N := (0 : Int), f_End := zqGR_0, f_P := zqGR_1 } : S_api_Field) with f_Word := x0.f_Word }) (eq_api_Field_46) rfl Tryz.eqGuardType46 rfl rfl (.inl rfl) rfl) ?_
    refine atq_val rfl rfl rfl (r_pick rfl rfl rfl) ?_
    refine atq_val rfl rfl rfl (r_assign rfl) ?_
    refine atq_nil ?_
    refine at_drop (H := _) .z ?_
    refine at_drop (H := _) .z ?_
    refine at_weak [(2, _)] ⟨rfl, trivial⟩ ?_
    refine at_then_normal ?_
    refine at_ret ?_
    have K := of_some hF
    subst K
    exact at_return1 rfl rfl (fun w1 hw => ⟨rfl, hw.below⟩)
   ·refine atq_fix (g := 21) rfl h11 ?_
    refine atq_guard_no rfl rfl rfl rfl rfl ?_
    refine atq_guard_no rfl rfl rfl rfl rfl ?_
    refine atq_guard_no rfl rfl rfl rfl rfl ?_
    refine atq_guard_no rfl rfl rfl rfl rfl ?_
    refine atq_guard_no rfl rfl rfl rfl rfl ?_
    refine atq_guard_no rfl rfl rfl rfl rfl ?_
    refine atq_guard_no rfl rfl rfl rfl rfl ?_
    refine atq_guard_no rfl rfl rfl rfl rfl ?_
    refine atq_val rfl rfl rfl (r_pick rfl rfl rfl) ?_
    refine atq_val rfl rfl rfl (r_assign rfl) ?_
    refine atq_nil ?_
    refine at_drop (H := _) .z ?_
    refine at_drop (H := _) .z ?_
    refine at_weak [(2, _)] ⟨rfl, trivial⟩ ?_
    refine at_then_normal ?_
    refine at_ret ?_
    have K := of_some hF
    subst K
    exact at_return1 rfl rfl (fun w1 hw => ⟨rfl, hw.below⟩)
  | s2 =>
   refine at_callB Tryz.func37 rfl (by kernel_rfl) rfl rfl (fun w hw => (field_shapeOf_ok _ _ ht4 w).mono (by intro e w' h; obtain ⟨v, he, hv, hb⟩ := h; exact ⟨he.trans (congrArg Ending.returned hv), hb⟩)) ?_
   refine at_alloc (cs := [.nilFunc, .nilFunc, .nilFunc]) Tryz.zeroValue81 rfl rfl ?_
   intro b13
   refine at_storeAll (k := 3) (cs := [.func (.func 104) #[] #[], .func (.func 106) #[] #[], .func (.func 109) #[] #[]]) .z (by decide) ⟨rfl, by simp [Value.oneCell']⟩ ⟨rfl, by simp [Value.oneCell']⟩ Tryz.sizeOf81 rfl rfl rfl ?_
   refine nws [(1, _), (3, _)] ⟨rfl, rfl, trivial⟩ ?_
   refine av rfl (r_fieldAddr (fo := 1) Tryz.underlying81 rfl rfl (fun w => ⟨_, Tryz.sizeOf78 w⟩) rfl) ?_
   refine av rfl (r_load_cell Tryz.isAgg78 rfl (fun w1 hw => cells_get (hw.ok (Upd.mem .z)) 1 _ rfl)) ?_
   refine av rfl (r_load_aggc (c := c_api_Field) (z := x0) Tryz.isAgg46 Tryz.sizeOf46 rfl (lens_cell (.s .z) (Lens.whole _ _))) ?_
   refine at_callee rfl ?_
   obtain ⟨t14, ht14, hF⟩ := of_bindM hF
   refine at_callB Tryz.func106 rfl (by kernel_rfl) rfl rfl (fun w hw => field_allowed_2_ok _ _ ht14 w (hg_strconv_uint64pow10.on hw.below)) ?_
   refine av rfl (r_move rfl) ?_
   refine av rfl (r_extract rfl rfl) ?_
   refine av rfl (r_extract rfl rfl) ?_
   refine av rfl (r_assign rfl) ?_
   refine av rfl (r_assign rfl) ?_
   refine nwt [(1, _), (3, _), (5, _)] ⟨rfl, rfl, rfl, trivial⟩ ?_
   refine at_seq ?_
   refine at_draw (by kernel_rfl) (by kernel_rfl) (fun _ h => h.drew) ?_
   refine atq_val rfl rfl rfl (r_move rfl) ?_
   refine atq_val rfl rfl rfl (r_move rfl) ?_
   rcases of_ite hF with ⟨h15, hF⟩ | ⟨h15, hF⟩
   ·refine atq_fix (g := 21) rfl h15 ?_
    refine atq_guard_yes rfl rfl rfl ?_
    refine atq_val rfl rfl rfl (r_fieldAddr (fo := 2) Tryz.underlying81 rfl rfl (fun w => ⟨_, Tryz.sizeOf79 w⟩) rfl) ?_
    refine atq_guard_yes rfl rfl rfl ?_
    refine atq_val rfl rfl rfl (r_load_cell Tryz.isAgg79 rfl (fun w1 hw => cells_get (hw.ok (Upd.mem .z)) 2 _ rfl)) ?_
    refine atq_guard_yes rfl rfl rfl ?_
    refine atq_val rfl rfl rfl (r_load_aggc (c := c_api_Field) (z := x0) Tryz.isAgg46 Tryz.sizeOf46 rfl (lens_cell (.s .z) (Lens.whole _ _))) ?_
    refine atq_guard_yes rfl rfl rfl ?_
    refine atq_callee rfl ?_
    obtain ⟨t16, ht16, hF⟩ := of_bindM hF
    refine atq_call Tryz.func109 rfl (by kernel_rfl) rfl rfl (fun w hw => (field_allowed_3_ok _ _ ht16 w).mono fun _ _ h => ⟨h.1, hw.call h.2⟩) ?_
    refine atq_guard_yes rfl rfl rfl ?_
    refine atq_val rfl rfl rfl (r_fieldAddr (fo := 0) Tryz.underlying46 rfl rfl (fun w => ⟨_, Tryz.sizeOf3 w⟩) rfl) ?_
    refine atq_guard_yes rfl rfl rfl ?_
    refine atq_val rfl rfl rfl (r_load_cell Tryz.isAgg3 rfl (lens_cell0 (c := (cInt .i64)) (y := x0.f_Word) (.s .z) (Lens.comp (Lens.whole _ _) (fun z => { x0 with f_Word := z }) (c_api_Field_f_Word x0)) rfl)) ?_
    refine atq_guard_yes rfl rfl rfl ?_
    refine atq_val rfl rfl rfl (r_build_struct (zs := Cd.cs c_api_Field ({ f_Word := (0 : Int), f_Key := (Vector.replicate 32 (0 : Int) : (Vector Int 32)), f_N := (0 : Int), f_End := zqGR_0, f_P := zqGR_1 } : S_api_Field)) (cs := Cd.cs c_api_Field ({ ({ f_Word := (0 : Int), f_Key := (Vector.replicate 32 (0 : Int) : (Vector Int 32)), f_N := (0 : Int), f_End := zqGR_0, f_P := zqGR_1 } : S_api_Field) with f_Word := x0.f_Word })) Tryz.underlying46 Tryz.zeroValue46 rfl (places_api_Field_46) rfl (fill_step (c := (cInt .i64)) (z := x0.f_Word) rfl (c_api_Field_f_Word ({ f_Word := (0 : Int), f_Key := (Vector.replicate 32 (0 : Int) : (Vector Int 32)), f_N := (0 : Int), f_End := zqGR_0, f_P := zqGR_1 } : S_api_Field)) rfl rfl)) ?_
    refine atq_guard_yes rfl rfl rfl ?_
    refine atq_val rfl rfl rfl (r_eqagg (c := c_api_Field) (a := t16) (b := { ({ f_Word := (0 : Int), f_Key := (Vector.replicate 32 (0 : Int) : (Vector Int 32)), f_N := (0 : Int), f_End := zqGR_0, f_P := zqGR_1 } : S_api_Field) with f_Word := x0.f_Word }) (eq_api_Field_46) rfl Tryz.eqGuardType46 rfl rfl (.inl rfl) rfl) ?_
    refine atq_val rfl rfl rfl (r_pick rfl rfl rfl) ?_
    refine atq_val rfl rfl rfl (r_assign rfl) ?_
    refine atq_nil ?_
    refine at_drop (H := _) .z ?_
    refine at_drop (H := _) .z ?_
    refine at_weak [(2, _)] ⟨rfl, trivial⟩ ?_
    refine at_then_normal ?_
    refine at_ret ?_
    have K := of_some hF
    subst K
    exact at_return1 rfl rfl (fun w1 hw => ⟨rfl, hw.below⟩)
   ·refine atq_fix (g := 21) rfl h15 ?_
    refine atq_guard_no rfl rfl rfl rfl rfl ?_
    refine atq_guard_no rfl rfl rfl rfl rfl ?_
    refine atq_guard_no rfl rfl rfl rfl rfl ?_
    refine atq_guard_no rfl rfl rfl rfl rfl ?_
    refine atq_guard_no rfl rfl rfl rfl rfl ?_
    refine atq_guard_no rfl rfl rfl rfl rfl ?_
    refine atq_guard_no rfl rfl rfl rfl rfl ?_
    refine atq_guard_no rfl rfl rfl rfl rfl ?_
    refine atq_val rfl rfl rfl (r_pick rfl rfl rfl) ?_
    refine atq_val rfl rfl rfl (r_assign rfl) ?_
    refine atq_nil ?_
    refine at_drop (H := _) .z ?_
    refine at_drop (H := _) .z ?_
    refine at_weak [(2, _)] ⟨rfl, trivial⟩ ?_
    refine at_then_normal ?_
    refine at_ret ?_
    have K := of_some hF
    subst K
    exact at_return1 rfl rfl (fun w1 hw => ⟨rfl, hw.below⟩)
  | s3 a17 a18 =>
   refine at_callC2 (c1 := [.int .u64 a17]) (c2 := [.int .u64 a18]) (t1 := 31) (t2 := 31) (V := fun v_1 v_2 => .agg #[.func (.func 110) #[] #[.pointer (some ⟨v_1, 0, none⟩), .pointer (some ⟨v_2, 0, none⟩)], .func (.func 112) #[] #[.pointer (some ⟨v_2, 0, none⟩), .pointer (some ⟨v_1, 0, none⟩)], .func (.func 114) #[] #[]]) Tryz.func37 rfl (by kernel_rfl) rfl rfl (fun w hw => (field_shapeOf_ok _ _ ht4 w).mono (by intro e w' h; obtain ⟨v, he, hv, hb⟩ := h; obtain ⟨c0, c1, hv, hr⟩ := hv; exact ⟨c0, c1, he.trans (congrArg Ending.returned hv), hr, hb⟩)) ?_
   intro b19 b20
   refine at_alloc (cs := [.nilFunc, .nilFunc, .nilFunc]) Tryz.zeroValue81 rfl rfl ?_
   intro b21
   refine at_storeAll (k := 3) (cs := [.func (.func 110) #[] #[.pointer (some ⟨b19, 0, none⟩), .pointer (some ⟨b20, 0, none⟩)], .func (.func 112) #[] #[.pointer (some ⟨b20, 0, none⟩), .pointer (some ⟨b19, 0, none⟩)], .func (.func 114) #[] #[]]) .z (by decide) ⟨rfl, by simp [Value.oneCell']⟩ ⟨rfl, by simp [Value.oneCell']⟩ Tryz.sizeOf81 rfl rfl rfl ?_
   refine nws [(1, _), (3, _)] ⟨rfl, rfl, trivial⟩ ?_
   refine av rfl (r_fieldAddr (fo := 1) Tryz.underlying81 rfl rfl (fun w => ⟨_, Tryz.sizeOf78 w⟩) rfl) ?_
   refine av rfl (r_load_cell Tryz.isAgg78 rfl (fun w1 hw => cells_get (hw.ok (Upd.mem .z)) 1 _ rfl)) ?_
   refine av rfl (r_load_aggc (c := c_api_Field) (z := x0) Tryz.isAgg46 Tryz.sizeOf46 rfl (lens_cell (.s (.s (.s .z))) (Lens.whole _ _))) ?_
   refine at_calleeC (caps := [.pointer (some ⟨b20, 0, none⟩), .pointer (some ⟨b19, 0, none⟩)]) rfl ?_
   obtain ⟨t22, ht22, hF⟩ := of_bindM hF
   refine at_callB Tryz.func112 rfl (by kernel_rfl) rfl rfl (fun w hw => field_counted_2_ok _ _ _ _ _ _ ht22 w (cells_get (hw.ok (Upd.mem (.s (.s .z)))) 0 _ rfl) (cells_get (hw.ok (Upd.mem (.s .z))) 0 _ rfl) (hg_strconv_uint64pow10.on hw.below)) ?_
   refine av rfl (r_move rfl) ?_
   refine av rfl (r_extract rfl rfl) ?_
   refine av rfl (r_extract rfl rfl) ?_
   refine av rfl (r_assign rfl) ?_
   refine av rfl (r_assign rfl) ?_
   refine nwt [(1, _), (3, _), (5, _)] ⟨rfl, rfl, rfl, trivial⟩ ?_
   refine at_seq ?_
   refine at_draw (by kernel_rfl) (by kernel_rfl) (fun _ h => h.drew) ?_
   refine atq_val rfl rfl rfl (r_move rfl) ?_
   refine atq_val rfl rfl rfl (r_move rfl) ?_
   rcases of_ite hF with ⟨h23, hF⟩ | ⟨h23, hF⟩
   ·refine atq_fix (g := 21) rfl h23 ?_
    refine atq_guard_yes rfl rfl rfl ?_
    refine atq_val rfl rfl rfl (r_fieldAddr (fo := 2) Tryz.underlying81 rfl rfl (fun w => ⟨_, Tryz.sizeOf79 w⟩) rfl) ?_
    refine atq_guard_yes rfl rfl rfl ?_
    refine atq_val rfl rfl rfl (r_load_cell Tryz.isAgg79 rfl (fun w1 hw => cells_get (hw.ok (Upd.mem .z)) 2 _ rfl)) ?_
    refine atq_guard_yes rfl rfl rfl ?_
    refine atq_val rfl rfl rfl (r_load_aggc (c := c_api_Field) (z := x0) Tryz.isAgg46 Tryz.sizeOf46 rfl (lens_cell (.s (.s (.s .z))) (Lens.whole _ _))) ?_
    refine atq_guard_yes rfl rfl rfl ?_
    refine atq_callee rfl ?_
    obtain ⟨t24, ht24, hF⟩ := of_bindM hF
    refine atq_call Tryz.func114 rfl (by kernel_rfl) rfl rfl (fun w hw => (field_counted_3_ok _ _ ht24 w).mono fun _ _ h => ⟨h.1, hw.call h.2⟩) ?_
    refine atq_guard_yes rfl rfl rfl ?_
    refine atq_val rfl rfl rfl (r_fieldAddr (fo := 0) Tryz.underlying46 rfl rfl (fun w => ⟨_, Tryz.sizeOf3 w⟩) rfl) ?_
    refine atq_guard_yes rfl rfl rfl ?_
    refine atq_val rfl rfl rfl (r_load_cell Tryz.isAgg3 rfl (lens_cell0 (c := (cInt .i64)) (y := x0.f_Word) (.s (.s (.s .z))) (Lens.comp (Lens.whole _ _) (fun z => { x0 with f_Word := z }) (c_api_Field_f_Word x0)) rfl)) ?_
    refine atq_guard_yes rfl rfl rfl ?_
    refine atq_val rfl rfl rfl (r_build_struct (zs := Cd.cs c_api_Field ({ f_Word := (0 : Int), f_Key := (Vector.replicate 32 (0 : Int) : (Vector Int 32)), f_N := (0 : Int), f_End := zqGR_0, f_P := zqGR_1 } : S_api_Field)) (cs := Cd.cs c_api_Field ({ ({ f_Word := (0 : Int), f_Key := (Vector.replicate 32 (0 : Int) : (Vector Int 32)), f_N := (0 : Int), f_End := zqGR_0, f_P := zqGR_1 } : S_api_Field) with f_Word := x0.f_Word })) Tryz.underlying46 Tryz.zeroValue46 rfl (places_api_Field_46) rfl (fill_step (c := (cInt .i64)) (z := x0.f_Word) rfl (c_api_Field_f_Word ({ f_Word := (0 : Int), f_Key := (Vector.replicate 32 (0 : Int) : (Vector Int 32)), f_N := (0 : Int), f_End := zqGR_0, f_P := zqGR_1 } : S_api_Field)) rfl rfl)) ?_
    refine atq_guard_yes rfl rfl rfl ?_
    refine atq_val rfl rfl rfl (r_eqagg (c := c_api_Field) (a := t24) (b := { ({ f_Word := (0 : Int), f_Key := (Vector.replicate 32 (0 : Int) : (Vector Int 32)), f_N := (0 : Int), f_End := zqGR_0, f_P := zqGR_1 } : S_api_Field) with f_Word := x0.f_Word }) (eq_api_Field_46) rfl Tryz.eqGuardType46 rfl rfl (.inl rfl) rfl) ?_
    refine atq_val rfl rfl rfl (r_pick rfl rfl rfl) ?_
    refine atq_val rfl rfl rfl (r_assign rfl) ?_
    refine atq_nil ?_
    refine at_drop (H := _) .z ?_
    refine at_drop (H := _) .z ?_
    refine at_drop (H := _) .z ?_
    refine at_drop (H := _) .z ?_
    refine at_weak [(2, _)] ⟨rfl, trivial⟩ ?_
    refine at_then_normal ?_
    refine at_ret ?_
    have K := of_some hF
    subst K
    exact at_return1 rfl rfl (fun w1 hw => ⟨rfl, hw.below⟩)
   ·refine atq_fix (g := 21) rfl h23 ?_
    refine atq_guard_no rfl rfl rfl rfl rfl ?_
    refine atq_guard_no rfl rfl rfl rfl rfl ?_
    refine atq_guard_no rfl rfl rfl rfl rfl ?_
    refine atq_guard_no rfl rfl rfl rfl rfl ?_
    refine atq_guard_no rfl rfl rfl rfl rfl ?_
    refine atq_guard_no rfl rfl rfl rfl rfl ?_
    refine atq_guard_no rfl rfl rfl rfl rfl ?_
    refine atq_guard_no rfl rfl rfl rfl rfl ?_
    refine atq_val rfl rfl rfl (r_pick rfl rfl rfl) ?_
    refine atq_val rfl rfl rfl (r_assign rfl) ?_
    refine atq_nil ?_
    refine at_drop (H := _) .z ?_
    refine at_drop (H := _) .z ?_
    refine at_drop (H := _) .z ?_
    refine at_drop (H := _) .z ?_
    refine at_weak [(2, _)] ⟨rfl, trivial⟩ ?_
    refine at_then_normal ?_
    refine at_ret ?_
    have K := of_some hF
    subst K
    exact at_return1 rfl rfl (fun w1 hw => ⟨rfl, hw.below⟩)
  | s4 =>
   refine at_callB Tryz.func37 rfl (by kernel_rfl) rfl rfl (fun w hw => (field_shapeOf_ok _ _ ht4 w).mono (by intro e w' h; obtain ⟨v, he, hv, hb⟩ := h; exact ⟨he.trans (congrArg Ending.returned hv), hb⟩)) ?_
   refine at_alloc (cs := [.nilFunc, .nilFunc, .nilFunc]) Tryz.zeroValue81 rfl rfl ?_
   intro b25
   refine at_storeAll (k := 3) (cs := [.func (.func 115) #[] #[], .func (.func 116) #[] #[], .func (.func 117) #[] #[]]) .z (by decide) ⟨rfl, by simp [Value.oneCell']⟩ ⟨rfl, by simp [Value.oneCell']⟩ Tryz.sizeOf81 rfl rfl rfl ?_
   refine nws [(1, _), (3, _)] ⟨rfl, rfl, trivial⟩ ?_
   refine av rfl (r_fieldAddr (fo := 1) Tryz.underlying81 rfl rfl (fun w => ⟨_, Tryz.sizeOf78 w⟩) rfl) ?_
   refine av rfl (r_load_cell Tryz.isAgg78 rfl (fun w1 hw => cells_get (hw.ok (Upd.mem .z)) 1 _ rfl)) ?_
   refine av rfl (r_load_aggc (c := c_api_Field) (z := x0) Tryz.isAgg46 Tryz.sizeOf46 rfl (lens_cell (.s .z) (Lens.whole _ _))) ?_
   refine at_callee rfl ?_
   obtain ⟨t26, ht26, hF⟩ := of_bindM hF
   refine at_callB Tryz.func116 rfl (by kernel_rfl) rfl rfl (fun w hw => field_said_2_ok _ _ ht26 w) ?_
   refine av rfl (r_move rfl) ?_
   refine av rfl (r_extract rfl rfl) ?_
   refine av rfl (r_extract rfl rfl) ?_
   refine av rfl (r_assign rfl) ?_
   refine av rfl (r_assign rfl) ?_
   refine nwt [(1, _), (3, _), (5, _)] ⟨rfl, rfl, rfl, trivial⟩ ?_
   refine at_seq ?_
   refine at_draw (by kernel_rfl) (by kernel_rfl) (fun _ h => h.drew) ?_
   refine atq_val rfl rfl rfl (r_move rfl) ?_
   refine atq_val rfl rfl rfl (r_move rfl) ?_
   rcases of_ite hF with ⟨h27, hF⟩ | ⟨h27, hF⟩
   ·refine atq_fix (g := 21) rfl h27 ?_
    refine atq_guard_yes rfl rfl rfl ?_
    refine atq_val rfl rfl rfl (r_fieldAddr (fo := 2) Tryz.underlying81 rfl rfl (fun w => ⟨_, Tryz.sizeOf79 w⟩) rfl) ?_
    refine atq_guard_yes rfl rfl rfl ?_
    refine atq_val rfl rfl rfl (r_load_cell Tryz.isAgg79 rfl (fun w1 hw => cells_get (hw.ok (Upd.mem .z)) 2 _ rfl)) ?_
    refine atq_guard_yes rfl rfl rfl ?_
    refine atq_val rfl rfl rfl (r_load_aggc (c := c_api_Field) (z := x0) Tryz.isAgg46 Tryz.sizeOf46 rfl (lens_cell (.s .z) (Lens.whole _ _))) ?_
    refine atq_guard_yes rfl rfl rfl ?_
    refine atq_callee rfl ?_
    obtain ⟨t28, ht28, hF⟩ := of_bindM hF
    refine atq_call Tryz.func117 rfl (by kernel_rfl) rfl rfl (fun w hw => (field_said_3_ok _ _ ht28 w).mono fun _ _ h => ⟨h.1, hw.call h.2⟩) ?_
    refine atq_guard_yes rfl rfl rfl ?_
    refine atq_val rfl rfl rfl (r_fieldAddr (fo := 0) Tryz.underlying46 rfl rfl (fun w => ⟨_, Tryz.sizeOf3 w⟩) rfl) ?_
    refine atq_guard_yes rfl rfl rfl ?_
    refine atq_val rfl rfl rfl (r_load_cell Tryz.isAgg3 rfl (lens_cell0 (c := (cInt .i64)) (y := x0.f_Word) (.s .z) (Lens.comp (Lens.whole _ _) (fun z => { x0 with f_Word := z }) (c_api_Field_f_Word x0)) rfl)) ?_
    refine atq_guard_yes rfl rfl rfl ?_
    refine atq_val rfl rfl rfl (r_build_struct (zs := Cd.cs c_api_Field ({ f_Word := (0 : Int), f_Key := (Vector.replicate 32 (0 : Int) : (Vector Int 32)), f_N := (0 : Int), f_End := zqGR_0, f_P := zqGR_1 } : S_api_Field)) (cs := Cd.cs c_api_Field ({ ({ f_Word := (0 : Int), f_Key := (Vector.replicate 32 (0 : Int) : (Vector Int 32)), f_N := (0 : Int), f_End := zqGR_0, f_P := zqGR_1 } : S_api_Field) with f_Word := x0.f_Word })) Tryz.underlying46 Tryz.zeroValue46 rfl (places_api_Field_46) rfl (fill_step (c := (cInt .i64)) (z := x0.f_Word) rfl (c_api_Field_f_Word ({ f_Word := (0 : Int), f_Key := (Vector.replicate 32 (0 : Int) : (Vector Int 32)), f_N := (0 : Int), f_End := zqGR_0, f_P := zqGR_1 } : S_api_Field)) rfl rfl)) ?_
    refine atq_guard_yes rfl rfl rfl ?_
    refine atq_val rfl rfl rfl (r_eqagg (c := c_api_Field) (a := t28) (b := { ({ f_Word := (0 : Int), f_Key := (Vector.replicate 32 (0 : Int) : (Vector Int 32)), f_N := (0 : Int), f_End := zqGR_0, f_P := zqGR_1 } : S_api_Field) with f_Word := x0.f_Word }) (eq_api_Field_46) rfl Tryz.eqGuardType46 rfl rfl (.inl rfl) rfl) ?_
    refine atq_val rfl rfl rfl (r_pick rfl rfl rfl) ?_
    refine atq_val rfl rfl rfl (r_assign rfl) ?_
    refine atq_nil ?_
    refine at_drop (H := _) .z ?_
    refine at_drop (H := _) .z ?_
    refine at_weak [(2, _)] ⟨rfl, trivial⟩ ?_
    refine at_then_normal ?_
    refine at_ret ?_
    have K := of_some hF
    subst K
    exact at_return1 rfl rfl (fun w1 hw => ⟨rfl, hw.below⟩)
   ·refine atq_fix (g := 21) rfl h27 ?_
    refine atq_guard_no rfl rfl rfl rfl rfl ?_
    refine atq_guard_no rfl rfl rfl rfl rfl ?_
    refine atq_guard_no rfl rfl rfl rfl rfl ?_
    refine atq_guard_no rfl rfl rfl rfl rfl ?_
    refine atq_guard_no rfl rfl rfl rfl rfl ?_
    refine atq_guard_no rfl rfl rfl rfl rfl ?_
    refine atq_guard_no rfl rfl rfl rfl rfl ?_
    refine atq_guard_no rfl rfl rfl rfl rfl ?_
    refine atq_val rfl rfl rfl (r_pick rfl rfl rfl) ?_
    refine atq_val rfl rfl rfl (r_assign rfl) ?_
    refine atq_nil ?_
    refine at_drop (H := _) .z ?_
    refine at_drop (H := _) .z ?_
    refine at_weak [(2, _)] ⟨rfl, trivial⟩ ?_
    refine at_then_normal ?_
    refine at_ret ?_
    have K := of_some hF
    subst K
    exact at_return1 rfl rfl (fun w1 hw => ⟨rfl, hw.below⟩)
def field_Pair (x0 : S_api_Field) : Option (S_pairline_Pair × Int) :=
  field_Right x0 >>= fun t3 => if (!t3) = true then (some (({ f_Key := (⟨#[]⟩ : ByteArray), f_Value := (⟨#[]⟩ : ByteArray) } : S_pairline_Pair), 1)) else (field_shapeOf x0.f_Word >>= fun t5 => (match t5 with | .s0 => (field_keyed_2 x0 >>= fun t6 => field_Name x0.f_Word >>= fun t8 => some ({ { ({ f_Key := (⟨#[]⟩ : ByteArray), f_Value := (⟨#[]⟩ : ByteArray) } : S_pairline_Pair) with f_Key := t8 } with f_Value := t6.1 }, 0)) | .s1 => (field_ended_2 x0 >>= fun t9 => field_Name x0.f_Word >>= fun t11 => some ({ { ({ f_Key := (⟨#[]⟩ : ByteArray), f_Value := (⟨#[]⟩ : ByteArray) } : S_pairline_Pair) with f_Key := t11 } with f_Value := t9.1 }, 0)) | .s2 => (field_allowed_2 x0 >>= fun t12 => field_Name x0.f_Word >>= fun t14 => some ({ { ({ f_Key := (⟨#[]⟩ : ByteArray), f_Value := (⟨#[]⟩ : ByteArray) } : S_pairline_Pair) with f_Key := t14 } with f_Value := t12.1 }, 0)) | .s3 a15 a16 => (field_counted_2 x0 a16 a15 >>= fun t19 => field_Name x0.f_Word >>= fun t21 => some ({ { ({ f_Key := (⟨#[]⟩ : ByteArray), f_Value := (⟨#[]⟩ : ByteArray) } : S_pairline_Pair) with f_Key := t21 } with f_Value := t19.1 }, 0)) | .s4 => (field_said_2 x0 >>= fun t22 => field_Name x0.f_Word >>= fun t24 => some ({ { ({ f_Key := (⟨#[]⟩ : ByteArray), f_Value := (⟨#[]⟩ : ByteArray) } : S_pairline_Pair) with f_Key := t24 } with f_Value := t22.1 }, 0))))
set_option maxHeartbeats 3200000 in
theorem field_Pair_ok (x0 : S_api_Field) (r : S_pairline_Pair × Int) (hF : field_Pair x0 = some r) (w : World) (hg_bytealg_MaxLen : GV_bytealg_MaxLen w) (hg_field_names : GV_field_names w) (hg_strconv_ErrRange : GV_strconv_ErrRange w) (hg_strconv_ErrSyntax : GV_strconv_ErrSyntax w) (hg_strconv_uint64pow10 : GV_strconv_uint64pow10 w) :
    Calls Tryz.prog 29 #[.agg (Cd.cs c_api_Field x0).toArray] w (fun e w' => e = .returned (.tuple #[.agg (Cd.cs c_pairline_Pair r.1).toArray, .int .i64 r.2]) ∧ Below w.heap.size w w') := by
 unfold field_Pair at hF
 refine calls_enter (l := [.agg (Cd.cs c_api_Field x0).toArray]) Tryz.func29 rfl rfl rfl ?_
 refine at_start ?_
 refine at_weak [(0, _)] ⟨rfl, trivial⟩ ?_
 refine sr ?_
 refine at_box (cs := Cd.cs c_api_Field x0) rfl rfl rfl ?_
 intro b1
 refine at_alloc (cs := Cd.cs c_pairline_Pair zqGR_2) Tryz.zeroValue51 rfl rfl ?_
 intro b2
 refine av rfl (r_assign rfl) ?_
 refine nwt [(1, _), (2, _)] ⟨rfl, rfl, trivial⟩ ?_
 refine at_seq ?_
 refine sr ?_
 refine av rfl (r_load_aggc (c := c_api_Field) (z := x0) Tryz.isAgg46 Tryz.sizeOf46 rfl (lens_cell (.s .z) (Lens.whole _ _))) ?_
 obtain ⟨t3, ht3, hF⟩ := of_bindM hF
 refine at_callB Tryz.func21 rfl (by kernel_rfl) rfl rfl (fun w hw => field_Right_ok _ _ ht3 w (hg_bytealg_MaxLen.on hw.below) (hg_field_names.on hw.below) (hg_strconv_ErrRange.on hw.below) (hg_strconv_ErrSyntax.on hw.below) (hg_strconv_uint64pow10.on hw.below)) ?_
 refine av rfl (r_not rfl) ?_
 refine nwt [(1, _), (2, _), (8, _)] ⟨rfl, rfl, rfl, trivial⟩ ?_
 rcases of_ite hF with ⟨h4, hF⟩ | ⟨h4, hF⟩
 ·refine at_cond_true rfl h4 ?_
  refine sr ?_
  refine av rfl (r_build_struct (zs := Cd.cs c_pairline_Pair zqGR_2) (cs := Cd.cs c_pairline_Pair zqGR_2) Tryz.underlying51 Tryz.zeroValue51 rfl (places_pairline_Pair_51) rfl rfl) ?_
  refine at_store (c := c_pairline_Pair) (z := zqGR_2) .z (Lens.whole _ _) Tryz.sizeOf51 rfl rfl rfl ?_
  refine av rfl (r_assign rfl) ?_
  refine at_nil ?_
  refine at_drop (H := _) (.s .z) ?_
  refine at_weak [(2, _), (3, _)] ⟨rfl, rfl, trivial⟩ ?_
  refine at_then_normal ?_
  refine rt ?_
  have K := of_some hF
  subst K
  exact at_res2 rfl (res_cell (c := c_pairline_Pair) (y := zqGR_2) rfl .z (Lens.whole _ _) Tryz.isAgg51 Tryz.sizeOf51 (.inl rfl)) (res_tmp rfl) (fun w1 hw => ⟨rfl, hw.below⟩)
 ·refine at_cond_false rfl h4 ?_
  refine sn ?_
  refine at_seq ?_
  refine at_weak [(1, _), (2, _)] ⟨rfl, rfl, trivial⟩ ?_
  obtain ⟨t5, ht5, hF⟩ := of_bindM hF
  cases t5 with
  | s0 =>
   obtain ⟨t6, ht6, hF⟩ := of_bindM hF
   refine at_inv [.q 11 (fun g7 => .pointer (some ⟨b1, 0 + 0, none⟩)) [] 0 0, .q 12 (fun g7 => .int .i64 x0.f_Word) [0] 0 0, .q 13 (fun g7 => .agg #[.func (.func 93) #[] #[], .func (.func 95) #[] #[], .func (.func 97) #[] #[]]) [1] 0 0, .q 14 (fun g7 => .func (.func 95) #[] #[]) [2] 0 0, .q 15 (fun g7 => .agg (Cd.cs c_api_Field x0).toArray) [] 0 0, .q 16 (fun g7 => .tuple #[.string t6.1, .bool t6.2]) [3, 4] 0 0, .q 10 (fun g7 => .tuple #[.string t6.1, .bool t6.2]) [5] 0 0, .q 17 (fun g7 => .string t6.1) [6] 0 0, .q 18 (fun g7 => .bool t6.2) [6] 0 0, .q 4 (fun g7 => .string t6.1) [7] 0 0, .q 5 (fun g7 => .bool t6.2) [8] 0 0] (fun g7 s => match s with | _ => (Wd w [cellsE b2 (Cd.cs c_pairline_Pair zqGR_2) 51, cellsE b1 (Cd.cs c_api_Field x0) 46])) 0 (by kernel_rfl) (by kernel_rfl) (by kernel_rfl) (by kernel_rfl) (by kernel_rfl) ⟨fun _ _ _ => rfl, fun _ _ _ => rfl, fun _ _ _ => rfl, fun _ _ _ => rfl, fun _ _ _ => rfl, fun _ _ _ => rfl, fun _ _ _ => rfl, fun _ _ _ => rfl, fun _ _ _ => rfl, fun _ _ _ => rfl, fun _ _ _ => rfl, trivial⟩ (by kernel_rfl) (fun _ h => ⟨fun _ => (0, none, 0, none), h.drew⟩) ⟨?_, ?_, ?_, ?_, ?_, ?_, ?_, ?_, ?_, ?_, ?_, trivial⟩ ?_
   ·intro Lx g7 s K hl hh k
    show At 24 ((1, _) :: (2, _) :: Lx) _ _
    refine av rfl (r_fieldAddr (fo := 0) Tryz.underlying46 rfl rfl (fun w => ⟨_, Tryz.sizeOf3 w⟩) rfl) ?_
    exact at_nil k
   ·intro Lx g7 s K hl hh k
    show At 24 ((11, _) :: (1, _) :: (2, _) :: Lx) _ _
    obtain rfl : s = 0 := by omega
    refine av rfl (r_load_cell Tryz.isAgg3 rfl (lens_cell0 (c := (cInt .i64)) (y := x0.f_Word) (.s .z) (Lens.comp (Lens.whole _ _) (fun z => { x0 with f_Word := z }) (c_api_Field_f_Word x0)) rfl)) ?_
    exact at_nil k
   ·intro Lx g7 s K hl hh k
    show At 24 ((12, _) :: (1, _) :: (2, _) :: Lx) _ _
    obtain rfl : s = 0 := by omega
    refine at_callB Tryz.func37 rfl (by kernel_rfl) rfl rfl (fun w hw => (field_shapeOf_ok _ _ ht5 w).mono (by intro e w' h; obtain ⟨v, he, hv, hb⟩ := h; exact ⟨he.trans (congrArg Ending.returned hv), hb⟩)) ?_
    exact at_nil k
   ·intro Lx g7 s K hl hh k
    show At 24 ((13, _) :: (1, _) :: (2, _) :: Lx) _ _
    refine av rfl (r_fieldR (fo := 1) Tryz.underlying81 rfl rfl Tryz.isAgg78 rfl rfl) ?_
    exact at_nil k
   ·intro Lx g7 s K hl hh k
    show At 24 ((1, _) :: (2, _) :: Lx) _ _
    obtain rfl : s = 0 := by omega
    refine av rfl (r_load_aggc (c := c_api_Field) (z := x0) Tryz.isAgg46 Tryz.sizeOf46 rfl (lens_cell (.s .z) (Lens.whole _ _))) ?_
    exact at_nil k
   ·intro Lx g7 s K hl hh k
    show At 24 ((14, _) :: (15, _) :: (1, _) :: (2, _) :: Lx) _ _
    obtain rfl : s = 0 := by omega
    refine at_callee rfl ?_
    refine at_callB Tryz.func95 rfl (by kernel_rfl) rfl rfl (fun w hw => field_keyed_2_ok _ _ ht6 w) ?_
    exact at_nil k
   ·intro Lx g7 s K hl hh k
    show At 24 ((16, _) :: (1, _) :: (2, _) :: Lx) _ _
    refine av rfl (r_move rfl) ?_
    exact at_nil k
   ·intro Lx g7 s K hl hh k
    show At 24 ((10, _) :: (1, _) :: (2, _) :: Lx) _ _
    refine av rfl (r_extract rfl rfl) ?_
    exact at_nil k
   ·intro Lx g7 s K hl hh k
    show At 24 ((10, _) :: (1, _) :: (2, _) :: Lx) _ _
    refine av rfl (r_extract rfl rfl) ?_
    exact at_nil k
   ·intro Lx g7 s K hl hh k
    show At 24 ((17, _) :: (1, _) :: (2, _) :: Lx) _ _
    refine av rfl (r_assign rfl) ?_
    exact at_nil k
   ·intro Lx g7 s K hl hh k
    show At 24 ((18, _) :: (1, _) :: (2, _) :: Lx) _ _
    refine av rfl (r_assign rfl) ?_
    exact at_nil k
   intro g7
   show At 24 [(11, _), (12, _), (13, _), (14, _), (15, _), (16, _), (10, _), (17, _), (18, _), (4, _), (5, _), (1, _), (2, _)] _ _
   refine at_weak [(1, _), (2, _), (4, _)] ⟨rfl, rfl, rfl, trivial⟩ ?_
   refine at_then_normal ?_
   refine sr ?_
   refine av rfl (r_fieldAddr (fo := 0) Tryz.underlying46 rfl rfl (fun w => ⟨_, Tryz.sizeOf3 w⟩) rfl) ?_
   refine av rfl (r_load_cell Tryz.isAgg3 rfl (lens_cell0 (c := (cInt .i64)) (y := x0.f_Word) (.s .z) (Lens.comp (Lens.whole _ _) (fun z => { x0 with f_Word := z }) (c_api_Field_f_Word x0)) rfl)) ?_
   obtain ⟨t8, ht8, hF⟩ := of_bindM hF
   refine at_callB Tryz.func15 rfl (by kernel_rfl) rfl rfl (fun w hw => callB_of_call0 (field_Name_ok _ _ ht8 w (hg_field_names.on hw.below))) ?_
   refine av rfl (r_move rfl) ?_
   refine av rfl (r_build_struct (zs := Cd.cs c_pairline_Pair zqGR_2) (cs := Cd.cs c_pairline_Pair ({ { zqGR_2 with f_Key := t8 } with f_Value := t6.1 })) Tryz.underlying51 Tryz.zeroValue51 rfl (places_pairline_Pair_51) rfl (fill_step (c := cStr) (z := t8) rfl (c_pairline_Pair_f_Key zqGR_2) rfl (fill_step (c := cStr) (z := t6.1) rfl (c_pairline_Pair_f_Value ({ zqGR_2 with f_Key := t8 })) rfl rfl))) ?_
   refine at_store (c := c_pairline_Pair) (z := { { zqGR_2 with f_Key := t8 } with f_Value := t6.1 }) .z (Lens.whole _ _) Tryz.sizeOf51 rfl rfl rfl ?_
   refine av rfl (r_assign rfl) ?_
   refine at_nil ?_
   refine at_drop (H := _) (.s .z) ?_
   refine at_weak [(2, _), (3, _)] ⟨rfl, rfl, trivial⟩ ?_
   refine at_then_normal ?_
   refine at_ret ?_
   have K := of_some hF
   subst K
   exact at_res2 rfl (res_cell (c := c_pairline_Pair) (y := { { zqGR_2 with f_Key := t8 } with f_Value := t6.1 }) rfl .z (Lens.whole _ _) Tryz.isAgg51 Tryz.sizeOf51 (.inl rfl)) (res_tmp rfl) (fun w1 hw => ⟨rfl, hw.below⟩)
  | s1 =>
   obtain ⟨t9, ht9, hF⟩ := of_bindM hF
   refine at_inv [.q 11 (fun g10 => .pointer (some ⟨b1, 0 + 0, none⟩)) [] 0 0, .q 12 (fun g10 => .int .i64 x0.f_Word) [0] 0 0, .q 13 (fun g10 => .agg #[.func (.func 98) #[] #[], .func (.func 100) #[] #[], .func (.func 103) #[] #[]]) [1] 0 0, .q 14 (fun g10 => .func (.func 100) #[] #[]) [2] 0 0, .q 15 (fun g10 => .agg (Cd.cs c_api_Field x0).toArray) [] 0 0, .q 16 (fun g10 => .tuple #[.string t9.1, .bool t9.2]) [3, 4] 0 0, .q 10 (fun g10 => .tuple #[.string t9.1, .bool t9.2]) [5] 0 0, .q 17 (fun g10 => .string t9.1) [6] 0 0, .q 18 (fun g10 => .bool t9.2) [6] 0 0, .q 4 (fun g10 => .string t9.1) [7] 0 0, .q 5 (fun g10 => .bool t9.2) [8] 0 0] (fun g10 s => match s with | _ => (Wd w [cellsE b2 (Cd.cs c_pairline_Pair zqGR_2) 51, cellsE b1 (Cd.cs c_api_Field x0) 46])) 0 (by kernel_rfl) (by kernel_rfl) (by kernel_rfl) (by kernel_rfl) (by kernel_rfl) ⟨fun _ _ _ => rfl, fun _ _ _ => rfl, fun _ _ _ => rfl, fun _ _ _ => rfl, fun _ _ _ => rfl, fun _ _ _ => rfl, fun _ _ _ => rfl, fun _ _ _ => rfl, fun _ _ _ => rfl, fun _ _ _ => rfl, fun _ _ _ => rfl, trivial⟩ (by kernel_rfl) (fun _ h => ⟨fun _ => (0, none, 0, none), h.drew⟩) ⟨?_, ?_, ?_, ?_, ?_, ?_, ?_, ?_, ?_, ?_, ?_, trivial⟩ ?_
   ·intro Lx g10 s K hl hh k
    show At 24 ((1, _) :: (2, _) :: Lx) _ _
    refine av rfl (r_fieldAddr (fo := 0) Tryz.underlying46 rfl rfl (fun w => ⟨_, Tryz.sizeOf3 w⟩) rfl) ?_
    exact at_nil k
   ·intro Lx g10 s K hl hh k
    show At 24 ((11, _) :: (1, _) :: (2, _) :: Lx) _ _
    obtain rfl : s = 0 := by omega
    refine av rfl (r_load_cell Tryz.isAgg3 rfl (lens_cell0 (c := (cInt .i64)) (y := x0.f_Word) (.s .z) (Lens.comp (Lens.whole _ _) (fun z => { x0 with f_Word := z }) (c_api_Field_f_Word x0)) rfl)) ?_
    exact at_nil k
   ·intro Lx g10 s K hl hh k
    show At 24 ((12, _) :: (1, _) :: (2, _) :: Lx) _ _
    obtain rfl : s = 0 := by omega
    refine at_callB Tryz.func37 rfl (by kernel_rfl) rfl rfl (fun w hw => (field_shapeOf_ok _ _ ht5 w).mono (by intro e w' h; obtain ⟨v, he, hv, hb⟩ := h; exact ⟨he.trans (congrArg Ending.returned hv), hb⟩)) ?_
    exact at_nil k
   ·intro Lx g10 s K hl hh k
    show At 24 ((13, _) :: (1, _) :: (2, _) :: Lx) _ _
    refine av rfl (r_fieldR (fo := 1) Tryz.underlying81 rfl rfl Tryz.isAgg78 rfl rfl) ?_
    exact at_nil k
   ·intro Lx g10 s K hl hh k
    show At 24 ((1, _) :: (2, _) :: Lx) _ _
    obtain rfl : s = 0 := by omega
    refine av rfl (r_load_aggc (c := c_api_Field) (z := x0) Tryz.isAgg46 Tryz.sizeOf46 rfl (lens_cell (.s .z) (Lens.whole _ _))) ?_
    exact at_nil k
   ·intro Lx g10 s K hl hh k
    show At 24 ((14, _) :: (15, _) :: (1, _) :: (2, _) :: Lx) _ _
    obtain rfl : s = 0 := by omega
    refine at_callee rfl ?_
    refine at_callB Tryz.func100 rfl (by kernel_rfl) rfl rfl (fun w hw => field_ended_2_ok _ _ ht9 w (hg_strconv_uint64pow10.on hw.below)) ?_
    exact at_nil k
   ·intro Lx g10 s K hl hh k
    show At 24 ((16, _) :: (1, _) :: (2, _) :: Lx) _ _
    refine av rfl (r_move rfl) ?_
    exact at_nil k
   ·intro Lx g10 s K hl hh k
    show At 24 ((10, _) :: (1, _) :: (2, _) :: Lx) _ _
    refine av rfl (r_extract rfl rfl) ?_
    exact at_nil k
   ·intro Lx g10 s K hl hh k
    show At 24 ((10, _) :: (1, _) :: (2, _) :: Lx) _ _
    refine av rfl (r_extract rfl rfl) ?_
    exact at_nil k
   ·intro Lx g10 s K hl hh k
    show At 24 ((17, _) :: (1, _) :: (2, _) :: Lx) _ _
    refine av rfl (r_assign rfl) ?_
    exact at_nil k
   ·intro Lx g10 s K hl hh k
    show At 24 ((18, _) :: (1, _) :: (2, _) :: Lx) _ _
    refine av rfl (r_assign rfl) ?_
    exact at_nil k
   intro g10
   show At 24 [(11, _), (12, _), (13, _), (14, _), (15, _), (16, _), (10, _), (17, _), (18, _), (4, _), (5, _), (1, _), (2, _)] _ _
   refine at_weak [(1, _), (2, _), (4, _)] ⟨rfl, rfl, rfl, trivial⟩ ?_
   refine at_then_normal ?_
   refine sr ?_
   refine av rfl (r_fieldAddr (fo := 0) Tryz.underlying46 rfl rfl (fun w => ⟨_, Tryz.sizeOf3 w⟩) rfl) ?_
   refine av rfl (r_load_cell Tryz.isAgg3 rfl (lens_cell0 (c := (cInt .i64)) (y := x0.f_Word) (.s .z) (Lens.comp (Lens.whole _ _) (fun z => { x0 with f_Word := z }) (c_api_Field_f_Word x0)) rfl)) ?_
   obtain ⟨t11, ht11, hF⟩ := of_bindM hF
   refine at_callB Tryz.func15 rfl (by kernel_rfl) rfl rfl (fun w hw => callB_of_call0 (field_Name_ok _ _ ht11 w (hg_field_names.on hw.below))) ?_
   refine av rfl (r_move rfl) ?_
   refine av rfl (r_build_struct (zs := Cd.cs c_pairline_Pair zqGR_2) (cs := Cd.cs c_pairline_Pair ({ { zqGR_2 with f_Key := t11 } with f_Value := t9.1 })) Tryz.underlying51 Tryz.zeroValue51 rfl (places_pairline_Pair_51) rfl (fill_step (c := cStr) (z := t11) rfl (c_pairline_Pair_f_Key zqGR_2) rfl (fill_step (c := cStr) (z := t9.1) rfl (c_pairline_Pair_f_Value ({ zqGR_2 with f_Key := t11 })) rfl rfl))) ?_
   refine at_store (c := c_pairline_Pair) (z := { { zqGR_2 with f_Key := t11 } with f_Value := t9.1 }) .z (Lens.whole _ _) Tryz.sizeOf51 rfl rfl rfl ?_
   refine av rfl (r_assign rfl) ?_
   refine at_nil ?_
   refine at_drop (H := _) (.s .z) ?_
   refine at_weak [(2, _), (3, _)] ⟨rfl, rfl, trivial⟩ ?_
   refine at_then_normal ?_
   refine at_ret ?_
   have K := of_some hF
   subst K
   exact at_res2 rfl (res_cell (c := c_pairline_Pair) (y := { { zqGR_2 with f_Key := t11 } with f_Value := t9.1 }) rfl .z (Lens.whole _ _) Tryz.isAgg51 Tryz.sizeOf51 (.inl rfl)) (res_tmp rfl) (fun w1 hw => ⟨rfl, hw.below⟩)
  | s2 =>
   obtain ⟨t12, ht12, hF⟩ := of_bindM hF
   refine at_inv [.q 11 (fun g13 => .pointer (some ⟨b1, 0 + 0, none⟩)) [] 0 0, .q 12 (fun g13 => .int .i64 x0.f_Word) [0] 0 0, .q 13 (fun g13 => .agg #[.func (.func 104) #[] #[], .func (.func 106) #[] #[], .func (.func 109) #[] #[]]) [1] 0 0, .q 14 (fun g13 => .func (.func 106) #[] #[]) [2] 0 0, .q 15 (fun g13 => .agg (Cd.cs c_api_Field x0).toArray) [] 0 0, .q 16 (fun g13 => .tuple #[.string t12.1, .bool t12.2]) [3, 4] 0 0, .q 10 (fun g13 => .tuple #[.string t12.1, .bool t12.2]) [5] 0 0, .q 17 (fun g13 => .string t12.1) [6] 0 0, .q 18 (fun g13 => .bool t12.2) [6] 0 0, .q 4 (fun g13 => .string t12.1) [7] 0 0, .q 5 (fun g13 => .bool t12.2) [8] 0 0] (fun g13 s => match s with | _ => (Wd w [cellsE b2 (Cd.cs c_pairline_Pair zqGR_2) 51, cellsE b1 (Cd.cs c_api_Field x0) 46])) 0 (by kernel_rfl) (by kernel_rfl) (by kernel_rfl) (by kernel_rfl) (by kernel_rfl) ⟨fun _ _ _ => rfl, fun _ _ _ => rfl, fun _ _ _ => rfl, fun _ _ _ => rfl, fun _ _ _ => rfl, fun _ _ _ => rfl, fun _ _ _ => rfl, fun _ _ _ => rfl, fun _ _ _ => rfl, fun _ _ _ => rfl, fun _ _ _ => rfl, trivial⟩ (by kernel_rfl) (fun _ h => ⟨fun _ => (0, none, 0, none), h.drew⟩) ⟨?_, ?_, ?_, ?_, ?_, ?_, ?_, ?_, ?_, ?_, ?_, trivial⟩ ?_
   ·intro Lx g13 s K hl hh k
    show At 24 ((1, _) :: (2, _) :: Lx) _ _
    refine av rfl (r_fieldAddr (fo := 0) Tryz.underlying46 rfl rfl (fun w => ⟨_, Tryz.sizeOf3 w⟩) rfl) ?_
    exact at_nil k
   ·intro Lx g13 s K hl hh k
    show At 24 ((11, _) :: (1, _) :: (2, _) :: Lx) _ _
    obtain rfl : s = 0 := by omega
    refine av rfl (r_load_cell Tryz.isAgg3 rfl (lens_cell0 (c := (cInt .i64)) (y := x0.f_Word) (.s .z) (Lens.comp (Lens.whole _ _) (fun z => { x0 with f_Word := z }) (c_api_Field_f_Word x0)) rfl)) ?_
    exact at_nil k
   ·intro Lx g13 s K hl hh k
    show At 24 ((12, _) :: (1, _) :: (2, _) :: Lx) _ _
    obtain rfl : s = 0 := by omega
    refine at_callB Tryz.func37 rfl (by kernel_rfl) rfl rfl (fun w hw => (field_shapeOf_ok _ _ ht5 w).mono (by intro e w' h; obtain ⟨v, he, hv, hb⟩ := h; exact ⟨he.trans (congrArg Ending.returned hv), hb⟩)) ?_
    exact at_nil k
   ·intro Lx g13 s K hl hh k
    show At 24 ((13, _) :: (1, _) :: (2, _) :: Lx) _ _
    refine av rfl (r_fieldR (fo := 1) Tryz.underlying81 rfl rfl Tryz.isAgg78 rfl rfl) ?_
    exact at_nil k
   ·intro Lx g13 s K hl hh k
    show At 24 ((1, _) :: (2, _) :: Lx) _ _
    obtain rfl : s = 0 := by omega
    refine av rfl (r_load_aggc (c := c_api_Field) (z := x0) Tryz.isAgg46 Tryz.sizeOf46 rfl (lens_cell (.s .z) (Lens.whole _ _))) ?_
    exact at_nil k
   ·intro Lx g13 s K hl hh k
    show At 24 ((14, _) :: (15, _) :: (1, _) :: (2, _) :: Lx) _ _
    obtain rfl : s = 0 := by omega
    refine at_callee rfl ?_
    refine at_callB Tryz.func106 rfl (by kernel_rfl) rfl rfl (fun w hw => field_allowed_2_ok _ _ ht12 w (hg_strconv_uint64pow10.on hw.below)) ?_
    exact at_nil k
   ·intro Lx g13 s K hl hh k
    show At 24 ((16, _) :: (1, _) :: (2, _) :: Lx) _ _
    refine av rfl (r_move rfl) ?_
    exact at_nil k
   ·intro Lx g13 s K hl hh k
    show At 24 ((10, _) :: (1, _) :: (2, _) :: Lx) _ _
    refine av rfl (r_extract rfl rfl) ?_
    exact at_nil k
   ·intro Lx g13 s K hl hh k
    show At 24 ((10, _) :: (1, _) :: (2, _) :: Lx) _ _
    refine av rfl (r_extract rfl rfl) ?_
    exact at_nil k
   ·intro Lx g13 s K hl hh k
    show At 24 ((17, _) :: (1, _) :: (2, _) :: Lx) _ _
    refine av rfl (r_assign rfl) ?_
    exact at_nil k
   ·intro Lx g13 s K hl hh k
    show At 24 ((18, _) :: (1, _) :: (2, _) :: Lx) _ _
    refine av rfl (r_assign rfl) ?_
    exact at_nil k
   intro g13
   show At 24 [(11, _), (12, _), (13, _), (14, _), (15, _), (16, _), (10, _), (17, _), (18, _), (4, _), (5, _), (1, _), (2, _)] _ _
   refine at_weak [(1, _), (2, _), (4, _)] ⟨rfl, rfl, rfl, trivial⟩ ?_
   refine at_then_normal ?_
   refine sr ?_
   refine av rfl (r_fieldAddr (fo := 0) Tryz.underlying46 rfl rfl (fun w => ⟨_, Tryz.sizeOf3 w⟩) rfl) ?_
   refine av rfl (r_load_cell Tryz.isAgg3 rfl (lens_cell0 (c := (cInt .i64)) (y := x0.f_Word) (.s .z) (Lens.comp (Lens.whole _ _) (fun z => { x0 with f_Word := z }) (c_api_Field_f_Word x0)) rfl)) ?_
   obtain ⟨t14, ht14, hF⟩ := of_bindM hF
   refine at_callB Tryz.func15 rfl (by kernel_rfl) rfl rfl (fun w hw => callB_of_call0 (field_Name_ok _ _ ht14 w (hg_field_names.on hw.below))) ?_
   refine av rfl (r_move rfl) ?_
   refine av rfl (r_build_struct (zs := Cd.cs c_pairline_Pair zqGR_2) (cs := Cd.cs c_pairline_Pair ({ { zqGR_2 with f_Key := t14 } with f_Value := t12.1 })) Tryz.underlying51 Tryz.zeroValue51 rfl (places_pairline_Pair_51) rfl (fill_step (c := cStr) (z := t14) rfl (c_pairline_Pair_f_Key zqGR_2) rfl (fill_step (c := cStr) (z := t12.1) rfl (c_pairline_Pair_f_Value ({ zqGR_2 with f_Key := t14 })) rfl rfl))) ?_
   refine at_store (c := c_pairline_Pair) (z := { { zqGR_2 with f_Key := t14 } with f_Value := t12.1 }) .z (Lens.whole _ _) Tryz.sizeOf51 rfl rfl rfl ?_
   refine av rfl (r_assign rfl) ?_
   refine at_nil ?_
   refine at_drop (H := _) (.s .z) ?_
   refine at_weak [(2, _), (3, _)] ⟨rfl, rfl, trivial⟩ ?_
   refine at_then_normal ?_
   refine at_ret ?_
   have K := of_some hF
   subst K
   exact at_res2 rfl (res_cell (c := c_pairline_Pair) (y := { { zqGR_2 with f_Key := t14 } with f_Value := t12.1 }) rfl .z (Lens.whole _ _) Tryz.isAgg51 Tryz.sizeOf51 (.inl rfl)) (res_tmp rfl) (fun w1 hw => ⟨rfl, hw.below⟩)
  | s3 a15 a16 =>
   obtain ⟨t19, ht19, hF⟩ := of_bindM hF
   refine at_inv [.q 11 (fun g20 => .pointer (some ⟨b1, 0 + 0, none⟩)) [] 0 0, .q 12 (fun g20 => .int .i64 x0.f_Word) [0] 0 0, .al 0 13 (fun g20 => .agg #[.func (.func 110) #[] #[.pointer (some ⟨((g20 0).1), 0, none⟩), .pointer (some ⟨((g20 0).2.2.1), 0, none⟩)], .func (.func 112) #[] #[.pointer (some ⟨((g20 0).2.2.1), 0, none⟩), .pointer (some ⟨((g20 0).1), 0, none⟩)], .func (.func 114) #[] #[]]) [1], .q 14 (fun g20 => .func (.func 112) #[] #[.pointer (some ⟨((g20 0).2.2.1), 0, none⟩), .pointer (some ⟨((g20 0).1), 0, none⟩)]) [2] 1 1, .q 15 (fun g20 => .agg (Cd.cs c_api_Field x0).toArray) [] 0 1, .q 16 (fun g20 => .tuple #[.string t19.1, .bool t19.2]) [3, 4] 1 1, .q 10 (fun g20 => .tuple #[.string t19.1, .bool t19.2]) [5] 1 1, .q 17 (fun g20 => .string t19.1) [6] 1 1, .q 18 (fun g20 => .bool t19.2) [6] 1 1, .q 4 (fun g20 => .string t19.1) [7] 1 1, .q 5 (fun g20 => .bool t19.2) [8] 1 1] (fun g20 s => match s with | 0 => (Wd w [cellsE b2 (Cd.cs c_pairline_Pair zqGR_2) 51, cellsE b1 (Cd.cs c_api_Field x0) 46]) | _ => (Wd w [cellsE ((g20 0).1) (Cd.cs (cInt .u64) a15) 31, cellsE ((g20 0).2.2.1) (Cd.cs (cInt .u64) a16) 31, cellsE b2 (Cd.cs c_pairline_Pair zqGR_2) 51, cellsE b1 (Cd.cs c_api_Field x0) 46])) 1 (by kernel_rfl) (by kernel_rfl) (by kernel_rfl) (by kernel_rfl) (by kernel_rfl) ⟨fun _ _ _ => rfl, fun _ _ _ => rfl, fun g20 g2 h => by show (.agg #[.func (.func 110) #[] #[.pointer (some ⟨((g20 0).1), 0, none⟩), .pointer (some ⟨((g20 0).2.2.1), 0, none⟩)], .func (.func 112) #[] #[.pointer (some ⟨((g20 0).2.2.1), 0, none⟩), .pointer (some ⟨((g20 0).1), 0, none⟩)], .func (.func 114) #[] #[]] : Value) = .agg #[.func (.func 110) #[] #[.pointer (some ⟨((g2 0).1), 0, none⟩), .pointer (some ⟨((g2 0).2.2.1), 0, none⟩)], .func (.func 112) #[] #[.pointer (some ⟨((g2 0).2.2.1), 0, none⟩), .pointer (some ⟨((g2 0).1), 0, none⟩)], .func (.func 114) #[] #[]]; rw [h 0 (show 0 < 1 by decide)], fun g20 g2 h => by show (.func (.func 112) #[] #[.pointer (some ⟨((g20 0).2.2.1), 0, none⟩), .pointer (some ⟨((g20 0).1), 0, none⟩)] : Value) = .func (.func 112) #[] #[.pointer (some ⟨((g2 0).2.2.1), 0, none⟩), .pointer (some ⟨((g2 0).1), 0, none⟩)]; rw [h 0 (show 0 < 1 by decide)], fun _ _ _ => rfl, fun _ _ _ => rfl, fun _ _ _ => rfl, fun _ _ _ => rfl, fun _ _ _ => rfl, fun _ _ _ => rfl, fun _ _ _ => rfl, trivial⟩ (by kernel_rfl) (fun _ h => ⟨fun _ => (0, none, 0, none), h.drew⟩) ⟨?_, ?_, ?_, ?_, ?_, ?_, ?_, ?_, ?_, ?_, ?_, trivial⟩ ?_
   ·intro Lx g20 s K hl hh k
    show At 24 ((1, _) :: (2, _) :: Lx) _ _
    refine av rfl (r_fieldAddr (fo := 0) Tryz.underlying46 rfl rfl (fun w => ⟨_, Tryz.sizeOf3 w⟩) rfl) ?_
    exact at_nil k
   ·intro Lx g20 s K hl hh k
    show At 24 ((11, _) :: (1, _) :: (2, _) :: Lx) _ _
    obtain rfl : s = 0 := by omega
    refine av rfl (r_load_cell Tryz.isAgg3 rfl (lens_cell0 (c := (cInt .i64)) (y := x0.f_Word) (.s .z) (Lens.comp (Lens.whole _ _) (fun z => { x0 with f_Word := z }) (c_api_Field_f_Word x0)) rfl)) ?_
    exact at_nil k
   ·intro Lx g20 K k
    show At 24 ((12, _) :: (1, _) :: (2, _) :: Lx) _ _
    refine at_callC2 (c1 := [.int .u64 a15]) (c2 := [.int .u64 a16]) (t1 := 31) (t2 := 31) (V := fun v_1 v_2 => .agg #[.func (.func 110) #[] #[.pointer (some ⟨v_1, 0, none⟩), .pointer (some ⟨v_2, 0, none⟩)], .func (.func 112) #[] #[.pointer (some ⟨v_2, 0, none⟩), .pointer (some ⟨v_1, 0, none⟩)], .func (.func 114) #[] #[]]) Tryz.func37 rfl (by kernel_rfl) rfl rfl (fun w hw => (field_shapeOf_ok _ _ ht5 w).mono (by intro e w' h; obtain ⟨v, he, hv, hb⟩ := h; obtain ⟨c0, c1, hv, hr⟩ := hv; exact ⟨c0, c1, he.trans (congrArg Ending.returned hv), hr, hb⟩)) ?_
    intro b17 b18
    exact at_nil (k (b17, none, b18, none))
   ·intro Lx g20 s K hl hh k
    show At 24 ((13, _) :: (1, _) :: (2, _) :: Lx) _ _
    refine av rfl (r_fieldR (fo := 1) Tryz.underlying81 rfl rfl Tryz.isAgg78 rfl rfl) ?_
    exact at_nil k
   ·intro Lx g20 s K hl hh k
    show At 24 ((1, _) :: (2, _) :: Lx) _ _
    rcases (by omega : s = 0 ∨ s = 1) with rfl | rfl
    ·skip
     refine av rfl (r_load_aggc (c := c_api_Field) (z := x0) Tryz.isAgg46 Tryz.sizeOf46 rfl (lens_cell (.s .z) (Lens.whole _ _))) ?_
     exact at_nil k
    ·skip
     refine av rfl (r_load_aggc (c := c_api_Field) (z := x0) Tryz.isAgg46 Tryz.sizeOf46 rfl (lens_cell (.s (.s (.s .z))) (Lens.whole _ _))) ?_
     exact at_nil k
   ·intro Lx g20 s K hl hh k
    show At 24 ((14, _) :: (15, _) :: (1, _) :: (2, _) :: Lx) _ _
    obtain rfl : s = 1 := by omega
    refine at_calleeC (caps := [.pointer (some ⟨((g20 0).2.2.1), 0, none⟩), .pointer (some ⟨((g20 0).1), 0, none⟩)]) rfl ?_
    refine at_callB Tryz.func112 rfl (by kernel_rfl) rfl rfl (fun w hw => field_counted_2_ok _ _ _ _ _ _ ht19 w (cells_get (hw.ok (Upd.mem (.s .z))) 0 _ rfl) (cells_get (hw.ok (Upd.mem .z)) 0 _ rfl) (hg_strconv_uint64pow10.on hw.below)) ?_
    exact at_nil k
   ·intro Lx g20 s K hl hh k
    show At 24 ((16, _) :: (1, _) :: (2, _) :: Lx) _ _
    refine av rfl (r_move rfl) ?_
    exact at_nil k
   ·intro Lx g20 s K hl hh k
    show At 24 ((10, _) :: (1, _) :: (2, _) :: Lx) _ _
    refine av rfl (r_extract rfl rfl) ?_
    exact at_nil k
   ·intro Lx g20 s K hl hh k
    show At 24 ((10, _) :: (1, _) :: (2, _) :: Lx) _ _
    refine av rfl (r_extract rfl rfl) ?_
    exact at_nil k
   ·intro Lx g20 s K hl hh k
    show At 24 ((17, _) :: (1, _) :: (2, _) :: Lx) _ _
    refine av rfl (r_assign rfl) ?_
    exact at_nil k
   ·intro Lx g20 s K hl hh k
    show At 24 ((18, _) :: (1, _) :: (2, _) :: Lx) _ _
    refine av rfl (r_assign rfl) ?_
    exact at_nil k
   intro g20
   show At 24 [(11, _), (12, _), (13, _), (14, _), (15, _), (16, _), (10, _), (17, _), (18, _), (4, _), (5, _), (1, _), (2, _)] _ _
   refine at_drop (H := _) .z ?_
   refine at_drop (H := _) .z ?_
   refine at_weak [(1, _), (2, _), (4, _)] ⟨rfl, rfl, rfl, trivial⟩ ?_
   refine at_then_normal ?_
   refine sr ?_
   refine av rfl (r_fieldAddr (fo := 0) Tryz.underlying46 rfl rfl (fun w => ⟨_, Tryz.sizeOf3 w⟩) rfl) ?_
   refine av rfl (r_load_cell Tryz.isAgg3 rfl (lens_cell0 (c := (cInt .i64)) (y := x0.f_Word) (.s .z) (Lens.comp (Lens.whole _ _) (fun z => { x0 with f_Word := z }) (c_api_Field_f_Word x0)) rfl)) ?_
   obtain ⟨t21, ht21, hF⟩ := of_bindM hF
   refine at_callB Tryz.func15 rfl (by kernel_rfl) rfl rfl (fun w hw => callB_of_call0 (field_Name_ok _ _ ht21 w (hg_field_names.on hw.below))) ?_
   refine av rfl (r_move rfl) ?_
   refine av rfl (r_build_struct (zs := Cd.cs c_pairline_Pair zqGR_2) (cs := Cd.cs c_pairline_Pair ({ { zqGR_2 with f_Key := t21 } with f_Value := t19.1 })) Tryz.underlying51 Tryz.zeroValue51 rfl (places_pairline_Pair_51) rfl (fill_step (c := cStr) (z := t21) rfl (c_pairline_Pair_f_Key zqGR_2) rfl (fill_step (c := cStr) (z := t19.1) rfl (c_pairline_Pair_f_Value ({ zqGR_2 with f_Key := t21 })) rfl rfl))) ?_
   refine at_store (c := c_pairline_Pair) (z := { { zqGR_2 with f_Key := t21 } with f_Value := t19.1 }) .z (Lens.whole _ _) Tryz.sizeOf51 rfl rfl rfl ?_
   refine av rfl (r_assign rfl) ?_
   refine at_nil ?_
   refine at_drop (H := _) (.s .z) ?_
   refine at_weak [(2, _), (3, _)] ⟨rfl, rfl, trivial⟩ ?_
   refine at_then_normal ?_
   refine at_ret ?_
   have K := of_some hF
   subst K
   exact at_res2 rfl (res_cell (c := c_pairline_Pair) (y := { { zqGR_2 with f_Key := t21 } with f_Value := t19.1 }) rfl .z (Lens.whole _ _) Tryz.isAgg51 Tryz.sizeOf51 (.inl rfl)) (res_tmp rfl) (fun w1 hw => ⟨rfl, hw.below⟩)
  | s4 =>
   obtain ⟨t22, ht22, hF⟩ := of_bindM hF
   refine at_inv [.q 11 (fun g23 => .pointer (some ⟨b1, 0 + 0, none⟩)) [] 0 0, .q 12 (fun g23 => .int .i64 x0.f_Word) [0] 0 0, .q 13 (fun g23 => .agg #[.func (.func 115) #[] #[], .func (.func 116) #[] #[], .func (.func 117) #[] #[]]) [1] 0 0, .q 14 (fun g23 => .func (.func 116) #[] #[]) [2] 0 0, .q 15 (fun g23 => .agg (Cd.cs c_api_Field x0).toArray) [] 0 0, .q 16 (fun g23 => .tuple #[.string t22.1, .bool t22.2]) [3, 4] 0 0, .q 10 (fun g23 => .tuple #[.string t22.1, .bool t22.2]) [5] 0 0, .q 17 (fun g23 => .string t22.1) [6] 0 0, .q 18 (fun g23 => .bool t22.2) [6] 0 0, .q 4 (fun g23 => .string t22.1) [7] 0 0, .q 5 (fun g23 => .bool t22.2) [8] 0 0] (fun g23 s => match s with | _ => (Wd w [cellsE b2 (Cd.cs c_pairline_Pair zqGR_2) 51, cellsE b1 (Cd.cs c_api_Field x0) 46])) 0 (by kernel_rfl) (by kernel_rfl) (by kernel_rfl) (by kernel_rfl) (by kernel_rfl) ⟨fun _ _ _ => rfl, fun _ _ _ => rfl, fun _ _ _ => rfl, fun _ _ _ => rfl, fun _ _ _ => rfl, fun _ _ _ => rfl, fun _ _ _ => rfl, fun _ _ _ => rfl, fun _ _ _ => rfl, fun _ _ _ => rfl, fun _ _ _ => rfl, trivial⟩ (by kernel_rfl) (fun _ h => ⟨fun _ => (0, none, 0, none), h.drew⟩) ⟨?_, ?_, ?_, ?_, ?_, ?_, ?_, ?_, ?_, ?_, ?_, trivial⟩ ?_
   ·intro Lx g23 s K hl hh k
    show At 24 ((1, _) :: (2, _) :: Lx) _ _
    refine av rfl (r_fieldAddr (fo := 0) Tryz.underlying46 rfl rfl (fun w => ⟨_, Tryz.sizeOf3 w⟩) rfl) ?_
    exact at_nil k
   ·intro Lx g23 s K hl hh k
    show At 24 ((11, _) :: (1, _) :: (2, _) :: Lx) _ _
    obtain rfl : s = 0 := by omega
    refine av rfl (r_load_cell Tryz.isAgg3 rfl (lens_cell0 (c := (cInt .i64)) (y := x0.f_Word) (.s .z) (Lens.comp (Lens.whole _ _) (fun z => { x0 with f_Word := z }) (c_api_Field_f_Word x0)) rfl)) ?_
    exact at_nil k
   ·intro Lx g23 s K hl hh k
    show At 24 ((12, _) :: (1, _) :: (2, _) :: Lx) _ _
    obtain rfl : s = 0 := by omega
    refine at_callB Tryz.func37 rfl (by kernel_rfl) rfl rfl (fun w hw => (field_shapeOf_ok _ _ ht5 w).mono (by intro e w' h; obtain ⟨v, he, hv, hb⟩ := h; exact ⟨he.trans (congrArg Ending.returned hv), hb⟩)) ?_
    exact at_nil k
   ·intro Lx g23 s K hl hh k
    show At 24 ((13, _) :: (1, _) :: (2, _) :: Lx) _ _
    refine av rfl (r_fieldR (fo := 1) Tryz.underlying81 rfl rfl Tryz.isAgg78 rfl rfl) ?_
    exact at_nil k
   ·intro Lx g23 s K hl hh k
    show At 24 ((1, _) :: (2, _) :: Lx) _ _
    obtain rfl : s = 0 := by omega
    refine av rfl (r_load_aggc (c := c_api_Field) (z := x0) Tryz.isAgg46 Tryz.sizeOf46 rfl (lens_cell (.s .z) (Lens.whole _ _))) ?_
    exact at_nil k
   ·intro Lx g23 s K hl hh k
    show At 24 ((14, _) :: (15, _) :: (1, _) :: (2, _) :: Lx) _ _
    obtain rfl : s = 0 := by omega
    refine at_callee rfl ?_
    refine at_callB Tryz.func116 rfl (by kernel_rfl) rfl rfl (fun w hw => field_said_2_ok _ _ ht22 w) ?_
    exact at_nil k
   ·intro Lx g23 s K hl hh k
    show At 24 ((16, _) :: (1, _) :: (2, _) :: Lx) _ _
    refine av rfl (r_move rfl) ?_
    exact at_nil k
   ·intro Lx g23 s K hl hh k
    show At 24 ((10, _) :: (1, _) :: (2, _) :: Lx) _ _
    refine av rfl (r_extract rfl rfl) ?_
    exact at_nil k
   ·intro Lx g23 s K hl hh k
    show At 24 ((10, _) :: (1, _) :: (2, _) :: Lx) _ _
    refine av rfl (r_extract rfl rfl) ?_
    exact at_nil k
   ·intro Lx g23 s K hl hh k
    show At 24 ((17, _) :: (1, _) :: (2, _) :: Lx) _ _
    refine av rfl (r_assign rfl) ?_
    exact at_nil k
   ·intro Lx g23 s K hl hh k
    show At 24 ((18, _) :: (1, _) :: (2, _) :: Lx) _ _
    refine av rfl (r_assign rfl) ?_
    exact at_nil k
   intro g23
   show At 24 [(11, _), (12, _), (13, _), (14, _), (15, _), (16, _), (10, _), (17, _), (18, _), (4, _), (5, _), (1, _), (2, _)] _ _
   refine at_weak [(1, _), (2, _), (4, _)] ⟨rfl, rfl, rfl, trivial⟩ ?_
   refine at_then_normal ?_
   refine sr ?_
   refine av rfl (r_fieldAddr (fo := 0) Tryz.underlying46 rfl rfl (fun w => ⟨_, Tryz.sizeOf3 w⟩) rfl) ?_
   refine av rfl (r_load_cell Tryz.isAgg3 rfl (lens_cell0 (c := (cInt .i64)) (y := x0.f_Word) (.s .z) (Lens.comp (Lens.whole _ _) (fun z => { x0 with f_Word := z }) (c_api_Field_f_Word x0)) rfl)) ?_
   obtain ⟨t24, ht24, hF⟩ := of_bindM hF
   refine at_callB Tryz.func15 rfl (by kernel_rfl) rfl rfl (fun w hw => callB_of_call0 (field_Name_ok _ _ ht24 w (hg_field_names.on hw.below))) ?_
   refine av rfl (r_move rfl) ?_
   refine av rfl (r_build_struct (zs := Cd.cs c_pairline_Pair zqGR_2) (cs := Cd.cs c_pairline_Pair ({ { zqGR_2 with f_Key := t24 } with f_Value := t22.1 })) Tryz.underlying51 Tryz.zeroValue51 rfl (places_pairline_Pair_51) rfl (fill_step (c := cStr) (z := t24) rfl (c_pairline_Pair_f_Key zqGR_2) rfl (fill_step (c := cStr) (z := t22.1) rfl (c_pairline_Pair_f_Value ({ zqGR_2 with f_Key := t24 })) rfl rfl))) ?_
   refine at_store (c := c_pairline_Pair) (z := { { zqGR_2 with f_Key := t24 } with f_Value := t22.1 }) .z (Lens.whole _ _) Tryz.sizeOf51 rfl rfl rfl ?_
   refine av rfl (r_assign rfl) ?_
   refine at_nil ?_
   refine at_drop (H := _) (.s .z) ?_
   refine at_weak [(2, _), (3, _)] ⟨rfl, rfl, trivial⟩ ?_
   refine at_then_normal ?_
   refine at_ret ?_
   have K := of_some hF
   subst K
   exact at_res2 rfl (res_cell (c := c_pairline_Pair) (y := { { zqGR_2 with f_Key := t24 } with f_Value := t22.1 }) rfl .z (Lens.whole _ _) Tryz.isAgg51 Tryz.sizeOf51 (.inl rfl)) (res_tmp rfl) (fun w1 hw => ⟨rfl, hw.below⟩)
end Go.Proofs.YtkkmmpofdcccmaaGreatDoor
namespace Go.Proofs.YtkkmmpofdcccmaaGreatDoor
open E Go.RowKit
abbrev zqGT_0 : S_api_Endpoint := ({ f_A := ({ f_V := (0 : Int), f_B := (Vector.replicate 16 (0 : Int) : (Vector Int 16)) } : S_api_Addr), f_Port := (0 : Int) } : S_api_Endpoint)
abbrev zqGT_1 : S_api_Prefix := ({ f_A := ({ f_V := (0 : Int), f_B := (Vector.replicate 16 (0 : Int) : (Vector Int 16)) } : S_api_Addr), f_Bits := (0 : Int) } : S_api_Prefix)
abbrev zqGT_2 : S_pairline_Pair := ({ f_Key := (⟨#[]⟩ : ByteArray), f_Value := (⟨#[]⟩ : ByteArray) } : S_pairline_Pair)
def crawlwayref37_key (x0 : Int) : Option (Bool) :=
  if (x0 == 1) = true then (some true) else (if (x0 == 5) = true then (some true) else (some (x0 == 8)))
theorem crawlwayref37_key_ok (x0 : Int) (r : Bool) (hF : crawlwayref37_key x0 = some r) (w : World) :
    Calls Tryz.prog 38 #[.int .i64 x0] w (fun e w' => e = .returned (.bool r) ∧ w' = w) := by
 unfold crawlwayref37_key at hF
 refine calls_enter (l := [.int .i64 x0]) Tryz.func38 rfl rfl rfl ?_
 refine at_weak [(0, _)] ⟨rfl, trivial⟩ ?_
 refine sr ?_
 refine av rfl (r_assign rfl) ?_
 refine nws [(0, _)] ⟨rfl, trivial⟩ ?_
 refine av rfl (r_move rfl) ?_
 refine av rfl (r_ieql rfl rfl) ?_
 refine av rfl (r_move rfl) ?_
 rcases of_ite hF with ⟨h1, hF⟩ | ⟨h1, hF⟩
 ·refine at_fix (g := 5) rfl h1 ?_
  refine at_guard_no rfl rfl rfl rfl rfl ?_
  refine at_guard_no rfl rfl rfl rfl rfl ?_
  refine av rfl (r_pick rfl rfl rfl) ?_
  refine av rfl (r_move rfl) ?_
  refine at_guard_no rfl rfl rfl rfl rfl ?_
  refine at_guard_no rfl rfl rfl rfl rfl ?_
  refine av rfl (r_pick rfl rfl rfl) ?_
  refine av rfl (r_assign rfl) ?_
  refine nwt [(2, _)] ⟨rfl, trivial⟩ ?_
  refine at_ret ?_
  have K := of_some hF
  subst K
  exact at_return1 rfl rfl (fun w1 hw => ⟨rfl, hw⟩)
 ·refine at_fix (g := 5) rfl h1 ?_
  refine at_guard_yes rfl rfl rfl ?_
  refine av rfl (r_move rfl) ?_
  refine at_guard_yes rfl rfl rfl ?_
  refine av rfl (r_ieql rfl rfl) ?_
  refine av rfl (r_pick rfl rfl rfl) ?_
  refine av rfl (r_move rfl) ?_
  rcases of_ite hF with ⟨h2, hF⟩ | ⟨h2, hF⟩
  ·refine at_fix (g := 9) rfl h2 ?_
   refine at_guard_no rfl rfl rfl rfl rfl ?_
   refine at_guard_no rfl rfl rfl rfl rfl ?_
   refine av rfl (r_pick rfl rfl rfl) ?_
   refine av rfl (r_assign rfl) ?_
   refine nwt [(2, _)] ⟨rfl, trivial⟩ ?_
   refine at_ret ?_
   have K := of_some hF
   subst K
   exact at_return1 rfl rfl (fun w1 hw => ⟨rfl, hw⟩)
  ·refine at_fix (g := 9) rfl h2 ?_
   refine at_guard_yes rfl rfl rfl ?_
   refine av rfl (r_move rfl) ?_
   refine at_guard_yes rfl rfl rfl ?_
   refine av rfl (r_ieql rfl rfl) ?_
   refine av rfl (r_pick rfl rfl rfl) ?_
   refine av rfl (r_assign rfl) ?_
   refine nwt [(2, _)] ⟨rfl, trivial⟩ ?_
   refine at_ret ?_
   have K := of_some hF
   subst K
   exact at_return1 rfl rfl (fun w1 hw => ⟨rfl, hw⟩)
def crawlwayref37_flag (x0 : Int) : Option (Bool) :=
  if (x0 == 4) = true then (some true) else (if (x0 == 6) = true then (some true) else (if (x0 == 7) = true then (some true) else (some (x0 == 11))))
theorem crawlwayref37_flag_ok (x0 : Int) (r : Bool) (hF : crawlwayref37_flag x0 = some r) (w : World) :
    Calls Tryz.prog 42 #[.int .i64 x0] w (fun e w' => e = .returned (.bool r) ∧ w' = w) := by
 unfold crawlwayref37_flag at hF
 refine calls_enter (l := [.int .i64 x0]) Tryz.func42 rfl rfl rfl ?_
 refine at_weak [(0, _)] ⟨rfl, trivial⟩ ?_
 refine sr ?_
 refine av rfl (r_assign rfl) ?_
 refine nws [(0, _)] ⟨rfl, trivial⟩ ?_
 refine av rfl (r_move rfl) ?_
 refine av rfl (r_ieql rfl rfl) ?_
 refine av rfl (r_move rfl) ?_
 rcases of_ite hF with ⟨h1, hF⟩ | ⟨h1, hF⟩
 ·refine at_fix (g := 5) rfl h1 ?_
  refine at_guard_no rfl rfl rfl rfl rfl ?_
  refine at_guard_no rfl rfl rfl rfl rfl ?_
  refine av rfl (r_pick rfl rfl rfl) ?_
  refine av rfl (r_move rfl) ?_
  refine at_guard_no rfl rfl rfl rfl rfl ?_
  refine at_guard_no rfl rfl rfl rfl rfl ?_
  refine av rfl (r_pick rfl rfl rfl) ?_
  refine av rfl (r_move rfl) ?_
  refine at_guard_no rfl rfl rfl rfl rfl ?_
  refine at_guard_no rfl rfl rfl rfl rfl ?_
  refine av rfl (r_pick rfl rfl rfl) ?_
  refine av rfl (r_assign rfl) ?_
  refine nwt [(2, _)] ⟨rfl, trivial⟩ ?_
  refine at_ret ?_
  have K := of_some hF
  subst K
  exact at_return1 rfl rfl (fun w1 hw => ⟨rfl, hw⟩)
 ·refine at_fix (g := 5) rfl h1 ?_
  refine at_guard_yes rfl rfl rfl ?_
  refine av rfl (r_move rfl) ?_
  refine at_guard_yes rfl rfl rfl ?_
  refine av rfl (r_ieql rfl rfl) ?_
  refine av rfl (r_pick rfl rfl rfl) ?_
  refine av rfl (r_move rfl) ?_
  rcases of_ite hF with ⟨h2, hF⟩ | ⟨h2, hF⟩
  ·refine at_fix (g := 9) rfl h2 ?_
   refine at_guard_no rfl rfl rfl rfl rfl ?_
   refine at_guard_no rfl rfl rfl rfl rfl ?_
   refine av rfl (r_pick rfl rfl rfl) ?_
   refine av rfl (r_move rfl) ?_
   refine at_guard_no rfl rfl rfl rfl rfl ?_
   refine at_guard_no rfl rfl rfl rfl rfl ?_
   refine av rfl (r_pick rfl rfl rfl) ?_
   refine av rfl (r_assign rfl) ?_
   refine nwt [(2, _)] ⟨rfl, trivial⟩ ?_
   refine at_ret ?_
   have K := of_some hF
   subst K
   exact at_return1 rfl rfl (fun w1 hw => ⟨rfl, hw⟩)
  ·refine at_fix (g := 9) rfl h2 ?_
   refine at_guard_yes rfl rfl rfl ?_
   refine av rfl (r_move rfl) ?_
   refine at_guard_yes rfl rfl rfl ?_
   refine av rfl (r_ieql rfl rfl) ?_
   refine av rfl (r_pick rfl rfl rfl) ?_
   refine av rfl (r_move rfl) ?_
   rcases of_ite hF with ⟨h3, hF⟩ | ⟨h3, hF⟩
   ·refine at_fix (g := 13) rfl h3 ?_
    refine at_guard_no rfl rfl rfl rfl rfl ?_
    refine at_guard_no rfl rfl rfl rfl rfl ?_
    refine av rfl (r_pick rfl rfl rfl) ?_
    refine av rfl (r_assign rfl) ?_
    refine nwt [(2, _)] ⟨rfl, trivial⟩ ?_
    refine at_ret ?_
    have K := of_some hF
    subst K
    exact at_return1 rfl rfl (fun w1 hw => ⟨rfl, hw⟩)
   ·refine at_fix (g := 13) rfl h3 ?_
    refine at_guard_yes rfl rfl rfl ?_
    refine av rfl (r_move rfl) ?_
    refine at_guard_yes rfl rfl rfl ?_
    refine av rfl (r_ieql rfl rfl) ?_
    refine av rfl (r_pick rfl rfl rfl) ?_
    refine av rfl (r_assign rfl) ?_
    refine nwt [(2, _)] ⟨rfl, trivial⟩ ?_
    refine at_ret ?_
    have K := of_some hF
    subst K
    exact at_return1 rfl rfl (fun w1 hw => ⟨rfl, hw⟩)
def crawlwayref37_most (x0 : Int) : Option (Int) :=
  if (x0 == 2) = true then (some 65535) else (if (x0 == 10) = true then (some 65535) else (if (x0 == 3) = true then (some 4294967295) else (if (x0 == 13) = true then (some 1) else (if (x0 == 14) = true then (some 18446744073709551615) else (if (x0 == 15) = true then (some 18446744073709551615) else (some 20))))))
theorem crawlwayref37_most_ok (x0 : Int) (r : Int) (hF : crawlwayref37_most x0 = some r) (w : World) :
    Calls Tryz.prog 44 #[.int .i64 x0] w (fun e w' => e = .returned (.int .u64 r) ∧ w' = w) := by
 unfold crawlwayref37_most at hF
 refine calls_enter (l := [.int .i64 x0]) Tryz.func44 rfl rfl rfl ?_
 refine at_weak [(0, _)] ⟨rfl, trivial⟩ ?_
 refine sr ?_
 refine av rfl (r_assign rfl) ?_
 refine nwt [(0, _)] ⟨rfl, trivial⟩ ?_
 refine at_seq ?_
 refine sr ?_
 refine av rfl (r_move rfl) ?_
 refine nwt [(3, _)] ⟨rfl, trivial⟩ ?_
 refine at_block ?_
 refine at_seq ?_
 refine sr ?_
 refine av rfl (r_ieql rfl rfl) ?_
 refine av rfl (r_assign rfl) ?_
 refine nwt [(3, _), (4, _)] ⟨rfl, rfl, trivial⟩ ?_
 rcases of_ite hF with ⟨h1, hF⟩ | ⟨h1, hF⟩
 ·refine at_cond_true rfl h1 ?_
  refine at_fix (g := 4) rfl h1 ?_
  refine sn ?_
  refine at_cond_true rfl rfl ?_
  refine sr ?_
  refine av rfl (r_assign rfl) ?_
  refine nwt [(2, _)] ⟨rfl, trivial⟩ ?_
  refine at_ret ?_
  refine at_blk_ret (at_then_ret ?_)
  have K := of_some hF
  subst K
  exact at_return1 rfl rfl (fun w1 hw => ⟨rfl, hw⟩)
 ·refine at_cond_false rfl h1 ?_
  refine at_region ?_
  refine av rfl (r_ieql rfl rfl) ?_
  refine av rfl (r_assign rfl) ?_
  refine nwt [(3, _), (4, _)] ⟨rfl, rfl, trivial⟩ ?_
  rcases of_ite hF with ⟨h2, hF⟩ | ⟨h2, hF⟩
  ·refine at_cond_true rfl h2 ?_
   refine sr ?_
   refine av rfl (r_assign rfl) ?_
   refine nwt [(2, _)] ⟨rfl, trivial⟩ ?_
   refine at_ret ?_
   refine at_blk_ret (at_then_ret ?_)
   have K := of_some hF
   subst K
   exact at_return1 rfl rfl (fun w1 hw => ⟨rfl, hw⟩)
  ·refine at_cond_false rfl h2 ?_
   refine sr ?_
   refine av rfl (r_ieql rfl rfl) ?_
   refine av rfl (r_assign rfl) ?_
   refine nwt [(3, _), (7, _)] ⟨rfl, rfl, trivial⟩ ?_
   rcases of_ite hF with ⟨h3, hF⟩ | ⟨h3, hF⟩
   ·refine at_cond_true rfl h3 ?_
    refine sr ?_
    refine av rfl (r_assign rfl) ?_
    refine nwt [(2, _)] ⟨rfl, trivial⟩ ?_
    refine at_ret ?_
    refine at_blk_ret (at_then_ret ?_)
    have K := of_some hF
    subst K
    exact at_return1 rfl rfl (fun w1 hw => ⟨rfl, hw⟩)
   ·refine at_cond_false rfl h3 ?_
    refine sr ?_
    refine av rfl (r_ieql rfl rfl) ?_
    refine av rfl (r_assign rfl) ?_
    refine nwt [(3, _), (9, _)] ⟨rfl, rfl, trivial⟩ ?_
    rcases of_ite hF with ⟨h4, hF⟩ | ⟨h4, hF⟩
    ·refine at_cond_true rfl h4 ?_
     refine sr ?_
     refine av rfl (r_assign rfl) ?_
     refine nwt [(2, _)] ⟨rfl, trivial⟩ ?_
     refine at_ret ?_
     refine at_blk_ret (at_then_ret ?_)
     have K := of_some hF
     subst K
     exact at_return1 rfl rfl (fun w1 hw => ⟨rfl, hw⟩)
    ·refine at_cond_false rfl h4 ?_
     refine at_seq ?_
     refine sr ?_
     refine av rfl (r_ieql rfl rfl) ?_
     refine av rfl (r_assign rfl) ?_
     refine nwt [(3, _), (11, _)] ⟨rfl, rfl, trivial⟩ ?_
     rcases of_ite hF with ⟨h5, hF⟩ | ⟨h5, hF⟩
     ·refine at_cond_true rfl h5 ?_
      refine at_fix (g := 11) rfl h5 ?_
      refine sn ?_
      refine at_cond_true rfl rfl ?_
      refine sr ?_
      refine av rfl (r_assign rfl) ?_
      refine nwt [(2, _)] ⟨rfl, trivial⟩ ?_
      refine at_ret ?_
      refine at_blk_ret (at_then_ret ?_)
      have K := of_some hF
      subst K
      exact at_return1 rfl rfl (fun w1 hw => ⟨rfl, hw⟩)
     ·refine at_cond_false rfl h5 ?_
      refine at_region ?_
      refine av rfl (r_ieql rfl rfl) ?_
      refine av rfl (r_assign rfl) ?_
      refine nwt [(11, _)] ⟨rfl, trivial⟩ ?_
      rcases of_ite hF with ⟨h6, hF⟩ | ⟨h6, hF⟩
      ·refine at_cond_true rfl h6 ?_
       refine sr ?_
       refine av rfl (r_assign rfl) ?_
       refine nwt [(2, _)] ⟨rfl, trivial⟩ ?_
       refine at_ret ?_
       refine at_blk_ret (at_then_ret ?_)
       have K := of_some hF
       subst K
       exact at_return1 rfl rfl (fun w1 hw => ⟨rfl, hw⟩)
      ·refine at_cond_false rfl h6 ?_
       refine at_skip ?_
       refine at_blk_normal (at_then_normal ?_)
       refine sr ?_
       refine av rfl (r_assign rfl) ?_
       refine nwt [(2, _)] ⟨rfl, trivial⟩ ?_
       refine at_ret ?_
       have K := of_some hF
       subst K
       exact at_return1 rfl rfl (fun w1 hw => ⟨rfl, hw⟩)
def crawlwayref37_Read (x0 : S_pairline_Pair) : Option (S_api_Field × Int) :=
  crawlwayref37_Word x0.f_Key >>= fun t3 => if (t3 == 0) = true then (if (12 != 0) = true then (some (({ f_Word := (0 : Int), f_Key := (Vector.replicate 32 (0 : Int) : (Vector Int 32)), f_N := (0 : Int), f_End := ({ f_A := ({ f_V := (0 : Int), f_B := (Vector.replicate 16 (0 : Int) : (Vector Int 16)) } : S_api_Addr), f_Port := (0 : Int) } : S_api_Endpoint), f_P := ({ f_A := ({ f_V := (0 : Int), f_B := (Vector.replicate 16 (0 : Int) : (Vector Int 16)) } : S_api_Addr), f_Bits := (0 : Int) } : S_api_Prefix) } : S_api_Field), 12)) else (some ({ ({ f_Word := (0 : Int), f_Key := (Vector.replicate 32 (0 : Int) : (Vector Int 32)), f_N := (0 : Int), f_End := ({ f_A := ({ f_V := (0 : Int), f_B := (Vector.replicate 16 (0 : Int) : (Vector Int 16)) } : S_api_Addr), f_Port := (0 : Int) } : S_api_Endpoint), f_P := ({ f_A := ({ f_V := (0 : Int), f_B := (Vector.replicate 16 (0 : Int) : (Vector Int 16)) } : S_api_Addr), f_Bits := (0 : Int) } : S_api_Prefix) } : S_api_Field) with f_Word := t3 }, 0))) else (crawlwayref37_key t3 >>= fun t7 => if t7 = true then (crawlwayref07_ParseHex x0.f_Value >>= fun t9 => if (t9.2 != 0) = true then (some (({ f_Word := (0 : Int), f_Key := (Vector.replicate 32 (0 : Int) : (Vector Int 32)), f_N := (0 : Int), f_End := ({ f_A := ({ f_V := (0 : Int), f_B := (Vector.replicate 16 (0 : Int) : (Vector Int 16)) } : S_api_Addr), f_Port := (0 : Int) } : S_api_Endpoint), f_P := ({ f_A := ({ f_V := (0 : Int), f_B := (Vector.replicate 16 (0 : Int) : (Vector Int 16)) } : S_api_Addr), f_Bits := (0 : Int) } : S_api_Prefix) } : S_api_Field), t9.2)) else (some ({ { ({ f_Word := (0 : Int), f_Key := (Vector.replicate 32 (0 : Int) : (Vector Int 32)), f_N := (0 : Int), f_End := ({ f_A := ({ f_V := (0 : Int), f_B := (Vector.replicate 16 (0 : Int) : (Vector Int 16)) } : S_api_Addr), f_Port := (0 : Int) } : S_api_Endpoint), f_P := ({ f_A := ({ f_V := (0 : Int), f_B := (Vector.replicate 16 (0 : Int) : (Vector Int 16)) } : S_api_Addr), f_Bits := (0 : Int) } : S_api_Prefix) } : S_api_Field) with f_Word := t3 } with f_Key := t9.1 }, 0))) else (if (t3 == 9) = true then (crawlwayref12_Parse x0.f_Value >>= fun t13 => if (t13.2 != 0) = true then (some (({ f_Word := (0 : Int), f_Key := (Vector.replicate 32 (0 : Int) : (Vector Int 32)), f_N := (0 : Int), f_End := ({ f_A := ({ f_V := (0 : Int), f_B := (Vector.replicate 16 (0 : Int) : (Vector Int 16)) } : S_api_Addr), f_Port := (0 : Int) } : S_api_Endpoint), f_P := ({ f_A := ({ f_V := (0 : Int), f_B := (Vector.replicate 16 (0 : Int) : (Vector Int 16)) } : S_api_Addr), f_Bits := (0 : Int) } : S_api_Prefix) } : S_api_Field), t13.2)) else (some ({ { ({ f_Word := (0 : Int), f_Key := (Vector.replicate 32 (0 : Int) : (Vector Int 32)), f_N := (0 : Int), f_End := ({ f_A := ({ f_V := (0 : Int), f_B := (Vector.replicate 16 (0 : Int) : (Vector Int 16)) } : S_api_Addr), f_Port := (0 : Int) } : S_api_Endpoint), f_P := ({ f_A := ({ f_V := (0 : Int), f_B := (Vector.replicate 16 (0 : Int) : (Vector Int 16)) } : S_api_Addr), f_Bits := (0 : Int) } : S_api_Prefix) } : S_api_Field) with f_Word := t3 } with f_End := t13.1 }, 0))) else (if (t3 == 12) = true then (crawlwayref11_Parse x0.f_Value >>= fun t17 => if (t17.2 != 0) = true then (some (({ f_Word := (0 : Int), f_Key := (Vector.replicate 32 (0 : Int) : (Vector Int 32)), f_N := (0 : Int), f_End := ({ f_A := ({ f_V := (0 : Int), f_B := (Vector.replicate 16 (0 : Int) : (Vector Int 16)) } : S_api_Addr), f_Port := (0 : Int) } : S_api_Endpoint), f_P := ({ f_A := ({ f_V := (0 : Int), f_B := (Vector.replicate 16 (0 : Int) : (Vector Int 16)) } : S_api_Addr), f_Bits := (0 : Int) } : S_api_Prefix) } : S_api_Field), t17.2)) else (some ({ { ({ f_Word := (0 : Int), f_Key := (Vector.replicate 32 (0 : Int) : (Vector Int 32)), f_N := (0 : Int), f_End := ({ f_A := ({ f_V := (0 : Int), f_B := (Vector.replicate 16 (0 : Int) : (Vector Int 16)) } : S_api_Addr), f_Port := (0 : Int) } : S_api_Endpoint), f_P := ({ f_A := ({ f_V := (0 : Int), f_B := (Vector.replicate 16 (0 : Int) : (Vector Int 16)) } : S_api_Addr), f_Bits := (0 : Int) } : S_api_Prefix) } : S_api_Field) with f_Word := t3 } with f_P := t17.1 }, 0))) else (crawlwayref37_flag t3 >>= fun t20 => if t20 = true then (if (!seq x0.f_Value (⟨#[116, 114, 117, 101]⟩ : ByteArray)) = true then (if (5 != 0) = true then (some (({ f_Word := (0 : Int), f_Key := (Vector.replicate 32 (0 : Int) : (Vector Int 32)), f_N := (0 : Int), f_End := ({ f_A := ({ f_V := (0 : Int), f_B := (Vector.replicate 16 (0 : Int) : (Vector Int 16)) } : S_api_Addr), f_Port := (0 : Int) } : S_api_Endpoint), f_P := ({ f_A := ({ f_V := (0 : Int), f_B := (Vector.replicate 16 (0 : Int) : (Vector Int 16)) } : S_api_Addr), f_Bits := (0 : Int) } : S_api_Prefix) } : S_api_Field), 5)) else (some ({ ({ f_Word := (0 : Int), f_Key := (Vector.replicate 32 (0 : Int) : (Vector Int 32)), f_N := (0 : Int), f_End := ({ f_A := ({ f_V := (0 : Int), f_B := (Vector.replicate 16 (0 : Int) : (Vector Int 16)) } : S_api_Addr), f_Port := (0 : Int) } : S_api_Endpoint), f_P := ({ f_A := ({ f_V := (0 : Int), f_B := (Vector.replicate 16 (0 : Int) : (Vector Int 16)) } : S_api_Addr), f_Bits := (0 : Int) } : S_api_Prefix) } : S_api_Field) with f_Word := t3 }, 0))) else (if (0 != 0) = true then (some (({ f_Word := (0 : Int), f_Key := (Vector.replicate 32 (0 : Int) : (Vector Int 32)), f_N := (0 : Int), f_End := ({ f_A := ({ f_V := (0 : Int), f_B := (Vector.replicate 16 (0 : Int) : (Vector Int 16)) } : S_api_Addr), f_Port := (0 : Int) } : S_api_Endpoint), f_P := ({ f_A := ({ f_V := (0 : Int), f_B := (Vector.replicate 16 (0 : Int) : (Vector Int 16)) } : S_api_Addr), f_Bits := (0 : Int) } : S_api_Prefix) } : S_api_Field), 0)) else (some ({ ({ f_Word := (0 : Int), f_Key := (Vector.replicate 32 (0 : Int) : (Vector Int 32)), f_N := (0 : Int), f_End := ({ f_A := ({ f_V := (0 : Int), f_B := (Vector.replicate 16 (0 : Int) : (Vector Int 16)) } : S_api_Addr), f_Port := (0 : Int) } : S_api_Endpoint), f_P := ({ f_A := ({ f_V := (0 : Int), f_B := (Vector.replicate 16 (0 : Int) : (Vector Int 16)) } : S_api_Addr), f_Bits := (0 : Int) } : S_api_Prefix) } : S_api_Field) with f_Word := t3 }, 0)))) else (crawlwayref37_most t3 >>= fun t25 => crawlwayref03_Read x0.f_Value t25 >>= fun t26 => if (t26.2 == 0) = true then (if (t3 == 13) = true then (if (t26.1 == 0) = true then (if (6 != 0) = true then (some (({ f_Word := (0 : Int), f_Key := (Vector.replicate 32 (0 : Int) : (Vector Int 32)), f_N := (0 : Int), f_End := ({ f_A := ({ f_V := (0 : Int), f_B := (Vector.replicate 16 (0 : Int) : (Vector Int 16)) } : S_api_Addr), f_Port := (0 : Int) } : S_api_Endpoint), f_P := ({ f_A := ({ f_V := (0 : Int), f_B := (Vector.replicate 16 (0 : Int) : (Vector Int 16)) } : S_api_Addr), f_Bits := (0 : Int) } : S_api_Prefix) } : S_api_Field), 6)) else (some ({ { ({ f_Word := (0 : Int), f_Key := (Vector.replicate 32 (0 : Int) : (Vector Int 32)), f_N := (0 : Int), f_End := ({ f_A := ({ f_V := (0 : Int), f_B := (Vector.replicate 16 (0 : Int) : (Vector Int 16)) } : S_api_Addr), f_Port := (0 : Int) } : S_api_Endpoint), f_P := ({ f_A := ({ f_V := (0 : Int), f_B := (Vector.replicate 16 (0 : Int) : (Vector Int 16)) } : S_api_Addr), f_Bits := (0 : Int) } : S_api_Prefix) } : S_api_Field) with f_Word := t3 } with f_N := t26.1 }, 0))) else (if (t26.2 != 0) = true then (some (({ f_Word := (0 : Int), f_Key := (Vector.replicate 32 (0 : Int) : (Vector Int 32)), f_N := (0 : Int), f_End := ({ f_A := ({ f_V := (0 : Int), f_B := (Vector.replicate 16 (0 : Int) : (Vector Int 16)) } : S_api_Addr), f_Port := (0 : Int) } : S_api_Endpoint), f_P := ({ f_A := ({ f_V := (0 : Int), f_B := (Vector.replicate 16 (0 : Int) : (Vector Int 16)) } : S_api_Addr), f_Bits := (0 : Int) } : S_api_Prefix) } : S_api_Field), t26.2)) else (some ({ { ({ f_Word := (0 : Int), f_Key := (Vector.replicate 32 (0 : Int) : (Vector Int 32)), f_N := (0 : Int), f_End := ({ f_A := ({ f_V := (0 : Int), f_B := (Vector.replicate 16 (0 : Int) : (Vector Int 16)) } : S_api_Addr), f_Port := (0 : Int) } : S_api_Endpoint), f_P := ({ f_A := ({ f_V := (0 : Int), f_B := (Vector.replicate 16 (0 : Int) : (Vector Int 16)) } : S_api_Addr), f_Bits := (0 : Int) } : S_api_Prefix) } : S_api_Field) with f_Word := t3 } with f_N := t26.1 }, 0)))) else (if (t26.2 != 0) = true then (some (({ f_Word := (0 : Int), f_Key := (Vector.replicate 32 (0 : Int) : (Vector Int 32)), f_N := (0 : Int), f_End := ({ f_A := ({ f_V := (0 : Int), f_B := (Vector.replicate 16 (0 : Int) : (Vector Int 16)) } : S_api_Addr), f_Port := (0 : Int) } : S_api_Endpoint), f_P := ({ f_A := ({ f_V := (0 : Int), f_B := (Vector.replicate 16 (0 : Int) : (Vector Int 16)) } : S_api_Addr), f_Bits := (0 : Int) } : S_api_Prefix) } : S_api_Field), t26.2)) else (some ({ { ({ f_Word := (0 : Int), f_Key := (Vector.replicate 32 (0 : Int) : (Vector Int 32)), f_N := (0 : Int), f_End := ({ f_A := ({ f_V := (0 : Int), f_B := (Vector.replicate 16 (0 : Int) : (Vector Int 16)) } : S_api_Addr), f_Port := (0 : Int) } : S_api_Endpoint), f_P := ({ f_A := ({ f_V := (0 : Int), f_B := (Vector.replicate 16 (0 : Int) : (Vector Int 16)) } : S_api_Addr), f_Bits := (0 : Int) } : S_api_Prefix) } : S_api_Field) with f_Word := t3 } with f_N := t26.1 }, 0)))) else (if (t26.2 != 0) = true then (some (({ f_Word := (0 : Int), f_Key := (Vector.replicate 32 (0 : Int) : (Vector Int 32)), f_N := (0 : Int), f_End := ({ f_A := ({ f_V := (0 : Int), f_B := (Vector.replicate 16 (0 : Int) : (Vector Int 16)) } : S_api_Addr), f_Port := (0 : Int) } : S_api_Endpoint), f_P := ({ f_A := ({ f_V := (0 : Int), f_B := (Vector.replicate 16 (0 : Int) : (Vector Int 16)) } : S_api_Addr), f_Bits := (0 : Int) } : S_api_Prefix) } : S_api_Field), t26.2)) else (some ({ { ({ f_Word := (0 : Int), f_Key := (Vector.replicate 32 (0 : Int) : (Vector Int 32)), f_N := (0 : Int), f_End := ({ f_A := ({ f_V := (0 : Int), f_B := (Vector.replicate 16 (0 : Int) : (Vector Int 16)) } : S_api_Addr), f_Port := (0 : Int) } : S_api_Endpoint), f_P := ({ f_A := ({ f_V := (0 : Int), f_B := (Vector.replicate 16 (0 : Int) : (Vector Int 16)) } : S_api_Addr), f_Bits := (0 : Int) } : S_api_Prefix) } : S_api_Field) with f_Word := t3 } with f_N := t26.1 }, 0))))))))
def crawlwayref37_Right (x0 : S_api_Field) : Option (Bool) :=
  if (decide (x0.f_Word < 1)) = true then (some false) else (if (decide (x0.f_Word > 16)) = true then (some false) else (crawlwayref37_key x0.f_Word >>= fun t5 => if t5 = true then (some (decide ({ { ({ f_Word := (0 : Int), f_Key := (Vector.replicate 32 (0 : Int) : (Vector Int 32)), f_N := (0 : Int), f_End := ({ f_A := ({ f_V := (0 : Int), f_B := (Vector.replicate 16 (0 : Int) : (Vector Int 16)) } : S_api_Addr), f_Port := (0 : Int) } : S_api_Endpoint), f_P := ({ f_A := ({ f_V := (0 : Int), f_B := (Vector.replicate 16 (0 : Int) : (Vector Int 16)) } : S_api_Addr), f_Bits := (0 : Int) } : S_api_Prefix) } : S_api_Field) with f_Word := x0.f_Word } with f_Key := x0.f_Key } = x0))) else (if (x0.f_Word == 9) = true then (crawlwayref12_Right x0.f_End >>= fun t8 => if (!t8) = true then (some false) else (some (decide ({ { ({ f_Word := (0 : Int), f_Key := (Vector.replicate 32 (0 : Int) : (Vector Int 32)), f_N := (0 : Int), f_End := ({ f_A := ({ f_V := (0 : Int), f_B := (Vector.replicate 16 (0 : Int) : (Vector Int 16)) } : S_api_Addr), f_Port := (0 : Int) } : S_api_Endpoint), f_P := ({ f_A := ({ f_V := (0 : Int), f_B := (Vector.replicate 16 (0 : Int) : (Vector Int 16)) } : S_api_Addr), f_Bits := (0 : Int) } : S_api_Prefix) } : S_api_Field) with f_Word := x0.f_Word } with f_End := x0.f_End } = x0)))) else (if (x0.f_Word == 12) = true then (crawlwayref11_Right x0.f_P >>= fun t11 => if (!t11) = true then (some false) else (some (decide ({ { ({ f_Word := (0 : Int), f_Key := (Vector.replicate 32 (0 : Int) : (Vector Int 32)), f_N := (0 : Int), f_End := ({ f_A := ({ f_V := (0 : Int), f_B := (Vector.replicate 16 (0 : Int) : (Vector Int 16)) } : S_api_Addr), f_Port := (0 : Int) } : S_api_Endpoint), f_P := ({ f_A := ({ f_V := (0 : Int), f_B := (Vector.replicate 16 (0 : Int) : (Vector Int 16)) } : S_api_Addr), f_Bits := (0 : Int) } : S_api_Prefix) } : S_api_Field) with f_Word := x0.f_Word } with f_P := x0.f_P } = x0)))) else (crawlwayref37_flag x0.f_Word >>= fun t13 => if (!t13) = true then (crawlwayref37_most x0.f_Word >>= fun t15 => if (decide (x0.f_N > t15)) = true then (some false) else (if (x0.f_Word == 13) = true then (if (x0.f_N == 0) = true then (some false) else (some (decide ({ { ({ f_Word := (0 : Int), f_Key := (Vector.replicate 32 (0 : Int) : (Vector Int 32)), f_N := (0 : Int), f_End := ({ f_A := ({ f_V := (0 : Int), f_B := (Vector.replicate 16 (0 : Int) : (Vector Int 16)) } : S_api_Addr), f_Port := (0 : Int) } : S_api_Endpoint), f_P := ({ f_A := ({ f_V := (0 : Int), f_B := (Vector.replicate 16 (0 : Int) : (Vector Int 16)) } : S_api_Addr), f_Bits := (0 : Int) } : S_api_Prefix) } : S_api_Field) with f_Word := x0.f_Word } with f_N := x0.f_N } = x0)))) else (some (decide ({ { ({ f_Word := (0 : Int), f_Key := (Vector.replicate 32 (0 : Int) : (Vector Int 32)), f_N := (0 : Int), f_End := ({ f_A := ({ f_V := (0 : Int), f_B := (Vector.replicate 16 (0 : Int) : (Vector Int 16)) } : S_api_Addr), f_Port := (0 : Int) } : S_api_Endpoint), f_P := ({ f_A := ({ f_V := (0 : Int), f_B := (Vector.replicate 16 (0 : Int) : (Vector Int 16)) } : S_api_Addr), f_Bits := (0 : Int) } : S_api_Prefix) } : S_api_Field) with f_Word := x0.f_Word } with f_N := x0.f_N } = x0))))) else (some (decide ({ ({ f_Word := (0 : Int), f_Key := (Vector.replicate 32 (0 : Int) : (Vector Int 32)), f_N := (0 : Int), f_End := ({ f_A := ({ f_V := (0 : Int), f_B := (Vector.replicate 16 (0 : Int) : (Vector Int 16)) } : S_api_Addr), f_Port := (0 : Int) } : S_api_Endpoint), f_P := ({ f_A := ({ f_V := (0 : Int), f_B := (Vector.replicate 16 (0 : Int) : (Vector Int 16)) } : S_api_Addr), f_Bits := (0 : Int) } : S_api_Prefix) } : S_api_Field) with f_Word := x0.f_Word } = x0))))))))
theorem crawlwayref37_Right_ok (x0 : S_api_Field) (r : Bool) (hF : crawlwayref37_Right x0 = some r) (w : World) :
    Calls Tryz.prog 28 #[.agg (Cd.cs c_api_Field x0).toArray] w (fun e w' => e = .returned (.bool r) ∧ Below w.heap.size w w') := by
 unfold crawlwayref37_Right at hF
 refine calls_enter (l := [.agg (Cd.cs c_api_Field x0).toArray]) Tryz.func28 rfl rfl rfl ?_
 refine at_start ?_
 refine at_weak [(0, _)] ⟨rfl, trivial⟩ ?_
 refine sr ?_
 refine at_box (cs := Cd.cs c_api_Field x0) rfl rfl rfl ?_
 intro b1
 refine av rfl (r_assign rfl) ?_
 refine nwt [(1, _)] ⟨rfl, trivial⟩ ?_
 refine at_seq ?_
 refine sr ?_
 refine av rfl (r_fieldAddr (fo := 0) Tryz.underlying46 rfl rfl (fun w => ⟨_, Tryz.sizeOf3 w⟩) rfl) ?_
 refine av rfl (r_load_cell Tryz.isAgg3 rfl (lens_cell0 (c := (cInt .i64)) (y := x0.f_Word) .z (Lens.comp (Lens.whole _ _) (fun z => { x0 with f_Word := z }) (c_api_Field_f_Word x0)) rfl)) ?_
 refine av rfl (r_ilss rfl rfl) ?_
 refine av rfl (r_move rfl) ?_
 rcases of_ite hF with ⟨h2, hF⟩ | ⟨h2, hF⟩
 ·refine at_fix (g := 7) rfl h2 ?_
  refine at_guard_no rfl rfl rfl rfl rfl ?_
  refine at_guard_no rfl rfl rfl rfl rfl ?_
  refine at_guard_no rfl rfl rfl rfl rfl ?_
  refine av rfl (r_pick rfl rfl rfl) ?_
  refine nwt [(1, _), (11, _)] ⟨rfl, rfl, trivial⟩ ?_
  refine at_cond_true rfl rfl ?_
  refine sr ?_
  refine av rfl (r_assign rfl) ?_
  refine at_nil ?_
  refine at_drop (H := _) .z ?_
  refine at_weak [(2, _)] ⟨rfl, trivial⟩ ?_
  refine at_then_normal ?_
  refine rt ?_
  have K := of_some hF
  subst K
  exact at_return1 rfl rfl (fun w1 hw => ⟨rfl, hw.below⟩)
 ·refine at_fix (g := 7) rfl h2 ?_
  refine at_guard_yes rfl rfl rfl ?_
  refine av rfl (r_fieldAddr (fo := 0) Tryz.underlying46 rfl rfl (fun w => ⟨_, Tryz.sizeOf3 w⟩) rfl) ?_
  refine at_guard_yes rfl rfl rfl ?_
  refine av rfl (r_load_cell Tryz.isAgg3 rfl (lens_cell0 (c := (cInt .i64)) (y := x0.f_Word) .z (Lens.comp (Lens.whole _ _) (fun z => { x0 with f_Word := z }) (c_api_Field_f_Word x0)) rfl)) ?_
  refine at_guard_yes rfl rfl rfl ?_
  refine av rfl (r_igtr rfl rfl) ?_
  refine av rfl (r_pick rfl rfl rfl) ?_
  refine nwt [(1, _), (11, _)] ⟨rfl, rfl, trivial⟩ ?_
  rcases of_ite hF with ⟨h3, hF⟩ | ⟨h3, hF⟩
  ·refine at_cond_true rfl h3 ?_
   refine sr ?_
   refine av rfl (r_assign rfl) ?_
   refine at_nil ?_
   refine at_drop (H := _) .z ?_
   refine at_weak [(2, _)] ⟨rfl, trivial⟩ ?_
   refine at_then_normal ?_
   refine rt ?_
   have K := of_some hF
   subst K
   exact at_return1 rfl rfl (fun w1 hw => ⟨rfl, hw.below⟩)
  ·refine at_cond_false rfl h3 ?_
   refine sns ?_
   refine av rfl (r_fieldAddr (fo := 0) Tryz.underlying46 rfl rfl (fun w => ⟨_, Tryz.sizeOf3 w⟩) rfl) ?_
   refine av rfl (r_load_cell Tryz.isAgg3 rfl (lens_cell0 (c := (cInt .i64)) (y := x0.f_Word) .z (Lens.comp (Lens.whole _ _) (fun z => { x0 with f_Word := z }) (c_api_Field_f_Word x0)) rfl)) ?_
   refine av rfl (r_build_struct (zs := Cd.cs c_api_Field ({ f_Word := (0 : Int), f_Key := (Vector.replicate 32 (0 : Int) : (Vector Int 32)), f_N := (0 : Int), f_End := zqGT_0, f_P := zqGT_1 } : S_api_Field)) (cs := Cd.cs c_api_Field ({ ({ f_Word := (0 : Int), f_Key := (Vector.replicate 32 (0 : Int) : (Vector Int 32)), f_N := (0 : Int), f_End := zqGT_0, f_P := zqGT_1 } : S_api_Field) with f_Word := x0.f_Word })) Tryz.underlying46 Tryz.zeroValue46 rfl (places_api_Field_46) rfl (fill_step (c := (cInt .i64)) (z := x0.f_Word) rfl (c_api_Field_f_Word ({ f_Word := (0 : Int), f_Key := (Vector.replicate 32 (0 : Int) : (Vector Int 32)), f_N := (0 : Int), f_End := zqGT_0, f_P := zqGT_1 } : S_api_Field)) rfl rfl)) ?_
   refine at_alloc (cs := Cd.cs c_api_Field ({ f_Word := (0 : Int), f_Key := (Vector.replicate 32 (0 : Int) : (Vector Int 32)), f_N := (0 : Int), f_End := zqGT_0, f_P := zqGT_1 } : S_api_Field)) Tryz.zeroValue46 rfl rfl ?_
   intro b4
   refine at_store (c := c_api_Field) (z := { ({ f_Word := (0 : Int), f_Key := (Vector.replicate 32 (0 : Int) : (Vector Int 32)), f_N := (0 : Int), f_End := zqGT_0, f_P := zqGT_1 } : S_api_Field) with f_Word := x0.f_Word }) .z (Lens.whole _ _) Tryz.sizeOf46 rfl rfl rfl ?_
   refine nwt [(1, _), (3, _)] ⟨rfl, rfl, trivial⟩ ?_
   refine at_seq ?_
   refine sr ?_
   refine av rfl (r_fieldAddr (fo := 0) Tryz.underlying46 rfl rfl (fun w => ⟨_, Tryz.sizeOf3 w⟩) rfl) ?_
   refine av rfl (r_load_cell Tryz.isAgg3 rfl (lens_cell0 (c := (cInt .i64)) (y := x0.f_Word) (.s .z) (Lens.comp (Lens.whole _ _) (fun z => { x0 with f_Word := z }) (c_api_Field_f_Word x0)) rfl)) ?_
   obtain ⟨t5, ht5, hF⟩ := of_bindM hF
   refine at_call0 Tryz.func38 rfl (by kernel_rfl) rfl rfl (fun w => crawlwayref37_key_ok _ _ ht5 w) ?_
   refine nwt [(1, _), (3, _), (17, _)] ⟨rfl, rfl, rfl, trivial⟩ ?_
   rcases of_ite hF with ⟨h6, hF⟩ | ⟨h6, hF⟩
   ·refine at_cond_true rfl h6 ?_
    refine at_region ?_
    refine av rfl (r_fieldAddr (fo := 1) Tryz.underlying46 rfl rfl (fun w => ⟨_, Tryz.sizeOf29 w⟩) rfl) ?_
    refine av rfl (r_load_aggc (c := (cVec (cInt .u8) 32 (by decide))) (z := x0.f_Key) Tryz.isAgg29 Tryz.sizeOf29 rfl (lens_cell (.s .z) (Lens.comp (Lens.whole _ _) (fun z => { x0 with f_Key := z }) (c_api_Field_f_Key x0)))) ?_
    refine av rfl (r_fieldAddr (fo := 1) Tryz.underlying46 rfl rfl (fun w => ⟨_, Tryz.sizeOf29 w⟩) rfl) ?_
    refine at_store (c := (cVec (cInt .u8) 32 (by decide))) (z := x0.f_Key) .z (Lens.comp (Lens.whole _ _) (fun z => { { ({ f_Word := (0 : Int), f_Key := (Vector.replicate 32 (0 : Int) : (Vector Int 32)), f_N := (0 : Int), f_End := zqGT_0, f_P := zqGT_1 } : S_api_Field) with f_Word := x0.f_Word } with f_Key := z }) (c_api_Field_f_Key ({ ({ f_Word := (0 : Int), f_Key := (Vector.replicate 32 (0 : Int) : (Vector Int 32)), f_N := (0 : Int), f_End := zqGT_0, f_P := zqGT_1 } : S_api_Field) with f_Word := x0.f_Word }))) Tryz.sizeOf29 rfl rfl rfl ?_
    refine nws [(1, _), (3, _)] ⟨rfl, rfl, trivial⟩ ?_
    refine av rfl (r_load_aggc (c := c_api_Field) (z := { { ({ f_Word := (0 : Int), f_Key := (Vector.replicate 32 (0 : Int) : (Vector Int 32)), f_N := (0 : Int), f_End := zqGT_0, f_P := zqGT_1 } : S_api_Field) with f_Word := x0.f_Word } with f_Key := x0.f_Key }) Tryz.isAgg46 Tryz.sizeOf46 rfl (lens_cell .z (Lens.whole _ _))) ?_
    refine av rfl (r_load_aggc (c := c_api_Field) (z := x0) Tryz.isAgg46 Tryz.sizeOf46 rfl (lens_cell (.s .z) (Lens.whole _ _))) ?_
    refine av rfl (r_eqagg (c := c_api_Field) (a := { { ({ f_Word := (0 : Int), f_Key := (Vector.replicate 32 (0 : Int) : (Vector Int 32)), f_N := (0 : Int), f_End := zqGT_0, f_P := zqGT_1 } : S_api_Field) with f_Word := x0.f_Word } with f_Key := x0.f_Key }) (b := x0) (eq_api_Field_46) rfl Tryz.eqGuardType46 rfl rfl (.inl rfl) rfl) ?_
    refine av rfl (r_assign rfl) ?_
    refine at_nil ?_
    refine at_drop (H := _) .z ?_
    refine at_drop (H := _) .z ?_
    refine at_weak [(2, _)] ⟨rfl, trivial⟩ ?_
    refine at_then_normal ?_
    refine at_ret ?_
    have K := of_some hF
    subst K
    exact at_return1 rfl rfl (fun w1 hw => ⟨rfl, hw.below⟩)
   ·refine at_cond_false rfl h6 ?_
    refine sr ?_
    refine av rfl (r_fieldAddr (fo := 0) Tryz.underlying46 rfl rfl (fun w => ⟨_, Tryz.sizeOf3 w⟩) rfl) ?_
    refine av rfl (r_load_cell Tryz.isAgg3 rfl (lens_cell0 (c := (cInt .i64)) (y := x0.f_Word) (.s .z) (Lens.comp (Lens.whole _ _) (fun z => { x0 with f_Word := z }) (c_api_Field_f_Word x0)) rfl)) ?_
    refine av rfl (r_ieql rfl rfl) ?_
    refine nwt [(1, _), (3, _), (23, _)] ⟨rfl, rfl, rfl, trivial⟩ ?_
    rcases of_ite hF with ⟨h7, hF⟩ | ⟨h7, hF⟩
    ·refine at_cond_true rfl h7 ?_
     refine sr ?_
     refine av rfl (r_fieldAddr (fo := 34) Tryz.underlying46 rfl rfl (fun w => ⟨_, Tryz.sizeOf27 w⟩) rfl) ?_
     refine av rfl (r_load_aggc (c := c_api_Endpoint) (z := x0.f_End) Tryz.isAgg27 Tryz.sizeOf27 rfl (lens_cell (.s .z) (Lens.comp (Lens.whole _ _) (fun z => { x0 with f_End := z }) (c_api_Field_f_End x0)))) ?_
     refine av rfl (r_fieldAddr (fo := 34) Tryz.underlying46 rfl rfl (fun w => ⟨_, Tryz.sizeOf27 w⟩) rfl) ?_
     refine at_store (c := c_api_Endpoint) (z := x0.f_End) .z (Lens.comp (Lens.whole _ _) (fun z => { { ({ f_Word := (0 : Int), f_Key := (Vector.replicate 32 (0 : Int) : (Vector Int 32)), f_N := (0 : Int), f_End := zqGT_0, f_P := zqGT_1 } : S_api_Field) with f_Word := x0.f_Word } with f_End := z }) (c_api_Field_f_End ({ ({ f_Word := (0 : Int), f_Key := (Vector.replicate 32 (0 : Int) : (Vector Int 32)), f_N := (0 : Int), f_End := zqGT_0, f_P := zqGT_1 } : S_api_Field) with f_Word := x0.f_Word }))) Tryz.sizeOf27 rfl rfl rfl ?_
     refine nws [(1, _), (3, _)] ⟨rfl, rfl, trivial⟩ ?_
     refine av rfl (r_fieldAddr (fo := 34) Tryz.underlying46 rfl rfl (fun w => ⟨_, Tryz.sizeOf27 w⟩) rfl) ?_
     refine av rfl (r_load_aggc (c := c_api_Endpoint) (z := x0.f_End) Tryz.isAgg27 Tryz.sizeOf27 rfl (lens_cell (.s .z) (Lens.comp (Lens.whole _ _) (fun z => { x0 with f_End := z }) (c_api_Field_f_End x0)))) ?_
     obtain ⟨t8, ht8, hF⟩ := of_bindM hF
     refine at_callB Tryz.func45 rfl (by kernel_rfl) rfl rfl (fun w hw => crawlwayref12_Right_ok _ _ ht8 w) ?_
     refine av rfl (r_not rfl) ?_
     refine nwt [(1, _), (3, _), (30, _)] ⟨rfl, rfl, rfl, trivial⟩ ?_
     rcases of_ite hF with ⟨h9, hF⟩ | ⟨h9, hF⟩
     ·refine at_cond_true rfl h9 ?_
      refine sr ?_
      refine av rfl (r_assign rfl) ?_
      refine at_nil ?_
      refine at_drop (H := _) .z ?_
      refine at_drop (H := _) .z ?_
      refine at_weak [(2, _)] ⟨rfl, trivial⟩ ?_
      refine at_then_normal ?_
      refine rt ?_
      have K := of_some hF
      subst K
      exact at_return1 rfl rfl (fun w1 hw => ⟨rfl, hw.below⟩)
     ·refine at_cond_false rfl h9 ?_
      refine sns ?_
      refine av rfl (r_load_aggc (c := c_api_Field) (z := { { ({ f_Word := (0 : Int), f_Key := (Vector.replicate 32 (0 : Int) : (Vector Int 32)), f_N := (0 : Int), f_End := zqGT_0, f_P := zqGT_1 } : S_api_Field) with f_Word := x0.f_Word } with f_End := x0.f_End }) Tryz.isAgg46 Tryz.sizeOf46 rfl (lens_cell .z (Lens.whole _ _))) ?_
      refine av rfl (r_load_aggc (c := c_api_Field) (z := x0) Tryz.isAgg46 Tryz.sizeOf46 rfl (lens_cell (.s .z) (Lens.whole _ _))) ?_
      refine av rfl (r_eqagg (c := c_api_Field) (a := { { ({ f_Word := (0 : Int), f_Key := (Vector.replicate 32 (0 : Int) : (Vector Int 32)), f_N := (0 : Int), f_End := zqGT_0, f_P := zqGT_1 } : S_api_Field) with f_Word := x0.f_Word } with f_End := x0.f_End }) (b := x0) (eq_api_Field_46) rfl Tryz.eqGuardType46 rfl rfl (.inl rfl) rfl) ?_
      refine av rfl (r_assign rfl) ?_
      refine at_nil ?_
      refine at_drop (H := _) .z ?_
      refine at_drop (H := _) .z ?_
      refine at_weak [(2, _)] ⟨rfl, trivial⟩ ?_
      refine at_then_normal ?_
      refine at_ret ?_
      have K := of_some hF
      subst K
      exact at_return1 rfl rfl (fun w1 hw => ⟨rfl, hw.below⟩)
    ·refine at_cond_false rfl h7 ?_
     refine sr ?_
     refine av rfl (r_fieldAddr (fo := 0) Tryz.underlying46 rfl rfl (fun w => ⟨_, Tryz.sizeOf3 w⟩) rfl) ?_
     refine av rfl (r_load_cell Tryz.isAgg3 rfl (lens_cell0 (c := (cInt .i64)) (y := x0.f_Word) (.s .z) (Lens.comp (Lens.whole _ _) (fun z => { x0 with f_Word := z }) (c_api_Field_f_Word x0)) rfl)) ?_
     refine av rfl (r_ieql rfl rfl) ?_
     refine nwt [(1, _), (3, _), (33, _)] ⟨rfl, rfl, rfl, trivial⟩ ?_
     rcases of_ite hF with ⟨h10, hF⟩ | ⟨h10, hF⟩
     ·refine at_cond_true rfl h10 ?_
      refine sr ?_
      refine av rfl (r_fieldAddr (fo := 52) Tryz.underlying46 rfl rfl (fun w => ⟨_, Tryz.sizeOf44 w⟩) rfl) ?_
      refine av rfl (r_load_aggc (c := c_api_Prefix) (z := x0.f_P) Tryz.isAgg44 Tryz.sizeOf44 rfl (lens_cell (.s .z) (Lens.comp (Lens.whole _ _) (fun z => { x0 with f_P := z }) (c_api_Field_f_P x0)))) ?_
      refine av rfl (r_fieldAddr (fo := 52) Tryz.underlying46 rfl rfl (fun w => ⟨_, Tryz.sizeOf44 w⟩) rfl) ?_
      refine at_store (c := c_api_Prefix) (z := x0.f_P) .z (Lens.comp (Lens.whole _ _) (fun z => { { ({ f_Word := (0 : Int), f_Key := (Vector.replicate 32 (0 : Int) : (Vector Int 32)), f_N := (0 : Int), f_End := zqGT_0, f_P := zqGT_1 } : S_api_Field) with f_Word := x0.f_Word } with f_P := z }) (c_api_Field_f_P ({ ({ f_Word := (0 : Int), f_Key := (Vector.replicate 32 (0 : Int) : (Vector Int 32)), f_N := (0 : Int), f_End := zqGT_0, f_P := zqGT_1 } : S_api_Field) with f_Word := x0.f_Word }))) Tryz.sizeOf44 rfl rfl rfl ?_
      refine nws [(1, _), (3, _)] ⟨rfl, rfl, trivial⟩ ?_
      refine av rfl (r_fieldAddr (fo := 52) Tryz.underlying46 rfl rfl (fun w => ⟨_, Tryz.sizeOf44 w⟩) rfl) ?_
      refine av rfl (r_load_aggc (c := c_api_Prefix) (z := x0.f_P) Tryz.isAgg44 Tryz.sizeOf44 rfl (lens_cell (.s .z) (Lens.comp (Lens.whole _ _) (fun z => { x0 with f_P := z }) (c_api_Field_f_P x0)))) ?_
      obtain ⟨t11, ht11, hF⟩ := of_bindM hF
      refine at_callB Tryz.func58 rfl (by kernel_rfl) rfl rfl (fun w hw => crawlwayref11_Right_ok _ _ ht11 w) ?_
      refine av rfl (r_not rfl) ?_
      refine nwt [(1, _), (3, _), (40, _)] ⟨rfl, rfl, rfl, trivial⟩ ?_
      rcases of_ite hF with ⟨h12, hF⟩ | ⟨h12, hF⟩
      ·refine at_cond_true rfl h12 ?_
       refine sr ?_
       refine av rfl (r_assign rfl) ?_
       refine at_nil ?_
       refine at_drop (H := _) .z ?_
       refine at_drop (H := _) .z ?_
       refine at_weak [(2, _)] ⟨rfl, trivial⟩ ?_
       refine at_then_normal ?_
       refine rt ?_
       have K := of_some hF
       subst K
       exact at_return1 rfl rfl (fun w1 hw => ⟨rfl, hw.below⟩)
      ·refine at_cond_false rfl h12 ?_
       refine sns ?_
       refine av rfl (r_load_aggc (c := c_api_Field) (z := { { ({ f_Word := (0 : Int), f_Key := (Vector.replicate 32 (0 : Int) : (Vector Int 32)), f_N := (0 : Int), f_End := zqGT_0, f_P := zqGT_1 } : S_api_Field) with f_Word := x0.f_Word } with f_P := x0.f_P }) Tryz.isAgg46 Tryz.sizeOf46 rfl (lens_cell .z (Lens.whole _ _))) ?_
       refine av rfl (r_load_aggc (c := c_api_Field) (z := x0) Tryz.isAgg46 Tryz.sizeOf46 rfl (lens_cell (.s .z) (Lens.whole _ _))) ?_
       refine av rfl (r_eqagg (c := c_api_Field) (a := { { ({ f_Word := (0 : Int), f_Key := (Vector.replicate 32 (0 : Int) : (Vector Int 32)), f_N := (0 : Int), f_End := zqGT_0, f_P := zqGT_1 } : S_api_Field) with f_Word := x0.f_Word } with f_P := x0.f_P }) (b := x0) (eq_api_Field_46) rfl Tryz.eqGuardType46 rfl rfl (.inl rfl) rfl) ?_
       refine av rfl (r_assign rfl) ?_
       refine at_nil ?_
       refine at_drop (H := _) .z ?_
       refine at_drop (H := _) .z ?_
       refine at_weak [(2, _)] ⟨rfl, trivial⟩ ?_
       refine at_then_normal ?_
       refine at_ret ?_
       have K := of_some hF
       subst K
       exact at_return1 rfl rfl (fun w1 hw => ⟨rfl, hw.below⟩)
     ·refine at_cond_false rfl h10 ?_
      refine sr ?_
      refine av rfl (r_fieldAddr (fo := 0) Tryz.underlying46 rfl rfl (fun w => ⟨_, Tryz.sizeOf3 w⟩) rfl) ?_
      refine av rfl (r_load_cell Tryz.isAgg3 rfl (lens_cell0 (c := (cInt .i64)) (y := x0.f_Word) (.s .z) (Lens.comp (Lens.whole _ _) (fun z => { x0 with f_Word := z }) (c_api_Field_f_Word x0)) rfl)) ?_
      obtain ⟨t13, ht13, hF⟩ := of_bindM hF
      refine at_call0 Tryz.func42 rfl (by kernel_rfl) rfl rfl (fun w => crawlwayref37_flag_ok _ _ ht13 w) ?_
      refine av rfl (r_not rfl) ?_
      refine nwt [(1, _), (3, _), (44, _)] ⟨rfl, rfl, rfl, trivial⟩ ?_
      rcases of_ite hF with ⟨h14, hF⟩ | ⟨h14, hF⟩
      ·refine at_cond_true rfl h14 ?_
       refine sr ?_
       refine av rfl (r_fieldAddr (fo := 33) Tryz.underlying46 rfl rfl (fun w => ⟨_, Tryz.sizeOf31 w⟩) rfl) ?_
       refine av rfl (r_load_cell Tryz.isAgg31 rfl (lens_cell0 (c := (cInt .u64)) (y := x0.f_N) (.s .z) (Lens.comp (Lens.whole _ _) (fun z => { x0 with f_N := z }) (c_api_Field_f_N x0)) rfl)) ?_
       refine av rfl (r_fieldAddr (fo := 33) Tryz.underlying46 rfl rfl (fun w => ⟨_, Tryz.sizeOf31 w⟩) rfl) ?_
       refine at_store (c := (cInt .u64)) (z := x0.f_N) .z (Lens.comp (Lens.whole _ _) (fun z => { { ({ f_Word := (0 : Int), f_Key := (Vector.replicate 32 (0 : Int) : (Vector Int 32)), f_N := (0 : Int), f_End := zqGT_0, f_P := zqGT_1 } : S_api_Field) with f_Word := x0.f_Word } with f_N := z }) (c_api_Field_f_N ({ ({ f_Word := (0 : Int), f_Key := (Vector.replicate 32 (0 : Int) : (Vector Int 32)), f_N := (0 : Int), f_End := zqGT_0, f_P := zqGT_1 } : S_api_Field) with f_Word := x0.f_Word }))) Tryz.sizeOf31 rfl rfl rfl ?_
       refine nwt [(1, _), (3, _)] ⟨rfl, rfl, trivial⟩ ?_
       refine at_seq ?_
       refine at_draw (by kernel_rfl) (by kernel_rfl) (fun _ h => h.drew) ?_
       refine atq_val rfl rfl rfl (r_fieldAddr (fo := 33) Tryz.underlying46 rfl rfl (fun w => ⟨_, Tryz.sizeOf31 w⟩) rfl) ?_
       refine atq_val rfl rfl rfl (r_load_cell Tryz.isAgg31 rfl (lens_cell0 (c := (cInt .u64)) (y := x0.f_N) (.s .z) (Lens.comp (Lens.whole _ _) (fun z => { x0 with f_N := z }) (c_api_Field_f_N x0)) rfl)) ?_
       refine atq_val rfl rfl rfl (r_fieldAddr (fo := 0) Tryz.underlying46 rfl rfl (fun w => ⟨_, Tryz.sizeOf3 w⟩) rfl) ?_
       refine atq_val rfl rfl rfl (r_load_cell Tryz.isAgg3 rfl (lens_cell0 (c := (cInt .i64)) (y := x0.f_Word) (.s .z) (Lens.comp (Lens.whole _ _) (fun z => { x0 with f_Word := z }) (c_api_Field_f_Word x0)) rfl)) ?_
       obtain ⟨t15, ht15, hF⟩ := of_bindM hF
       refine atq_call Tryz.func44 rfl (by kernel_rfl) rfl rfl (fun w hw => (crawlwayref37_most_ok _ _ ht15 w).mono fun _ _ h => ⟨h.1, h.2 ▸ hw⟩) ?_
       refine atq_val rfl rfl rfl (r_igtr rfl rfl) ?_
       refine atq_val rfl rfl rfl (r_move rfl) ?_
       rcases of_ite hF with ⟨h16, hF⟩ | ⟨h16, hF⟩
       ·refine atq_fix (g := 54) rfl h16 ?_
        refine atq_guard_no rfl rfl rfl rfl rfl ?_
        refine atq_guard_no rfl rfl rfl rfl rfl ?_
        refine atq_guard_no rfl rfl rfl rfl rfl ?_
        refine atq_guard_no rfl rfl rfl rfl rfl ?_
        refine atq_guard_undef rfl rfl rfl rfl ?_
        refine atq_guard_undef rfl rfl rfl rfl ?_
        refine atq_guard_undef rfl rfl rfl rfl ?_
        refine atq_guard_no rfl rfl rfl rfl rfl ?_
        refine atq_val rfl rfl rfl (r_pick rfl rfl rfl) ?_
        refine atq_nil ?_
        refine at_weak [(1, _), (3, _), (63, _)] ⟨rfl, rfl, rfl, trivial⟩ ?_
        refine at_then_normal ?_
        refine at_cond_true rfl rfl ?_
        refine sr ?_
        refine av rfl (r_assign rfl) ?_
        refine at_nil ?_
        refine at_drop (H := _) .z ?_
        refine at_drop (H := _) .z ?_
        refine at_weak [(2, _)] ⟨rfl, trivial⟩ ?_
        refine at_then_normal ?_
        refine rt ?_
        have K := of_some hF
        subst K
        exact at_return1 rfl rfl (fun w1 hw => ⟨rfl, hw.below⟩)
       ·refine atq_fix (g := 54) rfl h16 ?_
        refine atq_guard_yes rfl rfl rfl ?_
        refine atq_val rfl rfl rfl (r_fieldAddr (fo := 0) Tryz.underlying46 rfl rfl (fun w => ⟨_, Tryz.sizeOf3 w⟩) rfl) ?_
        refine atq_guard_yes rfl rfl rfl ?_
        refine atq_val rfl rfl rfl (r_load_cell Tryz.isAgg3 rfl (lens_cell0 (c := (cInt .i64)) (y := x0.f_Word) (.s .z) (Lens.comp (Lens.whole _ _) (fun z => { x0 with f_Word := z }) (c_api_Field_f_Word x0)) rfl)) ?_
        refine atq_guard_yes rfl rfl rfl ?_
        refine atq_val rfl rfl rfl (r_ieql rfl rfl) ?_
        refine atq_guard_yes rfl rfl rfl ?_
        refine atq_val rfl rfl rfl (r_move rfl) ?_
        rcases of_ite hF with ⟨h17, hF⟩ | ⟨h17, hF⟩
        ·refine atq_fix (g := 58) rfl h17 ?_
         refine atq_guard_yes rfl rfl rfl ?_
         refine atq_val rfl rfl rfl (r_fieldAddr (fo := 33) Tryz.underlying46 rfl rfl (fun w => ⟨_, Tryz.sizeOf31 w⟩) rfl) ?_
         refine atq_guard_yes rfl rfl rfl ?_
         refine atq_val rfl rfl rfl (r_load_cell Tryz.isAgg31 rfl (lens_cell0 (c := (cInt .u64)) (y := x0.f_N) (.s .z) (Lens.comp (Lens.whole _ _) (fun z => { x0 with f_N := z }) (c_api_Field_f_N x0)) rfl)) ?_
         refine atq_guard_yes rfl rfl rfl ?_
         refine atq_val rfl rfl rfl (r_ieql rfl rfl) ?_
         refine atq_guard_yes rfl rfl rfl ?_
         refine atq_val rfl rfl rfl (r_pick rfl rfl rfl) ?_
         refine atq_val rfl rfl rfl (r_pick rfl rfl rfl) ?_
         refine atq_nil ?_
         refine at_weak [(1, _), (3, _), (63, _)] ⟨rfl, rfl, rfl, trivial⟩ ?_
         refine at_then_normal ?_
         rcases of_ite hF with ⟨h18, hF⟩ | ⟨h18, hF⟩
         ·refine at_cond_true rfl h18 ?_
          refine sr ?_
          refine av rfl (r_assign rfl) ?_
          refine at_nil ?_
          refine at_drop (H := _) .z ?_
          refine at_drop (H := _) .z ?_
          refine at_weak [(2, _)] ⟨rfl, trivial⟩ ?_
          refine at_then_normal ?_
          refine rt ?_
          have K := of_some hF
          subst K
          exact at_return1 rfl rfl (fun w1 hw => ⟨rfl, hw.below⟩)
         ·refine at_cond_false rfl h18 ?_
          refine sns ?_
          refine av rfl (r_load_aggc (c := c_api_Field) (z := { { ({ f_Word := (0 : Int), f_Key := (Vector.replicate 32 (0 : Int) : (Vector Int 32)), f_N := (0 : Int), f_End := zqGT_0, f_P := zqGT_1 } : S_api_Field) with f_Word := x0.f_Word } with f_N := x0.f_N }) Tryz.isAgg46 Tryz.sizeOf46 rfl (lens_cell .z (Lens.whole _ _))) ?_
          refine av rfl (r_load_aggc (c := c_api_Field) (z := x0) Tryz.isAgg46 Tryz.sizeOf46 rfl (lens_cell (.s .z) (Lens.whole _ _))) ?_
          refine av rfl (r_eqagg (c := c_api_Field) (a := { { ({ f_Word := (0 : Int), f_Key := (Vector.replicate 32 (0 : Int) : (Vector Int 32)), f_N := (0 : Int), f_End := zqGT_0, f_P := zqGT_1 } : S_api_Field) with f_Word := x0.f_Word } with f_N := x0.f_N }) (b := x0) (eq_api_Field_46) rfl Tryz.eqGuardType46 rfl rfl (.inl rfl) rfl) ?_
          refine av rfl (r_assign rfl) ?_
          refine at_nil ?_
          refine at_drop (H := _) .z ?_
          refine at_drop (H := _) .z ?_
          refine at_weak [(2, _)] ⟨rfl, trivial⟩ ?_
          refine at_then_normal ?_
          refine at_ret ?_
          have K := of_some hF
          subst K
          exact at_return1 rfl rfl (fun w1 hw => ⟨rfl, hw.below⟩)
        ·refine atq_fix (g := 58) rfl h17 ?_
         refine atq_guard_no rfl rfl rfl rfl rfl ?_
         refine atq_guard_no rfl rfl rfl rfl rfl ?_
         refine atq_guard_no rfl rfl rfl rfl rfl ?_
         refine atq_guard_yes rfl rfl rfl ?_
         refine atq_val rfl rfl rfl (r_pick rfl rfl rfl) ?_
         refine atq_val rfl rfl rfl (r_pick rfl rfl rfl) ?_
         refine atq_nil ?_
         refine at_weak [(1, _), (3, _), (63, _)] ⟨rfl, rfl, rfl, trivial⟩ ?_
         refine at_then_normal ?_
         refine at_cond_false rfl rfl ?_
         refine sns ?_
         refine av rfl (r_load_aggc (c := c_api_Field) (z := { { ({ f_Word := (0 : Int), f_Key := (Vector.replicate 32 (0 : Int) : (Vector Int 32)), f_N := (0 : Int), f_End := zqGT_0, f_P := zqGT_1 } : S_api_Field) with f_Word := x0.f_Word } with f_N := x0.f_N }) Tryz.isAgg46 Tryz.sizeOf46 rfl (lens_cell .z (Lens.whole _ _))) ?_
         refine av rfl (r_load_aggc (c := c_api_Field) (z := x0) Tryz.isAgg46 Tryz.sizeOf46 rfl (lens_cell (.s .z) (Lens.whole _ _))) ?_
         refine av rfl (r_eqagg (c := c_api_Field) (a := { { ({ f_Word := (0 : Int), f_Key := (Vector.replicate 32 (0 : Int) : (Vector Int 32)), f_N := (0 : Int), f_End := zqGT_0, f_P := zqGT_1 } : S_api_Field) with f_Word := x0.f_Word } with f_N := x0.f_N }) (b := x0) (eq_api_Field_46) rfl Tryz.eqGuardType46 rfl rfl (.inl rfl) rfl) ?_
         refine av rfl (r_assign rfl) ?_
         refine at_nil ?_
         refine at_drop (H := _) .z ?_
         refine at_drop (H := _) .z ?_
         refine at_weak [(2, _)] ⟨rfl, trivial⟩ ?_
         refine at_then_normal ?_
         refine at_ret ?_
         have K := of_some hF
         subst K
         exact at_return1 rfl rfl (fun w1 hw => ⟨rfl, hw.below⟩)
      ·refine at_cond_false rfl h14 ?_
       refine sns ?_
       refine av rfl (r_load_aggc (c := c_api_Field) (z := { ({ f_Word := (0 : Int), f_Key := (Vector.replicate 32 (0 : Int) : (Vector Int 32)), f_N := (0 : Int), f_End := zqGT_0, f_P := zqGT_1 } : S_api_Field) with f_Word := x0.f_Word }) Tryz.isAgg46 Tryz.sizeOf46 rfl (lens_cell .z (Lens.whole _ _))) ?_
       refine av rfl (r_load_aggc (c := c_api_Field) (z := x0) Tryz.isAgg46 Tryz.sizeOf46 rfl (lens_cell (.s .z) (Lens.whole _ _))) ?_
       refine av rfl (r_eqagg (c := c_api_Field) (a := { ({ f_Word := (0 : Int), f_Key := (Vector.replicate 32 (0 : Int) : (Vector Int 32)), f_N := (0 : Int), f_End := zqGT_0, f_P := zqGT_1 } : S_api_Field) with f_Word := x0.f_Word }) (b := x0) (eq_api_Field_46) rfl Tryz.eqGuardType46 rfl rfl (.inl rfl) rfl) ?_
       refine av rfl (r_assign rfl) ?_
       refine at_nil ?_
       refine at_drop (H := _) .z ?_
       refine at_drop (H := _) .z ?_
       refine at_weak [(2, _)] ⟨rfl, trivial⟩ ?_
       refine at_then_normal ?_
       refine at_ret ?_
       have K := of_some hF
       subst K
       exact at_return1 rfl rfl (fun w1 hw => ⟨rfl, hw.below⟩)
def crawlwayref37_Pair (x0 : S_api_Field) : Option (S_pairline_Pair) :=
  crawlwayref37_key x0.f_Word >>= fun t3 => if t3 = true then (crawlwayref07_Bytes x0.f_Key >>= fun t5 => crawlwayref05_Encode t5 >>= fun t8 => crawlwayref37_Names >>= fun t9 => if (0 : Int) ≤ x0.f_Word ∧ x0.f_Word < (t9.length : Int) then some ({ { ({ f_Key := (⟨#[]⟩ : ByteArray), f_Value := (⟨#[]⟩ : ByteArray) } : S_pairline_Pair) with f_Key := lget t9 x0.f_Word } with f_Value := t8 }) else none) else (if (x0.f_Word == 9) = true then (crawlwayref12_Text x0.f_End >>= fun t19 => crawlwayref37_Names >>= fun t20 => if (0 : Int) ≤ x0.f_Word ∧ x0.f_Word < (t20.length : Int) then some ({ { ({ f_Key := (⟨#[]⟩ : ByteArray), f_Value := (⟨#[]⟩ : ByteArray) } : S_pairline_Pair) with f_Key := lget t20 x0.f_Word } with f_Value := t19 }) else none) else (if (x0.f_Word == 12) = true then (crawlwayref11_Text x0.f_P >>= fun t30 => crawlwayref37_Names >>= fun t31 => if (0 : Int) ≤ x0.f_Word ∧ x0.f_Word < (t31.length : Int) then some ({ { ({ f_Key := (⟨#[]⟩ : ByteArray), f_Value := (⟨#[]⟩ : ByteArray) } : S_pairline_Pair) with f_Key := lget t31 x0.f_Word } with f_Value := t30 }) else none) else (crawlwayref37_flag x0.f_Word >>= fun t40 => if (!t40) = true then (crawlwayref03_Text x0.f_N >>= fun t42 => crawlwayref37_Names >>= fun t43 => if (0 : Int) ≤ x0.f_Word ∧ x0.f_Word < (t43.length : Int) then some ({ { ({ f_Key := (⟨#[]⟩ : ByteArray), f_Value := (⟨#[]⟩ : ByteArray) } : S_pairline_Pair) with f_Key := lget t43 x0.f_Word } with f_Value := t42 }) else none) else (crawlwayref37_Names >>= fun t52 => if (0 : Int) ≤ x0.f_Word ∧ x0.f_Word < (t52.length : Int) then some ({ { ({ f_Key := (⟨#[]⟩ : ByteArray), f_Value := (⟨#[]⟩ : ByteArray) } : S_pairline_Pair) with f_Key := lget t52 x0.f_Word } with f_Value := ⟨#[116, 114, 117, 101]⟩ }) else none))))
set_option maxHeartbeats 3200000 in
theorem crawlwayref37_Pair_ok (x0 : S_api_Field) (r : S_pairline_Pair) (hF : crawlwayref37_Pair x0 = some r) (w : World) :
    Calls Tryz.prog 30 #[.agg (Cd.cs c_api_Field x0).toArray] w (fun e w' => e = .returned (.agg (Cd.cs c_pairline_Pair r).toArray) ∧ Below w.heap.size w w') := by
 unfold crawlwayref37_Pair at hF
 refine calls_enter (l := [.agg (Cd.cs c_api_Field x0).toArray]) Tryz.func30 rfl rfl rfl ?_
 refine at_start ?_
 refine at_weak [(0, _)] ⟨rfl, trivial⟩ ?_
 refine sr ?_
 refine at_box (cs := Cd.cs c_api_Field x0) rfl rfl rfl ?_
 intro b1
 refine at_alloc (cs := Cd.cs c_pairline_Pair zqGT_2) Tryz.zeroValue54 rfl rfl ?_
 intro b2
 refine nws [(1, _), (2, _)] ⟨rfl, rfl, trivial⟩ ?_
 refine av rfl (r_assign rfl) ?_
 refine nwt [(1, _), (2, _), (3, _)] ⟨rfl, rfl, rfl, trivial⟩ ?_
 refine at_seq ?_
 refine sr ?_
 refine av rfl (r_fieldAddr (fo := 0) Tryz.underlying46 rfl rfl (fun w => ⟨_, Tryz.sizeOf3 w⟩) rfl) ?_
 refine av rfl (r_load_cell Tryz.isAgg3 rfl (lens_cell0 (c := (cInt .i64)) (y := x0.f_Word) (.s .z) (Lens.comp (Lens.whole _ _) (fun z => { x0 with f_Word := z }) (c_api_Field_f_Word x0)) rfl)) ?_
 obtain ⟨t3, ht3, hF⟩ := of_bindM hF
 refine at_call0 Tryz.func38 rfl (by kernel_rfl) rfl rfl (fun w => crawlwayref37_key_ok _ _ ht3 w) ?_
 refine nwt [(1, _), (2, _), (3, _), (6, _)] ⟨rfl, rfl, rfl, rfl, trivial⟩ ?_
 rcases of_ite hF with ⟨h4, hF⟩ | ⟨h4, hF⟩
 ·refine at_cond_true rfl h4 ?_
  refine at_region ?_
  refine av rfl (r_fieldAddr (fo := 1) Tryz.underlying46 rfl rfl (fun w => ⟨_, Tryz.sizeOf29 w⟩) rfl) ?_
  refine av rfl (r_load_aggc (c := (cVec (cInt .u8) 32 (by decide))) (z := x0.f_Key) Tryz.isAgg29 Tryz.sizeOf29 rfl (lens_cell (.s .z) (Lens.comp (Lens.whole _ _) (fun z => { x0 with f_Key := z }) (c_api_Field_f_Key x0)))) ?_
  obtain ⟨t5, ht5, hF⟩ := of_bindM hF
  refine at_callO (c := (cInt .u8)) (e := 5) (ys := t5) (V := fun p cap => .slice p t5.length cap) Tryz.func54 rfl (by kernel_rfl) rfl rfl (fun w hw => crawlwayref07_Bytes_ok _ _ ht5 w) ?_
  intro p6 c7
  obtain ⟨t8, ht8, hF⟩ := of_bindM hF
  refine at_callB Tryz.func53 rfl (by kernel_rfl) rfl rfl (fun w hw => crawlwayref05_Encode_ok _ _ _ _ ht8 w (hw.own .z).row) ?_
  refine av rfl (r_assign rfl) ?_
  refine at_nil ?_
  refine at_drop (H := _) .z ?_
  refine at_weak [(1, _), (2, _), (3, _)] ⟨rfl, rfl, rfl, trivial⟩ ?_
  refine at_then_normal ?_
  refine at_seq ?_
  refine at_weak [(1, _), (2, _), (3, _)] ⟨rfl, rfl, rfl, trivial⟩ ?_
  obtain ⟨t9, ht9, hF⟩ := of_bindM hF
  obtain ⟨h12, hF⟩ := of_guard hF
  refine at_inv [.al 0 30 (fun g17 => .slice ((g17 0).2.1) t9.length ((g17 0).2.2.1)) [], .q 31 (fun g17 => .pointer (some ⟨b1, 0 + 0, none⟩)) [] 0 1, .q 32 (fun g17 => .int .i64 x0.f_Word) [1] 0 1, .q 33 (fun g17 => .pointer (some ⟨(pb ((g17 0).2.1)), (po ((g17 0).2.1)) + Int.toNat x0.f_Word * 1, none⟩)) [0, 2] 1 1, .q 34 (fun g17 => .string (lget t9 x0.f_Word)) [3] 1 1, .q 35 (fun g17 => .string t8) [] 0 1, .q 36 (fun g17 => .agg (Cd.cs c_pairline_Pair ({ { zqGT_2 with f_Key := lget t9 x0.f_Word } with f_Value := t8 })).toArray) [4, 5] 1 1, .st 1 none [6]] (fun g17 s => match s with | 0 => (Wd w [cellsE b2 (Cd.cs c_pairline_Pair zqGT_2) 54, cellsE b1 (Cd.cs c_api_Field x0) 46]) | 1 => (Wd w [rowE cStr 9 ((g17 0).2.1) ((g17 0).2.2.1) t9, cellsE b2 (Cd.cs c_pairline_Pair zqGT_2) 54, cellsE b1 (Cd.cs c_api_Field x0) 46]) | _ => (Wd w [rowE cStr 9 ((g17 0).2.1) ((g17 0).2.2.1) t9, cellsE b2 (Cd.cs c_pairline_Pair ({ { zqGT_2 with f_Key := lget t9 x0.f_Word } with f_Value := t8 })) 54, cellsE b1 (Cd.cs c_api_Field x0) 46])) 2 (by kernel_rfl) (by kernel_rfl) (by kernel_rfl) (by kernel_rfl) (by kernel_rfl) ⟨fun g17 g2 h => by show (.slice ((g17 0).2.1) t9.length ((g17 0).2.2.1) : Value) = .slice ((g2 0).2.1) t9.length ((g2 0).2.2.1); rw [h 0 (show 0 < 1 by decide)], fun _ _ _ => rfl, fun _ _ _ => rfl, fun g17 g2 h => by show (.pointer (some ⟨(pb ((g17 0).2.1)), (po ((g17 0).2.1)) + Int.toNat x0.f_Word * 1, none⟩) : Value) = .pointer (some ⟨(pb ((g2 0).2.1)), (po ((g2 0).2.1)) + Int.toNat x0.f_Word * 1, none⟩); rw [h 0 (show 0 < 1 by decide)], fun _ _ _ => rfl, fun _ _ _ => rfl, fun _ _ _ => rfl, fun _ _ _ => rfl, trivial⟩ (by kernel_rfl) (fun _ h => ⟨fun _ => (0, none, 0, none), h.drew⟩) ⟨?_, ?_, ?_, ?_, ?_, ?_, ?_, ?_, trivial⟩ ?_
  ·intro Lx g17 K k
   show At 37 ((1, _) :: (2, _) :: (3, _) :: Lx) _ _
   refine at_callO (c := cStr) (e := 9) (ys := t9) (V := fun p cap => .slice p t9.length cap) Tryz.func14 rfl (by kernel_rfl) rfl rfl (fun w hw => crawlwayref37_Names_ok  _ ht9 w) ?_
   intro p10 c11
   exact at_nil (k (0, p10, c11, none))
  ·intro Lx g17 s K hl hh k
   show At 37 ((1, _) :: (2, _) :: (3, _) :: Lx) _ _
   refine av rfl (r_fieldAddr (fo := 0) Tryz.underlying46 rfl rfl (fun w => ⟨_, Tryz.sizeOf3 w⟩) rfl) ?_
   exact at_nil k
  ·intro Lx g17 s K hl hh k
   show At 37 ((31, _) :: (1, _) :: (2, _) :: (3, _) :: Lx) _ _
   rcases (by omega : s = 0 ∨ s = 1) with rfl | rfl
   ·skip
    refine av rfl (r_load_cell Tryz.isAgg3 rfl (lens_cell0 (c := (cInt .i64)) (y := x0.f_Word) (.s .z) (Lens.comp (Lens.whole _ _) (fun z => { x0 with f_Word := z }) (c_api_Field_f_Word x0)) rfl)) ?_
    exact at_nil k
   ·skip
    refine av rfl (r_load_cell Tryz.isAgg3 rfl (lens_cell0 (c := (cInt .i64)) (y := x0.f_Word) (.s (.s .z)) (Lens.comp (Lens.whole _ _) (fun z => { x0 with f_Word := z }) (c_api_Field_f_Word x0)) rfl)) ?_
    exact at_nil k
  ·intro Lx g17 s K hl hh k
   show At 37 ((30, _) :: (32, _) :: (1, _) :: (2, _) :: (3, _) :: Lx) _ _
   obtain rfl : s = 1 := by omega
   refine at_pure (φ := ((g17 0).2.1) = some ⟨pb ((g17 0).2.1), po ((g17 0).2.1), none⟩) (fun _ hw => row_ptrP (hw.own .z).row h12) ?_
   intro hp13
   refine av rfl (r_idx Tryz.underlying38 Tryz.sizeOf9 rfl rfl h12 hp13) ?_
   exact at_nil k
  ·intro Lx g17 s K hl hh k
   show At 37 ((33, _) :: (1, _) :: (2, _) :: (3, _) :: Lx) _ _
   obtain rfl : s = 1 := by omega
   refine at_pure (φ := ((g17 0).2.1) = some ⟨pb ((g17 0).2.1), po ((g17 0).2.1), none⟩) (fun _ hw => row_ptrP (hw.own .z).row h12) ?_
   intro hp16
   refine av rfl (r_load_cell Tryz.isAgg9 rfl (fun _ hw => row_cell0 (W := fun w1 => w1 = _) (fun w1 h => by subst h; exact Below.refl _ _) (hw.own .z).row h12 hp16 rfl _ rfl)) ?_
   exact at_nil k
  ·intro Lx g17 s K hl hh k
   show At 37 ((1, _) :: (2, _) :: (3, _) :: Lx) _ _
   refine av rfl (r_move rfl) ?_
   exact at_nil k
  ·intro Lx g17 s K hl hh k
   show At 37 ((34, _) :: (35, _) :: (1, _) :: (2, _) :: (3, _) :: Lx) _ _
   obtain rfl : s = 1 := by omega
   refine av rfl (r_build_struct (zs := Cd.cs c_pairline_Pair zqGT_2) (cs := Cd.cs c_pairline_Pair ({ { zqGT_2 with f_Key := lget t9 x0.f_Word } with f_Value := t8 })) Tryz.underlying54 Tryz.zeroValue54 rfl (places_pairline_Pair_54) rfl (fill_step (c := cStr) (z := lget t9 x0.f_Word) rfl (c_pairline_Pair_f_Key zqGT_2) rfl (fill_step (c := cStr) (z := t8) rfl (c_pairline_Pair_f_Value ({ zqGT_2 with f_Key := lget t9 x0.f_Word })) rfl rfl))) ?_
   exact at_nil k
  ·intro Lx g17 K k
   show At 37 ((36, _) :: (1, _) :: (2, _) :: (3, _) :: Lx) _ _
   refine at_store (c := c_pairline_Pair) (z := { { zqGT_2 with f_Key := lget t9 x0.f_Word } with f_Value := t8 }) (.s .z) (Lens.whole _ _) Tryz.sizeOf54 rfl rfl rfl ?_
   exact at_nil k
  intro g17
  show At 37 [(30, _), (31, _), (32, _), (33, _), (34, _), (35, _), (36, _), (1, _), (2, _), (3, _)] _ _
  refine at_drop (H := _) .z ?_
  refine at_drop (H := _) (.s .z) ?_
  refine at_weak [(2, _)] ⟨rfl, trivial⟩ ?_
  refine at_then_normal ?_
  refine at_ret ?_
  have K := of_some hF
  subst K
  exact at_res1 rfl (res_cell (c := c_pairline_Pair) (y := { { zqGT_2 with f_Key := lget t9 x0.f_Word } with f_Value := t8 }) rfl .z (Lens.whole _ _) Tryz.isAgg54 Tryz.sizeOf54 (.inl rfl)) (fun w1 hw => ⟨rfl, hw.below⟩)
 ·refine at_cond_false rfl h4 ?_
  refine sr ?_
  refine av rfl (r_fieldAddr (fo := 0) Tryz.underlying46 rfl rfl (fun w => ⟨_, Tryz.sizeOf3 w⟩) rfl) ?_
  refine av rfl (r_load_cell Tryz.isAgg3 rfl (lens_cell0 (c := (cInt .i64)) (y := x0.f_Word) (.s .z) (Lens.comp (Lens.whole _ _) (fun z => { x0 with f_Word := z }) (c_api_Field_f_Word x0)) rfl)) ?_
  refine av rfl (r_ieql rfl rfl) ?_
  refine nwt [(1, _), (2, _), (3, _), (13, _)] ⟨rfl, rfl, rfl, rfl, trivial⟩ ?_
  rcases of_ite hF with ⟨h18, hF⟩ | ⟨h18, hF⟩
  ·refine at_cond_true rfl h18 ?_
   refine at_region ?_
   refine av rfl (r_fieldAddr (fo := 34) Tryz.underlying46 rfl rfl (fun w => ⟨_, Tryz.sizeOf27 w⟩) rfl) ?_
   refine av rfl (r_load_aggc (c := c_api_Endpoint) (z := x0.f_End) Tryz.isAgg27 Tryz.sizeOf27 rfl (lens_cell (.s .z) (Lens.comp (Lens.whole _ _) (fun z => { x0 with f_End := z }) (c_api_Field_f_End x0)))) ?_
   obtain ⟨t19, ht19, hF⟩ := of_bindM hF
   refine at_callB Tryz.func52 rfl (by kernel_rfl) rfl rfl (fun w hw => crawlwayref12_Text_ok _ _ ht19 w) ?_
   refine av rfl (r_assign rfl) ?_
   refine nwt [(1, _), (2, _), (3, _)] ⟨rfl, rfl, rfl, trivial⟩ ?_
   refine at_seq ?_
   refine at_weak [(1, _), (2, _), (3, _)] ⟨rfl, rfl, rfl, trivial⟩ ?_
   obtain ⟨t20, ht20, hF⟩ := of_bindM hF
   obtain ⟨h23, hF⟩ := of_guard hF
   refine at_inv [.al 0 30 (fun g28 => .slice ((g28 0).2.1) t20.length ((g28 0).2.2.1)) [], .q 31 (fun g28 => .pointer (some ⟨b1, 0 + 0, none⟩)) [] 0 1, .q 32 (fun g28 => .int .i64 x0.f_Word) [1] 0 1, .q 33 (fun g28 => .pointer (some ⟨(pb ((g28 0).2.1)), (po ((g28 0).2.1)) + Int.toNat x0.f_Word * 1, none⟩)) [0, 2] 1 1, .q 34 (fun g28 => .string (lget t20 x0.f_Word)) [3] 1 1, .q 35 (fun g28 => .string t19) [] 0 1, .q 36 (fun g28 => .agg (Cd.cs c_pairline_Pair ({ { zqGT_2 with f_Key := lget t20 x0.f_Word } with f_Value := t19 })).toArray) [4, 5] 1 1, .st 1 none [6]] (fun g28 s => match s with | 0 => (Wd w [cellsE b2 (Cd.cs c_pairline_Pair zqGT_2) 54, cellsE b1 (Cd.cs c_api_Field x0) 46]) | 1 => (Wd w [rowE cStr 9 ((g28 0).2.1) ((g28 0).2.2.1) t20, cellsE b2 (Cd.cs c_pairline_Pair zqGT_2) 54, cellsE b1 (Cd.cs c_api_Field x0) 46]) | _ => (Wd w [rowE cStr 9 ((g28 0).2.1) ((g28 0).2.2.1) t20, cellsE b2 (Cd.cs c_pairline_Pair ({ { zqGT_2 with f_Key := lget t20 x0.f_Word } with f_Value := t19 })) 54, cellsE b1 (Cd.cs c_api_Field x0) 46])) 2 (by kernel_rfl) (by kernel_rfl) (by kernel_rfl) (by kernel_rfl) (by kernel_rfl) ⟨fun g28 g2 h => by show (.slice ((g28 0).2.1) t20.length ((g28 0).2.2.1) : Value) = .slice ((g2 0).2.1) t20.length ((g2 0).2.2.1); rw [h 0 (show 0 < 1 by decide)], fun _ _ _ => rfl, fun _ _ _ => rfl, fun g28 g2 h => by show (.pointer (some ⟨(pb ((g28 0).2.1)), (po ((g28 0).2.1)) + Int.toNat x0.f_Word * 1, none⟩) : Value) = .pointer (some ⟨(pb ((g2 0).2.1)), (po ((g2 0).2.1)) + Int.toNat x0.f_Word * 1, none⟩); rw [h 0 (show 0 < 1 by decide)], fun _ _ _ => rfl, fun _ _ _ => rfl, fun _ _ _ => rfl, fun _ _ _ => rfl, trivial⟩ (by kernel_rfl) (fun _ h => ⟨fun _ => (0, none, 0, none), h.drew⟩) ⟨?_, ?_, ?_, ?_, ?_, ?_, ?_, ?_, trivial⟩ ?_
   ·intro Lx g28 K k
    show At 37 ((1, _) :: (2, _) :: (3, _) :: Lx) _ _
    refine at_callO (c := cStr) (e := 9) (ys := t20) (V := fun p cap => .slice p t20.length cap) Tryz.func14 rfl (by kernel_rfl) rfl rfl (fun w hw => crawlwayref37_Names_ok  _ ht20 w) ?_
    intro p21 c22
    exact at_nil (k (0, p21, c22, none))
   ·intro Lx g28 s K hl hh k
    show At 37 ((1, _) :: (2, _) :: (3, _) :: Lx) _ _
    refine av rfl (r_fieldAddr (fo := 0) Tryz.underlying46 rfl rfl (fun w => ⟨_, Tryz.sizeOf3 w⟩) rfl) ?_
    exact at_nil k
   ·intro Lx g28 s K hl hh k
    show At 37 ((31, _) :: (1, _) :: (2, _) :: (3, _) :: Lx) _ _
    rcases (by omega : s = 0 ∨ s = 1) with rfl | rfl
    ·skip
     refine av rfl (r_load_cell Tryz.isAgg3 rfl (lens_cell0 (c := (cInt .i64)) (y := x0.f_Word) (.s .z) (Lens.comp (Lens.whole _ _) (fun z => { x0 with f_Word := z }) (c_api_Field_f_Word x0)) rfl)) ?_
     exact at_nil k
    ·skip
     refine av rfl (r_load_cell Tryz.isAgg3 rfl (lens_cell0 (c := (cInt .i64)) (y := x0.f_Word) (.s (.s .z)) (Lens.comp (Lens.whole _ _) (fun z => { x0 with f_Word := z }) (c_api_Field_f_Word x0)) rfl)) ?_
     exact at_nil k
   ·intro Lx g28 s K hl hh k
    show At 37 ((30, _) :: (32, _) :: (1, _) :: (2, _) :: (3, _) :: Lx) _ _
    obtain rfl : s = 1 := by omega
    refine at_pure (φ := ((g28 0).2.1) = some ⟨pb ((g28 0).2.1), po ((g28 0).2.1), none⟩) (fun _ hw => row_ptrP (hw.own .z).row h23) ?_
    intro hp24
    refine av rfl (r_idx Tryz.underlying38 Tryz.sizeOf9 rfl rfl h23 hp24) ?_
    exact at_nil k
   ·intro Lx g28 s K hl hh k
    show At 37 ((33, _) :: (1, _) :: (2, _) :: (3, _) :: Lx) _ _
    obtain rfl : s = 1 := by omega
    refine at_pure (φ := ((g28 0).2.1) = some ⟨pb ((g28 0).2.1), po ((g28 0).2.1), none⟩) (fun _ hw => row_ptrP (hw.own .z).row h23) ?_
    intro hp27
    refine av rfl (r_load_cell Tryz.isAgg9 rfl (fun _ hw => row_cell0 (W := fun w1 => w1 = _) (fun w1 h => by subst h; exact Below.refl _ _) (hw.own .z).row h23 hp27 rfl _ rfl)) ?_
    exact at_nil k
   ·intro Lx g28 s K hl hh k
    show At 37 ((1, _) :: (2, _) :: (3, _) :: Lx) _ _
    refine av rfl (r_move rfl) ?_
    exact at_nil k
   ·intro Lx g28 s K hl hh k
    show At 37 ((34, _) :: (35, _) :: (1, _) :: (2, _) :: (3, _) :: Lx) _ _
    obtain rfl : s = 1 := by omega
    refine av rfl (r_build_struct (zs := Cd.cs c_pairline_Pair zqGT_2) (cs := Cd.cs c_pairline_Pair ({ { zqGT_2 with f_Key := lget t20 x0.f_Word } with f_Value := t19 })) Tryz.underlying54 Tryz.zeroValue54 rfl (places_pairline_Pair_54) rfl (fill_step (c := cStr) (z := lget t20 x0.f_Word) rfl (c_pairline_Pair_f_Key zqGT_2) rfl (fill_step (c := cStr) (z := t19) rfl (c_pairline_Pair_f_Value ({ zqGT_2 with f_Key := lget t20 x0.f_Word })) rfl rfl))) ?_
    exact at_nil k
   ·intro Lx g28 K k
    show At 37 ((36, _) :: (1, _) :: (2, _) :: (3, _) :: Lx) _ _
    refine at_store (c := c_pairline_Pair) (z := { { zqGT_2 with f_Key := lget t20 x0.f_Word } with f_Value := t19 }) (.s .z) (Lens.whole _ _) Tryz.sizeOf54 rfl rfl rfl ?_
    exact at_nil k
   intro g28
   show At 37 [(30, _), (31, _), (32, _), (33, _), (34, _), (35, _), (36, _), (1, _), (2, _), (3, _)] _ _
   refine at_drop (H := _) .z ?_
   refine at_drop (H := _) (.s .z) ?_
   refine at_weak [(2, _)] ⟨rfl, trivial⟩ ?_
   refine at_then_normal ?_
   refine at_ret ?_
   have K := of_some hF
   subst K
   exact at_res1 rfl (res_cell (c := c_pairline_Pair) (y := { { zqGT_2 with f_Key := lget t20 x0.f_Word } with f_Value := t19 }) rfl .z (Lens.whole _ _) Tryz.isAgg54 Tryz.sizeOf54 (.inl rfl)) (fun w1 hw => ⟨rfl, hw.below⟩)
  ·refine at_cond_false rfl h18 ?_
   refine sr ?_
   refine av rfl (r_fieldAddr (fo := 0) Tryz.underlying46 rfl rfl (fun w => ⟨_, Tryz.sizeOf3 w⟩) rfl) ?_
   refine av rfl (r_load_cell Tryz.isAgg3 rfl (lens_cell0 (c := (cInt .i64)) (y := x0.f_Word) (.s .z) (Lens.comp (Lens.whole _ _) (fun z => { x0 with f_Word := z }) (c_api_Field_f_Word x0)) rfl)) ?_
   refine av rfl (r_ieql rfl rfl) ?_
   refine nwt [(1, _), (2, _), (3, _), (19, _)] ⟨rfl, rfl, rfl, rfl, trivial⟩ ?_
   rcases of_ite hF with ⟨h29, hF⟩ | ⟨h29, hF⟩
   ·refine at_cond_true rfl h29 ?_
    refine at_region ?_
    refine av rfl (r_fieldAddr (fo := 52) Tryz.underlying46 rfl rfl (fun w => ⟨_, Tryz.sizeOf44 w⟩) rfl) ?_
    refine av rfl (r_load_aggc (c := c_api_Prefix) (z := x0.f_P) Tryz.isAgg44 Tryz.sizeOf44 rfl (lens_cell (.s .z) (Lens.comp (Lens.whole _ _) (fun z => { x0 with f_P := z }) (c_api_Field_f_P x0)))) ?_
    obtain ⟨t30, ht30, hF⟩ := of_bindM hF
    refine at_callB Tryz.func59 rfl (by kernel_rfl) rfl rfl (fun w hw => crawlwayref11_Text_ok _ _ ht30 w) ?_
    refine av rfl (r_assign rfl) ?_
    refine nwt [(1, _), (2, _), (3, _)] ⟨rfl, rfl, rfl, trivial⟩ ?_
    refine at_seq ?_
    refine at_weak [(1, _), (2, _), (3, _)] ⟨rfl, rfl, rfl, trivial⟩ ?_
    obtain ⟨t31, ht31, hF⟩ := of_bindM hF
    obtain ⟨h34, hF⟩ := of_guard hF
    refine at_inv [.al 0 30 (fun g39 => .slice ((g39 0).2.1) t31.length ((g39 0).2.2.1)) [], .q 31 (fun g39 => .pointer (some ⟨b1, 0 + 0, none⟩)) [] 0 1, .q 32 (fun g39 => .int .i64 x0.f_Word) [1] 0 1, .q 33 (fun g39 => .pointer (some ⟨(pb ((g39 0).2.1)), (po ((g39 0).2.1)) + Int.toNat x0.f_Word * 1, none⟩)) [0, 2] 1 1, .q 34 (fun g39 => .string (lget t31 x0.f_Word)) [3] 1 1, .q 35 (fun g39 => .string t30) [] 0 1, .q 36 (fun g39 => .agg (Cd.cs c_pairline_Pair ({ { zqGT_2 with f_Key := lget t31 x0.f_Word } with f_Value := t30 })).toArray) [4, 5] 1 1, .st 1 none [6]] (fun g39 s => match s with | 0 => (Wd w [cellsE b2 (Cd.cs c_pairline_Pair zqGT_2) 54, cellsE b1 (Cd.cs c_api_Field x0) 46]) | 1 => (Wd w [rowE cStr 9 ((g39 0).2.1) ((g39 0).2.2.1) t31, cellsE b2 (Cd.cs c_pairline_Pair zqGT_2) 54, cellsE b1 (Cd.cs c_api_Field x0) 46]) | _ => (Wd w [rowE cStr 9 ((g39 0).2.1) ((g39 0).2.2.1) t31, cellsE b2 (Cd.cs c_pairline_Pair ({ { zqGT_2 with f_Key := lget t31 x0.f_Word } with f_Value := t30 })) 54, cellsE b1 (Cd.cs c_api_Field x0) 46])) 2 (by kernel_rfl) (by kernel_rfl) (by kernel_rfl) (by kernel_rfl) (by kernel_rfl) ⟨fun g39 g2 h => by show (.slice ((g39 0).2.1) t31.length ((g39 0).2.2.1) : Value) = .slice ((g2 0).2.1) t31.length ((g2 0).2.2.1); rw [h 0 (show 0 < 1 by decide)], fun _ _ _ => rfl, fun _ _ _ => rfl, fun g39 g2 h => by show (.pointer (some ⟨(pb ((g39 0).2.1)), (po ((g39 0).2.1)) + Int.toNat x0.f_Word * 1, none⟩) : Value) = .pointer (some ⟨(pb ((g2 0).2.1)), (po ((g2 0).2.1)) + Int.toNat x0.f_Word * 1, none⟩); rw [h 0 (show 0 < 1 by decide)], fun _ _ _ => rfl, fun _ _ _ => rfl, fun _ _ _ => rfl, fun _ _ _ => rfl, trivial⟩ (by kernel_rfl) (fun _ h => ⟨fun _ => (0, none, 0, none), h.drew⟩) ⟨?_, ?_, ?_, ?_, ?_, ?_, ?_, ?_, trivial⟩ ?_
    ·intro Lx g39 K k
     show At 37 ((1, _) :: (2, _) :: (3, _) :: Lx) _ _
     refine at_callO (c := cStr) (e := 9) (ys := t31) (V := fun p cap => .slice p t31.length cap) Tryz.func14 rfl (by kernel_rfl) rfl rfl (fun w hw => crawlwayref37_Names_ok  _ ht31 w) ?_
     intro p32 c33
     exact at_nil (k (0, p32, c33, none))
    ·intro Lx g39 s K hl hh k
     show At 37 ((1, _) :: (2, _) :: (3, _) :: Lx) _ _
     refine av rfl (r_fieldAddr (fo := 0) Tryz.underlying46 rfl rfl (fun w => ⟨_, Tryz.sizeOf3 w⟩) rfl) ?_
     exact at_nil k
    ·intro Lx g39 s K hl hh k
     show At 37 ((31, _) :: (1, _) :: (2, _) :: (3, _) :: Lx) _ _
     rcases (by omega : s = 0 ∨ s = 1) with rfl | rfl
     ·skip
      refine av rfl (r_load_cell Tryz.isAgg3 rfl (lens_cell0 (c := (cInt .i64)) (y := x0.f_Word) (.s .z) (Lens.comp (Lens.whole _ _) (fun z => { x0 with f_Word := z }) (c_api_Field_f_Word x0)) rfl)) ?_
      exact at_nil k
     ·skip
      refine av rfl (r_load_cell Tryz.isAgg3 rfl (lens_cell0 (c := (cInt .i64)) (y := x0.f_Word) (.s (.s .z)) (Lens.comp (Lens.whole _ _) (fun z => { x0 with f_Word := z }) (c_api_Field_f_Word x0)) rfl)) ?_
      exact at_nil k
    ·intro Lx g39 s K hl hh k
     show At 37 ((30, _) :: (32, _) :: (1, _) :: (2, _) :: (3, _) :: Lx) _ _
     obtain rfl : s = 1 := by omega
     refine at_pure (φ := ((g39 0).2.1) = some ⟨pb ((g39 0).2.1), po ((g39 0).2.1), none⟩) (fun _ hw => row_ptrP (hw.own .z).row h34) ?_
     intro hp35
     refine av rfl (r_idx Tryz.underlying38 Tryz.sizeOf9 rfl rfl h34 hp35) ?_
     exact at_nil k
    ·intro Lx g39 s K hl hh k
     show At 37 ((33, _) :: (1, _) :: (2, _) :: (3, _) :: Lx) _ _
     obtain rfl : s = 1 := by omega
     refine at_pure (φ := ((g39 0).2.1) = some ⟨pb ((g39 0).2.1), po ((g39 0).2.1), none⟩) (fun _ hw => row_ptrP (hw.own .z).row h34) ?_
     intro hp38
     refine av rfl (r_load_cell Tryz.isAgg9 rfl (fun _ hw => row_cell0 (W := fun w1 => w1 = _) (fun w1 h => by subst h; exact Below.refl _ _) (hw.own .z).row h34 hp38 rfl _ rfl)) ?_
     exact at_nil k
    ·intro Lx g39 s K hl hh k
     show At 37 ((1, _) :: (2, _) :: (3, _) :: Lx) _ _
     refine av rfl (r_move rfl) ?_
     exact at_nil k
    ·intro Lx g39 s K hl hh k
     show At 37 ((34, _) :: (35, _) :: (1, _) :: (2, _) :: (3, _) :: Lx) _ _
     obtain rfl : s = 1 := by omega
     refine av rfl (r_build_struct (zs := Cd.cs c_pairline_Pair zqGT_2) (cs := Cd.cs c_pairline_Pair ({ { zqGT_2 with f_Key := lget t31 x0.f_Word } with f_Value := t30 })) Tryz.underlying54 Tryz.zeroValue54 rfl (places_pairline_Pair_54) rfl (fill_step (c := cStr) (z := lget t31 x0.f_Word) rfl (c_pairline_Pair_f_Key zqGT_2) rfl (fill_step (c := cStr) (z := t30) rfl (c_pairline_Pair_f_Value ({ zqGT_2 with f_Key := lget t31 x0.f_Word })) rfl rfl))) ?_
     exact at_nil k
    ·intro Lx g39 K k
     show At 37 ((36, _) :: (1, _) :: (2, _) :: (3, _) :: Lx) _ _
     refine at_store (c := c_pairline_Pair) (z := { { zqGT_2 with f_Key := lget t31 x0.f_Word } with f_Value := t30 }) (.s .z) (Lens.whole _ _) Tryz.sizeOf54 rfl rfl rfl ?_
     exact at_nil k
    intro g39
    show At 37 [(30, _), (31, _), (32, _), (33, _), (34, _), (35, _), (36, _), (1, _), (2, _), (3, _)] _ _
    refine at_drop (H := _) .z ?_
    refine at_drop (H := _) (.s .z) ?_
    refine at_weak [(2, _)] ⟨rfl, trivial⟩ ?_
    refine at_then_normal ?_
    refine at_ret ?_
    have K := of_some hF
    subst K
    exact at_res1 rfl (res_cell (c := c_pairline_Pair) (y := { { zqGT_2 with f_Key := lget t31 x0.f_Word } with f_Value := t30 }) rfl .z (Lens.whole _ _) Tryz.isAgg54 Tryz.sizeOf54 (.inl rfl)) (fun w1 hw => ⟨rfl, hw.below⟩)
   ·refine at_cond_false rfl h29 ?_
    refine sr ?_
    refine av rfl (r_fieldAddr (fo := 0) Tryz.underlying46 rfl rfl (fun w => ⟨_, Tryz.sizeOf3 w⟩) rfl) ?_
    refine av rfl (r_load_cell Tryz.isAgg3 rfl (lens_cell0 (c := (cInt .i64)) (y := x0.f_Word) (.s .z) (Lens.comp (Lens.whole _ _) (fun z => { x0 with f_Word := z }) (c_api_Field_f_Word x0)) rfl)) ?_
    obtain ⟨t40, ht40, hF⟩ := of_bindM hF
    refine at_call0 Tryz.func42 rfl (by kernel_rfl) rfl rfl (fun w => crawlwayref37_flag_ok _ _ ht40 w) ?_
    refine av rfl (r_not rfl) ?_
    refine nwt [(1, _), (2, _), (3, _), (26, _)] ⟨rfl, rfl, rfl, rfl, trivial⟩ ?_
    rcases of_ite hF with ⟨h41, hF⟩ | ⟨h41, hF⟩
    ·refine at_cond_true rfl h41 ?_
     refine at_region ?_
     refine av rfl (r_fieldAddr (fo := 33) Tryz.underlying46 rfl rfl (fun w => ⟨_, Tryz.sizeOf31 w⟩) rfl) ?_
     refine av rfl (r_load_cell Tryz.isAgg31 rfl (lens_cell0 (c := (cInt .u64)) (y := x0.f_N) (.s .z) (Lens.comp (Lens.whole _ _) (fun z => { x0 with f_N := z }) (c_api_Field_f_N x0)) rfl)) ?_
     obtain ⟨t42, ht42, hF⟩ := of_bindM hF
     refine at_callB Tryz.func55 rfl (by kernel_rfl) rfl rfl (fun w hw => crawlwayref03_Text_ok _ _ ht42 w) ?_
     refine av rfl (r_assign rfl) ?_
     refine nwt [(1, _), (2, _), (3, _)] ⟨rfl, rfl, rfl, trivial⟩ ?_
     refine at_seq ?_
     refine at_weak [(1, _), (2, _), (3, _)] ⟨rfl, rfl, rfl, trivial⟩ ?_
     obtain ⟨t43, ht43, hF⟩ := of_bindM hF
     obtain ⟨h46, hF⟩ := of_guard hF
     refine at_inv [.al 0 30 (fun g51 => .slice ((g51 0).2.1) t43.length ((g51 0).2.2.1)) [], .q 31 (fun g51 => .pointer (some ⟨b1, 0 + 0, none⟩)) [] 0 1, .q 32 (fun g51 => .int .i64 x0.f_Word) [1] 0 1, .q 33 (fun g51 => .pointer (some ⟨(pb ((g51 0).2.1)), (po ((g51 0).2.1)) + Int.toNat x0.f_Word * 1, none⟩)) [0, 2] 1 1, .q 34 (fun g51 => .string (lget t43 x0.f_Word)) [3] 1 1, .q 35 (fun g51 => .string t42) [] 0 1, .q 36 (fun g51 => .agg (Cd.cs c_pairline_Pair ({ { zqGT_2 with f_Key := lget t43 x0.f_Word } with f_Value := t42 })).toArray) [4, 5] 1 1, .st 1 none [6]] (fun g51 s => match s with | 0 => (Wd w [cellsE b2 (Cd.cs c_pairline_Pair zqGT_2) 54, cellsE b1 (Cd.cs c_api_Field x0) 46]) | 1 => (Wd w [rowE cStr 9 ((g51 0).2.1) ((g51 0).2.2.1) t43, cellsE b2 (Cd.cs c_pairline_Pair zqGT_2) 54, cellsE b1 (Cd.cs c_api_Field x0) 46]) | _ => (Wd w [rowE cStr 9 ((g51 0).2.1) ((g51 0).2.2.1) t43, cellsE b2 (Cd.cs c_pairline_Pair ({ { zqGT_2 with f_Key := lget t43 x0.f_Word } with f_Value := t42 })) 54, cellsE b1 (Cd.cs c_api_Field x0) 46])) 2 (by kernel_rfl) (by kernel_rfl) (by kernel_rfl) (by kernel_rfl) (by kernel_rfl) ⟨fun g51 g2 h => by show (.slice ((g51 0).2.1) t43.length ((g51 0).2.2.1) : Value) = .slice ((g2 0).2.1) t43.length ((g2 0).2.2.1); rw [h 0 (show 0 < 1 by decide)], fun _ _ _ => rfl, fun _ _ _ => rfl, fun g51 g2 h => by show (.pointer (some ⟨(pb ((g51 0).2.1)), (po ((g51 0).2.1)) + Int.toNat x0.f_Word * 1, none⟩) : Value) = .pointer (some ⟨(pb ((g2 0).2.1)), (po ((g2 0).2.1)) + Int.toNat x0.f_Word * 1, none⟩); rw [h 0 (show 0 < 1 by decide)], fun _ _ _ => rfl, fun _ _ _ => rfl, fun _ _ _ => rfl, fun _ _ _ => rfl, trivial⟩ (by kernel_rfl) (fun _ h => ⟨fun _ => (0, none, 0, none), h.drew⟩) ⟨?_, ?_, ?_, ?_, ?_, ?_, ?_, ?_, trivial⟩ ?_
     ·intro Lx g51 K k
      show At 37 ((1, _) :: (2, _) :: (3, _) :: Lx) _ _
      refine at_callO (c := cStr) (e := 9) (ys := t43) (V := fun p cap => .slice p t43.length cap) Tryz.func14 rfl (by kernel_rfl) rfl rfl (fun w hw => crawlwayref37_Names_ok  _ ht43 w) ?_
      intro p44 c45
      exact at_nil (k (0, p44, c45, none))
     ·intro Lx g51 s K hl hh k
      show At 37 ((1, _) :: (2, _) :: (3, _) :: Lx) _ _
      refine av rfl (r_fieldAddr (fo := 0) Tryz.underlying46 rfl rfl (fun w => ⟨_, Tryz.sizeOf3 w⟩) rfl) ?_
      exact at_nil k
     ·intro Lx g51 s K hl hh k
      show At 37 ((31, _) :: (1, _) :: (2, _) :: (3, _) :: Lx) _ _
      rcases (by omega : s = 0 ∨ s = 1) with rfl | rfl
      ·skip
       refine av rfl (r_load_cell Tryz.isAgg3 rfl (lens_cell0 (c := (cInt .i64)) (y := x0.f_Word) (.s .z) (Lens.comp (Lens.whole _ _) (fun z => { x0 with f_Word := z }) (c_api_Field_f_Word x0)) rfl)) ?_
       exact at_nil k
      ·skip
       refine av rfl (r_load_cell Tryz.isAgg3 rfl (lens_cell0 (c := (cInt .i64)) (y := x0.f_Word) (.s (.s .z)) (Lens.comp (Lens.whole _ _) (fun z => { x0 with f_Word := z }) (c_api_Field_f_Word x0)) rfl)) ?_
       exact at_nil k
     ·intro Lx g51 s K hl hh k
      show At 37 ((30, _) :: (32, _) :: (1, _) :: (2, _) :: (3, _) :: Lx) _ _
      obtain rfl : s = 1 := by omega
      refine at_pure (φ := ((g51 0).2.1) = some ⟨pb ((g51 0).2.1), po ((g51 0).2.1), none⟩) (fun _ hw => row_ptrP (hw.own .z).row h46) ?_
      intro hp47
      refine av rfl (r_idx Tryz.underlying38 Tryz.sizeOf9 rfl rfl h46 hp47) ?_
      exact at_nil k
     ·intro Lx g51 s K hl hh k
      show At 37 ((33, _) :: (1, _) :: (2, _) :: (3, _) :: Lx) _ _
      obtain rfl : s = 1 := by omega
      refine at_pure (φ := ((g51 0).2.1) = some ⟨pb ((g51 0).2.1), po ((g51 0).2.1), none⟩) (fun _ hw => row_ptrP (hw.own .z).row h46) ?_
      intro hp50
      refine av rfl (r_load_cell Tryz.isAgg9 rfl (fun _ hw => row_cell0 (W := fun w1 => w1 = _) (fun w1 h => by subst h; exact Below.refl _ _) (hw.own .z).row h46 hp50 rfl _ rfl)) ?_
      exact at_nil k
     ·intro Lx g51 s K hl hh k
      show At 37 ((1, _) :: (2, _) :: (3, _) :: Lx) _ _
      refine av rfl (r_move rfl) ?_
      exact at_nil k
     ·intro Lx g51 s K hl hh k
      show At 37 ((34, _) :: (35, _) :: (1, _) :: (2, _) :: (3, _) :: Lx) _ _
      obtain rfl : s = 1 := by omega
      refine av rfl (r_build_struct (zs := Cd.cs c_pairline_Pair zqGT_2) (cs := Cd.cs c_pairline_Pair ({ { zqGT_2 with f_Key := lget t43 x0.f_Word } with f_Value := t42 })) Tryz.underlying54 Tryz.zeroValue54 rfl (places_pairline_Pair_54) rfl (fill_step (c := cStr) (z := lget t43 x0.f_Word) rfl (c_pairline_Pair_f_Key zqGT_2) rfl (fill_step (c := cStr) (z := t42) rfl (c_pairline_Pair_f_Value ({ zqGT_2 with f_Key := lget t43 x0.f_Word })) rfl rfl))) ?_
      exact at_nil k
     ·intro Lx g51 K k
      show At 37 ((36, _) :: (1, _) :: (2, _) :: (3, _) :: Lx) _ _
      refine at_store (c := c_pairline_Pair) (z := { { zqGT_2 with f_Key := lget t43 x0.f_Word } with f_Value := t42 }) (.s .z) (Lens.whole _ _) Tryz.sizeOf54 rfl rfl rfl ?_
      exact at_nil k
     intro g51
     show At 37 [(30, _), (31, _), (32, _), (33, _), (34, _), (35, _), (36, _), (1, _), (2, _), (3, _)] _ _
     refine at_drop (H := _) .z ?_
     refine at_drop (H := _) (.s .z) ?_
     refine at_weak [(2, _)] ⟨rfl, trivial⟩ ?_
     refine at_then_normal ?_
     refine at_ret ?_
     have K := of_some hF
     subst K
     exact at_res1 rfl (res_cell (c := c_pairline_Pair) (y := { { zqGT_2 with f_Key := lget t43 x0.f_Word } with f_Value := t42 }) rfl .z (Lens.whole _ _) Tryz.isAgg54 Tryz.sizeOf54 (.inl rfl)) (fun w1 hw => ⟨rfl, hw.below⟩)
    ·refine at_cond_false rfl h41 ?_
     refine sn ?_
     refine at_seq ?_
     refine at_weak [(1, _), (2, _), (3, _)] ⟨rfl, rfl, rfl, trivial⟩ ?_
     obtain ⟨t52, ht52, hF⟩ := of_bindM hF
     obtain ⟨h55, hF⟩ := of_guard hF
     refine at_inv [.al 0 30 (fun g60 => .slice ((g60 0).2.1) t52.length ((g60 0).2.2.1)) [], .q 31 (fun g60 => .pointer (some ⟨b1, 0 + 0, none⟩)) [] 0 1, .q 32 (fun g60 => .int .i64 x0.f_Word) [1] 0 1, .q 33 (fun g60 => .pointer (some ⟨(pb ((g60 0).2.1)), (po ((g60 0).2.1)) + Int.toNat x0.f_Word * 1, none⟩)) [0, 2] 1 1, .q 34 (fun g60 => .string (lget t52 x0.f_Word)) [3] 1 1, .q 35 (fun g60 => .string (⟨#[116, 114, 117, 101]⟩)) [] 0 1, .q 36 (fun g60 => .agg (Cd.cs c_pairline_Pair ({ { zqGT_2 with f_Key := lget t52 x0.f_Word } with f_Value := ⟨#[116, 114, 117, 101]⟩ })).toArray) [4, 5] 1 1, .st 1 none [6]] (fun g60 s => match s with | 0 => (Wd w [cellsE b2 (Cd.cs c_pairline_Pair zqGT_2) 54, cellsE b1 (Cd.cs c_api_Field x0) 46]) | 1 => (Wd w [rowE cStr 9 ((g60 0).2.1) ((g60 0).2.2.1) t52, cellsE b2 (Cd.cs c_pairline_Pair zqGT_2) 54, cellsE b1 (Cd.cs c_api_Field x0) 46]) | _ => (Wd w [rowE cStr 9 ((g60 0).2.1) ((g60 0).2.2.1) t52, cellsE b2 (Cd.cs c_pairline_Pair ({ { zqGT_2 with f_Key := lget t52 x0.f_Word } with f_Value := ⟨#[116, 114, 117, 101]⟩ })) 54, cellsE b1 (Cd.cs c_api_Field x0) 46])) 2 (by kernel_rfl) (by kernel_rfl) (by kernel_rfl) (by kernel_rfl) (by kernel_rfl) ⟨fun g60 g2 h => by show (.slice ((g60 0).2.1) t52.length ((g60 0).2.2.1) : Value) = .slice ((g2 0).2.1) t52.length ((g2 0).2.2.1); rw [h 0 (show 0 < 1 by decide)], fun _ _ _ => rfl, fun _ _ _ => rfl, fun g60 g2 h => by show (.pointer (some ⟨(pb ((g60 0).2.1)), (po ((g60 0).2.1)) + Int.toNat x0.f_Word * 1, none⟩) : Value) = .pointer (some ⟨(pb ((g2 0).2.1)), (po ((g2 0).2.1)) + Int.toNat x0.f_Word * 1, none⟩); rw [h 0 (show 0 < 1 by decide)], fun _ _ _ => rfl, fun _ _ _ => rfl, fun _ _ _ => rfl, fun _ _ _ => rfl, trivial⟩ (by kernel_rfl) (fun _ h => ⟨fun _ => (0, none, 0, none), h.drew⟩) ⟨?_, ?_, ?_, ?_, ?_, ?_, ?_, ?_, trivial⟩ ?_
     ·intro Lx g60 K k
      show At 37 ((1, _) :: (2, _) :: (3, _) :: Lx) _ _
      refine at_callO (c := cStr) (e := 9) (ys := t52) (V := fun p cap => .slice p t52.length cap) Tryz.func14 rfl (by kernel_rfl) rfl rfl (fun w hw => crawlwayref37_Names_ok  _ ht52 w) ?_
      intro p53 c54
      exact at_nil (k (0, p53, c54, none))
     ·intro Lx g60 s K hl hh k
      show At 37 ((1, _) :: (2, _) :: (3, _) :: Lx) _ _
      refine av rfl (r_fieldAddr (fo := 0) Tryz.underlying46 rfl rfl (fun w => ⟨_, Tryz.sizeOf3 w⟩) rfl) ?_
      exact at_nil k
     ·intro Lx g60 s K hl hh k
      show At 37 ((31, _) :: (1, _) :: (2, _) :: (3, _) :: Lx) _ _
      rcases (by omega : s = 0 ∨ s = 1) with rfl | rfl
      ·skip
       refine av rfl (r_load_cell Tryz.isAgg3 rfl (lens_cell0 (c := (cInt .i64)) (y := x0.f_Word) (.s .z) (Lens.comp (Lens.whole _ _) (fun z => { x0 with f_Word := z }) (c_api_Field_f_Word x0)) rfl)) ?_
       exact at_nil k
      ·skip
       refine av rfl (r_load_cell Tryz.isAgg3 rfl (lens_cell0 (c := (cInt .i64)) (y := x0.f_Word) (.s (.s .z)) (Lens.comp (Lens.whole _ _) (fun z => { x0 with f_Word := z }) (c_api_Field_f_Word x0)) rfl)) ?_
       exact at_nil k
     ·intro Lx g60 s K hl hh k
      show At 37 ((30, _) :: (32, _) :: (1, _) :: (2, _) :: (3, _) :: Lx) _ _
      obtain rfl : s = 1 := by omega
      refine at_pure (φ := ((g60 0).2.1) = some ⟨pb ((g60 0).2.1), po ((g60 0).2.1), none⟩) (fun _ hw => row_ptrP (hw.own .z).row h55) ?_
      intro hp56
      refine av rfl (r_idx Tryz.underlying38 Tryz.sizeOf9 rfl rfl h55 hp56) ?_
      exact at_nil k
     ·intro Lx g60 s K hl hh k
      show At 37 ((33, _) :: (1, _) :: (2, _) :: (3, _) :: Lx) _ _
      obtain rfl : s = 1 := by omega
      refine at_pure (φ := ((g60 0).2.1) = some ⟨pb ((g60 0).2.1), po ((g60 0).2.1), none⟩) (fun _ hw => row_ptrP (hw.own .z).row h55) ?_
      intro hp59
      refine av rfl (r_load_cell Tryz.isAgg9 rfl (fun _ hw => row_cell0 (W := fun w1 => w1 = _) (fun w1 h => by subst h; exact Below.refl _ _) (hw.own .z).row h55 hp59 rfl _ rfl)) ?_
      exact at_nil k
     ·intro Lx g60 s K hl hh k
      show At 37 ((1, _) :: (2, _) :: (3, _) :: Lx) _ _
      refine av rfl (r_move rfl) ?_
      exact at_nil k
     ·intro Lx g60 s K hl hh k
      show At 37 ((34, _) :: (35, _) :: (1, _) :: (2, _) :: (3, _) :: Lx) _ _
      obtain rfl : s = 1 := by omega
      refine av rfl (r_build_struct (zs := Cd.cs c_pairline_Pair zqGT_2) (cs := Cd.cs c_pairline_Pair ({ { zqGT_2 with f_Key := lget t52 x0.f_Word } with f_Value := ⟨#[116, 114, 117, 101]⟩ })) Tryz.underlying54 Tryz.zeroValue54 rfl (places_pairline_Pair_54) rfl (fill_step (c := cStr) (z := lget t52 x0.f_Word) rfl (c_pairline_Pair_f_Key zqGT_2) rfl (fill_step (c := cStr) (z := ⟨#[116, 114, 117, 101]⟩) rfl (c_pairline_Pair_f_Value ({ zqGT_2 with f_Key := lget t52 x0.f_Word })) rfl rfl))) ?_
      exact at_nil k
     ·intro Lx g60 K k
      show At 37 ((36, _) :: (1, _) :: (2, _) :: (3, _) :: Lx) _ _
      refine at_store (c := c_pairline_Pair) (z := { { zqGT_2 with f_Key := lget t52 x0.f_Word } with f_Value := ⟨#[116, 114, 117, 101]⟩ }) (.s .z) (Lens.whole _ _) Tryz.sizeOf54 rfl rfl rfl ?_
      exact at_nil k
     intro g60
     show At 37 [(30, _), (31, _), (32, _), (33, _), (34, _), (35, _), (36, _), (1, _), (2, _), (3, _)] _ _
     refine at_drop (H := _) .z ?_
     refine at_drop (H := _) (.s .z) ?_
     refine at_weak [(2, _)] ⟨rfl, trivial⟩ ?_
     refine at_then_normal ?_
     refine at_ret ?_
     have K := of_some hF
     subst K
     exact at_res1 rfl (res_cell (c := c_pairline_Pair) (y := { { zqGT_2 with f_Key := lget t52 x0.f_Word } with f_Value := ⟨#[116, 114, 117, 101]⟩ }) rfl .z (Lens.whole _ _) Tryz.isAgg54 Tryz.sizeOf54 (.inl rfl)) (fun w1 hw => ⟨rfl, hw.below⟩)
end Go.Proofs.YtkkmmpofdcccmaaGreatDoor
namespace Go.Proofs.YtkkmmpofdcccmaaGreatDoor
open E Go.RowKit
abbrev zqGL_0 : S_pairline_Pair := ({ f_Key := (⟨#[]⟩ : ByteArray), f_Value := (⟨#[]⟩ : ByteArray) } : S_pairline_Pair)
def crawlwaylaw37_alive : Option (Bool) :=
  field_Read ({ { ({ f_Key := (⟨#[]⟩ : ByteArray), f_Value := (⟨#[]⟩ : ByteArray) } : S_pairline_Pair) with f_Key := ⟨#[102, 119, 109, 97, 114, 107]⟩ } with f_Value := ⟨#[48, 120, 53]⟩ }) >>= fun t1 => if (t1.2 == 5) = true then (field_Word (⟨#[101, 114, 114, 110, 111]⟩ : ByteArray) >>= fun t4 => if (t4 == 16) = true then (field_Name 1 >>= fun t6 => some (seq t6 (⟨#[112, 114, 105, 118, 97, 116, 101, 95, 107, 101, 121]⟩ : ByteArray))) else (some false)) else (some false)
theorem crawlwaylaw37_alive_ok (r : Bool) (hF : crawlwaylaw37_alive  = some r) (w : World) (hg_bytealg_MaxLen : GV_bytealg_MaxLen w) (hg_field_names : GV_field_names w) (hg_strconv_ErrRange : GV_strconv_ErrRange w) (hg_strconv_ErrSyntax : GV_strconv_ErrSyntax w) (hg_strconv_uint64pow10 : GV_strconv_uint64pow10 w) :
    Calls Tryz.prog 18 #[] w (fun e w' => e = .returned (.bool r) ∧ Below w.heap.size w w') := by
 unfold crawlwaylaw37_alive at hF
 refine calls_enter (l := []) Tryz.func18 rfl rfl rfl ?_
 refine at_start ?_
 refine at_weak [] trivial ?_
 refine sr ?_
 refine av rfl (r_assign rfl) ?_
 refine nws [] trivial ?_
 refine av rfl (r_build_struct (zs := Cd.cs c_pairline_Pair zqGL_0) (cs := Cd.cs c_pairline_Pair ({ { zqGL_0 with f_Key := ⟨#[102, 119, 109, 97, 114, 107]⟩ } with f_Value := ⟨#[48, 120, 53]⟩ })) Tryz.underlying51 Tryz.zeroValue51 rfl (places_pairline_Pair_51) rfl (fill_step (c := cStr) (z := ⟨#[102, 119, 109, 97, 114, 107]⟩) rfl (c_pairline_Pair_f_Key zqGL_0) rfl (fill_step (c := cStr) (z := ⟨#[48, 120, 53]⟩) rfl (c_pairline_Pair_f_Value ({ zqGL_0 with f_Key := ⟨#[102, 119, 109, 97, 114, 107]⟩ })) rfl rfl))) ?_
 obtain ⟨t1, ht1, hF⟩ := of_bindM hF
 refine at_callB Tryz.func19 rfl (by kernel_rfl) rfl rfl (fun w hw => field_Read_ok _ _ ht1 w (hg_bytealg_MaxLen.on hw.below) (hg_field_names.on hw.below) (hg_strconv_ErrRange.on hw.below) (hg_strconv_ErrSyntax.on hw.below) (hg_strconv_uint64pow10.on hw.below)) ?_
 refine av rfl (r_move rfl) ?_
 refine av rfl (r_extract rfl rfl) ?_
 refine av rfl (r_extract rfl rfl) ?_
 refine at_alloc (cs := Cd.cs c_api_Field ({ f_Word := (0 : Int), f_Key := (Vector.replicate 32 (0 : Int) : (Vector Int 32)), f_N := (0 : Int), f_End := ({ f_A := ({ f_V := (0 : Int), f_B := (Vector.replicate 16 (0 : Int) : (Vector Int 16)) } : S_api_Addr), f_Port := (0 : Int) } : S_api_Endpoint), f_P := ({ f_A := ({ f_V := (0 : Int), f_B := (Vector.replicate 16 (0 : Int) : (Vector Int 16)) } : S_api_Addr), f_Bits := (0 : Int) } : S_api_Prefix) } : S_api_Field)) Tryz.zeroValue46 rfl rfl ?_
 intro b2
 refine at_store (c := c_api_Field) (z := t1.1) .z (Lens.whole _ _) Tryz.sizeOf46 rfl rfl rfl ?_
 refine av rfl (r_assign rfl) ?_
 refine at_nil ?_
 refine at_drop (H := _) .z ?_
 refine at_weak [(2, _)] ⟨rfl, trivial⟩ ?_
 refine at_then_normal ?_
 refine sr ?_
 refine av rfl (r_move rfl) ?_
 refine av rfl (r_ieql rfl rfl) ?_
 refine av rfl (r_move rfl) ?_
 rcases of_ite hF with ⟨h3, hF⟩ | ⟨h3, hF⟩
 ·refine at_fix (g := 10) rfl h3 ?_
  refine at_guard_yes rfl rfl rfl ?_
  obtain ⟨t4, ht4, hF⟩ := of_bindM hF
  refine at_callB Tryz.func16 rfl (by kernel_rfl) rfl rfl (fun w hw => callB_of_call0 (field_Word_ok _ _ ht4 w (hg_field_names.on hw.below))) ?_
  refine at_guard_yes rfl rfl rfl ?_
  refine av rfl (r_ieql rfl rfl) ?_
  refine av rfl (r_pick rfl rfl rfl) ?_
  refine av rfl (r_move rfl) ?_
  rcases of_ite hF with ⟨h5, hF⟩ | ⟨h5, hF⟩
  ·refine at_fix (g := 14) rfl h5 ?_
   refine at_guard_yes rfl rfl rfl ?_
   obtain ⟨t6, ht6, hF⟩ := of_bindM hF
   refine at_callB Tryz.func15 rfl (by kernel_rfl) rfl rfl (fun w hw => callB_of_call0 (field_Name_ok _ _ ht6 w (hg_field_names.on hw.below))) ?_
   refine at_guard_yes rfl rfl rfl ?_
   refine av rfl (r_seql rfl rfl) ?_
   refine av rfl (r_pick rfl rfl rfl) ?_
   refine av rfl (r_assign rfl) ?_
   refine nwt [(0, _)] ⟨rfl, trivial⟩ ?_
   refine at_ret ?_
   have K := of_some hF
   subst K
   exact at_return1 rfl rfl (fun w1 hw => ⟨rfl, hw.below⟩)
  ·refine at_fix (g := 14) rfl h5 ?_
   refine at_guard_no rfl rfl rfl rfl rfl ?_
   refine at_guard_no rfl rfl rfl rfl rfl ?_
   refine av rfl (r_pick rfl rfl rfl) ?_
   refine av rfl (r_assign rfl) ?_
   refine nwt [(0, _)] ⟨rfl, trivial⟩ ?_
   refine at_ret ?_
   have K := of_some hF
   subst K
   exact at_return1 rfl rfl (fun w1 hw => ⟨rfl, hw.below⟩)
 ·refine at_fix (g := 10) rfl h3 ?_
  refine at_guard_no rfl rfl rfl rfl rfl ?_
  refine at_guard_no rfl rfl rfl rfl rfl ?_
  refine av rfl (r_pick rfl rfl rfl) ?_
  refine av rfl (r_move rfl) ?_
  refine at_guard_no rfl rfl rfl rfl rfl ?_
  refine at_guard_no rfl rfl rfl rfl rfl ?_
  refine av rfl (r_pick rfl rfl rfl) ?_
  refine av rfl (r_assign rfl) ?_
  refine nwt [(0, _)] ⟨rfl, trivial⟩ ?_
  refine at_ret ?_
  have K := of_some hF
  subst K
  exact at_return1 rfl rfl (fun w1 hw => ⟨rfl, hw.below⟩)
def crawlwaylaw37_FieldReads (x0 : ByteArray) (x1 : ByteArray) : Option (Bool) :=
  if (decide ((x1.size : Int) > 300)) = true then (crawlwaylaw37_alive >>= fun t2 => some t2) else (field_Read ({ { ({ f_Key := (⟨#[]⟩ : ByteArray), f_Value := (⟨#[]⟩ : ByteArray) } : S_pairline_Pair) with f_Key := x0 } with f_Value := x1 }) >>= fun t3 => crawlwayref37_Read ({ { ({ f_Key := (⟨#[]⟩ : ByteArray), f_Value := (⟨#[]⟩ : ByteArray) } : S_pairline_Pair) with f_Key := x0 } with f_Value := x1 }) >>= fun t5 => if (decide (t3.1 = t5.1)) = true then (if (t3.2 == t5.2) = true then (if (t5.2 != 0) = true then (crawlwaylaw37_alive >>= fun t10 => some t10) else (field_Right t3.1 >>= fun t11 => if t11 = true then (crawlwaylaw37_alive >>= fun t13 => some t13) else (some false))) else (some false)) else (some false))
def crawlwaylaw37_FieldPairs (x0 : S_api_Field) : Option (Bool) :=
  crawlwayref37_Right x0 >>= fun t2 => field_Pair x0 >>= fun t3 => field_Right x0 >>= fun t5 => if (t5 != t2) = true then (some false) else (if (!t2) = true then (if (seq t3.1.f_Key (⟨#[]⟩ : ByteArray)) = true then (if (seq t3.1.f_Value (⟨#[]⟩ : ByteArray)) = true then (if (t3.2 == 1) = true then (crawlwaylaw37_alive >>= fun t11 => some t11) else (some false)) else (some false)) else (some false)) else (crawlwayref37_Pair x0 >>= fun t12 => field_Read t3.1 >>= fun t14 => if (seq t3.1.f_Key t12.f_Key) = true then (if (seq t3.1.f_Value t12.f_Value) = true then (if (t3.2 == 0) = true then (if (decide (t14.1 = x0)) = true then (if (t14.2 == 0) = true then (crawlwaylaw37_alive >>= fun t21 => some t21) else (some false)) else (some false)) else (some false)) else (some false)) else (some false)))
theorem crawlwaylaw37_FieldPairs_ok (x0 : S_api_Field) (r : Bool) (hF : crawlwaylaw37_FieldPairs x0 = some r) (w : World) (hg_bytealg_MaxLen : GV_bytealg_MaxLen w) (hg_field_names : GV_field_names w) (hg_strconv_ErrRange : GV_strconv_ErrRange w) (hg_strconv_ErrSyntax : GV_strconv_ErrSyntax w) (hg_strconv_uint64pow10 : GV_strconv_uint64pow10 w) :
    Calls Tryz.prog 8 #[.agg (Cd.cs c_api_Field x0).toArray] w (fun e w' => e = .returned (.bool r) ∧ Below w.heap.size w w') := by
 unfold crawlwaylaw37_FieldPairs at hF
 refine calls_enter (l := [.agg (Cd.cs c_api_Field x0).toArray]) Tryz.func8 rfl rfl rfl ?_
 refine at_start ?_
 refine at_weak [(0, _)] ⟨rfl, trivial⟩ ?_
 refine sr ?_
 refine at_box (cs := Cd.cs c_api_Field x0) rfl rfl rfl ?_
 intro b1
 refine av rfl (r_assign rfl) ?_
 refine nws [(1, _)] ⟨rfl, trivial⟩ ?_
 refine av rfl (r_load_aggc (c := c_api_Field) (z := x0) Tryz.isAgg46 Tryz.sizeOf46 rfl (lens_cell .z (Lens.whole _ _))) ?_
 obtain ⟨t2, ht2, hF⟩ := of_bindM hF
 refine at_callB Tryz.func28 rfl (by kernel_rfl) rfl rfl (fun w hw => crawlwayref37_Right_ok _ _ ht2 w) ?_
 refine av rfl (r_assign rfl) ?_
 refine nws [(1, _), (3, _)] ⟨rfl, rfl, trivial⟩ ?_
 refine av rfl (r_load_aggc (c := c_api_Field) (z := x0) Tryz.isAgg46 Tryz.sizeOf46 rfl (lens_cell .z (Lens.whole _ _))) ?_
 obtain ⟨t3, ht3, hF⟩ := of_bindM hF
 refine at_callB Tryz.func29 rfl (by kernel_rfl) rfl rfl (fun w hw => field_Pair_ok _ _ ht3 w (hg_bytealg_MaxLen.on hw.below) (hg_field_names.on hw.below) (hg_strconv_ErrRange.on hw.below) (hg_strconv_ErrSyntax.on hw.below) (hg_strconv_uint64pow10.on hw.below)) ?_
 refine av rfl (r_move rfl) ?_
 refine av rfl (r_extract rfl rfl) ?_
 refine av rfl (r_extract rfl rfl) ?_
 refine at_alloc (cs := Cd.cs c_pairline_Pair zqGL_0) Tryz.zeroValue51 rfl rfl ?_
 intro b4
 refine at_store (c := c_pairline_Pair) (z := t3.1) .z (Lens.whole _ _) Tryz.sizeOf51 rfl rfl rfl ?_
 refine av rfl (r_assign rfl) ?_
 refine nwt [(1, _), (3, _), (4, _), (5, _)] ⟨rfl, rfl, rfl, rfl, trivial⟩ ?_
 refine at_seq ?_
 refine sr ?_
 refine av rfl (r_load_aggc (c := c_api_Field) (z := x0) Tryz.isAgg46 Tryz.sizeOf46 rfl (lens_cell (.s .z) (Lens.whole _ _))) ?_
 obtain ⟨t5, ht5, hF⟩ := of_bindM hF
 refine at_callB Tryz.func21 rfl (by kernel_rfl) rfl rfl (fun w hw => field_Right_ok _ _ ht5 w (hg_bytealg_MaxLen.on hw.below) (hg_field_names.on hw.below) (hg_strconv_ErrRange.on hw.below) (hg_strconv_ErrSyntax.on hw.below) (hg_strconv_uint64pow10.on hw.below)) ?_
 refine av rfl (r_move rfl) ?_
 refine av rfl (r_bool Tryz.underlying4 rfl rfl (.inr rfl) rfl) ?_
 refine nwt [(1, _), (3, _), (4, _), (5, _), (19, _)] ⟨rfl, rfl, rfl, rfl, rfl, trivial⟩ ?_
 rcases of_ite hF with ⟨h6, hF⟩ | ⟨h6, hF⟩
 ·refine at_cond_true rfl h6 ?_
  refine sr ?_
  refine av rfl (r_assign rfl) ?_
  refine at_nil ?_
  refine at_drop (H := _) .z ?_
  refine at_drop (H := _) .z ?_
  refine at_weak [(2, _)] ⟨rfl, trivial⟩ ?_
  refine at_then_normal ?_
  refine rt ?_
  have K := of_some hF
  subst K
  exact at_return1 rfl rfl (fun w1 hw => ⟨rfl, hw.below⟩)
 ·refine at_cond_false rfl h6 ?_
  refine sn ?_
  refine at_seq ?_
  refine sr ?_
  refine av rfl (r_move rfl) ?_
  refine av rfl (r_not rfl) ?_
  refine nwt [(1, _), (4, _), (5, _), (21, _)] ⟨rfl, rfl, rfl, rfl, trivial⟩ ?_
  rcases of_ite hF with ⟨h7, hF⟩ | ⟨h7, hF⟩
  ·refine at_cond_true rfl h7 ?_
   refine sr ?_
   refine av rfl (r_fieldAddr (fo := 0) Tryz.underlying51 rfl rfl (fun w => ⟨_, Tryz.sizeOf9 w⟩) rfl) ?_
   refine av rfl (r_load_cell Tryz.isAgg9 rfl (lens_cell0 (c := cStr) (y := t3.1.f_Key) .z (Lens.comp (Lens.whole _ _) (fun z => { t3.1 with f_Key := z }) (c_pairline_Pair_f_Key t3.1)) rfl)) ?_
   refine av rfl (r_seql rfl rfl) ?_
   refine av rfl (r_move rfl) ?_
   rcases of_ite hF with ⟨h8, hF⟩ | ⟨h8, hF⟩
   ·refine at_fix (g := 25) rfl h8 ?_
    refine at_guard_yes rfl rfl rfl ?_
    refine av rfl (r_fieldAddr (fo := 1) Tryz.underlying51 rfl rfl (fun w => ⟨_, Tryz.sizeOf9 w⟩) rfl) ?_
    refine at_guard_yes rfl rfl rfl ?_
    refine av rfl (r_load_cell Tryz.isAgg9 rfl (lens_cell0 (c := cStr) (y := t3.1.f_Value) .z (Lens.comp (Lens.whole _ _) (fun z => { t3.1 with f_Value := z }) (c_pairline_Pair_f_Value t3.1)) rfl)) ?_
    refine at_guard_yes rfl rfl rfl ?_
    refine av rfl (r_seql rfl rfl) ?_
    refine av rfl (r_pick rfl rfl rfl) ?_
    refine av rfl (r_move rfl) ?_
    rcases of_ite hF with ⟨h9, hF⟩ | ⟨h9, hF⟩
    ·refine at_fix (g := 30) rfl h9 ?_
     refine at_guard_yes rfl rfl rfl ?_
     refine av rfl (r_move rfl) ?_
     refine at_guard_yes rfl rfl rfl ?_
     refine av rfl (r_ieql rfl rfl) ?_
     refine av rfl (r_pick rfl rfl rfl) ?_
     refine av rfl (r_move rfl) ?_
     rcases of_ite hF with ⟨h10, hF⟩ | ⟨h10, hF⟩
     ·refine at_fix (g := 34) rfl h10 ?_
      refine at_guard_yes rfl rfl rfl ?_
      obtain ⟨t11, ht11, hF⟩ := of_bindM hF
      refine at_callB Tryz.func18 rfl (by kernel_rfl) rfl rfl (fun w hw => crawlwaylaw37_alive_ok  _ ht11 w (hg_bytealg_MaxLen.on hw.below) (hg_field_names.on hw.below) (hg_strconv_ErrRange.on hw.below) (hg_strconv_ErrSyntax.on hw.below) (hg_strconv_uint64pow10.on hw.below)) ?_
      refine av rfl (r_pick rfl rfl rfl) ?_
      refine av rfl (r_assign rfl) ?_
      refine at_nil ?_
      refine at_drop (H := _) .z ?_
      refine at_drop (H := _) .z ?_
      refine at_weak [(2, _)] ⟨rfl, trivial⟩ ?_
      refine at_then_normal ?_
      refine rt ?_
      have K := of_some hF
      subst K
      exact at_return1 rfl rfl (fun w1 hw => ⟨rfl, hw.below⟩)
     ·refine at_fix (g := 34) rfl h10 ?_
      refine at_guard_no rfl rfl rfl rfl rfl ?_
      refine av rfl (r_pick rfl rfl rfl) ?_
      refine av rfl (r_assign rfl) ?_
      refine at_nil ?_
      refine at_drop (H := _) .z ?_
      refine at_drop (H := _) .z ?_
      refine at_weak [(2, _)] ⟨rfl, trivial⟩ ?_
      refine at_then_normal ?_
      refine rt ?_
      have K := of_some hF
      subst K
      exact at_return1 rfl rfl (fun w1 hw => ⟨rfl, hw.below⟩)
    ·refine at_fix (g := 30) rfl h9 ?_
     refine at_guard_no rfl rfl rfl rfl rfl ?_
     refine at_guard_no rfl rfl rfl rfl rfl ?_
     refine av rfl (r_pick rfl rfl rfl) ?_
     refine av rfl (r_move rfl) ?_
     refine at_guard_no rfl rfl rfl rfl rfl ?_
     refine av rfl (r_pick rfl rfl rfl) ?_
     refine av rfl (r_assign rfl) ?_
     refine at_nil ?_
     refine at_drop (H := _) .z ?_
     refine at_drop (H := _) .z ?_
     refine at_weak [(2, _)] ⟨rfl, trivial⟩ ?_
     refine at_then_normal ?_
     refine rt ?_
     have K := of_some hF
     subst K
     exact at_return1 rfl rfl (fun w1 hw => ⟨rfl, hw.below⟩)
   ·refine at_fix (g := 25) rfl h8 ?_
    refine at_guard_no rfl rfl rfl rfl rfl ?_
    refine at_guard_no rfl rfl rfl rfl rfl ?_
    refine at_guard_no rfl rfl rfl rfl rfl ?_
    refine av rfl (r_pick rfl rfl rfl) ?_
    refine av rfl (r_move rfl) ?_
    refine at_guard_no rfl rfl rfl rfl rfl ?_
    refine at_guard_no rfl rfl rfl rfl rfl ?_
    refine av rfl (r_pick rfl rfl rfl) ?_
    refine av rfl (r_move rfl) ?_
    refine at_guard_no rfl rfl rfl rfl rfl ?_
    refine av rfl (r_pick rfl rfl rfl) ?_
    refine av rfl (r_assign rfl) ?_
    refine at_nil ?_
    refine at_drop (H := _) .z ?_
    refine at_drop (H := _) .z ?_
    refine at_weak [(2, _)] ⟨rfl, trivial⟩ ?_
    refine at_then_normal ?_
    refine rt ?_
    have K := of_some hF
    subst K
    exact at_return1 rfl rfl (fun w1 hw => ⟨rfl, hw.below⟩)
  ·refine at_cond_false rfl h7 ?_
   refine sns ?_
   refine av rfl (r_load_aggc (c := c_api_Field) (z := x0) Tryz.isAgg46 Tryz.sizeOf46 rfl (lens_cell (.s .z) (Lens.whole _ _))) ?_
   obtain ⟨t12, ht12, hF⟩ := of_bindM hF
   refine at_callB Tryz.func30 rfl (by kernel_rfl) rfl rfl (fun w hw => crawlwayref37_Pair_ok _ _ ht12 w) ?_
   refine at_alloc (cs := Cd.cs c_pairline_Pair zqGL_0) Tryz.zeroValue54 rfl rfl ?_
   intro b13
   refine at_store (c := c_pairline_Pair) (z := t12) .z (Lens.whole _ _) Tryz.sizeOf54 rfl rfl rfl ?_
   refine nws [(1, _), (4, _), (5, _), (6, _)] ⟨rfl, rfl, rfl, rfl, trivial⟩ ?_
   refine av rfl (r_load_aggc (c := c_pairline_Pair) (z := t3.1) Tryz.isAgg51 Tryz.sizeOf51 rfl (lens_cell (.s .z) (Lens.whole _ _))) ?_
   obtain ⟨t14, ht14, hF⟩ := of_bindM hF
   refine at_callB Tryz.func19 rfl (by kernel_rfl) rfl rfl (fun w hw => field_Read_ok _ _ ht14 w (hg_bytealg_MaxLen.on hw.below) (hg_field_names.on hw.below) (hg_strconv_ErrRange.on hw.below) (hg_strconv_ErrSyntax.on hw.below) (hg_strconv_uint64pow10.on hw.below)) ?_
   refine av rfl (r_move rfl) ?_
   refine av rfl (r_extract rfl rfl) ?_
   refine av rfl (r_extract rfl rfl) ?_
   refine at_alloc (cs := Cd.cs c_api_Field ({ f_Word := (0 : Int), f_Key := (Vector.replicate 32 (0 : Int) : (Vector Int 32)), f_N := (0 : Int), f_End := ({ f_A := ({ f_V := (0 : Int), f_B := (Vector.replicate 16 (0 : Int) : (Vector Int 16)) } : S_api_Addr), f_Port := (0 : Int) } : S_api_Endpoint), f_P := ({ f_A := ({ f_V := (0 : Int), f_B := (Vector.replicate 16 (0 : Int) : (Vector Int 16)) } : S_api_Addr), f_Bits := (0 : Int) } : S_api_Prefix) } : S_api_Field)) Tryz.zeroValue46 rfl rfl ?_
   intro b15
   refine at_store (c := c_api_Field) (z := t14.1) .z (Lens.whole _ _) Tryz.sizeOf46 rfl rfl rfl ?_
   refine av rfl (r_assign rfl) ?_
   refine nws [(1, _), (4, _), (5, _), (6, _), (7, _), (8, _)] ⟨rfl, rfl, rfl, rfl, rfl, rfl, trivial⟩ ?_
   refine av rfl (r_fieldAddr (fo := 0) Tryz.underlying51 rfl rfl (fun w => ⟨_, Tryz.sizeOf9 w⟩) rfl) ?_
   refine av rfl (r_load_cell Tryz.isAgg9 rfl (lens_cell0 (c := cStr) (y := t3.1.f_Key) (.s (.s .z)) (Lens.comp (Lens.whole _ _) (fun z => { t3.1 with f_Key := z }) (c_pairline_Pair_f_Key t3.1)) rfl)) ?_
   refine av rfl (r_fieldAddr (fo := 0) Tryz.underlying54 rfl rfl (fun w => ⟨_, Tryz.sizeOf9 w⟩) rfl) ?_
   refine av rfl (r_load_cell Tryz.isAgg9 rfl (lens_cell0 (c := cStr) (y := t12.f_Key) (.s .z) (Lens.comp (Lens.whole _ _) (fun z => { t12 with f_Key := z }) (c_pairline_Pair_f_Key t12)) rfl)) ?_
   refine av rfl (r_seql rfl rfl) ?_
   refine av rfl (r_move rfl) ?_
   rcases of_ite hF with ⟨h16, hF⟩ | ⟨h16, hF⟩
   ·refine at_fix (g := 49) rfl h16 ?_
    refine at_guard_yes rfl rfl rfl ?_
    refine av rfl (r_fieldAddr (fo := 1) Tryz.underlying51 rfl rfl (fun w => ⟨_, Tryz.sizeOf9 w⟩) rfl) ?_
    refine at_guard_yes rfl rfl rfl ?_
    refine av rfl (r_load_cell Tryz.isAgg9 rfl (lens_cell0 (c := cStr) (y := t3.1.f_Value) (.s (.s .z)) (Lens.comp (Lens.whole _ _) (fun z => { t3.1 with f_Value := z }) (c_pairline_Pair_f_Value t3.1)) rfl)) ?_
    refine at_guard_yes rfl rfl rfl ?_
    refine av rfl (r_fieldAddr (fo := 1) Tryz.underlying54 rfl rfl (fun w => ⟨_, Tryz.sizeOf9 w⟩) rfl) ?_
    refine at_guard_yes rfl rfl rfl ?_
    refine av rfl (r_load_cell Tryz.isAgg9 rfl (lens_cell0 (c := cStr) (y := t12.f_Value) (.s .z) (Lens.comp (Lens.whole _ _) (fun z => { t12 with f_Value := z }) (c_pairline_Pair_f_Value t12)) rfl)) ?_
    refine at_guard_yes rfl rfl rfl ?_
    refine av rfl (r_seql rfl rfl) ?_
    refine av rfl (r_pick rfl rfl rfl) ?_
    refine av rfl (r_move rfl) ?_
    rcases of_ite hF with ⟨h17, hF⟩ | ⟨h17, hF⟩
    ·refine at_fix (g := 56) rfl h17 ?_
     refine at_guard_yes rfl rfl rfl ?_
     refine av rfl (r_move rfl) ?_
     refine at_guard_yes rfl rfl rfl ?_
     refine av rfl (r_ieql rfl rfl) ?_
     refine av rfl (r_pick rfl rfl rfl) ?_
     refine av rfl (r_move rfl) ?_
     rcases of_ite hF with ⟨h18, hF⟩ | ⟨h18, hF⟩
     ·refine at_fix (g := 60) rfl h18 ?_
      refine at_guard_yes rfl rfl rfl ?_
      refine av rfl (r_load_aggc (c := c_api_Field) (z := t14.1) Tryz.isAgg46 Tryz.sizeOf46 rfl (lens_cell .z (Lens.whole _ _))) ?_
      refine at_guard_yes rfl rfl rfl ?_
      refine av rfl (r_load_aggc (c := c_api_Field) (z := x0) Tryz.isAgg46 Tryz.sizeOf46 rfl (lens_cell (.s (.s (.s .z))) (Lens.whole _ _))) ?_
      refine at_guard_yes rfl rfl rfl ?_
      refine av rfl (r_eqagg (c := c_api_Field) (a := t14.1) (b := x0) (eq_api_Field_46) rfl Tryz.eqGuardType46 rfl rfl (.inl rfl) rfl) ?_
      refine av rfl (r_pick rfl rfl rfl) ?_
      refine av rfl (r_move rfl) ?_
      rcases of_ite hF with ⟨h19, hF⟩ | ⟨h19, hF⟩
      ·refine at_fix (g := 65) rfl h19 ?_
       refine at_guard_yes rfl rfl rfl ?_
       refine av rfl (r_move rfl) ?_
       refine at_guard_yes rfl rfl rfl ?_
       refine av rfl (r_ieql rfl rfl) ?_
       refine av rfl (r_pick rfl rfl rfl) ?_
       refine av rfl (r_move rfl) ?_
       rcases of_ite hF with ⟨h20, hF⟩ | ⟨h20, hF⟩
       ·refine at_fix (g := 69) rfl h20 ?_
        refine at_guard_yes rfl rfl rfl ?_
        obtain ⟨t21, ht21, hF⟩ := of_bindM hF
        refine at_callB Tryz.func18 rfl (by kernel_rfl) rfl rfl (fun w hw => crawlwaylaw37_alive_ok  _ ht21 w (hg_bytealg_MaxLen.on hw.below) (hg_field_names.on hw.below) (hg_strconv_ErrRange.on hw.below) (hg_strconv_ErrSyntax.on hw.below) (hg_strconv_uint64pow10.on hw.below)) ?_
        refine av rfl (r_pick rfl rfl rfl) ?_
        refine av rfl (r_assign rfl) ?_
        refine at_nil ?_
        refine at_drop (H := _) .z ?_
        refine at_drop (H := _) .z ?_
        refine at_drop (H := _) .z ?_
        refine at_drop (H := _) .z ?_
        refine at_weak [(2, _)] ⟨rfl, trivial⟩ ?_
        refine at_then_normal ?_
        refine at_ret ?_
        have K := of_some hF
        subst K
        exact at_return1 rfl rfl (fun w1 hw => ⟨rfl, hw.below⟩)
       ·refine at_fix (g := 69) rfl h20 ?_
        refine at_guard_no rfl rfl rfl rfl rfl ?_
        refine av rfl (r_pick rfl rfl rfl) ?_
        refine av rfl (r_assign rfl) ?_
        refine at_nil ?_
        refine at_drop (H := _) .z ?_
        refine at_drop (H := _) .z ?_
        refine at_drop (H := _) .z ?_
        refine at_drop (H := _) .z ?_
        refine at_weak [(2, _)] ⟨rfl, trivial⟩ ?_
        refine at_then_normal ?_
        refine at_ret ?_
        have K := of_some hF
        subst K
        exact at_return1 rfl rfl (fun w1 hw => ⟨rfl, hw.below⟩)
      ·refine at_fix (g := 65) rfl h19 ?_
       refine at_guard_no rfl rfl rfl rfl rfl ?_
       refine at_guard_no rfl rfl rfl rfl rfl ?_
       refine av rfl (r_pick rfl rfl rfl) ?_
       refine av rfl (r_move rfl) ?_
       refine at_guard_no rfl rfl rfl rfl rfl ?_
       refine av rfl (r_pick rfl rfl rfl) ?_
       refine av rfl (r_assign rfl) ?_
       refine at_nil ?_
       refine at_drop (H := _) .z ?_
       refine at_drop (H := _) .z ?_
       refine at_drop (H := _) .z ?_
       refine at_drop (H := _) .z ?_
       refine at_weak [(2, _)] ⟨rfl, trivial⟩ ?_
       refine at_then_normal ?_
       refine at_ret ?_
       have K := of_some hF
       subst K
       exact at_return1 rfl rfl (fun w1 hw => ⟨rfl, hw.below⟩)
     ·refine at_fix (g := 60) rfl h18 ?_
      refine at_guard_no rfl rfl rfl rfl rfl ?_
      refine at_guard_no rfl rfl rfl rfl rfl ?_
      refine at_guard_no rfl rfl rfl rfl rfl ?_
      refine av rfl (r_pick rfl rfl rfl) ?_
      refine av rfl (r_move rfl) ?_
      refine at_guard_no rfl rfl rfl rfl rfl ?_
      refine at_guard_no rfl rfl rfl rfl rfl ?_
      refine av rfl (r_pick rfl rfl rfl) ?_
      refine av rfl (r_move rfl) ?_
      refine at_guard_no rfl rfl rfl rfl rfl ?_
      refine av rfl (r_pick rfl rfl rfl) ?_
      refine av rfl (r_assign rfl) ?_
      refine at_nil ?_
      refine at_drop (H := _) .z ?_
      refine at_drop (H := _) .z ?_
      refine at_drop (H := _) .z ?_
      refine at_drop (H := _) .z ?_
      refine at_weak [(2, _)] ⟨rfl, trivial⟩ ?_
      refine at_then_normal ?_
      refine at_ret ?_
      have K := of_some hF
      subst K
      exact at_return1 rfl rfl (fun w1 hw => ⟨rfl, hw.below⟩)
    ·refine at_fix (g := 56) rfl h17 ?_
     refine at_guard_no rfl rfl rfl rfl rfl ?_
     refine at_guard_no rfl rfl rfl rfl rfl ?_
     refine av rfl (r_pick rfl rfl rfl) ?_
     refine av rfl (r_move rfl) ?_
     refine at_guard_no rfl rfl rfl rfl rfl ?_
     refine at_guard_no rfl rfl rfl rfl rfl ?_
     refine at_guard_no rfl rfl rfl rfl rfl ?_
     refine av rfl (r_pick rfl rfl rfl) ?_
     refine av rfl (r_move rfl) ?_
     refine at_guard_no rfl rfl rfl rfl rfl ?_
     refine at_guard_no rfl rfl rfl rfl rfl ?_
     refine av rfl (r_pick rfl rfl rfl) ?_
     refine av rfl (r_move rfl) ?_
     refine at_guard_no rfl rfl rfl rfl rfl ?_
     refine av rfl (r_pick rfl rfl rfl) ?_
     refine av rfl (r_assign rfl) ?_
     refine at_nil ?_
     refine at_drop (H := _) .z ?_
     refine at_drop (H := _) .z ?_
     refine at_drop (H := _) .z ?_
     refine at_drop (H := _) .z ?_
     refine at_weak [(2, _)] ⟨rfl, trivial⟩ ?_
     refine at_then_normal ?_
     refine at_ret ?_
     have K := of_some hF
     subst K
     exact at_return1 rfl rfl (fun w1 hw => ⟨rfl, hw.below⟩)
   ·refine at_fix (g := 49) rfl h16 ?_
    refine at_guard_no rfl rfl rfl rfl rfl ?_
    refine at_guard_no rfl rfl rfl rfl rfl ?_
    refine at_guard_no rfl rfl rfl rfl rfl ?_
    refine at_guard_no rfl rfl rfl rfl rfl ?_
    refine at_guard_no rfl rfl rfl rfl rfl ?_
    refine av rfl (r_pick rfl rfl rfl) ?_
    refine av rfl (r_move rfl) ?_
    refine at_guard_no rfl rfl rfl rfl rfl ?_
    refine at_guard_no rfl rfl rfl rfl rfl ?_
    refine av rfl (r_pick rfl rfl rfl) ?_
    refine av rfl (r_move rfl) ?_
    refine at_guard_no rfl rfl rfl rfl rfl ?_
    refine at_guard_no rfl rfl rfl rfl rfl ?_
    refine at_guard_no rfl rfl rfl rfl rfl ?_
    refine av rfl (r_pick rfl rfl rfl) ?_
    refine av rfl (r_move rfl) ?_
    refine at_guard_no rfl rfl rfl rfl rfl ?_
    refine at_guard_no rfl rfl rfl rfl rfl ?_
    refine av rfl (r_pick rfl rfl rfl) ?_
    refine av rfl (r_move rfl) ?_
    refine at_guard_no rfl rfl rfl rfl rfl ?_
    refine av rfl (r_pick rfl rfl rfl) ?_
    refine av rfl (r_assign rfl) ?_
    refine at_nil ?_
    refine at_drop (H := _) .z ?_
    refine at_drop (H := _) .z ?_
    refine at_drop (H := _) .z ?_
    refine at_drop (H := _) .z ?_
    refine at_weak [(2, _)] ⟨rfl, trivial⟩ ?_
    refine at_then_normal ?_
    refine at_ret ?_
    have K := of_some hF
    subst K
    exact at_return1 rfl rfl (fun w1 hw => ⟨rfl, hw.below⟩)
end Go.Proofs.YtkkmmpofdcccmaaGreatDoor
