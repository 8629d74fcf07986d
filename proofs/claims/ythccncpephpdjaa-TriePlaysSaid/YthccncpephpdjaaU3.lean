/- Functions with the same answers as the Go functions that they are named for, and the proofs of it, by a program of this project (gen.py). -/
import Derived.Test.YthccncpephpdjaaT
import Derived.Test.YthccncpephpdjaaShelf
import Derived.Test.YthccncpephpdjaaW
import Derived.Test.YthccncpephpdjaaL
import Derived.Test.YthccncpephpdjaaR
import Derived.Test.YthccncpephpdjaaN
import Derived.Test.YthccncpephpdjaaLit
import Derived.Test.YthccncpephpdjaaInl
import Derived.Test.YthccncpephpdjaaHp
import Derived.Test.YthccncpephpdjaaProg
import Derived.Test.YthccncpephpdjaaU1
import Derived.Test.YthccncpephpdjaaU2
set_option linter.unusedVariables false
set_option linter.unusedSimpArgs false
namespace Go.Proofs.Ythccncpephpdjaa
open E Go.RowKit

theorem infoU352_is : (Try.prog.info? 52).isSome = true := by kernel_rfl
noncomputable def infoU352_v : TypeInfo := (Try.prog.info? 52).get infoU352_is
theorem infoU352 : Try.prog.info? 52 = some infoU352_v := (Option.some_get _).symm

def trie_Trie_All_1 (x0 : S_api_Entry) (x1 : List S_api_Entry) : Option (List S_api_Entry) :=
  if (x1.length + 1) * 40 ≤ 140737488355328 then some (x1 ++ [x0]) else none
theorem trie_Trie_All_1_ok {x0 : S_api_Entry} {x1 : List S_api_Entry} {r : List S_api_Entry} (hF : trie_Trie_All_1 x0 x1 = some r) : ∀ {w0 w : World} {G_ : List Ent} {b1_ : Nat} {p1_ : Option Addr} {c1_ : Nat} (hw_ : Wd w0 (svE c_api_Entry 52 44 b1_ p1_ c1_ x1 :: G_) w),
    Calls Try.prog 75 #[.agg (Cd.cs c_api_Entry x0).toArray, .pointer (some ⟨b1_, 0, none⟩)] w (fun e w' => ∃ (q0 : Option Addr) (d0 : Nat), e = .returned (.tuple #[]) ∧ Wd w0 (svE c_api_Entry 52 44 b1_ q0 d0 r :: G_) w') := by
  intro w0 w G_ b1_ p1_ c1_ hw_
  unfold trie_Trie_All_1 at hF
  refine calls_enter (l := [.agg (Cd.cs c_api_Entry x0).toArray, .pointer (some ⟨b1_, 0, none⟩)]) Try.func75 rfl rfl rfl ?_
  refine at_enterF hw_ ?_
  refine at_weak [(0, _), (1, _)] ⟨rfl, rfl, trivial⟩ ?_
  refine at_seq ?_
  refine at_region ?_
  refine at_box (cs := Cd.cs c_api_Entry x0) rfl rfl rfl ?_
  intro b1
  refine at_nil ?_
  refine at_weak [(1, _), (2, _)] ⟨rfl, rfl, trivial⟩ ?_
  refine at_then_normal ?_
  refine at_region ?_
  refine at_svOpen (.s .z) ?_
  refine at_val rfl rfl rfl (r_load_cell Try.isAgg44 rfl (fun w1 hw => cells_get (hw.ok (Upd.mem .z)) 0 _ rfl)) ?_
  refine at_val rfl rfl rfl (r_load_aggc (c := c_api_Entry) (z := x0) Try.isAgg52 Try.sizeOf52 rfl (lens_cell (.s (.s .z)) (Lens.whole _ _))) ?_
  refine at_litL (c := c_api_Entry) ([({ f_P := ({ f_A := ({ f_V := (0 : Int), f_B := (Vector.replicate 16 (0 : Int) : (Vector Int 16)) } : S_api_Addr), f_Bits := (0 : Int) } : S_api_Prefix), f_Owner := (0 : Int) } : S_api_Entry)] : List S_api_Entry) ([x0] : List S_api_Entry) Try.underlying44 Try.sizeOf52 Try.zeroValue52 rfl rfl rfl (by kernel_rfl) (fill_step (c := c_api_Entry) (z := x0) rfl (Lens.all c_api_Entry ([({ f_P := ({ f_A := ({ f_V := (0 : Int), f_B := (Vector.replicate 16 (0 : Int) : (Vector Int 16)) } : S_api_Addr), f_Bits := (0 : Int) } : S_api_Prefix), f_Owner := (0 : Int) } : S_api_Entry)] : List S_api_Entry) 0 (by decide)) rfl rfl) rfl ?_
  intro b2
  obtain ⟨h3, hF⟩ := of_guard hF
  refine at_append (z := .agg (Cd.cs c_api_Entry ({ f_P := ({ f_A := ({ f_V := (0 : Int), f_B := (Vector.replicate 16 (0 : Int) : (Vector Int 16)) } : S_api_Addr), f_Bits := (0 : Int) } : S_api_Prefix), f_Owner := (0 : Int) } : S_api_Entry)).toArray) (c := c_api_Entry) (ys := ([x0] : List S_api_Entry)) (.s (.s .z)) Try.underlying44 infoU352 (by kernel_rfl) (by kernel_rfl) rfl rfl rfl rfl (fun _ hw => cells_src (hw.ok (Upd.mem .z))) (by kernel_rfl) h3 (app_small h3) rfl ?_
  intro p4 c5
  refine at_storeSv (.s .z) Try.sizeOf44 rfl rfl ⟨_, _, _, rfl⟩ ⟨_, _, _, rfl⟩ ?_
  refine at_nil ?_
  refine at_drop (H := _) .z ?_
  refine at_drop (H := _) (.s (.s .z)) ?_
  refine at_weak [] trivial ?_
  refine at_svClose ?_
  have K := of_some hF
  subst K
  exact at_return0 rfl (fun w1 hw => ⟨p4, c5, rfl, hw⟩)

def trie_node_each__trie_Trie_All_1.go : Nat → List HV → Option Nat → S_api_Addr → Int → List S_api_Entry → Option (List S_api_Entry)
  | 0 => fun _ _ _ _ _ => none
  | f_ + 1 => fun h_ x0 x1 x2 x3 => if (Option.isNone x0) = true then (some x3) else (hn_trie_node h_ x0 >>= fun t3 => if t3.2.f_is = true then (hn_trie_node h_ x0 >>= fun t7 => trie_Trie_All_1 ({ { ({ f_P := ({ f_A := ({ f_V := (0 : Int), f_B := (Vector.replicate 16 (0 : Int) : (Vector Int 16)) } : S_api_Addr), f_Bits := (0 : Int) } : S_api_Prefix), f_Owner := (0 : Int) } : S_api_Entry) with f_P := { { ({ f_A := ({ f_V := (0 : Int), f_B := (Vector.replicate 16 (0 : Int) : (Vector Int 16)) } : S_api_Addr), f_Bits := (0 : Int) } : S_api_Prefix) with f_A := x1 } with f_Bits := x2 } } with f_Owner := t7.2.f_owner }) x3 >>= fun t10 => hn_trie_node h_ x0 >>= fun t14 => (trie_node_each__trie_Trie_All_1.go f_) h_ (vget t14.2.f_next 0) x1 (wr .i64 (x2 + 1)) t10 >>= fun t17 => hn_trie_node h_ x0 >>= fun t21 => if (!(Option.isNone (vget t21.2.f_next 1))) = true then (if (0 : Int) ≤ ishr .i64 x2 3 ∧ ishr .i64 x2 3 < 16 then if (0 : Int) ≤ wr .u64 (iand .i64 x2 7) then if (0 : Int) ≤ ishr .i64 x2 3 ∧ ishr .i64 x2 3 < 16 then hn_trie_node h_ x0 >>= fun t28 => (trie_node_each__trie_Trie_All_1.go f_) h_ (vget t28.2.f_next 1) ({ x1 with f_B := vset x1.f_B (ishr .i64 x2 3) (ior .u8 (vget x1.f_B (ishr .i64 x2 3)) (ishr .u8 128 (wr .u64 (iand .i64 x2 7)))) }) (wr .i64 (x2 + 1)) t17 >>= fun t31 => some t31 else none else none else none) else (some t17)) else (hn_trie_node h_ x0 >>= fun t35 => (trie_node_each__trie_Trie_All_1.go f_) h_ (vget t35.2.f_next 0) x1 (wr .i64 (x2 + 1)) x3 >>= fun t38 => hn_trie_node h_ x0 >>= fun t42 => if (!(Option.isNone (vget t42.2.f_next 1))) = true then (if (0 : Int) ≤ ishr .i64 x2 3 ∧ ishr .i64 x2 3 < 16 then if (0 : Int) ≤ wr .u64 (iand .i64 x2 7) then if (0 : Int) ≤ ishr .i64 x2 3 ∧ ishr .i64 x2 3 < 16 then hn_trie_node h_ x0 >>= fun t49 => (trie_node_each__trie_Trie_All_1.go f_) h_ (vget t49.2.f_next 1) ({ x1 with f_B := vset x1.f_B (ishr .i64 x2 3) (ior .u8 (vget x1.f_B (ishr .i64 x2 3)) (ishr .u8 128 (wr .u64 (iand .i64 x2 7)))) }) (wr .i64 (x2 + 1)) t38 >>= fun t52 => some t52 else none else none else none) else (some t38)))
def trie_node_each__trie_Trie_All_1 (h_ : List HV) (x0 : Option Nat) (x1 : S_api_Addr) (x2 : Int) (x3 : List S_api_Entry) : Option (List S_api_Entry) := trie_node_each__trie_Trie_All_1.go 400 h_ x0 x1 x2 x3
set_option maxHeartbeats 3200000 in
theorem trie_node_each__trie_Trie_All_1.go_ok (f_ : Nat) : ∀ {h_ : List HV} {x0 : Option Nat} {x1 : S_api_Addr} {x2 : Int} {x3 : List S_api_Entry} {r : List S_api_Entry} (hF : trie_node_each__trie_Trie_All_1.go f_ h_ x0 x1 x2 x3 = some r) {w0 w : World} {G_ : List Ent} {g0_ : Nat → Nat} {n0_ : Nat} {gh : Nat → Nat} {b3_ : Nat} {p3_ : Option Addr} {c3_ : Nat} (hw_ : Wd w0 (heapE hK g0_ n0_ gh h_ :: svE c_api_Entry 52 44 b3_ p3_ c3_ x3 :: G_) w),
    Calls Try.prog 74 #[pv gh x0, .agg (Cd.cs c_api_Addr x1).toArray, .int .i64 x2, .func (.func 75) #[] #[.pointer (some ⟨b3_, 0, none⟩)]] w (fun e w' => ∃ (q0 : Option Addr) (d0 : Nat), e = .returned (.tuple #[]) ∧ Wd w0 (heapE hK g0_ n0_ gh h_ :: svE c_api_Entry 52 44 b3_ q0 d0 r :: G_) w') := by
  induction f_ with
  | zero => intro h_ x0 x1 x2 x3 r hF; exact absurd hF (by simp [trie_node_each__trie_Trie_All_1.go])
  | succ f_ ihf =>
  intro h_ x0 x1 x2 x3 r hF w0 w G_ g0_ n0_ gh b3_ p3_ c3_ hw_
  unfold trie_node_each__trie_Trie_All_1.go at hF
  refine calls_enter (l := [pv gh x0, .agg (Cd.cs c_api_Addr x1).toArray, .int .i64 x2, .func (.func 75) #[] #[.pointer (some ⟨b3_, 0, none⟩)]]) Try.func74 rfl rfl rfl ?_
  refine at_enterF hw_ ?_
  refine at_weak [(0, _), (1, _), (2, _), (3, _)] ⟨rfl, rfl, rfl, rfl, trivial⟩ ?_
  refine at_seq ?_
  refine at_region ?_
  refine at_box (cs := Cd.cs c_api_Addr x1) rfl rfl rfl ?_
  intro b1
  refine at_nil ?_
  refine at_weak [(0, _), (2, _), (3, _), (5, _)] ⟨rfl, rfl, rfl, rfl, trivial⟩ ?_
  refine at_then_normal ?_
  refine at_seq ?_
  refine at_seq ?_
  refine at_region ?_
  refine at_val rfl rfl rfl (r_move rfl) ?_
  refine at_val rfl rfl rfl (r_pnil (p := x0) Try.underlying100 rfl rfl (.inl rfl) rfl) ?_
  refine at_nil ?_
  refine at_weak [(0, _), (2, _), (3, _), (5, _), (9, _)] ⟨rfl, rfl, rfl, rfl, rfl, trivial⟩ ?_
  refine at_then_normal ?_
  rcases of_ite hF with ⟨h2, hF⟩ | ⟨h2, hF⟩
  · refine at_cond_true rfl h2 ?_
    refine at_ret ?_
    refine at_then_ret ?_
    refine at_drop (H := _) .z ?_
    have K := of_some hF
    subst K
    exact at_return0' rfl (fun w1 hw => ⟨p3_, c3_, rfl, hw⟩)
  · refine at_cond_false rfl h2 ?_
    refine at_skip ?_
    refine at_then_normal ?_
    refine at_seq ?_
    refine at_seq ?_
    refine at_region ?_
    refine at_val rfl rfl rfl (r_move rfl) ?_
    obtain ⟨t3, ht3, hF⟩ := of_bindM hF
    obtain ⟨ha4, hb5⟩ := hn_trie_node_at ht3
    refine at_val rfl rfl rfl (r_npc rfl ha4) ?_
    refine at_val rfl rfl rfl (r_fieldAddr (fo := 2) Try.underlying103 rfl rfl (fun w => ⟨_, Try.sizeOf4 w⟩) rfl) ?_
    refine at_val rfl rfl rfl (r_load_cell Try.isAgg4 rfl (hcell0 (c := cBool) (y := t3.2.f_is) (.s .z) hb5 (fun _ h => h) (Lens.comp (Lens.whole _ _) (fun z => { t3.2 with f_is := z }) (c_trie_node_f_is gh t3.2)) rfl)) ?_
    refine at_nil ?_
    refine at_weak [(0, _), (2, _), (3, _), (5, _), (13, _)] ⟨rfl, rfl, rfl, rfl, rfl, trivial⟩ ?_
    refine at_then_normal ?_
    rcases of_ite hF with ⟨h6, hF⟩ | ⟨h6, hF⟩
    · refine at_cond_true rfl h6 ?_
      refine at_weak [(0, _), (2, _), (3, _), (5, _)] ⟨rfl, rfl, rfl, rfl, trivial⟩ ?_
      obtain ⟨t7, ht7, hF⟩ := of_bindM hF
      obtain ⟨ha8, hb9⟩ := hn_trie_node_at ht7
      obtain ⟨t10, ht10, hF⟩ := of_bindM hF
      refine at_inv [.q 14 (fun g13 => .func (.func 75) #[] #[.pointer (some ⟨b3_, 0, none⟩)]) [] 0 0, .q 15 (fun g13 => .agg (Cd.cs c_api_Addr x1).toArray) [] 0 1, .q 16 (fun g13 => .int .i64 x2) [] 0 1, .q 17 (fun g13 => .agg (Cd.cs c_api_Prefix ({ { ({ f_A := ({ f_V := (0 : Int), f_B := (Vector.replicate 16 (0 : Int) : (Vector Int 16)) } : S_api_Addr), f_Bits := (0 : Int) } : S_api_Prefix) with f_A := x1 } with f_Bits := x2 })).toArray) [1, 2] 0 1, .q 18 (fun g13 => pv gh x0) [] 0 1, .q 19 (fun g13 => .pointer (some ⟨gh t7.1, 0, none⟩)) [4] 0 1, .q 20 (fun g13 => .pointer (some ⟨gh t7.1, 0 + 3, none⟩)) [5] 0 1, .q 21 (fun g13 => .int .i64 t7.2.f_owner) [6] 0 1, .q 22 (fun g13 => .agg (Cd.cs c_api_Entry ({ { ({ f_P := ({ f_A := ({ f_V := (0 : Int), f_B := (Vector.replicate 16 (0 : Int) : (Vector Int 16)) } : S_api_Addr), f_Bits := (0 : Int) } : S_api_Prefix), f_Owner := (0 : Int) } : S_api_Entry) with f_P := { { ({ f_A := ({ f_V := (0 : Int), f_B := (Vector.replicate 16 (0 : Int) : (Vector Int 16)) } : S_api_Addr), f_Bits := (0 : Int) } : S_api_Prefix) with f_A := x1 } with f_Bits := x2 } } with f_Owner := t7.2.f_owner })).toArray) [3, 7] 0 0, .al 0 23 (fun g13 => undef) [0, 8]] (fun g13 s => match s with | 0 => (Wd w0 (cellsE b1 (Cd.cs c_api_Addr x1) 32 :: heapE hK g0_ n0_ gh h_ :: svE c_api_Entry 52 44 b3_ p3_ c3_ x3 :: G_)) | _ => (Wd w0 (svE c_api_Entry 52 44 b3_ ((g13 0).2.1) ((g13 0).2.2.1) t10 :: cellsE b1 (Cd.cs c_api_Addr x1) 32 :: heapE hK g0_ n0_ gh h_ :: G_))) 1 (by kernel_rfl) (by kernel_rfl) (by kernel_rfl) (by kernel_rfl) (by kernel_rfl) ⟨fun _ _ _ => rfl, fun _ _ _ => rfl, fun _ _ _ => rfl, fun _ _ _ => rfl, fun _ _ _ => rfl, fun _ _ _ => rfl, fun _ _ _ => rfl, fun _ _ _ => rfl, fun _ _ _ => rfl, fun _ _ _ => rfl, trivial⟩ (by kernel_rfl) (fun _ h => ⟨fun _ => (0, none, 0, none), h.drew⟩) ⟨?_, ?_, ?_, ?_, ?_, ?_, ?_, ?_, ?_, ?_, trivial⟩ ?_
      · intro Lx g13 s K hl hh k
        show At 62 ((0, _) :: (2, _) :: (3, _) :: (5, _) :: Lx) _ _
        refine at_val rfl rfl rfl (r_move rfl) ?_
        exact at_nil k
      · intro Lx g13 s K hl hh k
        show At 62 ((0, _) :: (2, _) :: (3, _) :: (5, _) :: Lx) _ _
        rcases (by omega : s = 0 ∨ s = 1) with rfl | rfl
        · skip
          refine at_val rfl rfl rfl (r_load_aggc (c := c_api_Addr) (z := x1) Try.isAgg32 Try.sizeOf32 rfl (lens_cell .z (Lens.whole _ _))) ?_
          exact at_nil k
        · skip
          refine at_val rfl rfl rfl (r_load_aggc (c := c_api_Addr) (z := x1) Try.isAgg32 Try.sizeOf32 rfl (lens_cell (.s .z) (Lens.whole _ _))) ?_
          exact at_nil k
      · intro Lx g13 s K hl hh k
        show At 62 ((0, _) :: (2, _) :: (3, _) :: (5, _) :: Lx) _ _
        refine at_val rfl rfl rfl (r_move rfl) ?_
        exact at_nil k
      · intro Lx g13 s K hl hh k
        show At 62 ((15, _) :: (16, _) :: (0, _) :: (2, _) :: (3, _) :: (5, _) :: Lx) _ _
        rcases (by omega : s = 0 ∨ s = 1) with rfl | rfl
        · skip
          refine at_val rfl rfl rfl (r_build_struct (zs := Cd.cs c_api_Prefix ({ f_A := ({ f_V := (0 : Int), f_B := (Vector.replicate 16 (0 : Int) : (Vector Int 16)) } : S_api_Addr), f_Bits := (0 : Int) } : S_api_Prefix)) (cs := Cd.cs c_api_Prefix ({ { ({ f_A := ({ f_V := (0 : Int), f_B := (Vector.replicate 16 (0 : Int) : (Vector Int 16)) } : S_api_Addr), f_Bits := (0 : Int) } : S_api_Prefix) with f_A := x1 } with f_Bits := x2 })) Try.underlying46 Try.zeroValue46 rfl (places_api_Prefix_46) rfl (fill_step (c := c_api_Addr) (z := x1) rfl (c_api_Prefix_f_A ({ f_A := ({ f_V := (0 : Int), f_B := (Vector.replicate 16 (0 : Int) : (Vector Int 16)) } : S_api_Addr), f_Bits := (0 : Int) } : S_api_Prefix)) rfl (fill_step (c := (cInt .i64)) (z := x2) rfl (c_api_Prefix_f_Bits ({ ({ f_A := ({ f_V := (0 : Int), f_B := (Vector.replicate 16 (0 : Int) : (Vector Int 16)) } : S_api_Addr), f_Bits := (0 : Int) } : S_api_Prefix) with f_A := x1 })) rfl rfl))) ?_
          exact at_nil k
        · skip
          refine at_val rfl rfl rfl (r_build_struct (zs := Cd.cs c_api_Prefix ({ f_A := ({ f_V := (0 : Int), f_B := (Vector.replicate 16 (0 : Int) : (Vector Int 16)) } : S_api_Addr), f_Bits := (0 : Int) } : S_api_Prefix)) (cs := Cd.cs c_api_Prefix ({ { ({ f_A := ({ f_V := (0 : Int), f_B := (Vector.replicate 16 (0 : Int) : (Vector Int 16)) } : S_api_Addr), f_Bits := (0 : Int) } : S_api_Prefix) with f_A := x1 } with f_Bits := x2 })) Try.underlying46 Try.zeroValue46 rfl (places_api_Prefix_46) rfl (fill_step (c := c_api_Addr) (z := x1) rfl (c_api_Prefix_f_A ({ f_A := ({ f_V := (0 : Int), f_B := (Vector.replicate 16 (0 : Int) : (Vector Int 16)) } : S_api_Addr), f_Bits := (0 : Int) } : S_api_Prefix)) rfl (fill_step (c := (cInt .i64)) (z := x2) rfl (c_api_Prefix_f_Bits ({ ({ f_A := ({ f_V := (0 : Int), f_B := (Vector.replicate 16 (0 : Int) : (Vector Int 16)) } : S_api_Addr), f_Bits := (0 : Int) } : S_api_Prefix) with f_A := x1 })) rfl rfl))) ?_
          exact at_nil k
      · intro Lx g13 s K hl hh k
        show At 62 ((0, _) :: (2, _) :: (3, _) :: (5, _) :: Lx) _ _
        refine at_val rfl rfl rfl (r_move rfl) ?_
        exact at_nil k
      · intro Lx g13 s K hl hh k
        show At 62 ((18, _) :: (0, _) :: (2, _) :: (3, _) :: (5, _) :: Lx) _ _
        refine at_val rfl rfl rfl (r_npc rfl ha8) ?_
        exact at_nil k
      · intro Lx g13 s K hl hh k
        show At 62 ((19, _) :: (0, _) :: (2, _) :: (3, _) :: (5, _) :: Lx) _ _
        refine at_val rfl rfl rfl (r_fieldAddr (fo := 3) Try.underlying103 rfl rfl (fun w => ⟨_, Try.sizeOf3 w⟩) rfl) ?_
        exact at_nil k
      · intro Lx g13 s K hl hh k
        show At 62 ((20, _) :: (0, _) :: (2, _) :: (3, _) :: (5, _) :: Lx) _ _
        rcases (by omega : s = 0 ∨ s = 1) with rfl | rfl
        · skip
          refine at_val rfl rfl rfl (r_load_cell Try.isAgg3 rfl (hcell0 (c := (cInt .i64)) (y := t7.2.f_owner) (.s .z) hb9 (fun _ h => h) (Lens.comp (Lens.whole _ _) (fun z => { t7.2 with f_owner := z }) (c_trie_node_f_owner gh t7.2)) rfl)) ?_
          exact at_nil k
        · skip
          refine at_val rfl rfl rfl (r_load_cell Try.isAgg3 rfl (hcell0 (c := (cInt .i64)) (y := t7.2.f_owner) (.s (.s .z)) hb9 (fun _ h => h) (Lens.comp (Lens.whole _ _) (fun z => { t7.2 with f_owner := z }) (c_trie_node_f_owner gh t7.2)) rfl)) ?_
          exact at_nil k
      · intro Lx g13 s K hl hh k
        show At 62 ((17, _) :: (21, _) :: (0, _) :: (2, _) :: (3, _) :: (5, _) :: Lx) _ _
        obtain rfl : s = 0 := by omega
        refine at_val rfl rfl rfl (r_build_struct (zs := Cd.cs c_api_Entry ({ f_P := ({ f_A := ({ f_V := (0 : Int), f_B := (Vector.replicate 16 (0 : Int) : (Vector Int 16)) } : S_api_Addr), f_Bits := (0 : Int) } : S_api_Prefix), f_Owner := (0 : Int) } : S_api_Entry)) (cs := Cd.cs c_api_Entry ({ { ({ f_P := ({ f_A := ({ f_V := (0 : Int), f_B := (Vector.replicate 16 (0 : Int) : (Vector Int 16)) } : S_api_Addr), f_Bits := (0 : Int) } : S_api_Prefix), f_Owner := (0 : Int) } : S_api_Entry) with f_P := { { ({ f_A := ({ f_V := (0 : Int), f_B := (Vector.replicate 16 (0 : Int) : (Vector Int 16)) } : S_api_Addr), f_Bits := (0 : Int) } : S_api_Prefix) with f_A := x1 } with f_Bits := x2 } } with f_Owner := t7.2.f_owner })) Try.underlying52 Try.zeroValue52 rfl (places_api_Entry_52) rfl (fill_step (c := c_api_Prefix) (z := { { ({ f_A := ({ f_V := (0 : Int), f_B := (Vector.replicate 16 (0 : Int) : (Vector Int 16)) } : S_api_Addr), f_Bits := (0 : Int) } : S_api_Prefix) with f_A := x1 } with f_Bits := x2 }) rfl (c_api_Entry_f_P ({ f_P := ({ f_A := ({ f_V := (0 : Int), f_B := (Vector.replicate 16 (0 : Int) : (Vector Int 16)) } : S_api_Addr), f_Bits := (0 : Int) } : S_api_Prefix), f_Owner := (0 : Int) } : S_api_Entry)) rfl (fill_step (c := (cInt .i64)) (z := t7.2.f_owner) rfl (c_api_Entry_f_Owner ({ ({ f_P := ({ f_A := ({ f_V := (0 : Int), f_B := (Vector.replicate 16 (0 : Int) : (Vector Int 16)) } : S_api_Addr), f_Bits := (0 : Int) } : S_api_Prefix), f_Owner := (0 : Int) } : S_api_Entry) with f_P := { { ({ f_A := ({ f_V := (0 : Int), f_B := (Vector.replicate 16 (0 : Int) : (Vector Int 16)) } : S_api_Addr), f_Bits := (0 : Int) } : S_api_Prefix) with f_A := x1 } with f_Bits := x2 } })) rfl rfl))) ?_
        exact at_nil k
      · intro Lx g13 K k
        show At 62 ((14, _) :: (22, _) :: (0, _) :: (2, _) :: (3, _) :: (5, _) :: Lx) _ _
        refine at_calleeC (caps := [.pointer (some ⟨b3_, 0, none⟩)]) rfl ?_
        refine at_front (.s .z) ?_
        refine at_front (.s .z) ?_
        refine at_front (.s (.s .z)) ?_
        refine at_callG (V := fun p cap => .tuple #[]) (T := fun p cap => (svE c_api_Entry 52 44 b3_ p cap t10 :: cellsE b1 (Cd.cs c_api_Addr x1) 32 :: heapE hK g0_ n0_ gh h_ :: G_)) Try.func75 rfl (by kernel_rfl) rfl rfl (fun w hw => trie_Trie_All_1_ok ht10 hw) ?_
        intro p11 c12
        exact at_nil (k (0, p11, c12, none))
      intro g13
      show At 62 [(14, _), (15, _), (16, _), (17, _), (18, _), (19, _), (20, _), (21, _), (22, _), (23, _), (0, _), (2, _), (3, _), (5, _)] _ _
      refine at_weak [(0, _), (2, _), (3, _), (5, _)] ⟨rfl, rfl, rfl, rfl, trivial⟩ ?_
      refine at_then_normal ?_
      refine at_seq ?_
      refine at_weak [(0, _), (2, _), (3, _), (5, _)] ⟨rfl, rfl, rfl, rfl, trivial⟩ ?_
      obtain ⟨t14, ht14, hF⟩ := of_bindM hF
      obtain ⟨ha15, hb16⟩ := hn_trie_node_at ht14
      obtain ⟨t17, ht17, hF⟩ := of_bindM hF
      refine at_inv [.q 24 (fun g20 => pv gh x0) [] 0 1, .q 25 (fun g20 => .pointer (some ⟨gh t14.1, 0, none⟩)) [0] 0 1, .q 26 (fun g20 => .pointer (some ⟨gh t14.1, 0 + 0, none⟩)) [1] 0 1, .q 27 (fun g20 => .pointer (some ⟨gh t14.1, 0 + 0 + Int.toNat 0 * 1, none⟩)) [2] 0 1, .q 28 (fun g20 => pv gh (vget t14.2.f_next 0)) [3] 0 0, .q 29 (fun g20 => .agg (Cd.cs c_api_Addr x1).toArray) [] 0 0, .q 30 (fun g20 => .int .i64 x2) [] 0 1, .q 31 (fun g20 => .int .i64 (wr .i64 (x2 + 1))) [6] 0 0, .q 32 (fun g20 => .func (.func 75) #[] #[.pointer (some ⟨b3_, 0, none⟩)]) [] 0 0, .al 0 33 (fun g20 => undef) [4, 5, 7, 8]] (fun g20 s => match s with | 0 => (Wd w0 (svE c_api_Entry 52 44 b3_ (g13 0).2.1 (g13 0).2.2.1 t10 :: cellsE b1 (Cd.cs c_api_Addr x1) 32 :: heapE hK g0_ n0_ gh h_ :: G_)) | _ => (Wd w0 (heapE hK g0_ n0_ gh h_ :: svE c_api_Entry 52 44 b3_ ((g20 0).2.1) ((g20 0).2.2.1) t17 :: cellsE b1 (Cd.cs c_api_Addr x1) 32 :: G_))) 1 (by kernel_rfl) (by kernel_rfl) (by kernel_rfl) (by kernel_rfl) (by kernel_rfl) ⟨fun _ _ _ => rfl, fun _ _ _ => rfl, fun _ _ _ => rfl, fun _ _ _ => rfl, fun _ _ _ => rfl, fun _ _ _ => rfl, fun _ _ _ => rfl, fun _ _ _ => rfl, fun _ _ _ => rfl, fun _ _ _ => rfl, trivial⟩ (by kernel_rfl) (fun _ h => ⟨fun _ => (0, none, 0, none), h.drew⟩) ⟨?_, ?_, ?_, ?_, ?_, ?_, ?_, ?_, ?_, ?_, trivial⟩ ?_
      · intro Lx g20 s K hl hh k
        show At 62 ((0, _) :: (2, _) :: (3, _) :: (5, _) :: Lx) _ _
        refine at_val rfl rfl rfl (r_move rfl) ?_
        exact at_nil k
      · intro Lx g20 s K hl hh k
        show At 62 ((24, _) :: (0, _) :: (2, _) :: (3, _) :: (5, _) :: Lx) _ _
        refine at_val rfl rfl rfl (r_npc rfl ha15) ?_
        exact at_nil k
      · intro Lx g20 s K hl hh k
        show At 62 ((25, _) :: (0, _) :: (2, _) :: (3, _) :: (5, _) :: Lx) _ _
        refine at_val rfl rfl rfl (r_fieldAddr (fo := 0) Try.underlying103 rfl rfl (fun w => ⟨_, Try.sizeOf101 w⟩) rfl) ?_
        exact at_nil k
      · intro Lx g20 s K hl hh k
        show At 62 ((26, _) :: (0, _) :: (2, _) :: (3, _) :: (5, _) :: Lx) _ _
        refine at_val rfl rfl rfl (r_idxArr Try.underlying101 Try.sizeOf100 rfl rfl (by decide)) ?_
        exact at_nil k
      · intro Lx g20 s K hl hh k
        show At 62 ((27, _) :: (0, _) :: (2, _) :: (3, _) :: (5, _) :: Lx) _ _
        obtain rfl : s = 0 := by omega
        refine at_val rfl rfl rfl (r_load_cell Try.isAgg100 rfl (hcell0 (c := (cPtr gh)) (y := vget t14.2.f_next 0) (.s (.s .z)) hb16 (fun _ h => h) (Lens.comp (Lens.comp (Lens.whole _ _) (fun z => { t14.2 with f_next := z }) (c_trie_node_f_next gh t14.2)) (fun z => vset t14.2.f_next 0 z) (Lens.vec (cPtr gh) (by decide) t14.2.f_next 0 (by decide))) rfl)) ?_
        exact at_nil k
      · intro Lx g20 s K hl hh k
        show At 62 ((0, _) :: (2, _) :: (3, _) :: (5, _) :: Lx) _ _
        obtain rfl : s = 0 := by omega
        refine at_val rfl rfl rfl (r_load_aggc (c := c_api_Addr) (z := x1) Try.isAgg32 Try.sizeOf32 rfl (lens_cell (.s .z) (Lens.whole _ _))) ?_
        exact at_nil k
      · intro Lx g20 s K hl hh k
        show At 62 ((0, _) :: (2, _) :: (3, _) :: (5, _) :: Lx) _ _
        refine at_val rfl rfl rfl (r_move rfl) ?_
        exact at_nil k
      · intro Lx g20 s K hl hh k
        show At 62 ((30, _) :: (0, _) :: (2, _) :: (3, _) :: (5, _) :: Lx) _ _
        refine at_val rfl rfl rfl (r_iadd rfl rfl) ?_
        exact at_nil k
      · intro Lx g20 s K hl hh k
        show At 62 ((0, _) :: (2, _) :: (3, _) :: (5, _) :: Lx) _ _
        refine at_val rfl rfl rfl (r_move rfl) ?_
        exact at_nil k
      · intro Lx g20 K k
        show At 62 ((28, _) :: (29, _) :: (31, _) :: (32, _) :: (0, _) :: (2, _) :: (3, _) :: (5, _) :: Lx) _ _
        refine at_front (.s .z) ?_
        refine at_front (.s .z) ?_
        refine at_front (.s (.s .z)) ?_
        refine at_callG (V := fun p cap => .tuple #[]) (T := fun p cap => (heapE hK g0_ n0_ gh h_ :: svE c_api_Entry 52 44 b3_ p cap t17 :: cellsE b1 (Cd.cs c_api_Addr x1) 32 :: G_)) Try.func74 rfl (by kernel_rfl) rfl rfl (fun w hw => ihf ht17 hw) ?_
        intro p18 c19
        exact at_nil (k (0, p18, c19, none))
      intro g20
      show At 62 [(24, _), (25, _), (26, _), (27, _), (28, _), (29, _), (30, _), (31, _), (32, _), (33, _), (0, _), (2, _), (3, _), (5, _)] _ _
      refine at_weak [(0, _), (2, _), (3, _), (5, _)] ⟨rfl, rfl, rfl, rfl, trivial⟩ ?_
      refine at_then_normal ?_
      refine at_seq ?_
      refine at_region ?_
      refine at_val rfl rfl rfl (r_move rfl) ?_
      obtain ⟨t21, ht21, hF⟩ := of_bindM hF
      obtain ⟨ha22, hb23⟩ := hn_trie_node_at ht21
      refine at_val rfl rfl rfl (r_npc rfl ha22) ?_
      refine at_val rfl rfl rfl (r_fieldAddr (fo := 0) Try.underlying103 rfl rfl (fun w => ⟨_, Try.sizeOf101 w⟩) rfl) ?_
      refine at_val rfl rfl rfl (r_idxArr Try.underlying101 Try.sizeOf100 rfl rfl (by decide)) ?_
      refine at_val rfl rfl rfl (r_load_cell Try.isAgg100 rfl (hcell0 (c := (cPtr gh)) (y := vget t21.2.f_next 1) .z hb23 (fun _ h => h) (Lens.comp (Lens.comp (Lens.whole _ _) (fun z => { t21.2 with f_next := z }) (c_trie_node_f_next gh t21.2)) (fun z => vset t21.2.f_next 1 z) (Lens.vec (cPtr gh) (by decide) t21.2.f_next 1 (by decide))) rfl)) ?_
      refine at_val rfl rfl rfl (r_pnil (p := vget t21.2.f_next 1) Try.underlying100 rfl rfl (.inr rfl) rfl) ?_
      refine at_nil ?_
      refine at_weak [(0, _), (2, _), (3, _), (5, _), (39, _)] ⟨rfl, rfl, rfl, rfl, rfl, trivial⟩ ?_
      refine at_then_normal ?_
      rcases of_ite hF with ⟨h24, hF⟩ | ⟨h24, hF⟩
      · refine at_cond_true rfl h24 ?_
        refine at_seq ?_
        refine at_region ?_
        refine at_val rfl rfl rfl (r_move rfl) ?_
        refine at_val rfl rfl rfl (r_ishr rfl rfl (by decide)) ?_
        refine at_val rfl rfl rfl (r_fieldAddr (fo := 1) Try.underlying32 rfl rfl (fun w => ⟨_, Try.sizeOf30 w⟩) rfl) ?_
        obtain ⟨h25, hF⟩ := of_guard hF
        refine at_val rfl rfl rfl (r_idxArr Try.underlying30 Try.sizeOf5 rfl rfl h25) ?_
        refine at_val rfl rfl rfl (r_load_cell Try.isAgg5 rfl (lens_cell0 (c := (cInt .u8)) (y := vget x1.f_B (ishr .i64 x2 3)) (.s (.s .z)) (Lens.comp (Lens.comp (Lens.whole _ _) (fun z => { x1 with f_B := z }) (c_api_Addr_f_B x1)) (fun z => vset x1.f_B (ishr .i64 x2 3) z) (Lens.vec (cInt .u8) (by decide) x1.f_B (ishr .i64 x2 3) h25)) rfl)) ?_
        refine at_val rfl rfl rfl (r_move rfl) ?_
        refine at_val rfl rfl rfl (r_iand rfl rfl) ?_
        refine at_val rfl rfl rfl (r_conv Try.underlying3 Try.underlying131 rfl) ?_
        obtain ⟨h26, hF⟩ := of_guard hF
        refine at_val rfl rfl rfl (r_ishr rfl rfl h26) ?_
        refine at_val rfl rfl rfl (r_ior rfl rfl) ?_
        refine at_val rfl rfl rfl (r_fieldAddr (fo := 1) Try.underlying32 rfl rfl (fun w => ⟨_, Try.sizeOf30 w⟩) rfl) ?_
        obtain ⟨h27, hF⟩ := of_guard hF
        refine at_val rfl rfl rfl (r_idxArr Try.underlying30 Try.sizeOf5 rfl rfl h27) ?_
        refine at_store (c := (cInt .u8)) (z := ior .u8 (vget x1.f_B (ishr .i64 x2 3)) (ishr .u8 128 (wr .u64 (iand .i64 x2 7)))) (.s (.s .z)) (Lens.comp (Lens.comp (Lens.whole _ _) (fun z => { x1 with f_B := z }) (c_api_Addr_f_B x1)) (fun z => vset x1.f_B (ishr .i64 x2 3) z) (Lens.vec (cInt .u8) (by decide) x1.f_B (ishr .i64 x2 3) h27)) Try.sizeOf5 rfl rfl rfl ?_
        refine at_nil ?_
        refine at_weak [(0, _), (2, _), (3, _), (5, _)] ⟨rfl, rfl, rfl, rfl, trivial⟩ ?_
        refine at_then_normal ?_
        refine at_weak [(0, _), (2, _), (3, _), (5, _)] ⟨rfl, rfl, rfl, rfl, trivial⟩ ?_
        obtain ⟨t28, ht28, hF⟩ := of_bindM hF
        obtain ⟨ha29, hb30⟩ := hn_trie_node_at ht28
        obtain ⟨t31, ht31, hF⟩ := of_bindM hF
        refine at_inv [.q 52 (fun g34 => pv gh x0) [] 0 1, .q 53 (fun g34 => .pointer (some ⟨gh t28.1, 0, none⟩)) [0] 0 1, .q 54 (fun g34 => .pointer (some ⟨gh t28.1, 0 + 0, none⟩)) [1] 0 1, .q 55 (fun g34 => .pointer (some ⟨gh t28.1, 0 + 0 + Int.toNat 1 * 1, none⟩)) [2] 0 1, .q 56 (fun g34 => pv gh (vget t28.2.f_next 1)) [3] 0 0, .q 57 (fun g34 => .agg (Cd.cs c_api_Addr ({ x1 with f_B := vset x1.f_B (ishr .i64 x2 3) (ior .u8 (vget x1.f_B (ishr .i64 x2 3)) (ishr .u8 128 (wr .u64 (iand .i64 x2 7)))) })).toArray) [] 0 0, .q 58 (fun g34 => .int .i64 x2) [] 0 1, .q 59 (fun g34 => .int .i64 (wr .i64 (x2 + 1))) [6] 0 0, .q 60 (fun g34 => .func (.func 75) #[] #[.pointer (some ⟨b3_, 0, none⟩)]) [] 0 0, .al 0 61 (fun g34 => undef) [4, 5, 7, 8]] (fun g34 s => match s with | 0 => (Wd w0 (heapE hK g0_ n0_ gh h_ :: svE c_api_Entry 52 44 b3_ (g20 0).2.1 (g20 0).2.2.1 t17 :: cellsE b1 (Cd.cs c_api_Addr ({ x1 with f_B := vset x1.f_B (ishr .i64 x2 3) (ior .u8 (vget x1.f_B (ishr .i64 x2 3)) (ishr .u8 128 (wr .u64 (iand .i64 x2 7)))) })) 32 :: G_)) | _ => (Wd w0 (heapE hK g0_ n0_ gh h_ :: svE c_api_Entry 52 44 b3_ ((g34 0).2.1) ((g34 0).2.2.1) t31 :: cellsE b1 (Cd.cs c_api_Addr ({ x1 with f_B := vset x1.f_B (ishr .i64 x2 3) (ior .u8 (vget x1.f_B (ishr .i64 x2 3)) (ishr .u8 128 (wr .u64 (iand .i64 x2 7)))) })) 32 :: G_))) 1 (by kernel_rfl) (by kernel_rfl) (by kernel_rfl) (by kernel_rfl) (by kernel_rfl) ⟨fun _ _ _ => rfl, fun _ _ _ => rfl, fun _ _ _ => rfl, fun _ _ _ => rfl, fun _ _ _ => rfl, fun _ _ _ => rfl, fun _ _ _ => rfl, fun _ _ _ => rfl, fun _ _ _ => rfl, fun _ _ _ => rfl, trivial⟩ (by kernel_rfl) (fun _ h => ⟨fun _ => (0, none, 0, none), h.drew⟩) ⟨?_, ?_, ?_, ?_, ?_, ?_, ?_, ?_, ?_, ?_, trivial⟩ ?_
        · intro Lx g34 s K hl hh k
          show At 62 ((0, _) :: (2, _) :: (3, _) :: (5, _) :: Lx) _ _
          refine at_val rfl rfl rfl (r_move rfl) ?_
          exact at_nil k
        · intro Lx g34 s K hl hh k
          show At 62 ((52, _) :: (0, _) :: (2, _) :: (3, _) :: (5, _) :: Lx) _ _
          refine at_val rfl rfl rfl (r_npc rfl ha29) ?_
          exact at_nil k
        · intro Lx g34 s K hl hh k
          show At 62 ((53, _) :: (0, _) :: (2, _) :: (3, _) :: (5, _) :: Lx) _ _
          refine at_val rfl rfl rfl (r_fieldAddr (fo := 0) Try.underlying103 rfl rfl (fun w => ⟨_, Try.sizeOf101 w⟩) rfl) ?_
          exact at_nil k
        · intro Lx g34 s K hl hh k
          show At 62 ((54, _) :: (0, _) :: (2, _) :: (3, _) :: (5, _) :: Lx) _ _
          refine at_val rfl rfl rfl (r_idxArr Try.underlying101 Try.sizeOf100 rfl rfl (by decide)) ?_
          exact at_nil k
        · intro Lx g34 s K hl hh k
          show At 62 ((55, _) :: (0, _) :: (2, _) :: (3, _) :: (5, _) :: Lx) _ _
          obtain rfl : s = 0 := by omega
          refine at_val rfl rfl rfl (r_load_cell Try.isAgg100 rfl (hcell0 (c := (cPtr gh)) (y := vget t28.2.f_next 1) .z hb30 (fun _ h => h) (Lens.comp (Lens.comp (Lens.whole _ _) (fun z => { t28.2 with f_next := z }) (c_trie_node_f_next gh t28.2)) (fun z => vset t28.2.f_next 1 z) (Lens.vec (cPtr gh) (by decide) t28.2.f_next 1 (by decide))) rfl)) ?_
          exact at_nil k
        · intro Lx g34 s K hl hh k
          show At 62 ((0, _) :: (2, _) :: (3, _) :: (5, _) :: Lx) _ _
          obtain rfl : s = 0 := by omega
          refine at_val rfl rfl rfl (r_load_aggc (c := c_api_Addr) (z := { x1 with f_B := vset x1.f_B (ishr .i64 x2 3) (ior .u8 (vget x1.f_B (ishr .i64 x2 3)) (ishr .u8 128 (wr .u64 (iand .i64 x2 7)))) }) Try.isAgg32 Try.sizeOf32 rfl (lens_cell (.s (.s .z)) (Lens.whole _ _))) ?_
          exact at_nil k
        · intro Lx g34 s K hl hh k
          show At 62 ((0, _) :: (2, _) :: (3, _) :: (5, _) :: Lx) _ _
          refine at_val rfl rfl rfl (r_move rfl) ?_
          exact at_nil k
        · intro Lx g34 s K hl hh k
          show At 62 ((58, _) :: (0, _) :: (2, _) :: (3, _) :: (5, _) :: Lx) _ _
          refine at_val rfl rfl rfl (r_iadd rfl rfl) ?_
          exact at_nil k
        · intro Lx g34 s K hl hh k
          show At 62 ((0, _) :: (2, _) :: (3, _) :: (5, _) :: Lx) _ _
          refine at_val rfl rfl rfl (r_move rfl) ?_
          exact at_nil k
        · intro Lx g34 K k
          show At 62 ((56, _) :: (57, _) :: (59, _) :: (60, _) :: (0, _) :: (2, _) :: (3, _) :: (5, _) :: Lx) _ _
          refine at_callG (V := fun p cap => .tuple #[]) (T := fun p cap => (heapE hK g0_ n0_ gh h_ :: svE c_api_Entry 52 44 b3_ p cap t31 :: cellsE b1 (Cd.cs c_api_Addr ({ x1 with f_B := vset x1.f_B (ishr .i64 x2 3) (ior .u8 (vget x1.f_B (ishr .i64 x2 3)) (ishr .u8 128 (wr .u64 (iand .i64 x2 7)))) })) 32 :: G_)) Try.func74 rfl (by kernel_rfl) rfl rfl (fun w hw => ihf ht31 hw) ?_
          intro p32 c33
          exact at_nil (k (0, p32, c33, none))
        intro g34
        show At 62 [(52, _), (53, _), (54, _), (55, _), (56, _), (57, _), (58, _), (59, _), (60, _), (61, _), (0, _), (2, _), (3, _), (5, _)] _ _
        refine at_drop (H := _) (.s (.s .z)) ?_
        refine at_weak [] trivial ?_
        have K := of_some hF
        subst K
        exact at_return0 rfl (fun w1 hw => ⟨(g34 0).2.1, (g34 0).2.2.1, rfl, hw⟩)
      · refine at_cond_false rfl h24 ?_
        refine at_skip ?_
        refine at_drop (H := _) (.s (.s .z)) ?_
        have K := of_some hF
        subst K
        exact at_return0 rfl (fun w1 hw => ⟨(g20 0).2.1, (g20 0).2.2.1, rfl, hw⟩)
    · refine at_cond_false rfl h6 ?_
      refine at_skip ?_
      refine at_then_normal ?_
      refine at_seq ?_
      refine at_weak [(0, _), (2, _), (3, _), (5, _)] ⟨rfl, rfl, rfl, rfl, trivial⟩ ?_
      obtain ⟨t35, ht35, hF⟩ := of_bindM hF
      obtain ⟨ha36, hb37⟩ := hn_trie_node_at ht35
      obtain ⟨t38, ht38, hF⟩ := of_bindM hF
      refine at_inv [.q 24 (fun g41 => pv gh x0) [] 0 1, .q 25 (fun g41 => .pointer (some ⟨gh t35.1, 0, none⟩)) [0] 0 1, .q 26 (fun g41 => .pointer (some ⟨gh t35.1, 0 + 0, none⟩)) [1] 0 1, .q 27 (fun g41 => .pointer (some ⟨gh t35.1, 0 + 0 + Int.toNat 0 * 1, none⟩)) [2] 0 1, .q 28 (fun g41 => pv gh (vget t35.2.f_next 0)) [3] 0 0, .q 29 (fun g41 => .agg (Cd.cs c_api_Addr x1).toArray) [] 0 0, .q 30 (fun g41 => .int .i64 x2) [] 0 1, .q 31 (fun g41 => .int .i64 (wr .i64 (x2 + 1))) [6] 0 0, .q 32 (fun g41 => .func (.func 75) #[] #[.pointer (some ⟨b3_, 0, none⟩)]) [] 0 0, .al 0 33 (fun g41 => undef) [4, 5, 7, 8]] (fun g41 s => match s with | 0 => (Wd w0 (cellsE b1 (Cd.cs c_api_Addr x1) 32 :: heapE hK g0_ n0_ gh h_ :: svE c_api_Entry 52 44 b3_ p3_ c3_ x3 :: G_)) | _ => (Wd w0 (heapE hK g0_ n0_ gh h_ :: svE c_api_Entry 52 44 b3_ ((g41 0).2.1) ((g41 0).2.2.1) t38 :: cellsE b1 (Cd.cs c_api_Addr x1) 32 :: G_))) 1 (by kernel_rfl) (by kernel_rfl) (by kernel_rfl) (by kernel_rfl) (by kernel_rfl) ⟨fun _ _ _ => rfl, fun _ _ _ => rfl, fun _ _ _ => rfl, fun _ _ _ => rfl, fun _ _ _ => rfl, fun _ _ _ => rfl, fun _ _ _ => rfl, fun _ _ _ => rfl, fun _ _ _ => rfl, fun _ _ _ => rfl, trivial⟩ (by kernel_rfl) (fun _ h => ⟨fun _ => (0, none, 0, none), h.drew⟩) ⟨?_, ?_, ?_, ?_, ?_, ?_, ?_, ?_, ?_, ?_, trivial⟩ ?_
      · intro Lx g41 s K hl hh k
        show At 62 ((0, _) :: (2, _) :: (3, _) :: (5, _) :: Lx) _ _
        refine at_val rfl rfl rfl (r_move rfl) ?_
        exact at_nil k
      · intro Lx g41 s K hl hh k
        show At 62 ((24, _) :: (0, _) :: (2, _) :: (3, _) :: (5, _) :: Lx) _ _
        refine at_val rfl rfl rfl (r_npc rfl ha36) ?_
        exact at_nil k
      · intro Lx g41 s K hl hh k
        show At 62 ((25, _) :: (0, _) :: (2, _) :: (3, _) :: (5, _) :: Lx) _ _
        refine at_val rfl rfl rfl (r_fieldAddr (fo := 0) Try.underlying103 rfl rfl (fun w => ⟨_, Try.sizeOf101 w⟩) rfl) ?_
        exact at_nil k
      · intro Lx g41 s K hl hh k
        show At 62 ((26, _) :: (0, _) :: (2, _) :: (3, _) :: (5, _) :: Lx) _ _
        refine at_val rfl rfl rfl (r_idxArr Try.underlying101 Try.sizeOf100 rfl rfl (by decide)) ?_
        exact at_nil k
      · intro Lx g41 s K hl hh k
        show At 62 ((27, _) :: (0, _) :: (2, _) :: (3, _) :: (5, _) :: Lx) _ _
        obtain rfl : s = 0 := by omega
        refine at_val rfl rfl rfl (r_load_cell Try.isAgg100 rfl (hcell0 (c := (cPtr gh)) (y := vget t35.2.f_next 0) (.s .z) hb37 (fun _ h => h) (Lens.comp (Lens.comp (Lens.whole _ _) (fun z => { t35.2 with f_next := z }) (c_trie_node_f_next gh t35.2)) (fun z => vset t35.2.f_next 0 z) (Lens.vec (cPtr gh) (by decide) t35.2.f_next 0 (by decide))) rfl)) ?_
        exact at_nil k
      · intro Lx g41 s K hl hh k
        show At 62 ((0, _) :: (2, _) :: (3, _) :: (5, _) :: Lx) _ _
        obtain rfl : s = 0 := by omega
        refine at_val rfl rfl rfl (r_load_aggc (c := c_api_Addr) (z := x1) Try.isAgg32 Try.sizeOf32 rfl (lens_cell .z (Lens.whole _ _))) ?_
        exact at_nil k
      · intro Lx g41 s K hl hh k
        show At 62 ((0, _) :: (2, _) :: (3, _) :: (5, _) :: Lx) _ _
        refine at_val rfl rfl rfl (r_move rfl) ?_
        exact at_nil k
      · intro Lx g41 s K hl hh k
        show At 62 ((30, _) :: (0, _) :: (2, _) :: (3, _) :: (5, _) :: Lx) _ _
        refine at_val rfl rfl rfl (r_iadd rfl rfl) ?_
        exact at_nil k
      · intro Lx g41 s K hl hh k
        show At 62 ((0, _) :: (2, _) :: (3, _) :: (5, _) :: Lx) _ _
        refine at_val rfl rfl rfl (r_move rfl) ?_
        exact at_nil k
      · intro Lx g41 K k
        show At 62 ((28, _) :: (29, _) :: (31, _) :: (32, _) :: (0, _) :: (2, _) :: (3, _) :: (5, _) :: Lx) _ _
        refine at_front (.s (.s .z)) ?_
        refine at_front (.s (.s .z)) ?_
        refine at_callG (V := fun p cap => .tuple #[]) (T := fun p cap => (heapE hK g0_ n0_ gh h_ :: svE c_api_Entry 52 44 b3_ p cap t38 :: cellsE b1 (Cd.cs c_api_Addr x1) 32 :: G_)) Try.func74 rfl (by kernel_rfl) rfl rfl (fun w hw => ihf ht38 hw) ?_
        intro p39 c40
        exact at_nil (k (0, p39, c40, none))
      intro g41
      show At 62 [(24, _), (25, _), (26, _), (27, _), (28, _), (29, _), (30, _), (31, _), (32, _), (33, _), (0, _), (2, _), (3, _), (5, _)] _ _
      refine at_weak [(0, _), (2, _), (3, _), (5, _)] ⟨rfl, rfl, rfl, rfl, trivial⟩ ?_
      refine at_then_normal ?_
      refine at_seq ?_
      refine at_region ?_
      refine at_val rfl rfl rfl (r_move rfl) ?_
      obtain ⟨t42, ht42, hF⟩ := of_bindM hF
      obtain ⟨ha43, hb44⟩ := hn_trie_node_at ht42
      refine at_val rfl rfl rfl (r_npc rfl ha43) ?_
      refine at_val rfl rfl rfl (r_fieldAddr (fo := 0) Try.underlying103 rfl rfl (fun w => ⟨_, Try.sizeOf101 w⟩) rfl) ?_
      refine at_val rfl rfl rfl (r_idxArr Try.underlying101 Try.sizeOf100 rfl rfl (by decide)) ?_
      refine at_val rfl rfl rfl (r_load_cell Try.isAgg100 rfl (hcell0 (c := (cPtr gh)) (y := vget t42.2.f_next 1) .z hb44 (fun _ h => h) (Lens.comp (Lens.comp (Lens.whole _ _) (fun z => { t42.2 with f_next := z }) (c_trie_node_f_next gh t42.2)) (fun z => vset t42.2.f_next 1 z) (Lens.vec (cPtr gh) (by decide) t42.2.f_next 1 (by decide))) rfl)) ?_
      refine at_val rfl rfl rfl (r_pnil (p := vget t42.2.f_next 1) Try.underlying100 rfl rfl (.inr rfl) rfl) ?_
      refine at_nil ?_
      refine at_weak [(0, _), (2, _), (3, _), (5, _), (39, _)] ⟨rfl, rfl, rfl, rfl, rfl, trivial⟩ ?_
      refine at_then_normal ?_
      rcases of_ite hF with ⟨h45, hF⟩ | ⟨h45, hF⟩
      · refine at_cond_true rfl h45 ?_
        refine at_seq ?_
        refine at_region ?_
        refine at_val rfl rfl rfl (r_move rfl) ?_
        refine at_val rfl rfl rfl (r_ishr rfl rfl (by decide)) ?_
        refine at_val rfl rfl rfl (r_fieldAddr (fo := 1) Try.underlying32 rfl rfl (fun w => ⟨_, Try.sizeOf30 w⟩) rfl) ?_
        obtain ⟨h46, hF⟩ := of_guard hF
        refine at_val rfl rfl rfl (r_idxArr Try.underlying30 Try.sizeOf5 rfl rfl h46) ?_
        refine at_val rfl rfl rfl (r_load_cell Try.isAgg5 rfl (lens_cell0 (c := (cInt .u8)) (y := vget x1.f_B (ishr .i64 x2 3)) (.s (.s .z)) (Lens.comp (Lens.comp (Lens.whole _ _) (fun z => { x1 with f_B := z }) (c_api_Addr_f_B x1)) (fun z => vset x1.f_B (ishr .i64 x2 3) z) (Lens.vec (cInt .u8) (by decide) x1.f_B (ishr .i64 x2 3) h46)) rfl)) ?_
        refine at_val rfl rfl rfl (r_move rfl) ?_
        refine at_val rfl rfl rfl (r_iand rfl rfl) ?_
        refine at_val rfl rfl rfl (r_conv Try.underlying3 Try.underlying131 rfl) ?_
        obtain ⟨h47, hF⟩ := of_guard hF
        refine at_val rfl rfl rfl (r_ishr rfl rfl h47) ?_
        refine at_val rfl rfl rfl (r_ior rfl rfl) ?_
        refine at_val rfl rfl rfl (r_fieldAddr (fo := 1) Try.underlying32 rfl rfl (fun w => ⟨_, Try.sizeOf30 w⟩) rfl) ?_
        obtain ⟨h48, hF⟩ := of_guard hF
        refine at_val rfl rfl rfl (r_idxArr Try.underlying30 Try.sizeOf5 rfl rfl h48) ?_
        refine at_store (c := (cInt .u8)) (z := ior .u8 (vget x1.f_B (ishr .i64 x2 3)) (ishr .u8 128 (wr .u64 (iand .i64 x2 7)))) (.s (.s .z)) (Lens.comp (Lens.comp (Lens.whole _ _) (fun z => { x1 with f_B := z }) (c_api_Addr_f_B x1)) (fun z => vset x1.f_B (ishr .i64 x2 3) z) (Lens.vec (cInt .u8) (by decide) x1.f_B (ishr .i64 x2 3) h48)) Try.sizeOf5 rfl rfl rfl ?_
        refine at_nil ?_
        refine at_weak [(0, _), (2, _), (3, _), (5, _)] ⟨rfl, rfl, rfl, rfl, trivial⟩ ?_
        refine at_then_normal ?_
        refine at_weak [(0, _), (2, _), (3, _), (5, _)] ⟨rfl, rfl, rfl, rfl, trivial⟩ ?_
        obtain ⟨t49, ht49, hF⟩ := of_bindM hF
        obtain ⟨ha50, hb51⟩ := hn_trie_node_at ht49
        obtain ⟨t52, ht52, hF⟩ := of_bindM hF
        refine at_inv [.q 52 (fun g55 => pv gh x0) [] 0 1, .q 53 (fun g55 => .pointer (some ⟨gh t49.1, 0, none⟩)) [0] 0 1, .q 54 (fun g55 => .pointer (some ⟨gh t49.1, 0 + 0, none⟩)) [1] 0 1, .q 55 (fun g55 => .pointer (some ⟨gh t49.1, 0 + 0 + Int.toNat 1 * 1, none⟩)) [2] 0 1, .q 56 (fun g55 => pv gh (vget t49.2.f_next 1)) [3] 0 0, .q 57 (fun g55 => .agg (Cd.cs c_api_Addr ({ x1 with f_B := vset x1.f_B (ishr .i64 x2 3) (ior .u8 (vget x1.f_B (ishr .i64 x2 3)) (ishr .u8 128 (wr .u64 (iand .i64 x2 7)))) })).toArray) [] 0 0, .q 58 (fun g55 => .int .i64 x2) [] 0 1, .q 59 (fun g55 => .int .i64 (wr .i64 (x2 + 1))) [6] 0 0, .q 60 (fun g55 => .func (.func 75) #[] #[.pointer (some ⟨b3_, 0, none⟩)]) [] 0 0, .al 0 61 (fun g55 => undef) [4, 5, 7, 8]] (fun g55 s => match s with | 0 => (Wd w0 (heapE hK g0_ n0_ gh h_ :: svE c_api_Entry 52 44 b3_ (g41 0).2.1 (g41 0).2.2.1 t38 :: cellsE b1 (Cd.cs c_api_Addr ({ x1 with f_B := vset x1.f_B (ishr .i64 x2 3) (ior .u8 (vget x1.f_B (ishr .i64 x2 3)) (ishr .u8 128 (wr .u64 (iand .i64 x2 7)))) })) 32 :: G_)) | _ => (Wd w0 (heapE hK g0_ n0_ gh h_ :: svE c_api_Entry 52 44 b3_ ((g55 0).2.1) ((g55 0).2.2.1) t52 :: cellsE b1 (Cd.cs c_api_Addr ({ x1 with f_B := vset x1.f_B (ishr .i64 x2 3) (ior .u8 (vget x1.f_B (ishr .i64 x2 3)) (ishr .u8 128 (wr .u64 (iand .i64 x2 7)))) })) 32 :: G_))) 1 (by kernel_rfl) (by kernel_rfl) (by kernel_rfl) (by kernel_rfl) (by kernel_rfl) ⟨fun _ _ _ => rfl, fun _ _ _ => rfl, fun _ _ _ => rfl, fun _ _ _ => rfl, fun _ _ _ => rfl, fun _ _ _ => rfl, fun _ _ _ => rfl, fun _ _ _ => rfl, fun _ _ _ => rfl, fun _ _ _ => rfl, trivial⟩ (by kernel_rfl) (fun _ h => ⟨fun _ => (0, none, 0, none), h.drew⟩) ⟨?_, ?_, ?_, ?_, ?_, ?_, ?_, ?_, ?_, ?_, trivial⟩ ?_
        · intro Lx g55 s K hl hh k
          show At 62 ((0, _) :: (2, _) :: (3, _) :: (5, _) :: Lx) _ _
          refine at_val rfl rfl rfl (r_move rfl) ?_
          exact at_nil k
        · intro Lx g55 s K hl hh k
          show At 62 ((52, _) :: (0, _) :: (2, _) :: (3, _) :: (5, _) :: Lx) _ _
          refine at_val rfl rfl rfl (r_npc rfl ha50) ?_
          exact at_nil k
        · intro Lx g55 s K hl hh k
          show At 62 ((53, _) :: (0, _) :: (2, _) :: (3, _) :: (5, _) :: Lx) _ _
          refine at_val rfl rfl rfl (r_fieldAddr (fo := 0) Try.underlying103 rfl rfl (fun w => ⟨_, Try.sizeOf101 w⟩) rfl) ?_
          exact at_nil k
        · intro Lx g55 s K hl hh k
          show At 62 ((54, _) :: (0, _) :: (2, _) :: (3, _) :: (5, _) :: Lx) _ _
          refine at_val rfl rfl rfl (r_idxArr Try.underlying101 Try.sizeOf100 rfl rfl (by decide)) ?_
          exact at_nil k
        · intro Lx g55 s K hl hh k
          show At 62 ((55, _) :: (0, _) :: (2, _) :: (3, _) :: (5, _) :: Lx) _ _
          obtain rfl : s = 0 := by omega
          refine at_val rfl rfl rfl (r_load_cell Try.isAgg100 rfl (hcell0 (c := (cPtr gh)) (y := vget t49.2.f_next 1) .z hb51 (fun _ h => h) (Lens.comp (Lens.comp (Lens.whole _ _) (fun z => { t49.2 with f_next := z }) (c_trie_node_f_next gh t49.2)) (fun z => vset t49.2.f_next 1 z) (Lens.vec (cPtr gh) (by decide) t49.2.f_next 1 (by decide))) rfl)) ?_
          exact at_nil k
        · intro Lx g55 s K hl hh k
          show At 62 ((0, _) :: (2, _) :: (3, _) :: (5, _) :: Lx) _ _
          obtain rfl : s = 0 := by omega
          refine at_val rfl rfl rfl (r_load_aggc (c := c_api_Addr) (z := { x1 with f_B := vset x1.f_B (ishr .i64 x2 3) (ior .u8 (vget x1.f_B (ishr .i64 x2 3)) (ishr .u8 128 (wr .u64 (iand .i64 x2 7)))) }) Try.isAgg32 Try.sizeOf32 rfl (lens_cell (.s (.s .z)) (Lens.whole _ _))) ?_
          exact at_nil k
        · intro Lx g55 s K hl hh k
          show At 62 ((0, _) :: (2, _) :: (3, _) :: (5, _) :: Lx) _ _
          refine at_val rfl rfl rfl (r_move rfl) ?_
          exact at_nil k
        · intro Lx g55 s K hl hh k
          show At 62 ((58, _) :: (0, _) :: (2, _) :: (3, _) :: (5, _) :: Lx) _ _
          refine at_val rfl rfl rfl (r_iadd rfl rfl) ?_
          exact at_nil k
        · intro Lx g55 s K hl hh k
          show At 62 ((0, _) :: (2, _) :: (3, _) :: (5, _) :: Lx) _ _
          refine at_val rfl rfl rfl (r_move rfl) ?_
          exact at_nil k
        · intro Lx g55 K k
          show At 62 ((56, _) :: (57, _) :: (59, _) :: (60, _) :: (0, _) :: (2, _) :: (3, _) :: (5, _) :: Lx) _ _
          refine at_callG (V := fun p cap => .tuple #[]) (T := fun p cap => (heapE hK g0_ n0_ gh h_ :: svE c_api_Entry 52 44 b3_ p cap t52 :: cellsE b1 (Cd.cs c_api_Addr ({ x1 with f_B := vset x1.f_B (ishr .i64 x2 3) (ior .u8 (vget x1.f_B (ishr .i64 x2 3)) (ishr .u8 128 (wr .u64 (iand .i64 x2 7)))) })) 32 :: G_)) Try.func74 rfl (by kernel_rfl) rfl rfl (fun w hw => ihf ht52 hw) ?_
          intro p53 c54
          exact at_nil (k (0, p53, c54, none))
        intro g55
        show At 62 [(52, _), (53, _), (54, _), (55, _), (56, _), (57, _), (58, _), (59, _), (60, _), (61, _), (0, _), (2, _), (3, _), (5, _)] _ _
        refine at_drop (H := _) (.s (.s .z)) ?_
        refine at_weak [] trivial ?_
        have K := of_some hF
        subst K
        exact at_return0 rfl (fun w1 hw => ⟨(g55 0).2.1, (g55 0).2.2.1, rfl, hw⟩)
      · refine at_cond_false rfl h45 ?_
        refine at_skip ?_
        refine at_drop (H := _) (.s (.s .z)) ?_
        have K := of_some hF
        subst K
        exact at_return0 rfl (fun w1 hw => ⟨(g41 0).2.1, (g41 0).2.2.1, rfl, hw⟩)
theorem trie_node_each__trie_Trie_All_1_ok {h_ : List HV} {x0 : Option Nat} {x1 : S_api_Addr} {x2 : Int} {x3 : List S_api_Entry} {r : List S_api_Entry} (hF : trie_node_each__trie_Trie_All_1 h_ x0 x1 x2 x3 = some r) : ∀ {w0 w : World} {G_ : List Ent} {g0_ : Nat → Nat} {n0_ : Nat} {gh : Nat → Nat} {b3_ : Nat} {p3_ : Option Addr} {c3_ : Nat} (hw_ : Wd w0 (heapE hK g0_ n0_ gh h_ :: svE c_api_Entry 52 44 b3_ p3_ c3_ x3 :: G_) w),
    Calls Try.prog 74 #[pv gh x0, .agg (Cd.cs c_api_Addr x1).toArray, .int .i64 x2, .func (.func 75) #[] #[.pointer (some ⟨b3_, 0, none⟩)]] w (fun e w' => ∃ (q0 : Option Addr) (d0 : Nat), e = .returned (.tuple #[]) ∧ Wd w0 (heapE hK g0_ n0_ gh h_ :: svE c_api_Entry 52 44 b3_ q0 d0 r :: G_) w') := trie_node_each__trie_Trie_All_1.go_ok 400 hF

def trie_Trie_All (h_ : List HV) (x0 : Option Nat) : Option (List S_api_Entry) :=
  if (Option.isNone x0) = true then (some ([] : List S_api_Entry)) else (hn_trie_Trie h_ x0 >>= fun t3 => hn_trie_Trie h_ x0 >>= fun t6 => trie_node_each__trie_Trie_All_1 h_ t3.2.f_root ({ ({ f_V := (0 : Int), f_B := (Vector.replicate 16 (0 : Int) : (Vector Int 16)) } : S_api_Addr) with f_V := t6.2.f_family }) 0 ([] : List S_api_Entry) >>= fun t9 => some t9)
set_option maxHeartbeats 3200000 in
theorem trie_Trie_All_ok {h_ : List HV} {x0 : Option Nat} {r : List S_api_Entry} (hF : trie_Trie_All h_ x0 = some r) : ∀ {w0 w : World} {G_ : List Ent} {g0_ : Nat → Nat} {n0_ : Nat} {gh : Nat → Nat} (hw_ : Wd w0 (heapE hK g0_ n0_ gh h_ :: G_) w),
    Calls Try.prog 30 #[pv gh x0] w (fun e w' => ∃ (p : Option Addr) (cap : Nat), e = .returned (.slice p r.length cap) ∧ Wd w0 (heapE hK g0_ n0_ gh h_ :: rowE c_api_Entry 52 p cap r :: G_) w') := by
  intro w0 w G_ g0_ n0_ gh hw_
  unfold trie_Trie_All at hF
  refine calls_enter (l := [pv gh x0]) Try.func30 rfl rfl rfl ?_
  refine at_enterF hw_ ?_
  refine at_weak [(0, _)] ⟨rfl, trivial⟩ ?_
  refine at_seq ?_
  refine at_region ?_
  refine at_val rfl rfl rfl (r_assign rfl) ?_
  refine at_nil ?_
  refine at_weak [(0, _)] ⟨rfl, trivial⟩ ?_
  refine at_then_normal ?_
  refine at_seq ?_
  refine at_seq ?_
  refine at_region ?_
  refine at_val rfl rfl rfl (r_move rfl) ?_
  refine at_val rfl rfl rfl (r_pnil (p := x0) Try.underlying42 rfl rfl (.inl rfl) rfl) ?_
  refine at_nil ?_
  refine at_weak [(0, _), (5, _)] ⟨rfl, rfl, trivial⟩ ?_
  refine at_then_normal ?_
  rcases of_ite hF with ⟨h1, hF⟩ | ⟨h1, hF⟩
  · refine at_cond_true rfl h1 ?_
    refine at_seq ?_
    refine at_region ?_
    refine at_val rfl rfl rfl (r_assign rfl) ?_
    refine at_nil ?_
    refine at_weak [(2, _)] ⟨rfl, trivial⟩ ?_
    refine at_then_normal ?_
    refine at_ret ?_
    refine at_then_ret ?_
    refine at_own_nil c_api_Entry 52 ?_
    refine at_front (.s .z) ?_
    have K := of_some hF
    subst K
    exact at_return1 rfl rfl (fun w1 hw => ⟨none, 0, rfl, hw⟩)
  · refine at_cond_false rfl h1 ?_
    refine at_skip ?_
    refine at_then_normal ?_
    refine at_seq ?_
    refine at_region ?_
    refine at_allocSv c_api_Entry 52 Try.underlying44 Try.zeroValue44 rfl ?_
    intro b2
    refine at_nil ?_
    refine at_weak [(0, _), (3, _)] ⟨rfl, rfl, trivial⟩ ?_
    refine at_then_normal ?_
    refine at_seq ?_
    refine at_weak [(0, _), (3, _)] ⟨rfl, rfl, trivial⟩ ?_
    obtain ⟨t3, ht3, hF⟩ := of_bindM hF
    obtain ⟨ha4, hb5⟩ := hn_trie_Trie_at ht3
    obtain ⟨t6, ht6, hF⟩ := of_bindM hF
    obtain ⟨ha7, hb8⟩ := hn_trie_Trie_at ht6
    obtain ⟨t9, ht9, hF⟩ := of_bindM hF
    refine at_inv [.q 6 (fun g12 => pv gh x0) [] 0 1, .q 7 (fun g12 => .pointer (some ⟨gh t3.1, 0, none⟩)) [0] 0 1, .q 8 (fun g12 => .pointer (some ⟨gh t3.1, 0 + 0, none⟩)) [1] 0 1, .q 9 (fun g12 => pv gh t3.2.f_root) [2] 0 0, .q 10 (fun g12 => pv gh x0) [] 0 1, .q 11 (fun g12 => .pointer (some ⟨gh t6.1, 0, none⟩)) [4] 0 1, .q 12 (fun g12 => .pointer (some ⟨gh t6.1, 0 + 1, none⟩)) [5] 0 1, .q 13 (fun g12 => .int .i64 t6.2.f_family) [6] 0 1, .q 14 (fun g12 => .agg (Cd.cs c_api_Addr ({ ({ f_V := (0 : Int), f_B := (Vector.replicate 16 (0 : Int) : (Vector Int 16)) } : S_api_Addr) with f_V := t6.2.f_family })).toArray) [7] 0 0, .q 15 (fun g12 => .func (.func 75) #[] #[.pointer (some ⟨b2, 0, none⟩)]) [] 0 0, .al 0 16 (fun g12 => undef) [3, 8, 9]] (fun g12 s => match s with | 0 => (Wd w0 (svE c_api_Entry 52 44 b2 none 0 ([] : List S_api_Entry) :: heapE hK g0_ n0_ gh h_ :: G_)) | _ => (Wd w0 (heapE hK g0_ n0_ gh h_ :: svE c_api_Entry 52 44 b2 ((g12 0).2.1) ((g12 0).2.2.1) t9 :: G_))) 1 (by kernel_rfl) (by kernel_rfl) (by kernel_rfl) (by kernel_rfl) (by kernel_rfl) ⟨fun _ _ _ => rfl, fun _ _ _ => rfl, fun _ _ _ => rfl, fun _ _ _ => rfl, fun _ _ _ => rfl, fun _ _ _ => rfl, fun _ _ _ => rfl, fun _ _ _ => rfl, fun _ _ _ => rfl, fun _ _ _ => rfl, fun _ _ _ => rfl, trivial⟩ (by kernel_rfl) (fun _ h => ⟨fun _ => (0, none, 0, none), h.drew⟩) ⟨?_, ?_, ?_, ?_, ?_, ?_, ?_, ?_, ?_, ?_, ?_, trivial⟩ ?_
    · intro Lx g12 s K hl hh k
      show At 18 ((0, _) :: (3, _) :: Lx) _ _
      refine at_val rfl rfl rfl (r_move rfl) ?_
      exact at_nil k
    · intro Lx g12 s K hl hh k
      show At 18 ((6, _) :: (0, _) :: (3, _) :: Lx) _ _
      refine at_val rfl rfl rfl (r_npc rfl ha4) ?_
      exact at_nil k
    · intro Lx g12 s K hl hh k
      show At 18 ((7, _) :: (0, _) :: (3, _) :: Lx) _ _
      refine at_val rfl rfl rfl (r_fieldAddr (fo := 0) Try.underlying105 rfl rfl (fun w => ⟨_, Try.sizeOf100 w⟩) rfl) ?_
      exact at_nil k
    · intro Lx g12 s K hl hh k
      show At 18 ((8, _) :: (0, _) :: (3, _) :: Lx) _ _
      obtain rfl : s = 0 := by omega
      refine at_val rfl rfl rfl (r_load_cell Try.isAgg100 rfl (hcell0 (c := (cPtr gh)) (y := t3.2.f_root) (.s .z) hb5 (fun _ h => h) (Lens.comp (Lens.whole _ _) (fun z => { t3.2 with f_root := z }) (c_trie_Trie_f_root gh t3.2)) rfl)) ?_
      exact at_nil k
    · intro Lx g12 s K hl hh k
      show At 18 ((0, _) :: (3, _) :: Lx) _ _
      refine at_val rfl rfl rfl (r_move rfl) ?_
      exact at_nil k
    · intro Lx g12 s K hl hh k
      show At 18 ((10, _) :: (0, _) :: (3, _) :: Lx) _ _
      refine at_val rfl rfl rfl (r_npc rfl ha7) ?_
      exact at_nil k
    · intro Lx g12 s K hl hh k
      show At 18 ((11, _) :: (0, _) :: (3, _) :: Lx) _ _
      refine at_val rfl rfl rfl (r_fieldAddr (fo := 1) Try.underlying105 rfl rfl (fun w => ⟨_, Try.sizeOf3 w⟩) rfl) ?_
      exact at_nil k
    · intro Lx g12 s K hl hh k
      show At 18 ((12, _) :: (0, _) :: (3, _) :: Lx) _ _
      rcases (by omega : s = 0 ∨ s = 1) with rfl | rfl
      · skip
        refine at_val rfl rfl rfl (r_load_cell Try.isAgg3 rfl (hcell0 (c := (cInt .i64)) (y := t6.2.f_family) (.s .z) hb8 (fun _ h => h) (Lens.comp (Lens.whole _ _) (fun z => { t6.2 with f_family := z }) (c_trie_Trie_f_family gh t6.2)) rfl)) ?_
        exact at_nil k
      · skip
        refine at_val rfl rfl rfl (r_load_cell Try.isAgg3 rfl (hcell0 (c := (cInt .i64)) (y := t6.2.f_family) .z hb8 (fun _ h => h) (Lens.comp (Lens.whole _ _) (fun z => { t6.2 with f_family := z }) (c_trie_Trie_f_family gh t6.2)) rfl)) ?_
        exact at_nil k
    · intro Lx g12 s K hl hh k
      show At 18 ((13, _) :: (0, _) :: (3, _) :: Lx) _ _
      obtain rfl : s = 0 := by omega
      refine at_val rfl rfl rfl (r_build_struct (zs := Cd.cs c_api_Addr ({ f_V := (0 : Int), f_B := (Vector.replicate 16 (0 : Int) : (Vector Int 16)) } : S_api_Addr)) (cs := Cd.cs c_api_Addr ({ ({ f_V := (0 : Int), f_B := (Vector.replicate 16 (0 : Int) : (Vector Int 16)) } : S_api_Addr) with f_V := t6.2.f_family })) Try.underlying32 Try.zeroValue32 rfl (places_api_Addr_32) rfl (fill_step (c := (cInt .i64)) (z := t6.2.f_family) rfl (c_api_Addr_f_V ({ f_V := (0 : Int), f_B := (Vector.replicate 16 (0 : Int) : (Vector Int 16)) } : S_api_Addr)) rfl rfl)) ?_
      exact at_nil k
    · intro Lx g12 s K hl hh k
      show At 18 ((0, _) :: (3, _) :: Lx) _ _
      obtain rfl : s = 0 := by omega
      refine at_val rfl rfl rfl (r_makeFunc rfl) ?_
      exact at_nil k
    · intro Lx g12 K k
      show At 18 ((9, _) :: (14, _) :: (15, _) :: (0, _) :: (3, _) :: Lx) _ _
      refine at_front (.s .z) ?_
      refine at_callG (V := fun p cap => .tuple #[]) (T := fun p cap => (heapE hK g0_ n0_ gh h_ :: svE c_api_Entry 52 44 b2 p cap t9 :: G_)) Try.func74 rfl (by kernel_rfl) rfl rfl (fun w hw => trie_node_each__trie_Trie_All_1_ok ht9 hw) ?_
      intro p10 c11
      exact at_nil (k (0, p10, c11, none))
    intro g12
    show At 18 [(6, _), (7, _), (8, _), (9, _), (10, _), (11, _), (12, _), (13, _), (14, _), (15, _), (16, _), (0, _), (3, _)] _ _
    refine at_weak [(3, _)] ⟨rfl, trivial⟩ ?_
    refine at_then_normal ?_
    refine at_seq ?_
    refine at_region ?_
    refine at_svOpen (.s .z) ?_
    refine at_val rfl rfl rfl (r_load_cell Try.isAgg44 rfl (fun w1 hw => cells_get (hw.ok (Upd.mem .z)) 0 _ rfl)) ?_
    refine at_val rfl rfl rfl (r_assign rfl) ?_
    refine at_nil ?_
    refine at_drop (H := _) .z ?_
    refine at_weak [(2, _)] ⟨rfl, trivial⟩ ?_
    refine at_then_normal ?_
    refine at_ret ?_
    refine at_front (.s .z) ?_
    have K := of_some hF
    subst K
    exact at_return1 rfl rfl (fun w1 hw => ⟨(g12 0).2.1, (g12 0).2.2.1, rfl, hw⟩)
end Go.Proofs.Ythccncpephpdjaa
