/- Functions with the same answers as the Go functions that they are named for, and the proofs of it, by a program of this project (gen.py). -/
import Derived.Test.YtecolkjlpklaaaaDoorT
import Derived.Test.YtecolkjlpklaaaaDoorShelf
import Derived.Test.YtecolkjlpklaaaaDoorW
import Derived.Test.YtecolkjlpklaaaaDoorL
import Derived.Test.YtecolkjlpklaaaaDoorS
import Derived.Test.YtecolkjlpklaaaaDoorJ
import Derived.Test.YtecolkjlpklaaaaDoorK
import Derived.Test.YtecolkjlpklaaaaDoorR
import Derived.Test.YtecolkjlpklaaaaDoorProg
import Derived.Test.YtecolkjlpklaaaaDoorG1
import Derived.Test.YtecolkjlpklaaaaDoorG2
import Derived.Test.YtecolkjlpklaaaaDoorG3
import Derived.Test.YtecolkjlpklaaaaDoorH4
set_option linter.unusedVariables false
set_option linter.unusedSimpArgs false
namespace Go.Proofs.YtecolkjlpklaaaaDoor
open E Go.RowKit

theorem infoH53_is : (Tryd.prog.info? 3).isSome = true := by kernel_rfl
noncomputable def infoH53_v : TypeInfo := (Tryd.prog.info? 3).get infoH53_is
theorem infoH53 : Tryd.prog.info? 3 = some infoH53_v := (Option.some_get _).symm

def stringslite_HasPrefix (x0 : ByteArray) (x1 : ByteArray) : Option (Bool) :=
  if (decide ((x0.size : Int) ≥ (x1.size : Int))) = true then (if (0 : Int) ≤ 0 ∧ 0 ≤ (x1.size : Int) ∧ (x1.size : Int) ≤ (x0.size : Int) then some (seq (x0.extract (Int.toNat 0) (Int.toNat (x1.size : Int))) x1) else none) else (some false)
theorem stringslite_HasPrefix_ok (x0 : ByteArray) (x1 : ByteArray) (r : Bool) (hF : stringslite_HasPrefix x0 x1 = some r) (w : World) :
    Calls Tryd.prog 112 #[.string x0, .string x1] w (fun e w' => e = .returned (.bool r) ∧ w' = w) := by
  unfold stringslite_HasPrefix at hF
  refine calls_enter (l := [.string x0, .string x1]) Tryd.func112 rfl rfl rfl ?_
  refine at_weak [(0, _), (1, _)] ⟨rfl, rfl, trivial⟩ ?_
  refine at_seq ?_
  refine at_region ?_
  refine at_val rfl rfl rfl (r_assign rfl) ?_
  refine at_nil ?_
  refine at_weak [(0, _), (1, _)] ⟨rfl, rfl, trivial⟩ ?_
  refine at_then_normal ?_
  refine at_seq ?_
  refine at_region ?_
  refine at_val rfl rfl rfl (r_move rfl) ?_
  refine at_val rfl rfl rfl (r_len_str Tryd.underlying9 rfl) ?_
  refine at_val rfl rfl rfl (r_move rfl) ?_
  refine at_val rfl rfl rfl (r_len_str Tryd.underlying9 rfl) ?_
  refine at_val rfl rfl rfl (r_igeq rfl rfl) ?_
  refine at_val rfl rfl rfl (r_move rfl) ?_
  rcases of_ite hF with ⟨h1, hF⟩ | ⟨h1, hF⟩
  · refine at_fix (g := 10) rfl h1 ?_
    refine at_guard_yes rfl rfl rfl ?_
    refine at_val rfl rfl rfl (r_move rfl) ?_
    refine at_guard_yes rfl rfl rfl ?_
    refine at_val rfl rfl rfl (r_move rfl) ?_
    refine at_guard_yes rfl rfl rfl ?_
    refine at_val rfl rfl rfl (r_len_str Tryd.underlying9 rfl) ?_
    refine at_guard_yes rfl rfl rfl ?_
    obtain ⟨h2, hF⟩ := of_guard hF
    refine at_val rfl rfl rfl (r_slice_str Tryd.underlying9 rfl rfl ⟨_, rfl⟩ h2) ?_
    refine at_guard_yes rfl rfl rfl ?_
    refine at_val rfl rfl rfl (r_move rfl) ?_
    refine at_guard_yes rfl rfl rfl ?_
    refine at_val rfl rfl rfl (r_seql rfl rfl) ?_
    refine at_val rfl rfl rfl (r_pick rfl rfl rfl) ?_
    refine at_val rfl rfl rfl (r_assign rfl) ?_
    refine at_nil ?_
    refine at_weak [(4, _)] ⟨rfl, trivial⟩ ?_
    refine at_then_normal ?_
    refine at_ret ?_
    have K := of_some hF
    subst K
    exact at_return1 rfl rfl (fun w1 hw => ⟨rfl, hw⟩)
  · refine at_fix (g := 10) rfl h1 ?_
    refine at_guard_no rfl rfl rfl rfl rfl ?_
    refine at_guard_no rfl rfl rfl rfl rfl ?_
    refine at_guard_no rfl rfl rfl rfl rfl ?_
    refine at_guard_no rfl rfl rfl rfl rfl ?_
    refine at_guard_no rfl rfl rfl rfl rfl ?_
    refine at_guard_no rfl rfl rfl rfl rfl ?_
    refine at_val rfl rfl rfl (r_pick rfl rfl rfl) ?_
    refine at_val rfl rfl rfl (r_assign rfl) ?_
    refine at_nil ?_
    refine at_weak [(4, _)] ⟨rfl, trivial⟩ ?_
    refine at_then_normal ?_
    refine at_ret ?_
    have K := of_some hF
    subst K
    exact at_return1 rfl rfl (fun w1 hw => ⟨rfl, hw⟩)

def strings_HasPrefix (x0 : ByteArray) (x1 : ByteArray) : Option (Bool) :=
  stringslite_HasPrefix x0 x1 >>= fun t1 => some t1
theorem strings_HasPrefix_ok (x0 : ByteArray) (x1 : ByteArray) (r : Bool) (hF : strings_HasPrefix x0 x1 = some r) (w : World) :
    Calls Tryd.prog 98 #[.string x0, .string x1] w (fun e w' => e = .returned (.bool r) ∧ w' = w) := by
  unfold strings_HasPrefix at hF
  refine calls_enter (l := [.string x0, .string x1]) Tryd.func98 rfl rfl rfl ?_
  refine at_weak [(0, _), (1, _)] ⟨rfl, rfl, trivial⟩ ?_
  refine at_seq ?_
  refine at_region ?_
  refine at_val rfl rfl rfl (r_assign rfl) ?_
  refine at_nil ?_
  refine at_weak [(0, _), (1, _)] ⟨rfl, rfl, trivial⟩ ?_
  refine at_then_normal ?_
  refine at_seq ?_
  refine at_region ?_
  refine at_val rfl rfl rfl (r_move rfl) ?_
  refine at_val rfl rfl rfl (r_move rfl) ?_
  obtain ⟨t1, ht1, hF⟩ := of_bindM hF
  refine at_call0 Tryd.func112 rfl (by kernel_rfl) rfl rfl (fun w => stringslite_HasPrefix_ok _ _ _ ht1 w) ?_
  refine at_val rfl rfl rfl (r_assign rfl) ?_
  refine at_nil ?_
  refine at_weak [(4, _)] ⟨rfl, trivial⟩ ?_
  refine at_then_normal ?_
  refine at_ret ?_
  have K := of_some hF
  subst K
  exact at_return1 rfl rfl (fun w1 hw => ⟨rfl, hw⟩)

def hexes_ReadGroup.l0 (x0 : ByteArray) (i4 : Int) (i5 : Int) : Option (Ctl (Int × Int) (Int)) :=
  if (decide (i5 < (x0.size : Int))) = true then (if (0 : Int) ≤ i5 ∧ i5 < (x0.size : Int) then hexes_small (bt x0 i5) >>= fun t8 => hexes_value t8 >>= fun t9 => if (!t9.2) = true then (some (.ret (0, 5))) else (hexes_ReadGroup.l0 x0 (ior .u16 (ishl .u16 i4 4) t9.1) (wr .i64 (i5 + 1))) else none) else (some (.nx i4))
  partial_fixpoint
def hexes_ReadGroup (x0 : ByteArray) : Option (Int × Int) :=
  if (decide ((x0.size : Int) < 1)) = true then (some (0, 5)) else (if (decide ((x0.size : Int) > 4)) = true then (some (0, 5)) else (hexes_ReadGroup.l0 x0 0 0 >>= fun q3 => match q3 with | .ret r' => some r' | .nx sq3 => (some (sq3, 0))))
theorem hexes_ReadGroup_ok (x0 : ByteArray) (r : Int × Int) (hF : hexes_ReadGroup x0 = some r) (w : World) :
    Calls Tryd.prog 100 #[.string x0] w (fun e w' => e = .returned (.tuple #[.int .u16 r.1, .int .i64 r.2]) ∧ w' = w) := by
  unfold hexes_ReadGroup at hF
  refine calls_enter (l := [.string x0]) Tryd.func100 rfl rfl rfl ?_
  refine at_weak [(0, _)] ⟨rfl, trivial⟩ ?_
  refine at_seq ?_
  refine at_region ?_
  refine at_val rfl rfl rfl (r_assign rfl) ?_
  refine at_val rfl rfl rfl (r_assign rfl) ?_
  refine at_nil ?_
  refine at_weak [(0, _)] ⟨rfl, trivial⟩ ?_
  refine at_then_normal ?_
  refine at_seq ?_
  refine at_seq ?_
  refine at_region ?_
  refine at_val rfl rfl rfl (r_move rfl) ?_
  refine at_val rfl rfl rfl (r_len_str Tryd.underlying9 rfl) ?_
  refine at_val rfl rfl rfl (r_ilss rfl rfl) ?_
  refine at_val rfl rfl rfl (r_move rfl) ?_
  rcases of_ite hF with ⟨h1, hF⟩ | ⟨h1, hF⟩
  · refine at_fix (g := 11) rfl h1 ?_
    refine at_guard_no rfl rfl rfl rfl rfl ?_
    refine at_guard_no rfl rfl rfl rfl rfl ?_
    refine at_guard_no rfl rfl rfl rfl rfl ?_
    refine at_val rfl rfl rfl (r_pick rfl rfl rfl) ?_
    refine at_nil ?_
    refine at_weak [(0, _), (15, _)] ⟨rfl, rfl, trivial⟩ ?_
    refine at_then_normal ?_
    refine at_cond_true rfl rfl ?_
    refine at_seq ?_
    refine at_region ?_
    refine at_val rfl rfl rfl (r_assign rfl) ?_
    refine at_val rfl rfl rfl (r_assign rfl) ?_
    refine at_nil ?_
    refine at_weak [(2, _), (3, _)] ⟨rfl, rfl, trivial⟩ ?_
    refine at_then_normal ?_
    refine at_ret ?_
    refine at_then_ret ?_
    have K := of_some hF
    subst K
    exact at_return2 rfl rfl rfl (fun w1 hw => ⟨rfl, hw⟩)
  · refine at_fix (g := 11) rfl h1 ?_
    refine at_guard_yes rfl rfl rfl ?_
    refine at_val rfl rfl rfl (r_move rfl) ?_
    refine at_guard_yes rfl rfl rfl ?_
    refine at_val rfl rfl rfl (r_len_str Tryd.underlying9 rfl) ?_
    refine at_guard_yes rfl rfl rfl ?_
    refine at_val rfl rfl rfl (r_igtr rfl rfl) ?_
    refine at_val rfl rfl rfl (r_pick rfl rfl rfl) ?_
    refine at_nil ?_
    refine at_weak [(0, _), (15, _)] ⟨rfl, rfl, trivial⟩ ?_
    refine at_then_normal ?_
    rcases of_ite hF with ⟨h2, hF⟩ | ⟨h2, hF⟩
    · refine at_cond_true rfl h2 ?_
      refine at_seq ?_
      refine at_region ?_
      refine at_val rfl rfl rfl (r_assign rfl) ?_
      refine at_val rfl rfl rfl (r_assign rfl) ?_
      refine at_nil ?_
      refine at_weak [(2, _), (3, _)] ⟨rfl, rfl, trivial⟩ ?_
      refine at_then_normal ?_
      refine at_ret ?_
      refine at_then_ret ?_
      have K := of_some hF
      subst K
      exact at_return2 rfl rfl rfl (fun w1 hw => ⟨rfl, hw⟩)
    · refine at_cond_false rfl h2 ?_
      refine at_skip ?_
      refine at_then_normal ?_
      refine at_seq ?_
      refine at_region ?_
      refine at_val rfl rfl rfl (r_assign rfl) ?_
      refine at_nil ?_
      refine at_weak [(0, _), (4, _)] ⟨rfl, rfl, trivial⟩ ?_
      refine at_then_normal ?_
      refine at_seq ?_
      refine at_seq ?_
      refine at_region ?_
      refine at_val rfl rfl rfl (r_move rfl) ?_
      refine at_val rfl rfl rfl (r_len_str Tryd.underlying9 rfl) ?_
      refine at_val rfl rfl rfl (r_move rfl) ?_
      refine at_nil ?_
      refine at_weak [(0, _), (4, _), (17, _), (18, _)] ⟨rfl, rfl, rfl, rfl, trivial⟩ ?_
      refine at_then_normal ?_
      refine at_block ?_
      obtain ⟨q3, hq3, hF⟩ := of_bindM hF
      refine at_weak [(0, _), (4, _), (17, _), (18, _)] ⟨rfl, rfl, rfl, rfl, trivial⟩ ?_
      refine at_loop_r (B := 0) (r := r) (q := q3) (A := fun sq3 Y => At 37 [(4, .int .u16 sq3)] (fun w' => w' = w) Y) ?_ ?_
      · intro K
        refine hexes_ReadGroup.l0.partial_correctness x0 (motive := fun i4 i5 x => KR (fun sq3 Y => At 37 [(4, .int .u16 sq3)] (fun w' => w' = w) Y) _ 0 r x → Round (fun Y => At 37 [(0, .string x0), (4, .int .u16 i4), (17, .int .i64 (x0.size : Int)), (18, .int .i64 i5)] (fun w' => w' = w) Y) _ _ _) ?_ _ _ _ hq3 K
        · clear K hF
          intro g ih i4 i5 x hF K
          refine at_round ?_
          refine at_seq ?_
          refine at_region ?_
          refine at_val rfl rfl rfl (r_ilss rfl rfl) ?_
          refine at_nil ?_
          refine at_weak [(0, _), (4, _), (17, _), (18, _), (19, _)] ⟨rfl, rfl, rfl, rfl, rfl, trivial⟩ ?_
          refine at_then_normal ?_
          refine at_seq ?_
          rcases of_ite hF with ⟨h6, hF⟩ | ⟨h6, hF⟩
          · refine at_cond_true rfl h6 ?_
            refine at_skip ?_
            refine at_then_normal ?_
            refine at_seq ?_
            refine at_block ?_
            refine at_seq ?_
            refine at_region ?_
            refine at_val rfl rfl rfl (r_move rfl) ?_
            refine at_val rfl rfl rfl (r_assign rfl) ?_
            refine at_nil ?_
            refine at_weak [(0, _), (4, _), (5, _), (17, _), (18, _)] ⟨rfl, rfl, rfl, rfl, rfl, trivial⟩ ?_
            refine at_then_normal ?_
            refine at_seq ?_
            refine at_region ?_
            refine at_val rfl rfl rfl (r_move rfl) ?_
            refine at_val rfl rfl rfl (r_move rfl) ?_
            obtain ⟨h7, hF⟩ := of_guard hF
            refine at_val rfl rfl rfl (r_index_str Tryd.underlying9 rfl rfl h7) ?_
            obtain ⟨t8, ht8, hF⟩ := of_bindM hF
            refine at_call0 Tryd.func114 rfl (by kernel_rfl) rfl rfl (fun w => hexes_small_ok _ _ ht8 w) ?_
            obtain ⟨t9, ht9, hF⟩ := of_bindM hF
            refine at_call0 Tryd.func113 rfl (by kernel_rfl) rfl rfl (fun w => hexes_value_ok _ _ ht9 w) ?_
            refine at_val rfl rfl rfl (r_move rfl) ?_
            refine at_val rfl rfl rfl (r_extract rfl rfl) ?_
            refine at_val rfl rfl rfl (r_extract rfl rfl) ?_
            refine at_val rfl rfl rfl (r_assign rfl) ?_
            refine at_val rfl rfl rfl (r_assign rfl) ?_
            refine at_nil ?_
            refine at_weak [(0, _), (4, _), (6, _), (7, _), (17, _), (18, _)] ⟨rfl, rfl, rfl, rfl, rfl, rfl, trivial⟩ ?_
            refine at_then_normal ?_
            refine at_seq ?_
            refine at_seq ?_
            refine at_region ?_
            refine at_val rfl rfl rfl (r_move rfl) ?_
            refine at_val rfl rfl rfl (r_not rfl) ?_
            refine at_nil ?_
            refine at_weak [(0, _), (4, _), (6, _), (17, _), (18, _), (30, _)] ⟨rfl, rfl, rfl, rfl, rfl, rfl, trivial⟩ ?_
            refine at_then_normal ?_
            rcases of_ite hF with ⟨h10, hF⟩ | ⟨h10, hF⟩
            · refine at_cond_true rfl h10 ?_
              refine at_seq ?_
              refine at_region ?_
              refine at_val rfl rfl rfl (r_assign rfl) ?_
              refine at_val rfl rfl rfl (r_assign rfl) ?_
              refine at_nil ?_
              refine at_weak [(2, _), (3, _)] ⟨rfl, rfl, trivial⟩ ?_
              refine at_then_normal ?_
              refine at_ret ?_
              refine at_then_ret (at_blk_ret (at_then_ret (at_then_ret (at_blk_ret (at_then_ret ?_)))))
              obtain rfl := of_some hF
              subst K
              exact at_return2 rfl rfl rfl (fun w1 hw => ⟨rfl, hw⟩)
            · refine at_cond_false rfl h10 ?_
              refine at_skip ?_
              refine at_then_normal ?_
              refine at_region ?_
              refine at_val rfl rfl rfl (r_move rfl) ?_
              refine at_val rfl rfl rfl (r_ishl rfl rfl (by decide)) ?_
              refine at_val rfl rfl rfl (r_move rfl) ?_
              refine at_val rfl rfl rfl (r_ior rfl rfl) ?_
              refine at_val rfl rfl rfl (r_assign rfl) ?_
              refine at_nil ?_
              refine at_weak [(0, _), (4, _), (17, _), (18, _)] ⟨rfl, rfl, rfl, rfl, trivial⟩ ?_
              refine at_blk_normal (at_then_normal ?_)
              refine at_region ?_
              refine at_val rfl rfl rfl (r_iadd rfl rfl) ?_
              refine at_val rfl rfl rfl (r_move rfl) ?_
              refine at_nil ?_
              refine at_weak [(0, _), (4, _), (17, _), (18, _)] ⟨rfl, rfl, rfl, rfl, trivial⟩ ?_
              refine at_then_normal ?_
              exact at_weak_k (ih _ _ _ hF K) ⟨rfl, rfl, rfl, rfl, trivial⟩
          · refine at_cond_false rfl h6 ?_
            refine at_exit ?_
            refine at_then_exit (at_then_exit ?_)
            obtain rfl := of_some hF
            exact at_weak_k K ⟨rfl, trivial⟩
      · cases q3 with
        | ret r' => exact of_some hF
        | nx sq3 =>
          skip
          refine at_blk_same ?_
          refine at_then_normal ?_
          refine at_seq ?_
          refine at_region ?_
          refine at_val rfl rfl rfl (r_move rfl) ?_
          refine at_val rfl rfl rfl (r_assign rfl) ?_
          refine at_val rfl rfl rfl (r_assign rfl) ?_
          refine at_nil ?_
          refine at_weak [(2, _), (3, _)] ⟨rfl, rfl, trivial⟩ ?_
          refine at_then_normal ?_
          refine at_ret ?_
          have K := of_some hF
          subst K
          exact at_return2 rfl rfl rfl (fun w1 hw => ⟨rfl, hw⟩)

def colon_reader_put (x0 : S_colon_reader) (x1 : Int) : Option (Bool × S_colon_reader) :=
  if (x0.f_n == 8) = true then (some (false, x0)) else (if (0 : Int) ≤ x0.f_n ∧ x0.f_n < 8 then some (true, { { x0 with f_g := vset x0.f_g x0.f_n x1 } with f_n := wr .i64 ((({ x0 with f_g := vset x0.f_g x0.f_n x1 }).f_n) + 1) }) else none)
theorem colon_reader_put_ok (x0 : S_colon_reader) (b0_ : Nat) (x1 : Int) (r : Bool × S_colon_reader) (hF : colon_reader_put x0 x1 = some r) (w : World) {w0 : World} {H_ G_ : List Ent} {f_ : Ent → List Ent} (hu_ : Upd H_ (cellsE b0_ (Cd.cs c_colon_reader x0) 97) f_ G_) (hw_ : Wd w0 H_ w) :
    Calls Tryd.prog 101 #[.pointer (some ⟨b0_, 0, none⟩), .int .u16 x1] w (fun e w' => e = .returned (.bool r.1) ∧ Wd w0 (f_ (cellsE b0_ (Cd.cs c_colon_reader r.2) 97)) w') := by
  unfold colon_reader_put at hF
  refine calls_enter (l := [.pointer (some ⟨b0_, 0, none⟩), .int .u16 x1]) Tryd.func101 rfl rfl rfl ?_
  refine at_enter_ptr hu_ hw_ ?_
  refine at_weak [(0, _), (1, _)] ⟨rfl, rfl, trivial⟩ ?_
  refine at_seq ?_
  refine at_region ?_
  refine at_val rfl rfl rfl (r_assign rfl) ?_
  refine at_nil ?_
  refine at_weak [(0, _), (1, _)] ⟨rfl, rfl, trivial⟩ ?_
  refine at_then_normal ?_
  refine at_seq ?_
  refine at_seq ?_
  refine at_region ?_
  refine at_val rfl rfl rfl (r_move rfl) ?_
  refine at_val rfl rfl rfl (r_nilCheck rfl) ?_
  refine at_val rfl rfl rfl (r_fieldAddr (fo := 8) Tryd.underlying97 rfl rfl (fun w => ⟨_, Tryd.sizeOf3 w⟩) rfl) ?_
  refine at_val rfl rfl rfl (r_load_cell Tryd.isAgg3 rfl (lens_cell0 (c := (cInt .i64)) (y := x0.f_n) (Upd.again hu_ _) (Lens.comp (Lens.whole _ _) (fun z => { x0 with f_n := z }) (c_colon_reader_f_n x0)) rfl)) ?_
  refine at_val rfl rfl rfl (r_ieql rfl rfl) ?_
  refine at_nil ?_
  refine at_weak [(0, _), (1, _), (9, _)] ⟨rfl, rfl, rfl, trivial⟩ ?_
  refine at_then_normal ?_
  rcases of_ite hF with ⟨h1, hF⟩ | ⟨h1, hF⟩
  · refine at_cond_true rfl h1 ?_
    refine at_seq ?_
    refine at_region ?_
    refine at_val rfl rfl rfl (r_assign rfl) ?_
    refine at_nil ?_
    refine at_weak [(4, _)] ⟨rfl, trivial⟩ ?_
    refine at_then_normal ?_
    refine at_ret ?_
    refine at_then_ret ?_
    have K := of_some hF
    subst K
    exact at_return1 rfl rfl (fun w1 hw => ⟨rfl, hw⟩)
  · refine at_cond_false rfl h1 ?_
    refine at_skip ?_
    refine at_then_normal ?_
    refine at_seq ?_
    refine at_weak [(0, _), (1, _)] ⟨rfl, rfl, trivial⟩ ?_
    obtain ⟨h2, hF⟩ := of_guard hF
    refine at_inv [.q 10 (fun g3 => .pointer (some ⟨b0_, 0, none⟩)) [] 0 0, .q 11 (fun g3 => .pointer (some ⟨b0_, 0, none⟩)) [] 0 0, .q 12 (fun g3 => .pointer (some ⟨b0_, 0, none⟩)) [1] 0 0, .q 13 (fun g3 => .pointer (some ⟨b0_, 0 + 8, none⟩)) [2] 0 0, .q 14 (fun g3 => .int .i64 x0.f_n) [3] 0 0, .q 15 (fun g3 => .int .u16 x1) [] 0 0, .q 16 (fun g3 => .pointer (some ⟨b0_, 0, none⟩)) [0] 0 1, .q 17 (fun g3 => .pointer (some ⟨b0_, 0 + 0, none⟩)) [6] 0 1, .q 18 (fun g3 => .pointer (some ⟨b0_, 0 + 0 + Int.toNat x0.f_n * 1, none⟩)) [4, 7] 0 0, .st 0 none [5, 8]] (fun g3 s => match s with | 0 => (Wd w0 (f_ (cellsE b0_ (Cd.cs c_colon_reader x0) 97))) | _ => (Wd w0 (f_ (cellsE b0_ (Cd.cs c_colon_reader ({ x0 with f_g := vset x0.f_g x0.f_n x1 })) 97)))) 1 (by kernel_rfl) (by kernel_rfl) (by kernel_rfl) (by kernel_rfl) (by kernel_rfl) ⟨fun _ _ _ => rfl, fun _ _ _ => rfl, fun _ _ _ => rfl, fun _ _ _ => rfl, fun _ _ _ => rfl, fun _ _ _ => rfl, fun _ _ _ => rfl, fun _ _ _ => rfl, fun _ _ _ => rfl, fun _ _ _ => rfl, trivial⟩ (by kernel_rfl) (fun _ h => ⟨fun _ => (0, none, 0), h.drew⟩) ⟨?_, ?_, ?_, ?_, ?_, ?_, ?_, ?_, ?_, ?_, trivial⟩ ?_
    · intro Lx g3 s K hl hh k
      show At 26 ((0, _) :: (1, _) :: Lx) _ _
      refine at_val rfl rfl rfl (r_move rfl) ?_
      exact at_nil k
    · intro Lx g3 s K hl hh k
      show At 26 ((0, _) :: (1, _) :: Lx) _ _
      refine at_val rfl rfl rfl (r_move rfl) ?_
      exact at_nil k
    · intro Lx g3 s K hl hh k
      show At 26 ((11, _) :: (0, _) :: (1, _) :: Lx) _ _
      refine at_val rfl rfl rfl (r_nilCheck rfl) ?_
      exact at_nil k
    · intro Lx g3 s K hl hh k
      show At 26 ((12, _) :: (0, _) :: (1, _) :: Lx) _ _
      refine at_val rfl rfl rfl (r_fieldAddr (fo := 8) Tryd.underlying97 rfl rfl (fun w => ⟨_, Tryd.sizeOf3 w⟩) rfl) ?_
      exact at_nil k
    · intro Lx g3 s K hl hh k
      show At 26 ((13, _) :: (0, _) :: (1, _) :: Lx) _ _
      obtain rfl : s = 0 := by omega
      refine at_val rfl rfl rfl (r_load_cell Tryd.isAgg3 rfl (lens_cell0 (c := (cInt .i64)) (y := x0.f_n) (Upd.again hu_ _) (Lens.comp (Lens.whole _ _) (fun z => { x0 with f_n := z }) (c_colon_reader_f_n x0)) rfl)) ?_
      exact at_nil k
    · intro Lx g3 s K hl hh k
      show At 26 ((0, _) :: (1, _) :: Lx) _ _
      refine at_val rfl rfl rfl (r_move rfl) ?_
      exact at_nil k
    · intro Lx g3 s K hl hh k
      show At 26 ((10, _) :: (0, _) :: (1, _) :: Lx) _ _
      refine at_val rfl rfl rfl (r_nilCheck rfl) ?_
      exact at_nil k
    · intro Lx g3 s K hl hh k
      show At 26 ((16, _) :: (0, _) :: (1, _) :: Lx) _ _
      refine at_val rfl rfl rfl (r_fieldAddr (fo := 0) Tryd.underlying97 rfl rfl (fun w => ⟨_, Tryd.sizeOf89 w⟩) rfl) ?_
      exact at_nil k
    · intro Lx g3 s K hl hh k
      show At 26 ((14, _) :: (17, _) :: (0, _) :: (1, _) :: Lx) _ _
      refine at_val rfl rfl rfl (r_idxArr Tryd.underlying89 Tryd.sizeOf88 rfl rfl h2) ?_
      exact at_nil k
    · intro Lx g3 K k
      show At 26 ((15, _) :: (18, _) :: (0, _) :: (1, _) :: Lx) _ _
      refine at_store (c := (cInt .u16)) (z := x1) (Upd.again hu_ _) (Lens.comp (Lens.comp (Lens.whole _ _) (fun z => { x0 with f_g := z }) (c_colon_reader_f_g x0)) (fun z => vset x0.f_g x0.f_n z) (Lens.vec (cInt .u16) (by decide) x0.f_g x0.f_n h2)) Tryd.sizeOf88 rfl rfl rfl ?_
      exact at_nil k
    intro g3
    show At 26 [(10, _), (11, _), (12, _), (13, _), (14, _), (15, _), (16, _), (17, _), (18, _), (0, _), (1, _)] _ _
    refine at_weak [(0, _)] ⟨rfl, trivial⟩ ?_
    refine at_then_normal ?_
    refine at_seq ?_
    refine at_region ?_
    refine at_val rfl rfl rfl (r_move rfl) ?_
    refine at_val rfl rfl rfl (r_nilCheck rfl) ?_
    refine at_val rfl rfl rfl (r_fieldAddr (fo := 8) Tryd.underlying97 rfl rfl (fun w => ⟨_, Tryd.sizeOf3 w⟩) rfl) ?_
    refine at_val rfl rfl rfl (r_load_cell Tryd.isAgg3 rfl (lens_cell0 (c := (cInt .i64)) (y := ({ x0 with f_g := vset x0.f_g x0.f_n x1 }).f_n) (Upd.again hu_ _) (Lens.comp (Lens.whole _ _) (fun z => { { x0 with f_g := vset x0.f_g x0.f_n x1 } with f_n := z }) (c_colon_reader_f_n ({ x0 with f_g := vset x0.f_g x0.f_n x1 }))) rfl)) ?_
    refine at_val rfl rfl rfl (r_iadd rfl rfl) ?_
    refine at_val rfl rfl rfl (r_nilCheck rfl) ?_
    refine at_val rfl rfl rfl (r_fieldAddr (fo := 8) Tryd.underlying97 rfl rfl (fun w => ⟨_, Tryd.sizeOf3 w⟩) rfl) ?_
    refine at_store (c := (cInt .i64)) (z := wr .i64 ((({ x0 with f_g := vset x0.f_g x0.f_n x1 }).f_n) + 1)) (Upd.again hu_ _) (Lens.comp (Lens.whole _ _) (fun z => { { x0 with f_g := vset x0.f_g x0.f_n x1 } with f_n := z }) (c_colon_reader_f_n ({ x0 with f_g := vset x0.f_g x0.f_n x1 }))) Tryd.sizeOf3 rfl rfl rfl ?_
    refine at_nil ?_
    refine at_weak [] trivial ?_
    refine at_then_normal ?_
    refine at_seq ?_
    refine at_region ?_
    refine at_val rfl rfl rfl (r_assign rfl) ?_
    refine at_nil ?_
    refine at_weak [(4, _)] ⟨rfl, trivial⟩ ?_
    refine at_then_normal ?_
    refine at_ret ?_
    have K := of_some hF
    subst K
    exact at_return1 rfl rfl (fun w1 hw => ⟨rfl, hw⟩)

def colon_reader_tail (x0 : S_colon_reader) (x1 : ByteArray) : Option (Bool × S_colon_reader) :=
  hexes_ReadGroup x1 >>= fun t1 => if (t1.2 == 0) = true then (colon_reader_put x0 t1.1 >>= fun t3 => some (t3.1, t3.2)) else (quad_Parse x1 >>= fun t4 => if (t4.2 == 0) = true then (colon_reader_put x0 (ior .u16 (ishl .u16 (wr .u16 (vget t4.1 0)) 8) (wr .u16 (vget t4.1 1))) >>= fun t7 => if t7.1 = true then (colon_reader_put t7.2 (ior .u16 (ishl .u16 (wr .u16 (vget t4.1 2)) 8) (wr .u16 (vget t4.1 3))) >>= fun t9 => some (t9.1, t9.2)) else (some (false, t7.2))) else (some (false, x0)))
theorem colon_reader_tail_ok (x0 : S_colon_reader) (b0_ : Nat) (x1 : ByteArray) (r : Bool × S_colon_reader) (hF : colon_reader_tail x0 x1 = some r) (w : World) {w0 : World} {H_ G_ : List Ent} {f_ : Ent → List Ent} (hu_ : Upd H_ (cellsE b0_ (Cd.cs c_colon_reader x0) 97) f_ G_) (hw_ : Wd w0 H_ w) (hg_strconv_ErrRange : GV_strconv_ErrRange w0) (hg_strconv_ErrSyntax : GV_strconv_ErrSyntax w0) :
    Calls Tryd.prog 99 #[.pointer (some ⟨b0_, 0, none⟩), .string x1] w (fun e w' => e = .returned (.bool r.1) ∧ Wd w0 (f_ (cellsE b0_ (Cd.cs c_colon_reader r.2) 97)) w') := by
  unfold colon_reader_tail at hF
  refine calls_enter (l := [.pointer (some ⟨b0_, 0, none⟩), .string x1]) Tryd.func99 rfl rfl rfl ?_
  refine at_enter_ptr hu_ hw_ ?_
  refine at_weak [(0, _), (1, _)] ⟨rfl, rfl, trivial⟩ ?_
  refine at_seq ?_
  refine at_region ?_
  refine at_val rfl rfl rfl (r_assign rfl) ?_
  refine at_nil ?_
  refine at_weak [(0, _), (1, _)] ⟨rfl, rfl, trivial⟩ ?_
  refine at_then_normal ?_
  refine at_seq ?_
  refine at_seq ?_
  refine at_region ?_
  refine at_val rfl rfl rfl (r_move rfl) ?_
  obtain ⟨t1, ht1, hF⟩ := of_bindM hF
  refine at_call0 Tryd.func100 rfl (by kernel_rfl) rfl rfl (fun w => hexes_ReadGroup_ok _ _ ht1 w) ?_
  refine at_val rfl rfl rfl (r_move rfl) ?_
  refine at_val rfl rfl rfl (r_extract rfl rfl) ?_
  refine at_val rfl rfl rfl (r_extract rfl rfl) ?_
  refine at_val rfl rfl rfl (r_assign rfl) ?_
  refine at_val rfl rfl rfl (r_assign rfl) ?_
  refine at_nil ?_
  refine at_weak [(0, _), (1, _), (5, _), (6, _)] ⟨rfl, rfl, rfl, rfl, trivial⟩ ?_
  refine at_then_normal ?_
  refine at_seq ?_
  refine at_region ?_
  refine at_val rfl rfl rfl (r_move rfl) ?_
  refine at_val rfl rfl rfl (r_ieql rfl rfl) ?_
  refine at_nil ?_
  refine at_weak [(0, _), (1, _), (5, _), (15, _)] ⟨rfl, rfl, rfl, rfl, trivial⟩ ?_
  refine at_then_normal ?_
  rcases of_ite hF with ⟨h2, hF⟩ | ⟨h2, hF⟩
  · refine at_cond_true rfl h2 ?_
    refine at_seq ?_
    refine at_region ?_
    refine at_val rfl rfl rfl (r_move rfl) ?_
    refine at_val rfl rfl rfl (r_move rfl) ?_
    obtain ⟨t3, ht3, hF⟩ := of_bindM hF
    refine at_callP (E' := cellsE b0_ (Cd.cs c_colon_reader t3.2) 97) Tryd.func101 rfl (by kernel_rfl) rfl rfl (fun w hw => colon_reader_put_ok _ _ _ _ ht3 w (Upd.again hu_ _) hw) ?_
    refine at_val rfl rfl rfl (r_assign rfl) ?_
    refine at_nil ?_
    refine at_weak [(4, _)] ⟨rfl, trivial⟩ ?_
    refine at_then_normal ?_
    refine at_ret ?_
    refine at_then_ret ?_
    have K := of_some hF
    subst K
    exact at_return1 rfl rfl (fun w1 hw => ⟨rfl, hw⟩)
  · refine at_cond_false rfl h2 ?_
    refine at_skip ?_
    refine at_then_normal ?_
    refine at_seq ?_
    refine at_region ?_
    refine at_val rfl rfl rfl (r_move rfl) ?_
    obtain ⟨t4, ht4, hF⟩ := of_bindM hF
    refine at_callB Tryd.func68 rfl (by kernel_rfl) rfl rfl (fun w hw => quad_Parse_ok _ _ ht4 w (hg_strconv_ErrRange.on hw.below) (hg_strconv_ErrSyntax.on hw.below)) ?_
    refine at_val rfl rfl rfl (r_move rfl) ?_
    refine at_val rfl rfl rfl (r_extract rfl rfl) ?_
    refine at_val rfl rfl rfl (r_extract rfl rfl) ?_
    refine at_alloc (cs := Cd.cs (cVec (cInt .u8) 4 (by decide)) (Vector.replicate 4 (0 : Int) : (Vector Int 4))) Tryd.zeroValue47 rfl rfl ?_
    intro b5
    refine at_store (c := (cVec (cInt .u8) 4 (by decide))) (z := t4.1) .z (Lens.whole _ _) Tryd.sizeOf47 rfl rfl rfl ?_
    refine at_val rfl rfl rfl (r_assign rfl) ?_
    refine at_nil ?_
    refine at_weak [(0, _), (7, _), (8, _)] ⟨rfl, rfl, rfl, trivial⟩ ?_
    refine at_then_normal ?_
    refine at_seq ?_
    refine at_region ?_
    refine at_val rfl rfl rfl (r_move rfl) ?_
    refine at_val rfl rfl rfl (r_ieql rfl rfl) ?_
    refine at_val rfl rfl rfl (r_move rfl) ?_
    rcases of_ite hF with ⟨h6, hF⟩ | ⟨h6, hF⟩
    · refine at_fix (g := 26) rfl h6 ?_
      refine at_guard_yes rfl rfl rfl ?_
      refine at_val rfl rfl rfl (r_move rfl) ?_
      refine at_guard_yes rfl rfl rfl ?_
      refine at_val rfl rfl rfl (r_idxArr Tryd.underlying47 Tryd.sizeOf5 rfl rfl (by decide)) ?_
      refine at_guard_yes rfl rfl rfl ?_
      refine at_val rfl rfl rfl (r_load_cell Tryd.isAgg5 rfl (lens_cell0 (c := (cInt .u8)) (y := vget t4.1 0) .z (Lens.comp (Lens.whole _ _) (fun z => vset t4.1 0 z) (Lens.vec (cInt .u8) (by decide) t4.1 0 (by decide))) rfl)) ?_
      refine at_guard_yes rfl rfl rfl ?_
      refine at_val rfl rfl rfl (r_conv Tryd.underlying5 Tryd.underlying88 rfl) ?_
      refine at_guard_yes rfl rfl rfl ?_
      refine at_val rfl rfl rfl (r_ishl rfl rfl (by decide)) ?_
      refine at_guard_yes rfl rfl rfl ?_
      refine at_val rfl rfl rfl (r_idxArr Tryd.underlying47 Tryd.sizeOf5 rfl rfl (by decide)) ?_
      refine at_guard_yes rfl rfl rfl ?_
      refine at_val rfl rfl rfl (r_load_cell Tryd.isAgg5 rfl (lens_cell0 (c := (cInt .u8)) (y := vget t4.1 1) .z (Lens.comp (Lens.whole _ _) (fun z => vset t4.1 1 z) (Lens.vec (cInt .u8) (by decide) t4.1 1 (by decide))) rfl)) ?_
      refine at_guard_yes rfl rfl rfl ?_
      refine at_val rfl rfl rfl (r_conv Tryd.underlying5 Tryd.underlying88 rfl) ?_
      refine at_guard_yes rfl rfl rfl ?_
      refine at_val rfl rfl rfl (r_ior rfl rfl) ?_
      refine at_guard_yes rfl rfl rfl ?_
      obtain ⟨t7, ht7, hF⟩ := of_bindM hF
      refine at_callP (E' := cellsE b0_ (Cd.cs c_colon_reader t7.2) 97) Tryd.func101 rfl (by kernel_rfl) rfl rfl (fun w hw => colon_reader_put_ok _ _ _ _ ht7 w (.s (Upd.again hu_ _)) hw) ?_
      refine at_val rfl rfl rfl (r_pick rfl rfl rfl) ?_
      refine at_val rfl rfl rfl (r_move rfl) ?_
      rcases of_ite hF with ⟨h8, hF⟩ | ⟨h8, hF⟩
      · refine at_fix (g := 38) rfl h8 ?_
        refine at_guard_yes rfl rfl rfl ?_
        refine at_val rfl rfl rfl (r_move rfl) ?_
        refine at_guard_yes rfl rfl rfl ?_
        refine at_val rfl rfl rfl (r_idxArr Tryd.underlying47 Tryd.sizeOf5 rfl rfl (by decide)) ?_
        refine at_guard_yes rfl rfl rfl ?_
        refine at_val rfl rfl rfl (r_load_cell Tryd.isAgg5 rfl (lens_cell0 (c := (cInt .u8)) (y := vget t4.1 2) .z (Lens.comp (Lens.whole _ _) (fun z => vset t4.1 2 z) (Lens.vec (cInt .u8) (by decide) t4.1 2 (by decide))) rfl)) ?_
        refine at_guard_yes rfl rfl rfl ?_
        refine at_val rfl rfl rfl (r_conv Tryd.underlying5 Tryd.underlying88 rfl) ?_
        refine at_guard_yes rfl rfl rfl ?_
        refine at_val rfl rfl rfl (r_ishl rfl rfl (by decide)) ?_
        refine at_guard_yes rfl rfl rfl ?_
        refine at_val rfl rfl rfl (r_idxArr Tryd.underlying47 Tryd.sizeOf5 rfl rfl (by decide)) ?_
        refine at_guard_yes rfl rfl rfl ?_
        refine at_val rfl rfl rfl (r_load_cell Tryd.isAgg5 rfl (lens_cell0 (c := (cInt .u8)) (y := vget t4.1 3) .z (Lens.comp (Lens.whole _ _) (fun z => vset t4.1 3 z) (Lens.vec (cInt .u8) (by decide) t4.1 3 (by decide))) rfl)) ?_
        refine at_guard_yes rfl rfl rfl ?_
        refine at_val rfl rfl rfl (r_conv Tryd.underlying5 Tryd.underlying88 rfl) ?_
        refine at_guard_yes rfl rfl rfl ?_
        refine at_val rfl rfl rfl (r_ior rfl rfl) ?_
        refine at_guard_yes rfl rfl rfl ?_
        obtain ⟨t9, ht9, hF⟩ := of_bindM hF
        refine at_callP (E' := cellsE b0_ (Cd.cs c_colon_reader t9.2) 97) Tryd.func101 rfl (by kernel_rfl) rfl rfl (fun w hw => colon_reader_put_ok _ _ _ _ ht9 w (.s (Upd.again hu_ _)) hw) ?_
        refine at_val rfl rfl rfl (r_pick rfl rfl rfl) ?_
        refine at_val rfl rfl rfl (r_assign rfl) ?_
        refine at_nil ?_
        refine at_drop (H := _) .z ?_
        refine at_weak [(4, _)] ⟨rfl, trivial⟩ ?_
        refine at_then_normal ?_
        refine at_ret ?_
        have K := of_some hF
        subst K
        exact at_return1 rfl rfl (fun w1 hw => ⟨rfl, hw⟩)
      · refine at_fix (g := 38) rfl h8 ?_
        refine at_guard_no rfl rfl rfl rfl rfl ?_
        refine at_guard_no rfl rfl rfl rfl rfl ?_
        refine at_guard_no rfl rfl rfl rfl rfl ?_
        refine at_guard_no rfl rfl rfl rfl rfl ?_
        refine at_guard_no rfl rfl rfl rfl rfl ?_
        refine at_guard_no rfl rfl rfl rfl rfl ?_
        refine at_guard_no rfl rfl rfl rfl rfl ?_
        refine at_guard_no rfl rfl rfl rfl rfl ?_
        refine at_guard_no rfl rfl rfl rfl rfl ?_
        refine at_guard_no rfl rfl rfl rfl rfl ?_
        refine at_val rfl rfl rfl (r_pick rfl rfl rfl) ?_
        refine at_val rfl rfl rfl (r_assign rfl) ?_
        refine at_nil ?_
        refine at_drop (H := _) .z ?_
        refine at_weak [(4, _)] ⟨rfl, trivial⟩ ?_
        refine at_then_normal ?_
        refine at_ret ?_
        have K := of_some hF
        subst K
        exact at_return1 rfl rfl (fun w1 hw => ⟨rfl, hw⟩)
    · refine at_fix (g := 26) rfl h6 ?_
      refine at_guard_no rfl rfl rfl rfl rfl ?_
      refine at_guard_no rfl rfl rfl rfl rfl ?_
      refine at_guard_no rfl rfl rfl rfl rfl ?_
      refine at_guard_no rfl rfl rfl rfl rfl ?_
      refine at_guard_no rfl rfl rfl rfl rfl ?_
      refine at_guard_no rfl rfl rfl rfl rfl ?_
      refine at_guard_no rfl rfl rfl rfl rfl ?_
      refine at_guard_no rfl rfl rfl rfl rfl ?_
      refine at_guard_no rfl rfl rfl rfl rfl ?_
      refine at_guard_no rfl rfl rfl rfl rfl ?_
      refine at_val rfl rfl rfl (r_pick rfl rfl rfl) ?_
      refine at_val rfl rfl rfl (r_move rfl) ?_
      refine at_guard_no rfl rfl rfl rfl rfl ?_
      refine at_guard_no rfl rfl rfl rfl rfl ?_
      refine at_guard_no rfl rfl rfl rfl rfl ?_
      refine at_guard_no rfl rfl rfl rfl rfl ?_
      refine at_guard_no rfl rfl rfl rfl rfl ?_
      refine at_guard_no rfl rfl rfl rfl rfl ?_
      refine at_guard_no rfl rfl rfl rfl rfl ?_
      refine at_guard_no rfl rfl rfl rfl rfl ?_
      refine at_guard_no rfl rfl rfl rfl rfl ?_
      refine at_guard_no rfl rfl rfl rfl rfl ?_
      refine at_val rfl rfl rfl (r_pick rfl rfl rfl) ?_
      refine at_val rfl rfl rfl (r_assign rfl) ?_
      refine at_nil ?_
      refine at_drop (H := _) .z ?_
      refine at_weak [(4, _)] ⟨rfl, trivial⟩ ?_
      refine at_then_normal ?_
      refine at_ret ?_
      have K := of_some hF
      subst K
      exact at_return1 rfl rfl (fun w1 hw => ⟨rfl, hw⟩)

def colon_reader_read.l0 (i6 : ByteArray) (i7 : S_colon_reader) : Option (Bool × S_colon_reader) :=
  lines_Cut i6 58 >>= fun t8 => if (!t8.2.2) = true then (colon_reader_tail i7 t8.1 >>= fun t10 => some (t10.1, t10.2)) else (hexes_ReadGroup t8.1 >>= fun t11 => if (t11.2 != 0) = true then (some (false, i7)) else (colon_reader_put i7 t11.1 >>= fun t13 => if (!t13.1) = true then (some (false, t13.2)) else (strings_HasPrefix t8.2.1 (⟨#[58]⟩ : ByteArray) >>= fun t15 => if (!t15) = true then (colon_reader_read.l0 t8.2.1 t13.2) else (if (decide (t13.2.f_gap ≥ 0)) = true then (some (false, t13.2)) else (if (0 : Int) ≤ 1 ∧ 1 ≤ (t8.2.1.size : Int) ∧ (t8.2.1.size : Int) ≤ (t8.2.1.size : Int) then if (seq (t8.2.1.extract (Int.toNat 1) (Int.toNat (t8.2.1.size : Int))) (⟨#[]⟩ : ByteArray)) = true then (some (true, { t13.2 with f_gap := t13.2.f_n })) else (colon_reader_read.l0 (t8.2.1.extract (Int.toNat 1) (Int.toNat (t8.2.1.size : Int))) ({ t13.2 with f_gap := t13.2.f_n })) else none)))))
  partial_fixpoint
def colon_reader_read.l1 (i21 : ByteArray) (i22 : S_colon_reader) : Option (Bool × S_colon_reader) :=
  lines_Cut i21 58 >>= fun t23 => if (!t23.2.2) = true then (colon_reader_tail i22 t23.1 >>= fun t25 => some (t25.1, t25.2)) else (hexes_ReadGroup t23.1 >>= fun t26 => if (t26.2 != 0) = true then (some (false, i22)) else (colon_reader_put i22 t26.1 >>= fun t28 => if (!t28.1) = true then (some (false, t28.2)) else (strings_HasPrefix t23.2.1 (⟨#[58]⟩ : ByteArray) >>= fun t30 => if (!t30) = true then (colon_reader_read.l1 t23.2.1 t28.2) else (if (decide (t28.2.f_gap ≥ 0)) = true then (some (false, t28.2)) else (if (0 : Int) ≤ 1 ∧ 1 ≤ (t23.2.1.size : Int) ∧ (t23.2.1.size : Int) ≤ (t23.2.1.size : Int) then if (seq (t23.2.1.extract (Int.toNat 1) (Int.toNat (t23.2.1.size : Int))) (⟨#[]⟩ : ByteArray)) = true then (some (true, { t28.2 with f_gap := t28.2.f_n })) else (colon_reader_read.l1 (t23.2.1.extract (Int.toNat 1) (Int.toNat (t23.2.1.size : Int))) ({ t28.2 with f_gap := t28.2.f_n })) else none)))))
  partial_fixpoint
def colon_reader_read (x0 : S_colon_reader) (x1 : ByteArray) : Option (Bool × S_colon_reader) :=
  strings_HasPrefix x1 (⟨#[58, 58]⟩ : ByteArray) >>= fun t1 => if t1 = true then (if (0 : Int) ≤ 2 ∧ 2 ≤ (x1.size : Int) ∧ (x1.size : Int) ≤ (x1.size : Int) then if (seq (x1.extract (Int.toNat 2) (Int.toNat (x1.size : Int))) (⟨#[]⟩ : ByteArray)) = true then (some (true, { x0 with f_gap := 0 })) else (colon_reader_read.l0 (x1.extract (Int.toNat 2) (Int.toNat (x1.size : Int))) ({ x0 with f_gap := 0 }) >>= fun q5 => some q5) else none) else (colon_reader_read.l1 x1 x0 >>= fun q20 => some q20)
theorem colon_reader_read_ok (x0 : S_colon_reader) (b0_ : Nat) (x1 : ByteArray) (r : Bool × S_colon_reader) (hF : colon_reader_read x0 x1 = some r) (w : World) {w0 : World} {H_ G_ : List Ent} {f_ : Ent → List Ent} (hu_ : Upd H_ (cellsE b0_ (Cd.cs c_colon_reader x0) 97) f_ G_) (hw_ : Wd w0 H_ w) (hg_strconv_ErrRange : GV_strconv_ErrRange w0) (hg_strconv_ErrSyntax : GV_strconv_ErrSyntax w0) :
    Calls Tryd.prog 81 #[.pointer (some ⟨b0_, 0, none⟩), .string x1] w (fun e w' => e = .returned (.bool r.1) ∧ Wd w0 (f_ (cellsE b0_ (Cd.cs c_colon_reader r.2) 97)) w') := by
  unfold colon_reader_read at hF
  refine calls_enter (l := [.pointer (some ⟨b0_, 0, none⟩), .string x1]) Tryd.func81 rfl rfl rfl ?_
  refine at_enter_ptr hu_ hw_ ?_
  refine at_weak [(0, _), (1, _)] ⟨rfl, rfl, trivial⟩ ?_
  refine at_seq ?_
  refine at_region ?_
  refine at_val rfl rfl rfl (r_assign rfl) ?_
  refine at_nil ?_
  refine at_weak [(0, _), (1, _)] ⟨rfl, rfl, trivial⟩ ?_
  refine at_then_normal ?_
  refine at_seq ?_
  refine at_seq ?_
  refine at_region ?_
  refine at_val rfl rfl rfl (r_move rfl) ?_
  obtain ⟨t1, ht1, hF⟩ := of_bindM hF
  refine at_call0 Tryd.func98 rfl (by kernel_rfl) rfl rfl (fun w => strings_HasPrefix_ok _ _ _ ht1 w) ?_
  refine at_nil ?_
  refine at_weak [(0, _), (1, _), (11, _)] ⟨rfl, rfl, rfl, trivial⟩ ?_
  refine at_then_normal ?_
  rcases of_ite hF with ⟨h2, hF⟩ | ⟨h2, hF⟩
  · refine at_cond_true rfl h2 ?_
    refine at_seq ?_
    refine at_region ?_
    refine at_val rfl rfl rfl (r_move rfl) ?_
    refine at_val rfl rfl rfl (r_nilCheck rfl) ?_
    refine at_val rfl rfl rfl (r_fieldAddr (fo := 9) Tryd.underlying97 rfl rfl (fun w => ⟨_, Tryd.sizeOf3 w⟩) rfl) ?_
    refine at_store (c := (cInt .i64)) (z := 0) (Upd.again hu_ _) (Lens.comp (Lens.whole _ _) (fun z => { x0 with f_gap := z }) (c_colon_reader_f_gap x0)) Tryd.sizeOf3 rfl rfl rfl ?_
    refine at_nil ?_
    refine at_weak [(0, _), (1, _)] ⟨rfl, rfl, trivial⟩ ?_
    refine at_then_normal ?_
    refine at_seq ?_
    refine at_region ?_
    refine at_val rfl rfl rfl (r_move rfl) ?_
    obtain ⟨h3, hF⟩ := of_guard hF
    refine at_val rfl rfl rfl (r_slice_str Tryd.underlying9 rfl ⟨_, rfl⟩ rfl h3) ?_
    refine at_val rfl rfl rfl (r_assign rfl) ?_
    refine at_nil ?_
    refine at_weak [(0, _), (1, _)] ⟨rfl, rfl, trivial⟩ ?_
    refine at_then_normal ?_
    refine at_seq ?_
    refine at_region ?_
    refine at_val rfl rfl rfl (r_move rfl) ?_
    refine at_val rfl rfl rfl (r_seql rfl rfl) ?_
    refine at_nil ?_
    refine at_weak [(0, _), (1, _), (18, _)] ⟨rfl, rfl, rfl, trivial⟩ ?_
    refine at_then_normal ?_
    rcases of_ite hF with ⟨h4, hF⟩ | ⟨h4, hF⟩
    · refine at_cond_true rfl h4 ?_
      refine at_seq ?_
      refine at_region ?_
      refine at_val rfl rfl rfl (r_assign rfl) ?_
      refine at_nil ?_
      refine at_weak [(4, _)] ⟨rfl, trivial⟩ ?_
      refine at_then_normal ?_
      refine at_ret ?_
      refine at_then_ret ?_
      have K := of_some hF
      subst K
      exact at_return1 rfl rfl (fun w1 hw => ⟨rfl, hw⟩)
    · refine at_cond_false rfl h4 ?_
      refine at_skip ?_
      refine at_then_normal ?_
      refine at_block ?_
      obtain ⟨q5, hq5, hF⟩ := of_bindM hF
      refine at_weak [(0, _), (1, _)] ⟨rfl, rfl, trivial⟩ ?_
      refine at_loop_only (r := r) (q := q5) ?_ ?_
      · intro K
        refine colon_reader_read.l0.partial_correctness  (motive := fun i6 i7 x => x = r → Round (fun Y => At 63 [(0, .pointer (some ⟨b0_, 0, none⟩)), (1, .string i6)] (Wd w0 (f_ (cellsE b0_ (Cd.cs c_colon_reader i7) 97))) Y) _ _ _) ?_ _ _ _ hq5 K
        · clear K hF
          intro g ih i6 i7 x hF K
          refine at_round ?_
          refine at_block ?_
          refine at_seq ?_
          refine at_region ?_
          refine at_val rfl rfl rfl (r_move rfl) ?_
          obtain ⟨t8, ht8, hF⟩ := of_bindM hF
          refine at_callB Tryd.func67 rfl (by kernel_rfl) rfl rfl (fun w hw => lines_Cut_ok _ _ _ ht8 w) ?_
          refine at_val rfl rfl rfl (r_move rfl) ?_
          refine at_val rfl rfl rfl (r_extract rfl rfl) ?_
          refine at_val rfl rfl rfl (r_extract rfl rfl) ?_
          refine at_val rfl rfl rfl (r_extract rfl rfl) ?_
          refine at_val rfl rfl rfl (r_assign rfl) ?_
          refine at_val rfl rfl rfl (r_assign rfl) ?_
          refine at_val rfl rfl rfl (r_assign rfl) ?_
          refine at_nil ?_
          refine at_weak [(0, _), (5, _), (6, _), (7, _)] ⟨rfl, rfl, rfl, rfl, trivial⟩ ?_
          refine at_then_normal ?_
          refine at_seq ?_
          refine at_seq ?_
          refine at_region ?_
          refine at_val rfl rfl rfl (r_move rfl) ?_
          refine at_val rfl rfl rfl (r_not rfl) ?_
          refine at_nil ?_
          refine at_weak [(0, _), (5, _), (6, _), (26, _)] ⟨rfl, rfl, rfl, rfl, trivial⟩ ?_
          refine at_then_normal ?_
          rcases of_ite hF with ⟨h9, hF⟩ | ⟨h9, hF⟩
          · refine at_cond_true rfl h9 ?_
            refine at_seq ?_
            refine at_region ?_
            refine at_val rfl rfl rfl (r_move rfl) ?_
            refine at_val rfl rfl rfl (r_move rfl) ?_
            obtain ⟨t10, ht10, hF⟩ := of_bindM hF
            refine at_callP (E' := cellsE b0_ (Cd.cs c_colon_reader t10.2) 97) Tryd.func99 rfl (by kernel_rfl) rfl rfl (fun w hw => colon_reader_tail_ok _ _ _ _ ht10 w (Upd.again hu_ _) hw hg_strconv_ErrRange hg_strconv_ErrSyntax) ?_
            refine at_val rfl rfl rfl (r_assign rfl) ?_
            refine at_nil ?_
            refine at_weak [(4, _)] ⟨rfl, trivial⟩ ?_
            refine at_then_normal ?_
            refine at_ret ?_
            refine at_then_ret (at_blk_ret (at_then_ret (at_blk_ret ?_)))
            obtain rfl := of_some hF
            subst K
            exact at_return1 rfl rfl (fun w1 hw => ⟨rfl, hw⟩)
          · refine at_cond_false rfl h9 ?_
            refine at_skip ?_
            refine at_then_normal ?_
            refine at_seq ?_
            refine at_region ?_
            refine at_val rfl rfl rfl (r_move rfl) ?_
            obtain ⟨t11, ht11, hF⟩ := of_bindM hF
            refine at_call0 Tryd.func100 rfl (by kernel_rfl) rfl rfl (fun w => hexes_ReadGroup_ok _ _ ht11 w) ?_
            refine at_val rfl rfl rfl (r_move rfl) ?_
            refine at_val rfl rfl rfl (r_extract rfl rfl) ?_
            refine at_val rfl rfl rfl (r_extract rfl rfl) ?_
            refine at_val rfl rfl rfl (r_assign rfl) ?_
            refine at_val rfl rfl rfl (r_assign rfl) ?_
            refine at_nil ?_
            refine at_weak [(0, _), (6, _), (8, _), (9, _)] ⟨rfl, rfl, rfl, rfl, trivial⟩ ?_
            refine at_then_normal ?_
            refine at_seq ?_
            refine at_seq ?_
            refine at_region ?_
            refine at_val rfl rfl rfl (r_move rfl) ?_
            refine at_val rfl rfl rfl (r_ineq rfl rfl) ?_
            refine at_val rfl rfl rfl (r_move rfl) ?_
            rcases of_ite hF with ⟨h12, hF⟩ | ⟨h12, hF⟩
            · refine at_fix (g := 37) rfl h12 ?_
              refine at_guard_no rfl rfl rfl rfl rfl ?_
              refine at_guard_no rfl rfl rfl rfl rfl ?_
              refine at_guard_no rfl rfl rfl rfl rfl ?_
              refine at_guard_no rfl rfl rfl rfl rfl ?_
              refine at_val rfl rfl rfl (r_pick rfl rfl rfl) ?_
              refine at_nil ?_
              refine at_weak [(0, _), (6, _), (42, _)] ⟨rfl, rfl, rfl, trivial⟩ ?_
              refine at_then_normal ?_
              refine at_cond_true rfl rfl ?_
              refine at_seq ?_
              refine at_region ?_
              refine at_val rfl rfl rfl (r_assign rfl) ?_
              refine at_nil ?_
              refine at_weak [(4, _)] ⟨rfl, trivial⟩ ?_
              refine at_then_normal ?_
              refine at_ret ?_
              refine at_then_ret (at_blk_ret (at_then_ret (at_blk_ret ?_)))
              obtain rfl := of_some hF
              subst K
              exact at_return1 rfl rfl (fun w1 hw => ⟨rfl, hw⟩)
            · refine at_fix (g := 37) rfl h12 ?_
              refine at_guard_yes rfl rfl rfl ?_
              refine at_val rfl rfl rfl (r_move rfl) ?_
              refine at_guard_yes rfl rfl rfl ?_
              refine at_val rfl rfl rfl (r_move rfl) ?_
              refine at_guard_yes rfl rfl rfl ?_
              obtain ⟨t13, ht13, hF⟩ := of_bindM hF
              refine at_callP (E' := cellsE b0_ (Cd.cs c_colon_reader t13.2) 97) Tryd.func101 rfl (by kernel_rfl) rfl rfl (fun w hw => colon_reader_put_ok _ _ _ _ ht13 w (Upd.again hu_ _) hw) ?_
              refine at_guard_yes rfl rfl rfl ?_
              refine at_val rfl rfl rfl (r_not rfl) ?_
              refine at_val rfl rfl rfl (r_pick rfl rfl rfl) ?_
              refine at_nil ?_
              refine at_weak [(0, _), (6, _), (42, _)] ⟨rfl, rfl, rfl, trivial⟩ ?_
              refine at_then_normal ?_
              rcases of_ite hF with ⟨h14, hF⟩ | ⟨h14, hF⟩
              · refine at_cond_true rfl h14 ?_
                refine at_seq ?_
                refine at_region ?_
                refine at_val rfl rfl rfl (r_assign rfl) ?_
                refine at_nil ?_
                refine at_weak [(4, _)] ⟨rfl, trivial⟩ ?_
                refine at_then_normal ?_
                refine at_ret ?_
                refine at_then_ret (at_blk_ret (at_then_ret (at_blk_ret ?_)))
                obtain rfl := of_some hF
                subst K
                exact at_return1 rfl rfl (fun w1 hw => ⟨rfl, hw⟩)
              · refine at_cond_false rfl h14 ?_
                refine at_skip ?_
                refine at_then_normal ?_
                refine at_seq ?_
                refine at_region ?_
                refine at_val rfl rfl rfl (r_move rfl) ?_
                refine at_val rfl rfl rfl (r_assign rfl) ?_
                refine at_nil ?_
                refine at_weak [(0, _), (1, _)] ⟨rfl, rfl, trivial⟩ ?_
                refine at_then_normal ?_
                refine at_seq ?_
                refine at_seq ?_
                refine at_region ?_
                refine at_val rfl rfl rfl (r_move rfl) ?_
                obtain ⟨t15, ht15, hF⟩ := of_bindM hF
                refine at_call0 Tryd.func98 rfl (by kernel_rfl) rfl rfl (fun w => strings_HasPrefix_ok _ _ _ ht15 w) ?_
                refine at_val rfl rfl rfl (r_not rfl) ?_
                refine at_nil ?_
                refine at_weak [(0, _), (1, _), (46, _)] ⟨rfl, rfl, rfl, trivial⟩ ?_
                refine at_then_normal ?_
                rcases of_ite hF with ⟨h16, hF⟩ | ⟨h16, hF⟩
                · refine at_cond_true rfl h16 ?_
                  refine at_exit ?_
                  refine at_then_exit (at_blk_same (at_then_normal ?_))
                  exact at_weak_k (ih _ _ _ hF K) ⟨rfl, rfl, trivial⟩
                · refine at_cond_false rfl h16 ?_
                  refine at_skip ?_
                  refine at_then_normal ?_
                  refine at_seq ?_
                  refine at_seq ?_
                  refine at_region ?_
                  refine at_val rfl rfl rfl (r_move rfl) ?_
                  refine at_val rfl rfl rfl (r_nilCheck rfl) ?_
                  refine at_val rfl rfl rfl (r_fieldAddr (fo := 9) Tryd.underlying97 rfl rfl (fun w => ⟨_, Tryd.sizeOf3 w⟩) rfl) ?_
                  refine at_val rfl rfl rfl (r_load_cell Tryd.isAgg3 rfl (lens_cell0 (c := (cInt .i64)) (y := t13.2.f_gap) (Upd.again hu_ _) (Lens.comp (Lens.whole _ _) (fun z => { t13.2 with f_gap := z }) (c_colon_reader_f_gap t13.2)) rfl)) ?_
                  refine at_val rfl rfl rfl (r_igeq rfl rfl) ?_
                  refine at_nil ?_
                  refine at_weak [(0, _), (1, _), (51, _)] ⟨rfl, rfl, rfl, trivial⟩ ?_
                  refine at_then_normal ?_
                  rcases of_ite hF with ⟨h17, hF⟩ | ⟨h17, hF⟩
                  · refine at_cond_true rfl h17 ?_
                    refine at_seq ?_
                    refine at_region ?_
                    refine at_val rfl rfl rfl (r_assign rfl) ?_
                    refine at_nil ?_
                    refine at_weak [(4, _)] ⟨rfl, trivial⟩ ?_
                    refine at_then_normal ?_
                    refine at_ret ?_
                    refine at_then_ret (at_blk_ret (at_then_ret (at_blk_ret ?_)))
                    obtain rfl := of_some hF
                    subst K
                    exact at_return1 rfl rfl (fun w1 hw => ⟨rfl, hw⟩)
                  · refine at_cond_false rfl h17 ?_
                    refine at_skip ?_
                    refine at_then_normal ?_
                    refine at_seq ?_
                    refine at_region ?_
                    refine at_val rfl rfl rfl (r_move rfl) ?_
                    refine at_val rfl rfl rfl (r_move rfl) ?_
                    refine at_val rfl rfl rfl (r_nilCheck rfl) ?_
                    refine at_val rfl rfl rfl (r_fieldAddr (fo := 8) Tryd.underlying97 rfl rfl (fun w => ⟨_, Tryd.sizeOf3 w⟩) rfl) ?_
                    refine at_val rfl rfl rfl (r_load_cell Tryd.isAgg3 rfl (lens_cell0 (c := (cInt .i64)) (y := t13.2.f_n) (Upd.again hu_ _) (Lens.comp (Lens.whole _ _) (fun z => { t13.2 with f_n := z }) (c_colon_reader_f_n t13.2)) rfl)) ?_
                    refine at_val rfl rfl rfl (r_nilCheck rfl) ?_
                    refine at_val rfl rfl rfl (r_fieldAddr (fo := 9) Tryd.underlying97 rfl rfl (fun w => ⟨_, Tryd.sizeOf3 w⟩) rfl) ?_
                    refine at_store (c := (cInt .i64)) (z := t13.2.f_n) (Upd.again hu_ _) (Lens.comp (Lens.whole _ _) (fun z => { t13.2 with f_gap := z }) (c_colon_reader_f_gap t13.2)) Tryd.sizeOf3 rfl rfl rfl ?_
                    refine at_nil ?_
                    refine at_weak [(0, _), (1, _)] ⟨rfl, rfl, trivial⟩ ?_
                    refine at_then_normal ?_
                    refine at_seq ?_
                    refine at_region ?_
                    refine at_val rfl rfl rfl (r_move rfl) ?_
                    obtain ⟨h18, hF⟩ := of_guard hF
                    refine at_val rfl rfl rfl (r_slice_str Tryd.underlying9 rfl ⟨_, rfl⟩ rfl h18) ?_
                    refine at_val rfl rfl rfl (r_assign rfl) ?_
                    refine at_nil ?_
                    refine at_weak [(0, _), (1, _)] ⟨rfl, rfl, trivial⟩ ?_
                    refine at_then_normal ?_
                    refine at_seq ?_
                    refine at_region ?_
                    refine at_val rfl rfl rfl (r_move rfl) ?_
                    refine at_val rfl rfl rfl (r_seql rfl rfl) ?_
                    refine at_nil ?_
                    refine at_weak [(0, _), (1, _), (62, _)] ⟨rfl, rfl, rfl, trivial⟩ ?_
                    refine at_then_normal ?_
                    rcases of_ite hF with ⟨h19, hF⟩ | ⟨h19, hF⟩
                    · refine at_cond_true rfl h19 ?_
                      refine at_seq ?_
                      refine at_region ?_
                      refine at_val rfl rfl rfl (r_assign rfl) ?_
                      refine at_nil ?_
                      refine at_weak [(4, _)] ⟨rfl, trivial⟩ ?_
                      refine at_then_normal ?_
                      refine at_ret ?_
                      refine at_blk_ret (at_then_ret (at_blk_ret ?_))
                      obtain rfl := of_some hF
                      subst K
                      exact at_return1 rfl rfl (fun w1 hw => ⟨rfl, hw⟩)
                    · refine at_cond_false rfl h19 ?_
                      refine at_skip ?_
                      refine at_blk_normal (at_then_normal ?_)
                      exact at_weak_k (ih _ _ _ hF K) ⟨rfl, rfl, trivial⟩
      · exact of_some hF
  · refine at_cond_false rfl h2 ?_
    refine at_skip ?_
    refine at_then_normal ?_
    refine at_block ?_
    obtain ⟨q20, hq20, hF⟩ := of_bindM hF
    refine at_weak [(0, _), (1, _)] ⟨rfl, rfl, trivial⟩ ?_
    refine at_loop_only (r := r) (q := q20) ?_ ?_
    · intro K
      refine colon_reader_read.l1.partial_correctness  (motive := fun i21 i22 x => x = r → Round (fun Y => At 63 [(0, .pointer (some ⟨b0_, 0, none⟩)), (1, .string i21)] (Wd w0 (f_ (cellsE b0_ (Cd.cs c_colon_reader i22) 97))) Y) _ _ _) ?_ _ _ _ hq20 K
      · clear K hF
        intro g ih i21 i22 x hF K
        refine at_round ?_
        refine at_block ?_
        refine at_seq ?_
        refine at_region ?_
        refine at_val rfl rfl rfl (r_move rfl) ?_
        obtain ⟨t23, ht23, hF⟩ := of_bindM hF
        refine at_callB Tryd.func67 rfl (by kernel_rfl) rfl rfl (fun w hw => lines_Cut_ok _ _ _ ht23 w) ?_
        refine at_val rfl rfl rfl (r_move rfl) ?_
        refine at_val rfl rfl rfl (r_extract rfl rfl) ?_
        refine at_val rfl rfl rfl (r_extract rfl rfl) ?_
        refine at_val rfl rfl rfl (r_extract rfl rfl) ?_
        refine at_val rfl rfl rfl (r_assign rfl) ?_
        refine at_val rfl rfl rfl (r_assign rfl) ?_
        refine at_val rfl rfl rfl (r_assign rfl) ?_
        refine at_nil ?_
        refine at_weak [(0, _), (5, _), (6, _), (7, _)] ⟨rfl, rfl, rfl, rfl, trivial⟩ ?_
        refine at_then_normal ?_
        refine at_seq ?_
        refine at_seq ?_
        refine at_region ?_
        refine at_val rfl rfl rfl (r_move rfl) ?_
        refine at_val rfl rfl rfl (r_not rfl) ?_
        refine at_nil ?_
        refine at_weak [(0, _), (5, _), (6, _), (26, _)] ⟨rfl, rfl, rfl, rfl, trivial⟩ ?_
        refine at_then_normal ?_
        rcases of_ite hF with ⟨h24, hF⟩ | ⟨h24, hF⟩
        · refine at_cond_true rfl h24 ?_
          refine at_seq ?_
          refine at_region ?_
          refine at_val rfl rfl rfl (r_move rfl) ?_
          refine at_val rfl rfl rfl (r_move rfl) ?_
          obtain ⟨t25, ht25, hF⟩ := of_bindM hF
          refine at_callP (E' := cellsE b0_ (Cd.cs c_colon_reader t25.2) 97) Tryd.func99 rfl (by kernel_rfl) rfl rfl (fun w hw => colon_reader_tail_ok _ _ _ _ ht25 w (Upd.again hu_ _) hw hg_strconv_ErrRange hg_strconv_ErrSyntax) ?_
          refine at_val rfl rfl rfl (r_assign rfl) ?_
          refine at_nil ?_
          refine at_weak [(4, _)] ⟨rfl, trivial⟩ ?_
          refine at_then_normal ?_
          refine at_ret ?_
          refine at_then_ret (at_blk_ret (at_then_ret (at_blk_ret ?_)))
          obtain rfl := of_some hF
          subst K
          exact at_return1 rfl rfl (fun w1 hw => ⟨rfl, hw⟩)
        · refine at_cond_false rfl h24 ?_
          refine at_skip ?_
          refine at_then_normal ?_
          refine at_seq ?_
          refine at_region ?_
          refine at_val rfl rfl rfl (r_move rfl) ?_
          obtain ⟨t26, ht26, hF⟩ := of_bindM hF
          refine at_call0 Tryd.func100 rfl (by kernel_rfl) rfl rfl (fun w => hexes_ReadGroup_ok _ _ ht26 w) ?_
          refine at_val rfl rfl rfl (r_move rfl) ?_
          refine at_val rfl rfl rfl (r_extract rfl rfl) ?_
          refine at_val rfl rfl rfl (r_extract rfl rfl) ?_
          refine at_val rfl rfl rfl (r_assign rfl) ?_
          refine at_val rfl rfl rfl (r_assign rfl) ?_
          refine at_nil ?_
          refine at_weak [(0, _), (6, _), (8, _), (9, _)] ⟨rfl, rfl, rfl, rfl, trivial⟩ ?_
          refine at_then_normal ?_
          refine at_seq ?_
          refine at_seq ?_
          refine at_region ?_
          refine at_val rfl rfl rfl (r_move rfl) ?_
          refine at_val rfl rfl rfl (r_ineq rfl rfl) ?_
          refine at_val rfl rfl rfl (r_move rfl) ?_
          rcases of_ite hF with ⟨h27, hF⟩ | ⟨h27, hF⟩
          · refine at_fix (g := 37) rfl h27 ?_
            refine at_guard_no rfl rfl rfl rfl rfl ?_
            refine at_guard_no rfl rfl rfl rfl rfl ?_
            refine at_guard_no rfl rfl rfl rfl rfl ?_
            refine at_guard_no rfl rfl rfl rfl rfl ?_
            refine at_val rfl rfl rfl (r_pick rfl rfl rfl) ?_
            refine at_nil ?_
            refine at_weak [(0, _), (6, _), (42, _)] ⟨rfl, rfl, rfl, trivial⟩ ?_
            refine at_then_normal ?_
            refine at_cond_true rfl rfl ?_
            refine at_seq ?_
            refine at_region ?_
            refine at_val rfl rfl rfl (r_assign rfl) ?_
            refine at_nil ?_
            refine at_weak [(4, _)] ⟨rfl, trivial⟩ ?_
            refine at_then_normal ?_
            refine at_ret ?_
            refine at_then_ret (at_blk_ret (at_then_ret (at_blk_ret ?_)))
            obtain rfl := of_some hF
            subst K
            exact at_return1 rfl rfl (fun w1 hw => ⟨rfl, hw⟩)
          · refine at_fix (g := 37) rfl h27 ?_
            refine at_guard_yes rfl rfl rfl ?_
            refine at_val rfl rfl rfl (r_move rfl) ?_
            refine at_guard_yes rfl rfl rfl ?_
            refine at_val rfl rfl rfl (r_move rfl) ?_
            refine at_guard_yes rfl rfl rfl ?_
            obtain ⟨t28, ht28, hF⟩ := of_bindM hF
            refine at_callP (E' := cellsE b0_ (Cd.cs c_colon_reader t28.2) 97) Tryd.func101 rfl (by kernel_rfl) rfl rfl (fun w hw => colon_reader_put_ok _ _ _ _ ht28 w (Upd.again hu_ _) hw) ?_
            refine at_guard_yes rfl rfl rfl ?_
            refine at_val rfl rfl rfl (r_not rfl) ?_
            refine at_val rfl rfl rfl (r_pick rfl rfl rfl) ?_
            refine at_nil ?_
            refine at_weak [(0, _), (6, _), (42, _)] ⟨rfl, rfl, rfl, trivial⟩ ?_
            refine at_then_normal ?_
            rcases of_ite hF with ⟨h29, hF⟩ | ⟨h29, hF⟩
            · refine at_cond_true rfl h29 ?_
              refine at_seq ?_
              refine at_region ?_
              refine at_val rfl rfl rfl (r_assign rfl) ?_
              refine at_nil ?_
              refine at_weak [(4, _)] ⟨rfl, trivial⟩ ?_
              refine at_then_normal ?_
              refine at_ret ?_
              refine at_then_ret (at_blk_ret (at_then_ret (at_blk_ret ?_)))
              obtain rfl := of_some hF
              subst K
              exact at_return1 rfl rfl (fun w1 hw => ⟨rfl, hw⟩)
            · refine at_cond_false rfl h29 ?_
              refine at_skip ?_
              refine at_then_normal ?_
              refine at_seq ?_
              refine at_region ?_
              refine at_val rfl rfl rfl (r_move rfl) ?_
              refine at_val rfl rfl rfl (r_assign rfl) ?_
              refine at_nil ?_
              refine at_weak [(0, _), (1, _)] ⟨rfl, rfl, trivial⟩ ?_
              refine at_then_normal ?_
              refine at_seq ?_
              refine at_seq ?_
              refine at_region ?_
              refine at_val rfl rfl rfl (r_move rfl) ?_
              obtain ⟨t30, ht30, hF⟩ := of_bindM hF
              refine at_call0 Tryd.func98 rfl (by kernel_rfl) rfl rfl (fun w => strings_HasPrefix_ok _ _ _ ht30 w) ?_
              refine at_val rfl rfl rfl (r_not rfl) ?_
              refine at_nil ?_
              refine at_weak [(0, _), (1, _), (46, _)] ⟨rfl, rfl, rfl, trivial⟩ ?_
              refine at_then_normal ?_
              rcases of_ite hF with ⟨h31, hF⟩ | ⟨h31, hF⟩
              · refine at_cond_true rfl h31 ?_
                refine at_exit ?_
                refine at_then_exit (at_blk_same (at_then_normal ?_))
                exact at_weak_k (ih _ _ _ hF K) ⟨rfl, rfl, trivial⟩
              · refine at_cond_false rfl h31 ?_
                refine at_skip ?_
                refine at_then_normal ?_
                refine at_seq ?_
                refine at_seq ?_
                refine at_region ?_
                refine at_val rfl rfl rfl (r_move rfl) ?_
                refine at_val rfl rfl rfl (r_nilCheck rfl) ?_
                refine at_val rfl rfl rfl (r_fieldAddr (fo := 9) Tryd.underlying97 rfl rfl (fun w => ⟨_, Tryd.sizeOf3 w⟩) rfl) ?_
                refine at_val rfl rfl rfl (r_load_cell Tryd.isAgg3 rfl (lens_cell0 (c := (cInt .i64)) (y := t28.2.f_gap) (Upd.again hu_ _) (Lens.comp (Lens.whole _ _) (fun z => { t28.2 with f_gap := z }) (c_colon_reader_f_gap t28.2)) rfl)) ?_
                refine at_val rfl rfl rfl (r_igeq rfl rfl) ?_
                refine at_nil ?_
                refine at_weak [(0, _), (1, _), (51, _)] ⟨rfl, rfl, rfl, trivial⟩ ?_
                refine at_then_normal ?_
                rcases of_ite hF with ⟨h32, hF⟩ | ⟨h32, hF⟩
                · refine at_cond_true rfl h32 ?_
                  refine at_seq ?_
                  refine at_region ?_
                  refine at_val rfl rfl rfl (r_assign rfl) ?_
                  refine at_nil ?_
                  refine at_weak [(4, _)] ⟨rfl, trivial⟩ ?_
                  refine at_then_normal ?_
                  refine at_ret ?_
                  refine at_then_ret (at_blk_ret (at_then_ret (at_blk_ret ?_)))
                  obtain rfl := of_some hF
                  subst K
                  exact at_return1 rfl rfl (fun w1 hw => ⟨rfl, hw⟩)
                · refine at_cond_false rfl h32 ?_
                  refine at_skip ?_
                  refine at_then_normal ?_
                  refine at_seq ?_
                  refine at_region ?_
                  refine at_val rfl rfl rfl (r_move rfl) ?_
                  refine at_val rfl rfl rfl (r_move rfl) ?_
                  refine at_val rfl rfl rfl (r_nilCheck rfl) ?_
                  refine at_val rfl rfl rfl (r_fieldAddr (fo := 8) Tryd.underlying97 rfl rfl (fun w => ⟨_, Tryd.sizeOf3 w⟩) rfl) ?_
                  refine at_val rfl rfl rfl (r_load_cell Tryd.isAgg3 rfl (lens_cell0 (c := (cInt .i64)) (y := t28.2.f_n) (Upd.again hu_ _) (Lens.comp (Lens.whole _ _) (fun z => { t28.2 with f_n := z }) (c_colon_reader_f_n t28.2)) rfl)) ?_
                  refine at_val rfl rfl rfl (r_nilCheck rfl) ?_
                  refine at_val rfl rfl rfl (r_fieldAddr (fo := 9) Tryd.underlying97 rfl rfl (fun w => ⟨_, Tryd.sizeOf3 w⟩) rfl) ?_
                  refine at_store (c := (cInt .i64)) (z := t28.2.f_n) (Upd.again hu_ _) (Lens.comp (Lens.whole _ _) (fun z => { t28.2 with f_gap := z }) (c_colon_reader_f_gap t28.2)) Tryd.sizeOf3 rfl rfl rfl ?_
                  refine at_nil ?_
                  refine at_weak [(0, _), (1, _)] ⟨rfl, rfl, trivial⟩ ?_
                  refine at_then_normal ?_
                  refine at_seq ?_
                  refine at_region ?_
                  refine at_val rfl rfl rfl (r_move rfl) ?_
                  obtain ⟨h33, hF⟩ := of_guard hF
                  refine at_val rfl rfl rfl (r_slice_str Tryd.underlying9 rfl ⟨_, rfl⟩ rfl h33) ?_
                  refine at_val rfl rfl rfl (r_assign rfl) ?_
                  refine at_nil ?_
                  refine at_weak [(0, _), (1, _)] ⟨rfl, rfl, trivial⟩ ?_
                  refine at_then_normal ?_
                  refine at_seq ?_
                  refine at_region ?_
                  refine at_val rfl rfl rfl (r_move rfl) ?_
                  refine at_val rfl rfl rfl (r_seql rfl rfl) ?_
                  refine at_nil ?_
                  refine at_weak [(0, _), (1, _), (62, _)] ⟨rfl, rfl, rfl, trivial⟩ ?_
                  refine at_then_normal ?_
                  rcases of_ite hF with ⟨h34, hF⟩ | ⟨h34, hF⟩
                  · refine at_cond_true rfl h34 ?_
                    refine at_seq ?_
                    refine at_region ?_
                    refine at_val rfl rfl rfl (r_assign rfl) ?_
                    refine at_nil ?_
                    refine at_weak [(4, _)] ⟨rfl, trivial⟩ ?_
                    refine at_then_normal ?_
                    refine at_ret ?_
                    refine at_blk_ret (at_then_ret (at_blk_ret ?_))
                    obtain rfl := of_some hF
                    subst K
                    exact at_return1 rfl rfl (fun w1 hw => ⟨rfl, hw⟩)
                  · refine at_cond_false rfl h34 ?_
                    refine at_skip ?_
                    refine at_blk_normal (at_then_normal ?_)
                    exact at_weak_k (ih _ _ _ hF K) ⟨rfl, rfl, trivial⟩
    · exact of_some hF

def colon_reader_spread (x0 : S_colon_reader) : Option ((Vector Int 8) × Bool × S_colon_reader) :=
  if (decide (x0.f_gap < 0)) = true then (some (x0.f_g, (x0.f_n == 8), x0)) else (if (x0.f_n == 8) = true then (some (x0.f_g, false, x0)) else (if (0 : Int) ≤ 0 ∧ 0 ≤ x0.f_gap ∧ x0.f_gap ≤ (8 : Int) then if (0 : Int) ≤ wr .i64 ((wr .i64 (8 - x0.f_n)) + x0.f_gap) ∧ wr .i64 ((wr .i64 (8 - x0.f_n)) + x0.f_gap) ≤ 8 ∧ 8 ≤ (8 : Int) then if (0 : Int) ≤ x0.f_gap ∧ x0.f_gap ≤ x0.f_n ∧ x0.f_n ≤ (8 : Int) then some (vcopy (vcopy (Vector.replicate 8 (0 : Int) : (Vector Int 8)) (Int.toNat 0) (List.take (Int.toNat (8 - 0)) (lsub (Vector.toList x0.f_g) 0 x0.f_gap))) (Int.toNat (wr .i64 ((wr .i64 (8 - x0.f_n)) + x0.f_gap))) (List.take (Int.toNat (8 - wr .i64 ((wr .i64 (8 - x0.f_n)) + x0.f_gap))) (lsub (Vector.toList x0.f_g) x0.f_gap x0.f_n)), true, x0) else none else none else none))
theorem colon_reader_spread_ok (x0 : S_colon_reader) (b0_ : Nat) (r : (Vector Int 8) × Bool × S_colon_reader) (hF : colon_reader_spread x0 = some r) (w : World) {w0 : World} {H_ G_ : List Ent} {f_ : Ent → List Ent} (hu_ : Upd H_ (cellsE b0_ (Cd.cs c_colon_reader x0) 97) f_ G_) (hw_ : Wd w0 H_ w) :
    Calls Tryd.prog 82 #[.pointer (some ⟨b0_, 0, none⟩)] w (fun e w' => e = .returned (.tuple #[.agg (Cd.cs (cVec (cInt .u16) 8 (by decide)) r.1).toArray, .bool r.2.1]) ∧ Wd w0 (f_ (cellsE b0_ (Cd.cs c_colon_reader r.2.2) 97)) w') := by
  unfold colon_reader_spread at hF
  refine calls_enter (l := [.pointer (some ⟨b0_, 0, none⟩)]) Tryd.func82 rfl rfl rfl ?_
  refine at_enter_ptr hu_ hw_ ?_
  refine at_weak [(0, _)] ⟨rfl, trivial⟩ ?_
  refine at_seq ?_
  refine at_region ?_
  refine at_alloc (cs := Cd.cs (cVec (cInt .u16) 8 (by decide)) (Vector.replicate 8 (0 : Int) : (Vector Int 8))) Tryd.zeroValue89 rfl rfl ?_
  intro b1
  refine at_val rfl rfl rfl (r_assign rfl) ?_
  refine at_nil ?_
  refine at_weak [(0, _), (2, _)] ⟨rfl, rfl, trivial⟩ ?_
  refine at_then_normal ?_
  refine at_seq ?_
  refine at_seq ?_
  refine at_region ?_
  refine at_val rfl rfl rfl (r_move rfl) ?_
  refine at_val rfl rfl rfl (r_nilCheck rfl) ?_
  refine at_val rfl rfl rfl (r_fieldAddr (fo := 9) Tryd.underlying97 rfl rfl (fun w => ⟨_, Tryd.sizeOf3 w⟩) rfl) ?_
  refine at_val rfl rfl rfl (r_load_cell Tryd.isAgg3 rfl (lens_cell0 (c := (cInt .i64)) (y := x0.f_gap) (.s (Upd.again hu_ _)) (Lens.comp (Lens.whole _ _) (fun z => { x0 with f_gap := z }) (c_colon_reader_f_gap x0)) rfl)) ?_
  refine at_val rfl rfl rfl (r_ilss rfl rfl) ?_
  refine at_nil ?_
  refine at_weak [(0, _), (2, _), (9, _)] ⟨rfl, rfl, rfl, trivial⟩ ?_
  refine at_then_normal ?_
  rcases of_ite hF with ⟨h2, hF⟩ | ⟨h2, hF⟩
  · refine at_cond_true rfl h2 ?_
    refine at_seq ?_
    refine at_weak [(0, _), (2, _)] ⟨rfl, rfl, trivial⟩ ?_
    refine at_inv [.q 10 (fun g3 => .pointer (some ⟨b0_, 0, none⟩)) [] 0 0, .q 11 (fun g3 => .pointer (some ⟨b0_, 0, none⟩)) [0] 0 0, .q 12 (fun g3 => .pointer (some ⟨b0_, 0 + 0, none⟩)) [1] 0 0, .q 13 (fun g3 => .agg (Cd.cs (cVec (cInt .u16) 8 (by decide)) x0.f_g).toArray) [2] 0 0, .q 14 (fun g3 => .pointer (some ⟨b0_, 0, none⟩)) [] 0 1, .q 15 (fun g3 => .pointer (some ⟨b0_, 0, none⟩)) [4] 0 1, .q 16 (fun g3 => .pointer (some ⟨b0_, 0 + 8, none⟩)) [5] 0 1, .q 17 (fun g3 => .int .i64 x0.f_n) [6] 0 1, .q 18 (fun g3 => .bool (x0.f_n == 8)) [7] 0 1, .st 0 none [3], .q 3 (fun g3 => .bool (x0.f_n == 8)) [8] 1 1] (fun g3 s => match s with | 0 => (Wd w0 (cellsE b1 (Cd.cs (cVec (cInt .u16) 8 (by decide)) (Vector.replicate 8 (0 : Int) : (Vector Int 8))) 89 :: f_ (cellsE b0_ (Cd.cs c_colon_reader x0) 97))) | _ => (Wd w0 (cellsE b1 (Cd.cs (cVec (cInt .u16) 8 (by decide)) x0.f_g) 89 :: f_ (cellsE b0_ (Cd.cs c_colon_reader x0) 97)))) 1 (by kernel_rfl) (by kernel_rfl) (by kernel_rfl) (by kernel_rfl) (by kernel_rfl) ⟨fun _ _ _ => rfl, fun _ _ _ => rfl, fun _ _ _ => rfl, fun _ _ _ => rfl, fun _ _ _ => rfl, fun _ _ _ => rfl, fun _ _ _ => rfl, fun _ _ _ => rfl, fun _ _ _ => rfl, fun _ _ _ => rfl, fun _ _ _ => rfl, trivial⟩ (by kernel_rfl) (fun _ h => ⟨fun _ => (0, none, 0), h.drew⟩) ⟨?_, ?_, ?_, ?_, ?_, ?_, ?_, ?_, ?_, ?_, ?_, trivial⟩ ?_
    · intro Lx g3 s K hl hh k
      show At 63 ((0, _) :: (2, _) :: Lx) _ _
      refine at_val rfl rfl rfl (r_move rfl) ?_
      exact at_nil k
    · intro Lx g3 s K hl hh k
      show At 63 ((10, _) :: (0, _) :: (2, _) :: Lx) _ _
      refine at_val rfl rfl rfl (r_nilCheck rfl) ?_
      exact at_nil k
    · intro Lx g3 s K hl hh k
      show At 63 ((11, _) :: (0, _) :: (2, _) :: Lx) _ _
      refine at_val rfl rfl rfl (r_fieldAddr (fo := 0) Tryd.underlying97 rfl rfl (fun w => ⟨_, Tryd.sizeOf89 w⟩) rfl) ?_
      exact at_nil k
    · intro Lx g3 s K hl hh k
      show At 63 ((12, _) :: (0, _) :: (2, _) :: Lx) _ _
      obtain rfl : s = 0 := by omega
      refine at_val rfl rfl rfl (r_load_aggc (c := (cVec (cInt .u16) 8 (by decide))) (z := x0.f_g) Tryd.isAgg89 Tryd.sizeOf89 rfl (lens_cell (.s (Upd.again hu_ _)) (Lens.comp (Lens.whole _ _) (fun z => { x0 with f_g := z }) (c_colon_reader_f_g x0)))) ?_
      exact at_nil k
    · intro Lx g3 s K hl hh k
      show At 63 ((0, _) :: (2, _) :: Lx) _ _
      refine at_val rfl rfl rfl (r_move rfl) ?_
      exact at_nil k
    · intro Lx g3 s K hl hh k
      show At 63 ((14, _) :: (0, _) :: (2, _) :: Lx) _ _
      refine at_val rfl rfl rfl (r_nilCheck rfl) ?_
      exact at_nil k
    · intro Lx g3 s K hl hh k
      show At 63 ((15, _) :: (0, _) :: (2, _) :: Lx) _ _
      refine at_val rfl rfl rfl (r_fieldAddr (fo := 8) Tryd.underlying97 rfl rfl (fun w => ⟨_, Tryd.sizeOf3 w⟩) rfl) ?_
      exact at_nil k
    · intro Lx g3 s K hl hh k
      show At 63 ((16, _) :: (0, _) :: (2, _) :: Lx) _ _
      rcases (by omega : s = 0 ∨ s = 1) with rfl | rfl
      · skip
        refine at_val rfl rfl rfl (r_load_cell Tryd.isAgg3 rfl (lens_cell0 (c := (cInt .i64)) (y := x0.f_n) (.s (Upd.again hu_ _)) (Lens.comp (Lens.whole _ _) (fun z => { x0 with f_n := z }) (c_colon_reader_f_n x0)) rfl)) ?_
        exact at_nil k
      · skip
        refine at_val rfl rfl rfl (r_load_cell Tryd.isAgg3 rfl (lens_cell0 (c := (cInt .i64)) (y := x0.f_n) (.s (Upd.again hu_ _)) (Lens.comp (Lens.whole _ _) (fun z => { x0 with f_n := z }) (c_colon_reader_f_n x0)) rfl)) ?_
        exact at_nil k
    · intro Lx g3 s K hl hh k
      show At 63 ((17, _) :: (0, _) :: (2, _) :: Lx) _ _
      refine at_val rfl rfl rfl (r_ieql rfl rfl) ?_
      exact at_nil k
    · intro Lx g3 K k
      show At 63 ((13, _) :: (0, _) :: (2, _) :: Lx) _ _
      refine at_store (c := (cVec (cInt .u16) 8 (by decide))) (z := x0.f_g) .z (Lens.whole _ _) Tryd.sizeOf89 rfl rfl rfl ?_
      exact at_nil k
    · intro Lx g3 s K hl hh k
      show At 63 ((18, _) :: (0, _) :: (2, _) :: Lx) _ _
      refine at_val rfl rfl rfl (r_assign rfl) ?_
      exact at_nil k
    intro g3
    show At 63 [(10, _), (11, _), (12, _), (13, _), (14, _), (15, _), (16, _), (17, _), (18, _), (3, _), (0, _), (2, _)] _ _
    refine at_weak [(2, _), (3, _)] ⟨rfl, rfl, trivial⟩ ?_
    refine at_then_normal ?_
    refine at_ret ?_
    refine at_then_ret ?_
    have K := of_some hF
    subst K
    exact at_res2 rfl (res_cell (c := (cVec (cInt .u16) 8 (by decide))) (y := x0.f_g) rfl .z (Lens.whole _ _) Tryd.isAgg89 Tryd.sizeOf89 (.inl rfl)) (res_tmp rfl) (fun w1 hw => ⟨rfl, hw.pop⟩)
  · refine at_cond_false rfl h2 ?_
    refine at_skip ?_
    refine at_then_normal ?_
    refine at_seq ?_
    refine at_seq ?_
    refine at_region ?_
    refine at_val rfl rfl rfl (r_move rfl) ?_
    refine at_val rfl rfl rfl (r_nilCheck rfl) ?_
    refine at_val rfl rfl rfl (r_fieldAddr (fo := 8) Tryd.underlying97 rfl rfl (fun w => ⟨_, Tryd.sizeOf3 w⟩) rfl) ?_
    refine at_val rfl rfl rfl (r_load_cell Tryd.isAgg3 rfl (lens_cell0 (c := (cInt .i64)) (y := x0.f_n) (.s (Upd.again hu_ _)) (Lens.comp (Lens.whole _ _) (fun z => { x0 with f_n := z }) (c_colon_reader_f_n x0)) rfl)) ?_
    refine at_val rfl rfl rfl (r_ieql rfl rfl) ?_
    refine at_nil ?_
    refine at_weak [(0, _), (2, _), (23, _)] ⟨rfl, rfl, rfl, trivial⟩ ?_
    refine at_then_normal ?_
    rcases of_ite hF with ⟨h4, hF⟩ | ⟨h4, hF⟩
    · refine at_cond_true rfl h4 ?_
      refine at_seq ?_
      refine at_region ?_
      refine at_val rfl rfl rfl (r_move rfl) ?_
      refine at_val rfl rfl rfl (r_nilCheck rfl) ?_
      refine at_val rfl rfl rfl (r_fieldAddr (fo := 0) Tryd.underlying97 rfl rfl (fun w => ⟨_, Tryd.sizeOf89 w⟩) rfl) ?_
      refine at_val rfl rfl rfl (r_load_aggc (c := (cVec (cInt .u16) 8 (by decide))) (z := x0.f_g) Tryd.isAgg89 Tryd.sizeOf89 rfl (lens_cell (.s (Upd.again hu_ _)) (Lens.comp (Lens.whole _ _) (fun z => { x0 with f_g := z }) (c_colon_reader_f_g x0)))) ?_
      refine at_store (c := (cVec (cInt .u16) 8 (by decide))) (z := x0.f_g) .z (Lens.whole _ _) Tryd.sizeOf89 rfl rfl rfl ?_
      refine at_val rfl rfl rfl (r_assign rfl) ?_
      refine at_nil ?_
      refine at_weak [(2, _), (3, _)] ⟨rfl, rfl, trivial⟩ ?_
      refine at_then_normal ?_
      refine at_ret ?_
      refine at_then_ret ?_
      have K := of_some hF
      subst K
      exact at_res2 rfl (res_cell (c := (cVec (cInt .u16) 8 (by decide))) (y := x0.f_g) rfl .z (Lens.whole _ _) Tryd.isAgg89 Tryd.sizeOf89 (.inl rfl)) (res_tmp rfl) (fun w1 hw => ⟨rfl, hw.pop⟩)
    · refine at_cond_false rfl h4 ?_
      refine at_skip ?_
      refine at_then_normal ?_
      refine at_seq ?_
      refine at_region ?_
      refine at_alloc (cs := Cd.cs (cVec (cInt .u16) 8 (by decide)) (Vector.replicate 8 (0 : Int) : (Vector Int 8))) Tryd.zeroValue89 rfl rfl ?_
      intro b5
      refine at_nil ?_
      refine at_weak [(0, _), (2, _), (4, _)] ⟨rfl, rfl, rfl, trivial⟩ ?_
      refine at_then_normal ?_
      refine at_seq ?_
      refine at_weak [(0, _), (2, _), (4, _)] ⟨rfl, rfl, rfl, trivial⟩ ?_
      obtain ⟨h6, hF⟩ := of_guard hF
      refine at_inv [.q 28 (fun g7 => .slice (some ⟨b5, 0, none⟩) (Vector.toList (Vector.replicate 8 (0 : Int) : (Vector Int 8))).length 8) [] 0 0, .q 29 (fun g7 => .pointer (some ⟨b0_, 0, none⟩)) [] 0 1, .q 30 (fun g7 => .pointer (some ⟨b0_, 0, none⟩)) [1] 0 1, .q 31 (fun g7 => .pointer (some ⟨b0_, 0 + 0, none⟩)) [2] 0 1, .q 32 (fun g7 => .pointer (some ⟨b0_, 0, none⟩)) [] 0 1, .q 33 (fun g7 => .pointer (some ⟨b0_, 0, none⟩)) [4] 0 1, .q 34 (fun g7 => .pointer (some ⟨b0_, 0 + 9, none⟩)) [5] 0 1, .q 35 (fun g7 => .int .i64 x0.f_gap) [6] 0 1, .q 36 (fun g7 => .slice (rsp (some ⟨b0_, 0 + 0, none⟩) 8 0 (Cd.sz (cInt .u16))) (lsub (Vector.toList x0.f_g) 0 x0.f_gap).length (8 - Int.toNat 0)) [3, 7] 0 0, .st 0 (some (37, fun g7 => .int .i64 (min (List.length (lsub (Vector.toList x0.f_g) 0 x0.f_gap)) (Int.toNat (8 - 0)) : Nat))) [0, 8]] (fun g7 s => match s with | 0 => (Wd w0 (cellsE b5 (Cd.cs (cVec (cInt .u16) 8 (by decide)) (Vector.replicate 8 (0 : Int) : (Vector Int 8))) 89 :: cellsE b1 (Cd.cs (cVec (cInt .u16) 8 (by decide)) (Vector.replicate 8 (0 : Int) : (Vector Int 8))) 89 :: f_ (cellsE b0_ (Cd.cs c_colon_reader x0) 97))) | _ => (Wd w0 (cellsE b5 (Cd.cs (cVec (cInt .u16) 8 (by decide)) (vcopy (Vector.replicate 8 (0 : Int) : (Vector Int 8)) (Int.toNat 0) (List.take (Int.toNat (8 - 0)) (lsub (Vector.toList x0.f_g) 0 x0.f_gap)))) 89 :: cellsE b1 (Cd.cs (cVec (cInt .u16) 8 (by decide)) (Vector.replicate 8 (0 : Int) : (Vector Int 8))) 89 :: f_ (cellsE b0_ (Cd.cs c_colon_reader x0) 97)))) 1 (by kernel_rfl) (by kernel_rfl) (by kernel_rfl) (by kernel_rfl) (by kernel_rfl) ⟨fun _ _ _ => rfl, fun _ _ _ => rfl, fun _ _ _ => rfl, fun _ _ _ => rfl, fun _ _ _ => rfl, fun _ _ _ => rfl, fun _ _ _ => rfl, fun _ _ _ => rfl, fun _ _ _ => rfl, fun _ _ _ => rfl, trivial⟩ (by kernel_rfl) (fun _ h => ⟨fun _ => (0, none, 0), h.drew⟩) ⟨?_, ?_, ?_, ?_, ?_, ?_, ?_, ?_, ?_, ?_, trivial⟩ ?_
      · intro Lx g7 s K hl hh k
        show At 63 ((0, _) :: (2, _) :: (4, _) :: Lx) _ _
        obtain rfl : s = 0 := by omega
        refine at_val rfl rfl rfl (r_slice_vec (Vector.replicate 8 (0 : Int) : (Vector Int 8)) Tryd.underlying89 Tryd.sizeOf88 rfl) ?_
        exact at_nil k
      · intro Lx g7 s K hl hh k
        show At 63 ((0, _) :: (2, _) :: (4, _) :: Lx) _ _
        refine at_val rfl rfl rfl (r_move rfl) ?_
        exact at_nil k
      · intro Lx g7 s K hl hh k
        show At 63 ((29, _) :: (0, _) :: (2, _) :: (4, _) :: Lx) _ _
        refine at_val rfl rfl rfl (r_nilCheck rfl) ?_
        exact at_nil k
      · intro Lx g7 s K hl hh k
        show At 63 ((30, _) :: (0, _) :: (2, _) :: (4, _) :: Lx) _ _
        refine at_val rfl rfl rfl (r_fieldAddr (fo := 0) Tryd.underlying97 rfl rfl (fun w => ⟨_, Tryd.sizeOf89 w⟩) rfl) ?_
        exact at_nil k
      · intro Lx g7 s K hl hh k
        show At 63 ((0, _) :: (2, _) :: (4, _) :: Lx) _ _
        refine at_val rfl rfl rfl (r_move rfl) ?_
        exact at_nil k
      · intro Lx g7 s K hl hh k
        show At 63 ((32, _) :: (0, _) :: (2, _) :: (4, _) :: Lx) _ _
        refine at_val rfl rfl rfl (r_nilCheck rfl) ?_
        exact at_nil k
      · intro Lx g7 s K hl hh k
        show At 63 ((33, _) :: (0, _) :: (2, _) :: (4, _) :: Lx) _ _
        refine at_val rfl rfl rfl (r_fieldAddr (fo := 9) Tryd.underlying97 rfl rfl (fun w => ⟨_, Tryd.sizeOf3 w⟩) rfl) ?_
        exact at_nil k
      · intro Lx g7 s K hl hh k
        show At 63 ((34, _) :: (0, _) :: (2, _) :: (4, _) :: Lx) _ _
        rcases (by omega : s = 0 ∨ s = 1) with rfl | rfl
        · skip
          refine at_val rfl rfl rfl (r_load_cell Tryd.isAgg3 rfl (lens_cell0 (c := (cInt .i64)) (y := x0.f_gap) (.s (.s (Upd.again hu_ _))) (Lens.comp (Lens.whole _ _) (fun z => { x0 with f_gap := z }) (c_colon_reader_f_gap x0)) rfl)) ?_
          exact at_nil k
        · skip
          refine at_val rfl rfl rfl (r_load_cell Tryd.isAgg3 rfl (lens_cell0 (c := (cInt .i64)) (y := x0.f_gap) (.s (.s (Upd.again hu_ _))) (Lens.comp (Lens.whole _ _) (fun z => { x0 with f_gap := z }) (c_colon_reader_f_gap x0)) rfl)) ?_
          exact at_nil k
      · intro Lx g7 s K hl hh k
        show At 63 ((31, _) :: (35, _) :: (0, _) :: (2, _) :: (4, _) :: Lx) _ _
        obtain rfl : s = 0 := by omega
        refine at_val rfl rfl rfl (r_view (c := (cInt .u16)) (v := x0.f_g) (l := 0) (h := x0.f_gap) Tryd.underlying89 Tryd.sizeOf88 rfl rfl ⟨_, rfl⟩ h6) ?_
        exact at_nil k
      · intro Lx g7 K k
        show At 63 ((28, _) :: (36, _) :: (0, _) :: (2, _) :: (4, _) :: Lx) _ _
        refine at_copy (lo := 0) (hi := 8) (xs := lsub (Vector.toList x0.f_g) 0 x0.f_gap) .z (Lens.whole _ _) rfl (by decide) Tryd.underlying94 (by kernel_rfl) rfl (rsp_zero (by decide)) (by simp) rfl rsp_some (fun w1 hw => (Row.sub (lens_row (.s (.s (Upd.again hu_ _))) (Lens.comp (Lens.whole _ _) (fun z => { x0 with f_g := z }) (c_colon_reader_f_g x0)) hw) (vbnd h6))) rfl ?_
        exact at_nil k
      intro g7
      show At 63 [(28, _), (29, _), (30, _), (31, _), (32, _), (33, _), (34, _), (35, _), (36, _), (37, _), (0, _), (2, _), (4, _)] _ _
      refine at_weak [(0, _), (2, _), (4, _)] ⟨rfl, rfl, rfl, trivial⟩ ?_
      refine at_then_normal ?_
      refine at_seq ?_
      refine at_weak [(0, _), (2, _), (4, _)] ⟨rfl, rfl, rfl, trivial⟩ ?_
      obtain ⟨h8, hF⟩ := of_guard hF
      obtain ⟨h9, hF⟩ := of_guard hF
      refine at_inv [.q 38 (fun g10 => .pointer (some ⟨b0_, 0, none⟩)) [] 0 1, .q 39 (fun g10 => .pointer (some ⟨b0_, 0, none⟩)) [0] 0 1, .q 40 (fun g10 => .pointer (some ⟨b0_, 0 + 8, none⟩)) [1] 0 1, .q 41 (fun g10 => .int .i64 x0.f_n) [2] 0 1, .q 42 (fun g10 => .int .i64 (wr .i64 (8 - x0.f_n))) [3] 0 1, .q 43 (fun g10 => .pointer (some ⟨b0_, 0, none⟩)) [] 0 1, .q 44 (fun g10 => .pointer (some ⟨b0_, 0, none⟩)) [5] 0 1, .q 45 (fun g10 => .pointer (some ⟨b0_, 0 + 9, none⟩)) [6] 0 1, .q 46 (fun g10 => .int .i64 x0.f_gap) [7] 0 1, .q 47 (fun g10 => .int .i64 (wr .i64 ((wr .i64 (8 - x0.f_n)) + x0.f_gap))) [4, 8] 0 1, .q 48 (fun g10 => .slice (rsp (some ⟨b5, 0, none⟩) 8 (wr .i64 ((wr .i64 (8 - x0.f_n)) + x0.f_gap)) (Cd.sz (cInt .u16))) (lsub (Vector.toList (vcopy (Vector.replicate 8 (0 : Int) : (Vector Int 8)) (Int.toNat 0) (List.take (Int.toNat (8 - 0)) (lsub (Vector.toList x0.f_g) 0 x0.f_gap)))) (wr .i64 ((wr .i64 (8 - x0.f_n)) + x0.f_gap)) 8).length (8 - Int.toNat (wr .i64 ((wr .i64 (8 - x0.f_n)) + x0.f_gap)))) [9] 0 0, .q 49 (fun g10 => .pointer (some ⟨b0_, 0, none⟩)) [] 0 1, .q 50 (fun g10 => .pointer (some ⟨b0_, 0, none⟩)) [11] 0 1, .q 51 (fun g10 => .pointer (some ⟨b0_, 0 + 0, none⟩)) [12] 0 1, .q 52 (fun g10 => .pointer (some ⟨b0_, 0, none⟩)) [] 0 1, .q 53 (fun g10 => .pointer (some ⟨b0_, 0, none⟩)) [14] 0 1, .q 54 (fun g10 => .pointer (some ⟨b0_, 0 + 9, none⟩)) [15] 0 1, .q 55 (fun g10 => .int .i64 x0.f_gap) [16] 0 1, .q 56 (fun g10 => .pointer (some ⟨b0_, 0, none⟩)) [] 0 1, .q 57 (fun g10 => .pointer (some ⟨b0_, 0, none⟩)) [18] 0 1, .q 58 (fun g10 => .pointer (some ⟨b0_, 0 + 8, none⟩)) [19] 0 1, .q 59 (fun g10 => .int .i64 x0.f_n) [20] 0 1, .q 60 (fun g10 => .slice (rsp (some ⟨b0_, 0 + 0, none⟩) 8 x0.f_gap (Cd.sz (cInt .u16))) (lsub (Vector.toList x0.f_g) x0.f_gap x0.f_n).length (8 - Int.toNat x0.f_gap)) [13, 17, 21] 0 0, .st 0 (some (61, fun g10 => .int .i64 (min (List.length (lsub (Vector.toList x0.f_g) x0.f_gap x0.f_n)) (Int.toNat (8 - wr .i64 ((wr .i64 (8 - x0.f_n)) + x0.f_gap))) : Nat))) [10, 22]] (fun g10 s => match s with | 0 => (Wd w0 (cellsE b5 (Cd.cs (cVec (cInt .u16) 8 (by decide)) (vcopy (Vector.replicate 8 (0 : Int) : (Vector Int 8)) (Int.toNat 0) (List.take (Int.toNat (8 - 0)) (lsub (Vector.toList x0.f_g) 0 x0.f_gap)))) 89 :: cellsE b1 (Cd.cs (cVec (cInt .u16) 8 (by decide)) (Vector.replicate 8 (0 : Int) : (Vector Int 8))) 89 :: f_ (cellsE b0_ (Cd.cs c_colon_reader x0) 97))) | _ => (Wd w0 (cellsE b5 (Cd.cs (cVec (cInt .u16) 8 (by decide)) (vcopy (vcopy (Vector.replicate 8 (0 : Int) : (Vector Int 8)) (Int.toNat 0) (List.take (Int.toNat (8 - 0)) (lsub (Vector.toList x0.f_g) 0 x0.f_gap))) (Int.toNat (wr .i64 ((wr .i64 (8 - x0.f_n)) + x0.f_gap))) (List.take (Int.toNat (8 - wr .i64 ((wr .i64 (8 - x0.f_n)) + x0.f_gap))) (lsub (Vector.toList x0.f_g) x0.f_gap x0.f_n)))) 89 :: cellsE b1 (Cd.cs (cVec (cInt .u16) 8 (by decide)) (Vector.replicate 8 (0 : Int) : (Vector Int 8))) 89 :: f_ (cellsE b0_ (Cd.cs c_colon_reader x0) 97)))) 1 (by kernel_rfl) (by kernel_rfl) (by kernel_rfl) (by kernel_rfl) (by kernel_rfl) ⟨fun _ _ _ => rfl, fun _ _ _ => rfl, fun _ _ _ => rfl, fun _ _ _ => rfl, fun _ _ _ => rfl, fun _ _ _ => rfl, fun _ _ _ => rfl, fun _ _ _ => rfl, fun _ _ _ => rfl, fun _ _ _ => rfl, fun _ _ _ => rfl, fun _ _ _ => rfl, fun _ _ _ => rfl, fun _ _ _ => rfl, fun _ _ _ => rfl, fun _ _ _ => rfl, fun _ _ _ => rfl, fun _ _ _ => rfl, fun _ _ _ => rfl, fun _ _ _ => rfl, fun _ _ _ => rfl, fun _ _ _ => rfl, fun _ _ _ => rfl, fun _ _ _ => rfl, trivial⟩ (by kernel_rfl) (fun _ h => ⟨fun _ => (0, none, 0), h.drew⟩) ⟨?_, ?_, ?_, ?_, ?_, ?_, ?_, ?_, ?_, ?_, ?_, ?_, ?_, ?_, ?_, ?_, ?_, ?_, ?_, ?_, ?_, ?_, ?_, ?_, trivial⟩ ?_
      · intro Lx g10 s K hl hh k
        show At 63 ((0, _) :: (2, _) :: (4, _) :: Lx) _ _
        refine at_val rfl rfl rfl (r_move rfl) ?_
        exact at_nil k
      · intro Lx g10 s K hl hh k
        show At 63 ((38, _) :: (0, _) :: (2, _) :: (4, _) :: Lx) _ _
        refine at_val rfl rfl rfl (r_nilCheck rfl) ?_
        exact at_nil k
      · intro Lx g10 s K hl hh k
        show At 63 ((39, _) :: (0, _) :: (2, _) :: (4, _) :: Lx) _ _
        refine at_val rfl rfl rfl (r_fieldAddr (fo := 8) Tryd.underlying97 rfl rfl (fun w => ⟨_, Tryd.sizeOf3 w⟩) rfl) ?_
        exact at_nil k
      · intro Lx g10 s K hl hh k
        show At 63 ((40, _) :: (0, _) :: (2, _) :: (4, _) :: Lx) _ _
        rcases (by omega : s = 0 ∨ s = 1) with rfl | rfl
        · skip
          refine at_val rfl rfl rfl (r_load_cell Tryd.isAgg3 rfl (lens_cell0 (c := (cInt .i64)) (y := x0.f_n) (.s (.s (Upd.again hu_ _))) (Lens.comp (Lens.whole _ _) (fun z => { x0 with f_n := z }) (c_colon_reader_f_n x0)) rfl)) ?_
          exact at_nil k
        · skip
          refine at_val rfl rfl rfl (r_load_cell Tryd.isAgg3 rfl (lens_cell0 (c := (cInt .i64)) (y := x0.f_n) (.s (.s (Upd.again hu_ _))) (Lens.comp (Lens.whole _ _) (fun z => { x0 with f_n := z }) (c_colon_reader_f_n x0)) rfl)) ?_
          exact at_nil k
      · intro Lx g10 s K hl hh k
        show At 63 ((41, _) :: (0, _) :: (2, _) :: (4, _) :: Lx) _ _
        refine at_val rfl rfl rfl (r_isub rfl rfl) ?_
        exact at_nil k
      · intro Lx g10 s K hl hh k
        show At 63 ((0, _) :: (2, _) :: (4, _) :: Lx) _ _
        refine at_val rfl rfl rfl (r_move rfl) ?_
        exact at_nil k
      · intro Lx g10 s K hl hh k
        show At 63 ((43, _) :: (0, _) :: (2, _) :: (4, _) :: Lx) _ _
        refine at_val rfl rfl rfl (r_nilCheck rfl) ?_
        exact at_nil k
      · intro Lx g10 s K hl hh k
        show At 63 ((44, _) :: (0, _) :: (2, _) :: (4, _) :: Lx) _ _
        refine at_val rfl rfl rfl (r_fieldAddr (fo := 9) Tryd.underlying97 rfl rfl (fun w => ⟨_, Tryd.sizeOf3 w⟩) rfl) ?_
        exact at_nil k
      · intro Lx g10 s K hl hh k
        show At 63 ((45, _) :: (0, _) :: (2, _) :: (4, _) :: Lx) _ _
        rcases (by omega : s = 0 ∨ s = 1) with rfl | rfl
        · skip
          refine at_val rfl rfl rfl (r_load_cell Tryd.isAgg3 rfl (lens_cell0 (c := (cInt .i64)) (y := x0.f_gap) (.s (.s (Upd.again hu_ _))) (Lens.comp (Lens.whole _ _) (fun z => { x0 with f_gap := z }) (c_colon_reader_f_gap x0)) rfl)) ?_
          exact at_nil k
        · skip
          refine at_val rfl rfl rfl (r_load_cell Tryd.isAgg3 rfl (lens_cell0 (c := (cInt .i64)) (y := x0.f_gap) (.s (.s (Upd.again hu_ _))) (Lens.comp (Lens.whole _ _) (fun z => { x0 with f_gap := z }) (c_colon_reader_f_gap x0)) rfl)) ?_
          exact at_nil k
      · intro Lx g10 s K hl hh k
        show At 63 ((42, _) :: (46, _) :: (0, _) :: (2, _) :: (4, _) :: Lx) _ _
        refine at_val rfl rfl rfl (r_iadd rfl rfl) ?_
        exact at_nil k
      · intro Lx g10 s K hl hh k
        show At 63 ((47, _) :: (0, _) :: (2, _) :: (4, _) :: Lx) _ _
        obtain rfl : s = 0 := by omega
        refine at_val rfl rfl rfl (r_view (c := (cInt .u16)) (v := vcopy (Vector.replicate 8 (0 : Int) : (Vector Int 8)) (Int.toNat 0) (List.take (Int.toNat (8 - 0)) (lsub (Vector.toList x0.f_g) 0 x0.f_gap))) (l := wr .i64 ((wr .i64 (8 - x0.f_n)) + x0.f_gap)) (h := 8) Tryd.underlying89 Tryd.sizeOf88 rfl ⟨_, rfl⟩ rfl h8) ?_
        exact at_nil k
      · intro Lx g10 s K hl hh k
        show At 63 ((0, _) :: (2, _) :: (4, _) :: Lx) _ _
        refine at_val rfl rfl rfl (r_move rfl) ?_
        exact at_nil k
      · intro Lx g10 s K hl hh k
        show At 63 ((49, _) :: (0, _) :: (2, _) :: (4, _) :: Lx) _ _
        refine at_val rfl rfl rfl (r_nilCheck rfl) ?_
        exact at_nil k
      · intro Lx g10 s K hl hh k
        show At 63 ((50, _) :: (0, _) :: (2, _) :: (4, _) :: Lx) _ _
        refine at_val rfl rfl rfl (r_fieldAddr (fo := 0) Tryd.underlying97 rfl rfl (fun w => ⟨_, Tryd.sizeOf89 w⟩) rfl) ?_
        exact at_nil k
      · intro Lx g10 s K hl hh k
        show At 63 ((0, _) :: (2, _) :: (4, _) :: Lx) _ _
        refine at_val rfl rfl rfl (r_move rfl) ?_
        exact at_nil k
      · intro Lx g10 s K hl hh k
        show At 63 ((52, _) :: (0, _) :: (2, _) :: (4, _) :: Lx) _ _
        refine at_val rfl rfl rfl (r_nilCheck rfl) ?_
        exact at_nil k
      · intro Lx g10 s K hl hh k
        show At 63 ((53, _) :: (0, _) :: (2, _) :: (4, _) :: Lx) _ _
        refine at_val rfl rfl rfl (r_fieldAddr (fo := 9) Tryd.underlying97 rfl rfl (fun w => ⟨_, Tryd.sizeOf3 w⟩) rfl) ?_
        exact at_nil k
      · intro Lx g10 s K hl hh k
        show At 63 ((54, _) :: (0, _) :: (2, _) :: (4, _) :: Lx) _ _
        rcases (by omega : s = 0 ∨ s = 1) with rfl | rfl
        · skip
          refine at_val rfl rfl rfl (r_load_cell Tryd.isAgg3 rfl (lens_cell0 (c := (cInt .i64)) (y := x0.f_gap) (.s (.s (Upd.again hu_ _))) (Lens.comp (Lens.whole _ _) (fun z => { x0 with f_gap := z }) (c_colon_reader_f_gap x0)) rfl)) ?_
          exact at_nil k
        · skip
          refine at_val rfl rfl rfl (r_load_cell Tryd.isAgg3 rfl (lens_cell0 (c := (cInt .i64)) (y := x0.f_gap) (.s (.s (Upd.again hu_ _))) (Lens.comp (Lens.whole _ _) (fun z => { x0 with f_gap := z }) (c_colon_reader_f_gap x0)) rfl)) ?_
          exact at_nil k
      · intro Lx g10 s K hl hh k
        show At 63 ((0, _) :: (2, _) :: (4, _) :: Lx) _ _
        refine at_val rfl rfl rfl (r_move rfl) ?_
        exact at_nil k
      · intro Lx g10 s K hl hh k
        show At 63 ((56, _) :: (0, _) :: (2, _) :: (4, _) :: Lx) _ _
        refine at_val rfl rfl rfl (r_nilCheck rfl) ?_
        exact at_nil k
      · intro Lx g10 s K hl hh k
        show At 63 ((57, _) :: (0, _) :: (2, _) :: (4, _) :: Lx) _ _
        refine at_val rfl rfl rfl (r_fieldAddr (fo := 8) Tryd.underlying97 rfl rfl (fun w => ⟨_, Tryd.sizeOf3 w⟩) rfl) ?_
        exact at_nil k
      · intro Lx g10 s K hl hh k
        show At 63 ((58, _) :: (0, _) :: (2, _) :: (4, _) :: Lx) _ _
        rcases (by omega : s = 0 ∨ s = 1) with rfl | rfl
        · skip
          refine at_val rfl rfl rfl (r_load_cell Tryd.isAgg3 rfl (lens_cell0 (c := (cInt .i64)) (y := x0.f_n) (.s (.s (Upd.again hu_ _))) (Lens.comp (Lens.whole _ _) (fun z => { x0 with f_n := z }) (c_colon_reader_f_n x0)) rfl)) ?_
          exact at_nil k
        · skip
          refine at_val rfl rfl rfl (r_load_cell Tryd.isAgg3 rfl (lens_cell0 (c := (cInt .i64)) (y := x0.f_n) (.s (.s (Upd.again hu_ _))) (Lens.comp (Lens.whole _ _) (fun z => { x0 with f_n := z }) (c_colon_reader_f_n x0)) rfl)) ?_
          exact at_nil k
      · intro Lx g10 s K hl hh k
        show At 63 ((51, _) :: (55, _) :: (59, _) :: (0, _) :: (2, _) :: (4, _) :: Lx) _ _
        obtain rfl : s = 0 := by omega
        refine at_val rfl rfl rfl (r_view (c := (cInt .u16)) (v := x0.f_g) (l := x0.f_gap) (h := x0.f_n) Tryd.underlying89 Tryd.sizeOf88 rfl ⟨_, rfl⟩ ⟨_, rfl⟩ h9) ?_
        exact at_nil k
      · intro Lx g10 K k
        show At 63 ((48, _) :: (60, _) :: (0, _) :: (2, _) :: (4, _) :: Lx) _ _
        refine at_copy (lo := wr .i64 ((wr .i64 (8 - x0.f_n)) + x0.f_gap)) (hi := 8) (xs := lsub (Vector.toList x0.f_g) x0.f_gap x0.f_n) .z (Lens.whole _ _) rfl h8 Tryd.underlying94 (by kernel_rfl) rfl rfl (lsub_length (vbnd h8)) rfl rsp_some (fun w1 hw => (Row.sub (lens_row (.s (.s (Upd.again hu_ _))) (Lens.comp (Lens.whole _ _) (fun z => { x0 with f_g := z }) (c_colon_reader_f_g x0)) hw) (vbnd h9))) rfl ?_
        exact at_nil k
      intro g10
      show At 63 [(38, _), (39, _), (40, _), (41, _), (42, _), (43, _), (44, _), (45, _), (46, _), (47, _), (48, _), (49, _), (50, _), (51, _), (52, _), (53, _), (54, _), (55, _), (56, _), (57, _), (58, _), (59, _), (60, _), (61, _), (0, _), (2, _), (4, _)] _ _
      refine at_weak [(2, _), (4, _)] ⟨rfl, rfl, trivial⟩ ?_
      refine at_then_normal ?_
      refine at_seq ?_
      refine at_region ?_
      refine at_val rfl rfl rfl (r_load_aggc (c := (cVec (cInt .u16) 8 (by decide))) (z := vcopy (vcopy (Vector.replicate 8 (0 : Int) : (Vector Int 8)) (Int.toNat 0) (List.take (Int.toNat (8 - 0)) (lsub (Vector.toList x0.f_g) 0 x0.f_gap))) (Int.toNat (wr .i64 ((wr .i64 (8 - x0.f_n)) + x0.f_gap))) (List.take (Int.toNat (8 - wr .i64 ((wr .i64 (8 - x0.f_n)) + x0.f_gap))) (lsub (Vector.toList x0.f_g) x0.f_gap x0.f_n))) Tryd.isAgg89 Tryd.sizeOf89 rfl (lens_cell .z (Lens.whole _ _))) ?_
      refine at_store (c := (cVec (cInt .u16) 8 (by decide))) (z := vcopy (vcopy (Vector.replicate 8 (0 : Int) : (Vector Int 8)) (Int.toNat 0) (List.take (Int.toNat (8 - 0)) (lsub (Vector.toList x0.f_g) 0 x0.f_gap))) (Int.toNat (wr .i64 ((wr .i64 (8 - x0.f_n)) + x0.f_gap))) (List.take (Int.toNat (8 - wr .i64 ((wr .i64 (8 - x0.f_n)) + x0.f_gap))) (lsub (Vector.toList x0.f_g) x0.f_gap x0.f_n))) (.s .z) (Lens.whole _ _) Tryd.sizeOf89 rfl rfl rfl ?_
      refine at_val rfl rfl rfl (r_assign rfl) ?_
      refine at_nil ?_
      refine at_drop (H := _) .z ?_
      refine at_weak [(2, _), (3, _)] ⟨rfl, rfl, trivial⟩ ?_
      refine at_then_normal ?_
      refine at_ret ?_
      have K := of_some hF
      subst K
      exact at_res2 rfl (res_cell (c := (cVec (cInt .u16) 8 (by decide))) (y := vcopy (vcopy (Vector.replicate 8 (0 : Int) : (Vector Int 8)) (Int.toNat 0) (List.take (Int.toNat (8 - 0)) (lsub (Vector.toList x0.f_g) 0 x0.f_gap))) (Int.toNat (wr .i64 ((wr .i64 (8 - x0.f_n)) + x0.f_gap))) (List.take (Int.toNat (8 - wr .i64 ((wr .i64 (8 - x0.f_n)) + x0.f_gap))) (lsub (Vector.toList x0.f_g) x0.f_gap x0.f_n))) rfl .z (Lens.whole _ _) Tryd.isAgg89 Tryd.sizeOf89 (.inl rfl)) (res_tmp rfl) (fun w1 hw => ⟨rfl, hw.pop⟩)

def colon_Parse.l0 (t5 : (Vector Int 8) × Bool × S_colon_reader) (i10 : Int) (i11 : (Vector Int 16)) : Option ((Vector Int 16)) :=
  if (decide (i10 < 8)) = true then (if (0 : Int) ≤ i10 ∧ i10 < 8 then if (0 : Int) ≤ wr .i64 (2 * i10) ∧ wr .i64 (2 * i10) < 16 then if (0 : Int) ≤ wr .i64 ((wr .i64 (2 * i10)) + 1) ∧ wr .i64 ((wr .i64 (2 * i10)) + 1) < 16 then colon_Parse.l0 t5 (wr .i64 (i10 + 1)) (vset (vset i11 (wr .i64 (2 * i10)) (wr .u8 (ishr .u16 (vget t5.1 i10) 8))) (wr .i64 ((wr .i64 (2 * i10)) + 1)) (wr .u8 (vget t5.1 i10))) else none else none else none) else (some i11)
  partial_fixpoint
def colon_Parse (x0 : ByteArray) : Option ((Vector Int 16) × Int) :=
  colon_reader_read ({ ({ f_g := (Vector.replicate 8 (0 : Int) : (Vector Int 8)), f_n := (0 : Int), f_gap := (0 : Int) } : S_colon_reader) with f_gap := (-1) }) x0 >>= fun t3 => if (!t3.1) = true then (some ((Vector.replicate 16 (0 : Int) : (Vector Int 16)), 5)) else (colon_reader_spread t3.2 >>= fun t5 => if (!t5.2.1) = true then (some ((Vector.replicate 16 (0 : Int) : (Vector Int 16)), 5)) else (colon_Parse.l0 t5 0 (Vector.replicate 16 (0 : Int) : (Vector Int 16)) >>= fun q9 => some (q9, 0)))
theorem colon_Parse_ok (x0 : ByteArray) (r : (Vector Int 16) × Int) (hF : colon_Parse x0 = some r) (w : World) (hg_strconv_ErrRange : GV_strconv_ErrRange w) (hg_strconv_ErrSyntax : GV_strconv_ErrSyntax w) :
    Calls Tryd.prog 60 #[.string x0] w (fun e w' => e = .returned (.tuple #[.agg (Cd.cs (cVec (cInt .u8) 16 (by decide)) r.1).toArray, .int .i64 r.2]) ∧ Below w.heap.size w w') := by
  unfold colon_Parse at hF
  refine calls_enter (l := [.string x0]) Tryd.func60 rfl rfl rfl ?_
  refine at_start ?_
  refine at_weak [(0, _)] ⟨rfl, trivial⟩ ?_
  refine at_seq ?_
  refine at_region ?_
  refine at_alloc (cs := Cd.cs (cVec (cInt .u8) 16 (by decide)) (Vector.replicate 16 (0 : Int) : (Vector Int 16))) Tryd.zeroValue22 rfl rfl ?_
  intro b1
  refine at_val rfl rfl rfl (r_assign rfl) ?_
  refine at_nil ?_
  refine at_weak [(0, _), (2, _)] ⟨rfl, rfl, trivial⟩ ?_
  refine at_then_normal ?_
  refine at_seq ?_
  refine at_region ?_
  refine at_val rfl rfl rfl (r_build_struct (zs := Cd.cs c_colon_reader ({ f_g := (Vector.replicate 8 (0 : Int) : (Vector Int 8)), f_n := (0 : Int), f_gap := (0 : Int) } : S_colon_reader)) (cs := Cd.cs c_colon_reader ({ ({ f_g := (Vector.replicate 8 (0 : Int) : (Vector Int 8)), f_n := (0 : Int), f_gap := (0 : Int) } : S_colon_reader) with f_gap := (-1) })) Tryd.underlying97 Tryd.zeroValue97 rfl (places_colon_reader_97) rfl (fill_step (c := (cInt .i64)) (z := (-1)) rfl (c_colon_reader_f_gap ({ f_g := (Vector.replicate 8 (0 : Int) : (Vector Int 8)), f_n := (0 : Int), f_gap := (0 : Int) } : S_colon_reader)) rfl rfl)) ?_
  refine at_box (cs := Cd.cs c_colon_reader ({ ({ f_g := (Vector.replicate 8 (0 : Int) : (Vector Int 8)), f_n := (0 : Int), f_gap := (0 : Int) } : S_colon_reader) with f_gap := (-1) })) rfl rfl rfl ?_
  intro b2
  refine at_val rfl rfl rfl (r_assign rfl) ?_
  refine at_nil ?_
  refine at_weak [(0, _), (2, _), (4, _)] ⟨rfl, rfl, rfl, trivial⟩ ?_
  refine at_then_normal ?_
  refine at_seq ?_
  refine at_seq ?_
  refine at_region ?_
  refine at_val rfl rfl rfl (r_move rfl) ?_
  refine at_val rfl rfl rfl (r_move rfl) ?_
  obtain ⟨t3, ht3, hF⟩ := of_bindM hF
  refine at_callP (E' := cellsE b2 (Cd.cs c_colon_reader t3.2) 97) Tryd.func81 rfl (by kernel_rfl) rfl rfl (fun w hw => colon_reader_read_ok _ _ _ _ ht3 w .z hw hg_strconv_ErrRange hg_strconv_ErrSyntax) ?_
  refine at_val rfl rfl rfl (r_not rfl) ?_
  refine at_nil ?_
  refine at_weak [(2, _), (4, _), (15, _)] ⟨rfl, rfl, rfl, trivial⟩ ?_
  refine at_then_normal ?_
  rcases of_ite hF with ⟨h4, hF⟩ | ⟨h4, hF⟩
  · refine at_cond_true rfl h4 ?_
    refine at_seq ?_
    refine at_region ?_
    refine at_val rfl rfl rfl (r_build_array (zs := Cd.cs (cVec (cInt .u8) 16 (by decide)) (Vector.replicate 16 (0 : Int) : (Vector Int 16))) (cs := Cd.cs (cVec (cInt .u8) 16 (by decide)) (Vector.replicate 16 (0 : Int) : (Vector Int 16))) Tryd.underlying22 Tryd.zeroValue22 rfl Tryd.sizeOf5 rfl rfl) ?_
    refine at_store (c := (cVec (cInt .u8) 16 (by decide))) (z := (Vector.replicate 16 (0 : Int) : (Vector Int 16))) (.s .z) (Lens.whole _ _) Tryd.sizeOf22 rfl rfl rfl ?_
    refine at_val rfl rfl rfl (r_assign rfl) ?_
    refine at_nil ?_
    refine at_drop (H := _) .z ?_
    refine at_weak [(2, _), (3, _)] ⟨rfl, rfl, trivial⟩ ?_
    refine at_then_normal ?_
    refine at_ret ?_
    refine at_then_ret ?_
    have K := of_some hF
    subst K
    exact at_res2 rfl (res_cell (c := (cVec (cInt .u8) 16 (by decide))) (y := (Vector.replicate 16 (0 : Int) : (Vector Int 16))) rfl .z (Lens.whole _ _) Tryd.isAgg22 Tryd.sizeOf22 (.inl rfl)) (res_tmp rfl) (fun w1 hw => ⟨rfl, hw.below⟩)
  · refine at_cond_false rfl h4 ?_
    refine at_skip ?_
    refine at_then_normal ?_
    refine at_seq ?_
    refine at_region ?_
    refine at_val rfl rfl rfl (r_move rfl) ?_
    obtain ⟨t5, ht5, hF⟩ := of_bindM hF
    refine at_callP (E' := cellsE b2 (Cd.cs c_colon_reader t5.2.2) 97) Tryd.func82 rfl (by kernel_rfl) rfl rfl (fun w hw => colon_reader_spread_ok _ _ _ ht5 w .z hw) ?_
    refine at_val rfl rfl rfl (r_move rfl) ?_
    refine at_val rfl rfl rfl (r_extract rfl rfl) ?_
    refine at_val rfl rfl rfl (r_extract rfl rfl) ?_
    refine at_alloc (cs := Cd.cs (cVec (cInt .u16) 8 (by decide)) (Vector.replicate 8 (0 : Int) : (Vector Int 8))) Tryd.zeroValue89 rfl rfl ?_
    intro b6
    refine at_store (c := (cVec (cInt .u16) 8 (by decide))) (z := t5.1) .z (Lens.whole _ _) Tryd.sizeOf89 rfl rfl rfl ?_
    refine at_val rfl rfl rfl (r_assign rfl) ?_
    refine at_nil ?_
    refine at_drop (H := _) (.s .z) ?_
    refine at_weak [(2, _), (5, _), (6, _)] ⟨rfl, rfl, rfl, trivial⟩ ?_
    refine at_then_normal ?_
    refine at_seq ?_
    refine at_seq ?_
    refine at_region ?_
    refine at_val rfl rfl rfl (r_move rfl) ?_
    refine at_val rfl rfl rfl (r_not rfl) ?_
    refine at_nil ?_
    refine at_weak [(2, _), (5, _), (23, _)] ⟨rfl, rfl, rfl, trivial⟩ ?_
    refine at_then_normal ?_
    rcases of_ite hF with ⟨h7, hF⟩ | ⟨h7, hF⟩
    · refine at_cond_true rfl h7 ?_
      refine at_seq ?_
      refine at_region ?_
      refine at_val rfl rfl rfl (r_build_array (zs := Cd.cs (cVec (cInt .u8) 16 (by decide)) (Vector.replicate 16 (0 : Int) : (Vector Int 16))) (cs := Cd.cs (cVec (cInt .u8) 16 (by decide)) (Vector.replicate 16 (0 : Int) : (Vector Int 16))) Tryd.underlying22 Tryd.zeroValue22 rfl Tryd.sizeOf5 rfl rfl) ?_
      refine at_store (c := (cVec (cInt .u8) 16 (by decide))) (z := (Vector.replicate 16 (0 : Int) : (Vector Int 16))) (.s .z) (Lens.whole _ _) Tryd.sizeOf22 rfl rfl rfl ?_
      refine at_val rfl rfl rfl (r_assign rfl) ?_
      refine at_nil ?_
      refine at_drop (H := _) .z ?_
      refine at_weak [(2, _), (3, _)] ⟨rfl, rfl, trivial⟩ ?_
      refine at_then_normal ?_
      refine at_ret ?_
      refine at_then_ret ?_
      have K := of_some hF
      subst K
      exact at_res2 rfl (res_cell (c := (cVec (cInt .u8) 16 (by decide))) (y := (Vector.replicate 16 (0 : Int) : (Vector Int 16))) rfl .z (Lens.whole _ _) Tryd.isAgg22 Tryd.sizeOf22 (.inl rfl)) (res_tmp rfl) (fun w1 hw => ⟨rfl, hw.below⟩)
    · refine at_cond_false rfl h7 ?_
      refine at_skip ?_
      refine at_then_normal ?_
      refine at_seq ?_
      refine at_region ?_
      refine at_alloc (cs := Cd.cs (cVec (cInt .u8) 16 (by decide)) (Vector.replicate 16 (0 : Int) : (Vector Int 16))) Tryd.zeroValue22 rfl rfl ?_
      intro b8
      refine at_nil ?_
      refine at_weak [(2, _), (5, _), (7, _)] ⟨rfl, rfl, rfl, trivial⟩ ?_
      refine at_then_normal ?_
      refine at_seq ?_
      refine at_seq ?_
      refine at_region ?_
      refine at_val rfl rfl rfl (r_load_aggc (c := (cVec (cInt .u16) 8 (by decide))) (z := t5.1) Tryd.isAgg89 Tryd.sizeOf89 rfl (lens_cell (.s .z) (Lens.whole _ _))) ?_
      refine at_val rfl rfl rfl (r_move rfl) ?_
      refine at_nil ?_
      refine at_drop (H := _) (.s .z) ?_
      refine at_weak [(2, _), (7, _), (25, _), (26, _)] ⟨rfl, rfl, rfl, rfl, trivial⟩ ?_
      refine at_then_normal ?_
      refine at_block ?_
      obtain ⟨q9, hq9, hF⟩ := of_bindM hF
      refine at_weak [(2, _), (7, _), (25, _), (26, _)] ⟨rfl, rfl, rfl, rfl, trivial⟩ ?_
      refine at_loop_n (B := 0) (A := fun Y => At 44 [(2, .pointer (some ⟨b1, 0, none⟩)), (7, .pointer (some ⟨b8, 0, none⟩))] (Wd w [cellsE b8 (Cd.cs (cVec (cInt .u8) 16 (by decide)) q9) 22, cellsE b1 (Cd.cs (cVec (cInt .u8) 16 (by decide)) (Vector.replicate 16 (0 : Int) : (Vector Int 16))) 22]) Y) ?_ ?_
      · intro K
        refine colon_Parse.l0.partial_correctness t5 (motive := fun i10 i11 x => KN (fun Y => At 44 [(2, .pointer (some ⟨b1, 0, none⟩)), (7, .pointer (some ⟨b8, 0, none⟩))] (Wd w [cellsE b8 (Cd.cs (cVec (cInt .u8) 16 (by decide)) x) 22, cellsE b1 (Cd.cs (cVec (cInt .u8) 16 (by decide)) (Vector.replicate 16 (0 : Int) : (Vector Int 16))) 22]) Y) _ 0 → Round (fun Y => At 44 [(2, .pointer (some ⟨b1, 0, none⟩)), (7, .pointer (some ⟨b8, 0, none⟩)), (25, .agg (Cd.cs (cVec (cInt .u16) 8 (by decide)) t5.1).toArray), (26, .int .i64 i10)] (Wd w [cellsE b8 (Cd.cs (cVec (cInt .u8) 16 (by decide)) i11) 22, cellsE b1 (Cd.cs (cVec (cInt .u8) 16 (by decide)) (Vector.replicate 16 (0 : Int) : (Vector Int 16))) 22]) Y) _ _ _) ?_ _ _ _ hq9 K
        · clear K hF
          intro g ih i10 i11 x hF K
          refine at_round ?_
          refine at_seq ?_
          refine at_region ?_
          refine at_val rfl rfl rfl (r_ilss rfl rfl) ?_
          refine at_nil ?_
          refine at_weak [(2, _), (7, _), (25, _), (26, _), (27, _)] ⟨rfl, rfl, rfl, rfl, rfl, trivial⟩ ?_
          refine at_then_normal ?_
          refine at_seq ?_
          rcases of_ite hF with ⟨h12, hF⟩ | ⟨h12, hF⟩
          · refine at_cond_true rfl h12 ?_
            refine at_skip ?_
            refine at_then_normal ?_
            refine at_seq ?_
            refine at_block ?_
            refine at_seq ?_
            refine at_region ?_
            refine at_val rfl rfl rfl (r_move rfl) ?_
            obtain ⟨h13, hF⟩ := of_guard hF
            refine at_val rfl rfl rfl (r_idxVal Tryd.underlying89 Tryd.sizeOf88 rfl rfl h13 (part_vOf (Lens.vec (cInt .u16) (by decide) t5.1 i10 h13) Tryd.isAgg88 Tryd.sizeOf88 (.inr rfl))) ?_
            refine at_val rfl rfl rfl (r_assign rfl) ?_
            refine at_val rfl rfl rfl (r_assign rfl) ?_
            refine at_nil ?_
            refine at_weak [(2, _), (7, _), (8, _), (9, _), (25, _), (26, _)] ⟨rfl, rfl, rfl, rfl, rfl, rfl, trivial⟩ ?_
            refine at_then_normal ?_
            refine at_region ?_
            refine at_val rfl rfl rfl (r_move rfl) ?_
            refine at_val rfl rfl rfl (r_imul rfl rfl) ?_
            refine at_val rfl rfl rfl (r_move rfl) ?_
            refine at_val rfl rfl rfl (r_imul rfl rfl) ?_
            refine at_val rfl rfl rfl (r_iadd rfl rfl) ?_
            refine at_val rfl rfl rfl (r_move rfl) ?_
            refine at_val rfl rfl rfl (r_ishr rfl rfl (by decide)) ?_
            refine at_val rfl rfl rfl (r_conv Tryd.underlying88 Tryd.underlying5 rfl) ?_
            refine at_val rfl rfl rfl (r_move rfl) ?_
            refine at_val rfl rfl rfl (r_conv Tryd.underlying88 Tryd.underlying5 rfl) ?_
            obtain ⟨h14, hF⟩ := of_guard hF
            refine at_val rfl rfl rfl (r_idxArr Tryd.underlying22 Tryd.sizeOf5 rfl rfl h14) ?_
            refine at_store (c := (cInt .u8)) (z := wr .u8 (ishr .u16 (vget t5.1 i10) 8)) .z (Lens.comp (Lens.whole _ _) (fun z => vset i11 (wr .i64 (2 * i10)) z) (Lens.vec (cInt .u8) (by decide) i11 (wr .i64 (2 * i10)) h14)) Tryd.sizeOf5 rfl rfl rfl ?_
            obtain ⟨h15, hF⟩ := of_guard hF
            refine at_val rfl rfl rfl (r_idxArr Tryd.underlying22 Tryd.sizeOf5 rfl rfl h15) ?_
            refine at_store (c := (cInt .u8)) (z := wr .u8 (vget t5.1 i10)) .z (Lens.comp (Lens.whole _ _) (fun z => vset (vset i11 (wr .i64 (2 * i10)) (wr .u8 (ishr .u16 (vget t5.1 i10) 8))) (wr .i64 ((wr .i64 (2 * i10)) + 1)) z) (Lens.vec (cInt .u8) (by decide) (vset i11 (wr .i64 (2 * i10)) (wr .u8 (ishr .u16 (vget t5.1 i10) 8))) (wr .i64 ((wr .i64 (2 * i10)) + 1)) h15)) Tryd.sizeOf5 rfl rfl rfl ?_
            refine at_nil ?_
            refine at_weak [(2, _), (7, _), (25, _), (26, _)] ⟨rfl, rfl, rfl, rfl, trivial⟩ ?_
            refine at_blk_normal (at_then_normal ?_)
            refine at_region ?_
            refine at_val rfl rfl rfl (r_iadd rfl rfl) ?_
            refine at_val rfl rfl rfl (r_move rfl) ?_
            refine at_nil ?_
            refine at_weak [(2, _), (7, _), (25, _), (26, _)] ⟨rfl, rfl, rfl, rfl, trivial⟩ ?_
            refine at_then_normal ?_
            exact at_weak_k (ih _ _ _ hF K) ⟨rfl, rfl, rfl, rfl, trivial⟩
          · refine at_cond_false rfl h12 ?_
            refine at_exit ?_
            refine at_then_exit (at_then_exit ?_)
            obtain rfl := of_some hF
            exact at_weak_k K ⟨rfl, rfl, trivial⟩
      · skip
        skip
        refine at_blk_same ?_
        refine at_then_normal ?_
        refine at_seq ?_
        refine at_region ?_
        refine at_val rfl rfl rfl (r_load_aggc (c := (cVec (cInt .u8) 16 (by decide))) (z := q9) Tryd.isAgg22 Tryd.sizeOf22 rfl (lens_cell .z (Lens.whole _ _))) ?_
        refine at_store (c := (cVec (cInt .u8) 16 (by decide))) (z := q9) (.s .z) (Lens.whole _ _) Tryd.sizeOf22 rfl rfl rfl ?_
        refine at_val rfl rfl rfl (r_assign rfl) ?_
        refine at_nil ?_
        refine at_drop (H := _) .z ?_
        refine at_weak [(2, _), (3, _)] ⟨rfl, rfl, trivial⟩ ?_
        refine at_then_normal ?_
        refine at_ret ?_
        have K := of_some hF
        subst K
        exact at_res2 rfl (res_cell (c := (cVec (cInt .u8) 16 (by decide))) (y := q9) rfl .z (Lens.whole _ _) Tryd.isAgg22 Tryd.sizeOf22 (.inl rfl)) (res_tmp rfl) (fun w1 hw => ⟨rfl, hw.below⟩)

def crawlwayref09_gap.l0 (x0 : ByteArray) (i2 : Int) : Option (Ctl (Int) (Unit)) :=
  if (decide (wr .i64 (i2 + 1) < (x0.size : Int))) = true then (if (0 : Int) ≤ i2 ∧ i2 < (x0.size : Int) then if (bt x0 i2 == 58) = true then (if (0 : Int) ≤ wr .i64 (i2 + 1) ∧ wr .i64 (i2 + 1) < (x0.size : Int) then if (bt x0 (wr .i64 (i2 + 1)) == 58) = true then (some (.ret i2)) else (crawlwayref09_gap.l0 x0 (wr .i64 (i2 + 1))) else none) else (crawlwayref09_gap.l0 x0 (wr .i64 (i2 + 1))) else none) else (some (.nx ()))
  partial_fixpoint
def crawlwayref09_gap (x0 : ByteArray) : Option (Int) :=
  crawlwayref09_gap.l0 x0 0 >>= fun q1 => match q1 with | .ret r' => some r' | .nx sq1 => (some (-1))
theorem crawlwayref09_gap_ok (x0 : ByteArray) (r : Int) (hF : crawlwayref09_gap x0 = some r) (w : World) :
    Calls Tryd.prog 86 #[.string x0] w (fun e w' => e = .returned (.int .i64 r) ∧ w' = w) := by
  unfold crawlwayref09_gap at hF
  refine calls_enter (l := [.string x0]) Tryd.func86 rfl rfl rfl ?_
  refine at_weak [(0, _)] ⟨rfl, trivial⟩ ?_
  refine at_seq ?_
  refine at_region ?_
  refine at_val rfl rfl rfl (r_assign rfl) ?_
  refine at_nil ?_
  refine at_weak [(0, _)] ⟨rfl, trivial⟩ ?_
  refine at_then_normal ?_
  refine at_seq ?_
  refine at_seq ?_
  refine at_region ?_
  refine at_val rfl rfl rfl (r_assign rfl) ?_
  refine at_nil ?_
  refine at_weak [(0, _), (3, _)] ⟨rfl, rfl, trivial⟩ ?_
  refine at_then_normal ?_
  refine at_block ?_
  obtain ⟨q1, hq1, hF⟩ := of_bindM hF
  refine at_weak [(0, _), (3, _)] ⟨rfl, rfl, trivial⟩ ?_
  refine at_loop_r (B := 0) (r := r) (q := q1) (A := fun (_ : Unit) Y => At 23 [] (fun w' => w' = w) Y) ?_ ?_
  · intro K
    refine crawlwayref09_gap.l0.partial_correctness x0 (motive := fun i2 x => KR (fun (_ : Unit) Y => At 23 [] (fun w' => w' = w) Y) _ 0 r x → Round (fun Y => At 23 [(0, .string x0), (3, .int .i64 i2)] (fun w' => w' = w) Y) _ _ _) ?_ _ _ hq1 K
    · clear K hF
      intro g ih i2 x hF K
      refine at_round ?_
      refine at_seq ?_
      refine at_seq ?_
      refine at_region ?_
      refine at_val rfl rfl rfl (r_move rfl) ?_
      refine at_val rfl rfl rfl (r_iadd rfl rfl) ?_
      refine at_val rfl rfl rfl (r_move rfl) ?_
      refine at_val rfl rfl rfl (r_len_str Tryd.underlying9 rfl) ?_
      refine at_val rfl rfl rfl (r_ilss rfl rfl) ?_
      refine at_nil ?_
      refine at_weak [(0, _), (3, _), (8, _)] ⟨rfl, rfl, rfl, trivial⟩ ?_
      refine at_then_normal ?_
      rcases of_ite hF with ⟨h3, hF⟩ | ⟨h3, hF⟩
      · refine at_cond_true rfl h3 ?_
        refine at_skip ?_
        refine at_then_normal ?_
        refine at_seq ?_
        refine at_block ?_
        refine at_seq ?_
        refine at_region ?_
        refine at_val rfl rfl rfl (r_move rfl) ?_
        refine at_val rfl rfl rfl (r_move rfl) ?_
        obtain ⟨h4, hF⟩ := of_guard hF
        refine at_val rfl rfl rfl (r_index_str Tryd.underlying9 rfl rfl h4) ?_
        refine at_val rfl rfl rfl (r_ieql rfl rfl) ?_
        refine at_val rfl rfl rfl (r_move rfl) ?_
        rcases of_ite hF with ⟨h5, hF⟩ | ⟨h5, hF⟩
        · refine at_fix (g := 15) rfl h5 ?_
          refine at_guard_yes rfl rfl rfl ?_
          refine at_val rfl rfl rfl (r_move rfl) ?_
          refine at_guard_yes rfl rfl rfl ?_
          refine at_val rfl rfl rfl (r_move rfl) ?_
          refine at_guard_yes rfl rfl rfl ?_
          refine at_val rfl rfl rfl (r_iadd rfl rfl) ?_
          refine at_guard_yes rfl rfl rfl ?_
          obtain ⟨h6, hF⟩ := of_guard hF
          refine at_val rfl rfl rfl (r_index_str Tryd.underlying9 rfl rfl h6) ?_
          refine at_guard_yes rfl rfl rfl ?_
          refine at_val rfl rfl rfl (r_ieql rfl rfl) ?_
          refine at_val rfl rfl rfl (r_pick rfl rfl rfl) ?_
          refine at_nil ?_
          refine at_weak [(0, _), (3, _), (21, _)] ⟨rfl, rfl, rfl, trivial⟩ ?_
          refine at_then_normal ?_
          rcases of_ite hF with ⟨h7, hF⟩ | ⟨h7, hF⟩
          · refine at_cond_true rfl h7 ?_
            refine at_seq ?_
            refine at_region ?_
            refine at_val rfl rfl rfl (r_move rfl) ?_
            refine at_val rfl rfl rfl (r_assign rfl) ?_
            refine at_nil ?_
            refine at_weak [(2, _)] ⟨rfl, trivial⟩ ?_
            refine at_then_normal ?_
            refine at_ret ?_
            refine at_blk_ret (at_then_ret (at_then_ret (at_blk_ret (at_then_ret ?_))))
            obtain rfl := of_some hF
            subst K
            exact at_return1 rfl rfl (fun w1 hw => ⟨rfl, hw⟩)
          · refine at_cond_false rfl h7 ?_
            refine at_skip ?_
            refine at_blk_normal (at_then_normal ?_)
            refine at_region ?_
            refine at_val rfl rfl rfl (r_move rfl) ?_
            refine at_val rfl rfl rfl (r_iadd rfl rfl) ?_
            refine at_val rfl rfl rfl (r_assign rfl) ?_
            refine at_nil ?_
            refine at_weak [(0, _), (3, _)] ⟨rfl, rfl, trivial⟩ ?_
            refine at_then_normal ?_
            exact at_weak_k (ih _ _ hF K) ⟨rfl, rfl, trivial⟩
        · refine at_fix (g := 15) rfl h5 ?_
          refine at_guard_no rfl rfl rfl rfl rfl ?_
          refine at_guard_no rfl rfl rfl rfl rfl ?_
          refine at_guard_no rfl rfl rfl rfl rfl ?_
          refine at_guard_no rfl rfl rfl rfl rfl ?_
          refine at_guard_no rfl rfl rfl rfl rfl ?_
          refine at_val rfl rfl rfl (r_pick rfl rfl rfl) ?_
          refine at_nil ?_
          refine at_weak [(0, _), (3, _), (21, _)] ⟨rfl, rfl, rfl, trivial⟩ ?_
          refine at_then_normal ?_
          refine at_cond_false rfl rfl ?_
          refine at_skip ?_
          refine at_blk_normal (at_then_normal ?_)
          refine at_region ?_
          refine at_val rfl rfl rfl (r_move rfl) ?_
          refine at_val rfl rfl rfl (r_iadd rfl rfl) ?_
          refine at_val rfl rfl rfl (r_assign rfl) ?_
          refine at_nil ?_
          refine at_weak [(0, _), (3, _)] ⟨rfl, rfl, trivial⟩ ?_
          refine at_then_normal ?_
          exact at_weak_k (ih _ _ hF K) ⟨rfl, rfl, trivial⟩
      · refine at_cond_false rfl h3 ?_
        refine at_exit ?_
        refine at_then_exit (at_then_exit ?_)
        obtain rfl := of_some hF
        exact at_weak_k K trivial
  · cases q1 with
    | ret r' => exact of_some hF
    | nx sq1 =>
      skip
      refine at_blk_same ?_
      refine at_then_normal ?_
      refine at_seq ?_
      refine at_region ?_
      refine at_val rfl rfl rfl (r_assign rfl) ?_
      refine at_nil ?_
      refine at_weak [(2, _)] ⟨rfl, trivial⟩ ?_
      refine at_then_normal ?_
      refine at_ret ?_
      have K := of_some hF
      subst K
      exact at_return1 rfl rfl (fun w1 hw => ⟨rfl, hw⟩)

def crawlwayref05_digit (x0 : Int) : Option (ByteArray) :=
  if (0 : Int) ≤ x0 ∧ x0 ≤ wr .i64 (x0 + 1) ∧ wr .i64 (x0 + 1) ≤ ((⟨#[48, 49, 50, 51, 52, 53, 54, 55, 56, 57, 97, 98, 99, 100, 101, 102]⟩ : ByteArray).size : Int) then some ((⟨#[48, 49, 50, 51, 52, 53, 54, 55, 56, 57, 97, 98, 99, 100, 101, 102]⟩ : ByteArray).extract (Int.toNat x0) (Int.toNat (wr .i64 (x0 + 1)))) else none
theorem crawlwayref05_digit_ok (x0 : Int) (r : ByteArray) (hF : crawlwayref05_digit x0 = some r) (w : World) :
    Calls Tryd.prog 115 #[.int .i64 x0] w (fun e w' => e = .returned (.string r) ∧ w' = w) := by
  unfold crawlwayref05_digit at hF
  refine calls_enter (l := [.int .i64 x0]) Tryd.func115 rfl rfl rfl ?_
  refine at_weak [(0, _)] ⟨rfl, trivial⟩ ?_
  refine at_seq ?_
  refine at_region ?_
  refine at_val rfl rfl rfl (r_assign rfl) ?_
  refine at_nil ?_
  refine at_weak [(0, _)] ⟨rfl, trivial⟩ ?_
  refine at_then_normal ?_
  refine at_seq ?_
  refine at_region ?_
  refine at_val rfl rfl rfl (r_move rfl) ?_
  refine at_val rfl rfl rfl (r_move rfl) ?_
  refine at_val rfl rfl rfl (r_iadd rfl rfl) ?_
  obtain ⟨h1, hF⟩ := of_guard hF
  refine at_val rfl rfl rfl (r_slice_str Tryd.underlying9 rfl ⟨_, rfl⟩ ⟨_, rfl⟩ h1) ?_
  refine at_val rfl rfl rfl (r_assign rfl) ?_
  refine at_nil ?_
  refine at_weak [(2, _)] ⟨rfl, trivial⟩ ?_
  refine at_then_normal ?_
  refine at_ret ?_
  have K := of_some hF
  subst K
  exact at_return1 rfl rfl (fun w1 hw => ⟨rfl, hw⟩)

def crawlwayref05_Value.l0 (x0 : Int) (x1 : Bool) (i2 : Int) : Option (Ctl (Int) (Unit)) :=
  if (decide (i2 < 16)) = true then (crawlwayref05_digit i2 >>= fun t4 => if (0 : Int) ≤ 0 ∧ 0 < (t4.size : Int) then if (bt t4 0 == x0) = true then (some (.ret i2)) else (if x1 = true then (if (decide (i2 > 9)) = true then (crawlwayref05_digit i2 >>= fun t9 => if (0 : Int) ≤ 0 ∧ 0 < (t9.size : Int) then if (bt t9 0 == wr .u8 (x0 + 32)) = true then (some (.ret i2)) else (crawlwayref05_Value.l0 x0 x1 (wr .i64 (i2 + 1))) else none) else (crawlwayref05_Value.l0 x0 x1 (wr .i64 (i2 + 1)))) else (crawlwayref05_Value.l0 x0 x1 (wr .i64 (i2 + 1)))) else none) else (some (.nx ()))
  partial_fixpoint
def crawlwayref05_Value (x0 : Int) (x1 : Bool) : Option (Int) :=
  crawlwayref05_Value.l0 x0 x1 0 >>= fun q1 => match q1 with | .ret r' => some r' | .nx sq1 => (some (-1))
theorem crawlwayref05_Value_ok (x0 : Int) (x1 : Bool) (r : Int) (hF : crawlwayref05_Value x0 x1 = some r) (w : World) :
    Calls Tryd.prog 116 #[.int .u8 x0, .bool x1] w (fun e w' => e = .returned (.int .i64 r) ∧ w' = w) := by
  unfold crawlwayref05_Value at hF
  refine calls_enter (l := [.int .u8 x0, .bool x1]) Tryd.func116 rfl rfl rfl ?_
  refine at_weak [(0, _), (1, _)] ⟨rfl, rfl, trivial⟩ ?_
  refine at_seq ?_
  refine at_region ?_
  refine at_val rfl rfl rfl (r_assign rfl) ?_
  refine at_nil ?_
  refine at_weak [(0, _), (1, _)] ⟨rfl, rfl, trivial⟩ ?_
  refine at_then_normal ?_
  refine at_seq ?_
  refine at_seq ?_
  refine at_region ?_
  refine at_val rfl rfl rfl (r_assign rfl) ?_
  refine at_nil ?_
  refine at_weak [(0, _), (1, _), (5, _)] ⟨rfl, rfl, rfl, trivial⟩ ?_
  refine at_then_normal ?_
  refine at_block ?_
  obtain ⟨q1, hq1, hF⟩ := of_bindM hF
  refine at_weak [(0, _), (1, _), (5, _)] ⟨rfl, rfl, rfl, trivial⟩ ?_
  refine at_loop_r (B := 0) (r := r) (q := q1) (A := fun (_ : Unit) Y => At 31 [] (fun w' => w' = w) Y) ?_ ?_
  · intro K
    refine crawlwayref05_Value.l0.partial_correctness x0 x1 (motive := fun i2 x => KR (fun (_ : Unit) Y => At 31 [] (fun w' => w' = w) Y) _ 0 r x → Round (fun Y => At 31 [(0, .int .u8 x0), (1, .bool x1), (5, .int .i64 i2)] (fun w' => w' = w) Y) _ _ _) ?_ _ _ hq1 K
    · clear K hF
      intro g ih i2 x hF K
      refine at_round ?_
      refine at_seq ?_
      refine at_seq ?_
      refine at_region ?_
      refine at_val rfl rfl rfl (r_move rfl) ?_
      refine at_val rfl rfl rfl (r_ilss rfl rfl) ?_
      refine at_nil ?_
      refine at_weak [(0, _), (1, _), (5, _), (7, _)] ⟨rfl, rfl, rfl, rfl, trivial⟩ ?_
      refine at_then_normal ?_
      rcases of_ite hF with ⟨h3, hF⟩ | ⟨h3, hF⟩
      · refine at_cond_true rfl h3 ?_
        refine at_skip ?_
        refine at_then_normal ?_
        refine at_seq ?_
        refine at_block ?_
        refine at_seq ?_
        refine at_region ?_
        refine at_val rfl rfl rfl (r_move rfl) ?_
        obtain ⟨t4, ht4, hF⟩ := of_bindM hF
        refine at_call0 Tryd.func115 rfl (by kernel_rfl) rfl rfl (fun w => crawlwayref05_digit_ok _ _ ht4 w) ?_
        obtain ⟨h5, hF⟩ := of_guard hF
        refine at_val rfl rfl rfl (r_index_str Tryd.underlying9 rfl rfl h5) ?_
        refine at_val rfl rfl rfl (r_move rfl) ?_
        refine at_val rfl rfl rfl (r_ieql rfl rfl) ?_
        refine at_val rfl rfl rfl (r_move rfl) ?_
        rcases of_ite hF with ⟨h6, hF⟩ | ⟨h6, hF⟩
        · refine at_fix (g := 15) rfl h6 ?_
          refine at_guard_no rfl rfl rfl rfl rfl ?_
          refine at_guard_no rfl rfl rfl rfl rfl ?_
          refine at_guard_undef rfl rfl rfl rfl ?_
          refine at_guard_undef rfl rfl rfl rfl ?_
          refine at_guard_no rfl rfl rfl rfl rfl ?_
          refine at_guard_no rfl rfl rfl rfl rfl ?_
          refine at_guard_undef rfl rfl rfl rfl ?_
          refine at_guard_undef rfl rfl rfl rfl ?_
          refine at_guard_undef rfl rfl rfl rfl ?_
          refine at_guard_undef rfl rfl rfl rfl ?_
          refine at_guard_undef rfl rfl rfl rfl ?_
          refine at_guard_undef rfl rfl rfl rfl ?_
          refine at_guard_no rfl rfl rfl rfl rfl ?_
          refine at_val rfl rfl rfl (r_pick rfl rfl rfl) ?_
          refine at_nil ?_
          refine at_weak [(0, _), (1, _), (5, _), (29, _)] ⟨rfl, rfl, rfl, rfl, trivial⟩ ?_
          refine at_then_normal ?_
          refine at_cond_true rfl rfl ?_
          refine at_seq ?_
          refine at_region ?_
          refine at_val rfl rfl rfl (r_move rfl) ?_
          refine at_val rfl rfl rfl (r_assign rfl) ?_
          refine at_nil ?_
          refine at_weak [(4, _)] ⟨rfl, trivial⟩ ?_
          refine at_then_normal ?_
          refine at_ret ?_
          refine at_blk_ret (at_then_ret (at_then_ret (at_blk_ret (at_then_ret ?_))))
          obtain rfl := of_some hF
          subst K
          exact at_return1 rfl rfl (fun w1 hw => ⟨rfl, hw⟩)
        · refine at_fix (g := 15) rfl h6 ?_
          refine at_guard_yes rfl rfl rfl ?_
          refine at_val rfl rfl rfl (r_move rfl) ?_
          refine at_guard_yes rfl rfl rfl ?_
          refine at_val rfl rfl rfl (r_move rfl) ?_
          rcases of_ite hF with ⟨h7, hF⟩ | ⟨h7, hF⟩
          · refine at_fix (g := 17) rfl h7 ?_
            refine at_guard_yes rfl rfl rfl ?_
            refine at_val rfl rfl rfl (r_move rfl) ?_
            refine at_guard_yes rfl rfl rfl ?_
            refine at_val rfl rfl rfl (r_igtr rfl rfl) ?_
            refine at_guard_yes rfl rfl rfl ?_
            refine at_val rfl rfl rfl (r_pick rfl rfl rfl) ?_
            refine at_guard_yes rfl rfl rfl ?_
            refine at_val rfl rfl rfl (r_move rfl) ?_
            rcases of_ite hF with ⟨h8, hF⟩ | ⟨h8, hF⟩
            · refine at_fix (g := 21) rfl h8 ?_
              refine at_guard_yes rfl rfl rfl ?_
              refine at_val rfl rfl rfl (r_move rfl) ?_
              refine at_guard_yes rfl rfl rfl ?_
              obtain ⟨t9, ht9, hF⟩ := of_bindM hF
              refine at_call0 Tryd.func115 rfl (by kernel_rfl) rfl rfl (fun w => crawlwayref05_digit_ok _ _ ht9 w) ?_
              refine at_guard_yes rfl rfl rfl ?_
              obtain ⟨h10, hF⟩ := of_guard hF
              refine at_val rfl rfl rfl (r_index_str Tryd.underlying9 rfl rfl h10) ?_
              refine at_guard_yes rfl rfl rfl ?_
              refine at_val rfl rfl rfl (r_move rfl) ?_
              refine at_guard_yes rfl rfl rfl ?_
              refine at_val rfl rfl rfl (r_iadd rfl rfl) ?_
              refine at_guard_yes rfl rfl rfl ?_
              refine at_val rfl rfl rfl (r_ieql rfl rfl) ?_
              refine at_guard_yes rfl rfl rfl ?_
              refine at_val rfl rfl rfl (r_pick rfl rfl rfl) ?_
              refine at_val rfl rfl rfl (r_pick rfl rfl rfl) ?_
              refine at_nil ?_
              refine at_weak [(0, _), (1, _), (5, _), (29, _)] ⟨rfl, rfl, rfl, rfl, trivial⟩ ?_
              refine at_then_normal ?_
              rcases of_ite hF with ⟨h11, hF⟩ | ⟨h11, hF⟩
              · refine at_cond_true rfl h11 ?_
                refine at_seq ?_
                refine at_region ?_
                refine at_val rfl rfl rfl (r_move rfl) ?_
                refine at_val rfl rfl rfl (r_assign rfl) ?_
                refine at_nil ?_
                refine at_weak [(4, _)] ⟨rfl, trivial⟩ ?_
                refine at_then_normal ?_
                refine at_ret ?_
                refine at_blk_ret (at_then_ret (at_then_ret (at_blk_ret (at_then_ret ?_))))
                obtain rfl := of_some hF
                subst K
                exact at_return1 rfl rfl (fun w1 hw => ⟨rfl, hw⟩)
              · refine at_cond_false rfl h11 ?_
                refine at_skip ?_
                refine at_blk_normal (at_then_normal ?_)
                refine at_region ?_
                refine at_val rfl rfl rfl (r_move rfl) ?_
                refine at_val rfl rfl rfl (r_iadd rfl rfl) ?_
                refine at_val rfl rfl rfl (r_assign rfl) ?_
                refine at_nil ?_
                refine at_weak [(0, _), (1, _), (5, _)] ⟨rfl, rfl, rfl, trivial⟩ ?_
                refine at_then_normal ?_
                exact at_weak_k (ih _ _ hF K) ⟨rfl, rfl, rfl, trivial⟩
            · refine at_fix (g := 21) rfl h8 ?_
              refine at_guard_no rfl rfl rfl rfl rfl ?_
              refine at_guard_no rfl rfl rfl rfl rfl ?_
              refine at_guard_no rfl rfl rfl rfl rfl ?_
              refine at_guard_no rfl rfl rfl rfl rfl ?_
              refine at_guard_no rfl rfl rfl rfl rfl ?_
              refine at_guard_no rfl rfl rfl rfl rfl ?_
              refine at_guard_yes rfl rfl rfl ?_
              refine at_val rfl rfl rfl (r_pick rfl rfl rfl) ?_
              refine at_val rfl rfl rfl (r_pick rfl rfl rfl) ?_
              refine at_nil ?_
              refine at_weak [(0, _), (1, _), (5, _), (29, _)] ⟨rfl, rfl, rfl, rfl, trivial⟩ ?_
              refine at_then_normal ?_
              refine at_cond_false rfl rfl ?_
              refine at_skip ?_
              refine at_blk_normal (at_then_normal ?_)
              refine at_region ?_
              refine at_val rfl rfl rfl (r_move rfl) ?_
              refine at_val rfl rfl rfl (r_iadd rfl rfl) ?_
              refine at_val rfl rfl rfl (r_assign rfl) ?_
              refine at_nil ?_
              refine at_weak [(0, _), (1, _), (5, _)] ⟨rfl, rfl, rfl, trivial⟩ ?_
              refine at_then_normal ?_
              exact at_weak_k (ih _ _ hF K) ⟨rfl, rfl, rfl, trivial⟩
          · refine at_fix (g := 17) rfl h7 ?_
            refine at_guard_no rfl rfl rfl rfl rfl ?_
            refine at_guard_no rfl rfl rfl rfl rfl ?_
            refine at_guard_yes rfl rfl rfl ?_
            refine at_val rfl rfl rfl (r_pick rfl rfl rfl) ?_
            refine at_guard_yes rfl rfl rfl ?_
            refine at_val rfl rfl rfl (r_move rfl) ?_
            refine at_guard_no rfl rfl rfl rfl rfl ?_
            refine at_guard_no rfl rfl rfl rfl rfl ?_
            refine at_guard_no rfl rfl rfl rfl rfl ?_
            refine at_guard_no rfl rfl rfl rfl rfl ?_
            refine at_guard_no rfl rfl rfl rfl rfl ?_
            refine at_guard_no rfl rfl rfl rfl rfl ?_
            refine at_guard_yes rfl rfl rfl ?_
            refine at_val rfl rfl rfl (r_pick rfl rfl rfl) ?_
            refine at_val rfl rfl rfl (r_pick rfl rfl rfl) ?_
            refine at_nil ?_
            refine at_weak [(0, _), (1, _), (5, _), (29, _)] ⟨rfl, rfl, rfl, rfl, trivial⟩ ?_
            refine at_then_normal ?_
            refine at_cond_false rfl rfl ?_
            refine at_skip ?_
            refine at_blk_normal (at_then_normal ?_)
            refine at_region ?_
            refine at_val rfl rfl rfl (r_move rfl) ?_
            refine at_val rfl rfl rfl (r_iadd rfl rfl) ?_
            refine at_val rfl rfl rfl (r_assign rfl) ?_
            refine at_nil ?_
            refine at_weak [(0, _), (1, _), (5, _)] ⟨rfl, rfl, rfl, trivial⟩ ?_
            refine at_then_normal ?_
            exact at_weak_k (ih _ _ hF K) ⟨rfl, rfl, rfl, trivial⟩
      · refine at_cond_false rfl h3 ?_
        refine at_exit ?_
        refine at_then_exit (at_then_exit ?_)
        obtain rfl := of_some hF
        exact at_weak_k K trivial
  · cases q1 with
    | ret r' => exact of_some hF
    | nx sq1 =>
      skip
      refine at_blk_same ?_
      refine at_then_normal ?_
      refine at_seq ?_
      refine at_region ?_
      refine at_val rfl rfl rfl (r_assign rfl) ?_
      refine at_nil ?_
      refine at_weak [(4, _)] ⟨rfl, trivial⟩ ?_
      refine at_then_normal ?_
      refine at_ret ?_
      have K := of_some hF
      subst K
      exact at_return1 rfl rfl (fun w1 hw => ⟨rfl, hw⟩)

def crawlwayref05_ReadGroup.l0 (x0 : ByteArray) (i4 : Int) (i5 : Int) : Option (Ctl (Int) (Int)) :=
  if (decide (i5 < (x0.size : Int))) = true then (if (0 : Int) ≤ i5 ∧ i5 < (x0.size : Int) then crawlwayref05_Value (bt x0 i5) true >>= fun t8 => if (decide (t8 < 0)) = true then (some (.ret (-1))) else (crawlwayref05_ReadGroup.l0 x0 (wr .i64 ((wr .i64 (16 * i4)) + t8)) (wr .i64 (i5 + 1))) else none) else (some (.nx i4))
  partial_fixpoint
def crawlwayref05_ReadGroup (x0 : ByteArray) : Option (Int) :=
  if (decide ((x0.size : Int) < 1)) = true then (some (-1)) else (if (decide ((x0.size : Int) > 4)) = true then (some (-1)) else (crawlwayref05_ReadGroup.l0 x0 0 0 >>= fun q3 => match q3 with | .ret r' => some r' | .nx sq3 => (some sq3)))
theorem crawlwayref05_ReadGroup_ok (x0 : ByteArray) (r : Int) (hF : crawlwayref05_ReadGroup x0 = some r) (w : World) :
    Calls Tryd.prog 103 #[.string x0] w (fun e w' => e = .returned (.int .i64 r) ∧ w' = w) := by
  unfold crawlwayref05_ReadGroup at hF
  refine calls_enter (l := [.string x0]) Tryd.func103 rfl rfl rfl ?_
  refine at_weak [(0, _)] ⟨rfl, trivial⟩ ?_
  refine at_seq ?_
  refine at_region ?_
  refine at_val rfl rfl rfl (r_assign rfl) ?_
  refine at_nil ?_
  refine at_weak [(0, _)] ⟨rfl, trivial⟩ ?_
  refine at_then_normal ?_
  refine at_seq ?_
  refine at_seq ?_
  refine at_region ?_
  refine at_val rfl rfl rfl (r_move rfl) ?_
  refine at_val rfl rfl rfl (r_len_str Tryd.underlying9 rfl) ?_
  refine at_val rfl rfl rfl (r_ilss rfl rfl) ?_
  refine at_val rfl rfl rfl (r_move rfl) ?_
  rcases of_ite hF with ⟨h1, hF⟩ | ⟨h1, hF⟩
  · refine at_fix (g := 9) rfl h1 ?_
    refine at_guard_no rfl rfl rfl rfl rfl ?_
    refine at_guard_no rfl rfl rfl rfl rfl ?_
    refine at_guard_no rfl rfl rfl rfl rfl ?_
    refine at_val rfl rfl rfl (r_pick rfl rfl rfl) ?_
    refine at_nil ?_
    refine at_weak [(0, _), (13, _)] ⟨rfl, rfl, trivial⟩ ?_
    refine at_then_normal ?_
    refine at_cond_true rfl rfl ?_
    refine at_seq ?_
    refine at_region ?_
    refine at_val rfl rfl rfl (r_assign rfl) ?_
    refine at_nil ?_
    refine at_weak [(2, _)] ⟨rfl, trivial⟩ ?_
    refine at_then_normal ?_
    refine at_ret ?_
    refine at_then_ret ?_
    have K := of_some hF
    subst K
    exact at_return1 rfl rfl (fun w1 hw => ⟨rfl, hw⟩)
  · refine at_fix (g := 9) rfl h1 ?_
    refine at_guard_yes rfl rfl rfl ?_
    refine at_val rfl rfl rfl (r_move rfl) ?_
    refine at_guard_yes rfl rfl rfl ?_
    refine at_val rfl rfl rfl (r_len_str Tryd.underlying9 rfl) ?_
    refine at_guard_yes rfl rfl rfl ?_
    refine at_val rfl rfl rfl (r_igtr rfl rfl) ?_
    refine at_val rfl rfl rfl (r_pick rfl rfl rfl) ?_
    refine at_nil ?_
    refine at_weak [(0, _), (13, _)] ⟨rfl, rfl, trivial⟩ ?_
    refine at_then_normal ?_
    rcases of_ite hF with ⟨h2, hF⟩ | ⟨h2, hF⟩
    · refine at_cond_true rfl h2 ?_
      refine at_seq ?_
      refine at_region ?_
      refine at_val rfl rfl rfl (r_assign rfl) ?_
      refine at_nil ?_
      refine at_weak [(2, _)] ⟨rfl, trivial⟩ ?_
      refine at_then_normal ?_
      refine at_ret ?_
      refine at_then_ret ?_
      have K := of_some hF
      subst K
      exact at_return1 rfl rfl (fun w1 hw => ⟨rfl, hw⟩)
    · refine at_cond_false rfl h2 ?_
      refine at_skip ?_
      refine at_then_normal ?_
      refine at_seq ?_
      refine at_region ?_
      refine at_val rfl rfl rfl (r_assign rfl) ?_
      refine at_nil ?_
      refine at_weak [(0, _), (3, _)] ⟨rfl, rfl, trivial⟩ ?_
      refine at_then_normal ?_
      refine at_seq ?_
      refine at_seq ?_
      refine at_region ?_
      refine at_val rfl rfl rfl (r_assign rfl) ?_
      refine at_nil ?_
      refine at_weak [(0, _), (3, _), (4, _)] ⟨rfl, rfl, rfl, trivial⟩ ?_
      refine at_then_normal ?_
      refine at_block ?_
      obtain ⟨q3, hq3, hF⟩ := of_bindM hF
      refine at_weak [(0, _), (3, _), (4, _)] ⟨rfl, rfl, rfl, trivial⟩ ?_
      refine at_loop_r (B := 0) (r := r) (q := q3) (A := fun sq3 Y => At 31 [(3, .int .i64 sq3)] (fun w' => w' = w) Y) ?_ ?_
      · intro K
        refine crawlwayref05_ReadGroup.l0.partial_correctness x0 (motive := fun i4 i5 x => KR (fun sq3 Y => At 31 [(3, .int .i64 sq3)] (fun w' => w' = w) Y) _ 0 r x → Round (fun Y => At 31 [(0, .string x0), (3, .int .i64 i4), (4, .int .i64 i5)] (fun w' => w' = w) Y) _ _ _) ?_ _ _ _ hq3 K
        · clear K hF
          intro g ih i4 i5 x hF K
          refine at_round ?_
          refine at_seq ?_
          refine at_seq ?_
          refine at_region ?_
          refine at_val rfl rfl rfl (r_move rfl) ?_
          refine at_val rfl rfl rfl (r_move rfl) ?_
          refine at_val rfl rfl rfl (r_len_str Tryd.underlying9 rfl) ?_
          refine at_val rfl rfl rfl (r_ilss rfl rfl) ?_
          refine at_nil ?_
          refine at_weak [(0, _), (3, _), (4, _), (17, _)] ⟨rfl, rfl, rfl, rfl, trivial⟩ ?_
          refine at_then_normal ?_
          rcases of_ite hF with ⟨h6, hF⟩ | ⟨h6, hF⟩
          · refine at_cond_true rfl h6 ?_
            refine at_skip ?_
            refine at_then_normal ?_
            refine at_seq ?_
            refine at_block ?_
            refine at_seq ?_
            refine at_region ?_
            refine at_val rfl rfl rfl (r_move rfl) ?_
            refine at_val rfl rfl rfl (r_move rfl) ?_
            obtain ⟨h7, hF⟩ := of_guard hF
            refine at_val rfl rfl rfl (r_index_str Tryd.underlying9 rfl rfl h7) ?_
            obtain ⟨t8, ht8, hF⟩ := of_bindM hF
            refine at_call0 Tryd.func116 rfl (by kernel_rfl) rfl rfl (fun w => crawlwayref05_Value_ok _ _ _ ht8 w) ?_
            refine at_val rfl rfl rfl (r_assign rfl) ?_
            refine at_nil ?_
            refine at_weak [(0, _), (3, _), (4, _), (5, _)] ⟨rfl, rfl, rfl, rfl, trivial⟩ ?_
            refine at_then_normal ?_
            refine at_seq ?_
            refine at_seq ?_
            refine at_region ?_
            refine at_val rfl rfl rfl (r_move rfl) ?_
            refine at_val rfl rfl rfl (r_ilss rfl rfl) ?_
            refine at_nil ?_
            refine at_weak [(0, _), (3, _), (4, _), (5, _), (25, _)] ⟨rfl, rfl, rfl, rfl, rfl, trivial⟩ ?_
            refine at_then_normal ?_
            rcases of_ite hF with ⟨h9, hF⟩ | ⟨h9, hF⟩
            · refine at_cond_true rfl h9 ?_
              refine at_seq ?_
              refine at_region ?_
              refine at_val rfl rfl rfl (r_assign rfl) ?_
              refine at_nil ?_
              refine at_weak [(2, _)] ⟨rfl, trivial⟩ ?_
              refine at_then_normal ?_
              refine at_ret ?_
              refine at_then_ret (at_blk_ret (at_then_ret (at_then_ret (at_blk_ret (at_then_ret ?_)))))
              obtain rfl := of_some hF
              subst K
              exact at_return1 rfl rfl (fun w1 hw => ⟨rfl, hw⟩)
            · refine at_cond_false rfl h9 ?_
              refine at_skip ?_
              refine at_then_normal ?_
              refine at_region ?_
              refine at_val rfl rfl rfl (r_move rfl) ?_
              refine at_val rfl rfl rfl (r_imul rfl rfl) ?_
              refine at_val rfl rfl rfl (r_move rfl) ?_
              refine at_val rfl rfl rfl (r_iadd rfl rfl) ?_
              refine at_val rfl rfl rfl (r_assign rfl) ?_
              refine at_nil ?_
              refine at_weak [(0, _), (3, _), (4, _)] ⟨rfl, rfl, rfl, trivial⟩ ?_
              refine at_blk_normal (at_then_normal ?_)
              refine at_region ?_
              refine at_val rfl rfl rfl (r_move rfl) ?_
              refine at_val rfl rfl rfl (r_iadd rfl rfl) ?_
              refine at_val rfl rfl rfl (r_assign rfl) ?_
              refine at_nil ?_
              refine at_weak [(0, _), (3, _), (4, _)] ⟨rfl, rfl, rfl, trivial⟩ ?_
              refine at_then_normal ?_
              exact at_weak_k (ih _ _ _ hF K) ⟨rfl, rfl, rfl, trivial⟩
          · refine at_cond_false rfl h6 ?_
            refine at_exit ?_
            refine at_then_exit (at_then_exit ?_)
            obtain rfl := of_some hF
            exact at_weak_k K ⟨rfl, trivial⟩
      · cases q3 with
        | ret r' => exact of_some hF
        | nx sq3 =>
          skip
          refine at_blk_same ?_
          refine at_then_normal ?_
          refine at_seq ?_
          refine at_region ?_
          refine at_val rfl rfl rfl (r_move rfl) ?_
          refine at_val rfl rfl rfl (r_assign rfl) ?_
          refine at_nil ?_
          refine at_weak [(2, _)] ⟨rfl, trivial⟩ ?_
          refine at_then_normal ?_
          refine at_ret ?_
          have K := of_some hF
          subst K
          exact at_return1 rfl rfl (fun w1 hw => ⟨rfl, hw⟩)

def crawlwayref09_list.l0 (x1 : Bool) (t2 : List ByteArray) (i8 : List Int) (i9 : Int) : Option (Ctl (List Int × Bool) (List Int)) :=
  if (decide (i9 < (t2.length : Int))) = true then (if (0 : Int) ≤ i9 ∧ i9 < (t2.length : Int) then crawlwayref05_ReadGroup (lget t2 i9) >>= fun t19 => if (decide (t19 ≥ 0)) = true then (if (i8.length + 1) * 8 ≤ 140737488355328 then crawlwayref09_list.l0 x1 t2 (i8 ++ [t19]) (wr .i64 (i9 + 1)) else none) else (if (0 : Int) ≤ i9 ∧ i9 < (t2.length : Int) then crawlwayref08_Parse (lget t2 i9) >>= fun t29 => if (t29.2 != 0) = true then (some (.ret ([], false))) else (if (!x1) = true then (some (.ret ([], false))) else (if (decide (i9 < wr .i64 ((t2.length : Int) - 1))) = true then (some (.ret ([], false))) else (if (i8.length + 2) * 8 ≤ 140737488355328 then crawlwayref09_list.l0 x1 t2 (i8 ++ [wr .i64 ((wr .i64 (256 * (wr .i64 (vget t29.1 0)))) + (wr .i64 (vget t29.1 1))), wr .i64 ((wr .i64 (256 * (wr .i64 (vget t29.1 2)))) + (wr .i64 (vget t29.1 3)))]) (wr .i64 (i9 + 1)) else none))) else none) else none) else (some (.nx i8))
  partial_fixpoint
def crawlwayref09_list (x0 : ByteArray) (x1 : Bool) : Option (List Int × Bool) :=
  if (seq x0 (⟨#[]⟩ : ByteArray)) = true then (some ([], true)) else (crawlwayref06_Parts x0 58 >>= fun t2 => crawlwayref09_list.l0 x1 t2 ([] : List Int) 0 >>= fun q7 => match q7 with | .ret r' => some r' | .nx sq7 => (some (sq7, true)))
theorem crawlwayref09_list_ok (x0 : ByteArray) (x1 : Bool) (r : List Int × Bool) (hF : crawlwayref09_list x0 x1 = some r) (w : World) :
    Calls Tryd.prog 87 #[.string x0, .bool x1] w (fun e w' => ∃ p cap, e = .returned (.tuple #[.slice p r.1.length cap, .bool r.2]) ∧ Own (cInt .i64) 3 w.heap.size w' p cap r.1 ∧ Below w.heap.size w w') := by
  unfold crawlwayref09_list at hF
  refine calls_enter (l := [.string x0, .bool x1]) Tryd.func87 rfl rfl rfl ?_
  refine at_start ?_
  refine at_weak [(0, _), (1, _)] ⟨rfl, rfl, trivial⟩ ?_
  refine at_seq ?_
  refine at_region ?_
  refine at_val rfl rfl rfl (r_assign rfl) ?_
  refine at_val rfl rfl rfl (r_assign rfl) ?_
  refine at_nil ?_
  refine at_weak [(0, _), (1, _)] ⟨rfl, rfl, trivial⟩ ?_
  refine at_then_normal ?_
  refine at_seq ?_
  refine at_seq ?_
  refine at_region ?_
  refine at_val rfl rfl rfl (r_move rfl) ?_
  refine at_val rfl rfl rfl (r_seql rfl rfl) ?_
  refine at_nil ?_
  refine at_weak [(0, _), (1, _), (13, _)] ⟨rfl, rfl, rfl, trivial⟩ ?_
  refine at_then_normal ?_
  rcases of_ite hF with ⟨h1, hF⟩ | ⟨h1, hF⟩
  · refine at_cond_true rfl h1 ?_
    refine at_seq ?_
    refine at_region ?_
    refine at_val rfl rfl rfl (r_assign rfl) ?_
    refine at_val rfl rfl rfl (r_assign rfl) ?_
    refine at_nil ?_
    refine at_weak [(4, _), (5, _)] ⟨rfl, rfl, trivial⟩ ?_
    refine at_then_normal ?_
    refine at_ret ?_
    refine at_then_ret ?_
    have K := of_some hF
    subst K
    exact at_return2 rfl rfl rfl (fun w1 hw => ⟨none, 0, rfl, Own.nil _ _ _ _, hw.below⟩)
  · refine at_cond_false rfl h1 ?_
    refine at_skip ?_
    refine at_then_normal ?_
    refine at_seq ?_
    refine at_region ?_
    refine at_val rfl rfl rfl (r_assign rfl) ?_
    refine at_nil ?_
    refine at_weak [(0, _), (1, _), (6, _)] ⟨rfl, rfl, rfl, trivial⟩ ?_
    refine at_then_normal ?_
    refine at_seq ?_
    refine at_region ?_
    refine at_val rfl rfl rfl (r_move rfl) ?_
    obtain ⟨t2, ht2, hF⟩ := of_bindM hF
    refine at_callO (c := cStr) (e := 9) (ys := t2) (V := fun p cap => .slice p t2.length cap) Tryd.func69 rfl (by kernel_rfl) rfl rfl (fun w hw => crawlwayref06_Parts_ok _ _ _ ht2 w) ?_
    intro p3 c4
    refine at_val rfl rfl rfl (r_assign rfl) ?_
    refine at_nil ?_
    refine at_weak [(1, _), (6, _), (7, _)] ⟨rfl, rfl, rfl, trivial⟩ ?_
    refine at_then_normal ?_
    refine at_seq ?_
    refine at_seq ?_
    refine at_region ?_
    refine at_val rfl rfl rfl (r_assign rfl) ?_
    refine at_nil ?_
    refine at_weak [(1, _), (6, _), (7, _), (8, _)] ⟨rfl, rfl, rfl, rfl, trivial⟩ ?_
    refine at_then_normal ?_
    refine at_block ?_
    refine at_own_nil (cInt .i64) 3 ?_
    refine at_weak [(1, _), (6, .slice none ([] : List Int).length 0), (7, _), (8, _)] ⟨rfl, rfl, rfl, rfl, trivial⟩ ?_
    obtain ⟨q7, hq7, hF⟩ := of_bindM hF
    refine at_weak [(1, _), (6, _), (7, _), (8, _)] ⟨rfl, rfl, rfl, rfl, trivial⟩ ?_
    refine at_loop_r (B := 0) (r := r) (q := q7) (A := fun sq7 Y => ∀ (p12 : Option Addr) (c13 : Nat), At 74 [(6, .slice p12 sq7.length c13)] (Wd w [rowE (cInt .i64) 3 p12 c13 sq7]) Y) ?_ ?_
    · intro K
      refine crawlwayref09_list.l0.partial_correctness x1 t2 (motive := fun i8 i9 x => KR (fun sq7 Y => ∀ (p12 : Option Addr) (c13 : Nat), At 74 [(6, .slice p12 sq7.length c13)] (Wd w [rowE (cInt .i64) 3 p12 c13 sq7]) Y) _ 0 r x → Round (fun Y => ∀ (p10 : Option Addr) (c11 : Nat), At 74 [(1, .bool x1), (6, .slice p10 i8.length c11), (7, .slice p3 t2.length c4), (8, .int .i64 i9)] (Wd w [rowE (cInt .i64) 3 p10 c11 i8, rowE cStr 9 p3 c4 t2]) Y) _ _ _) ?_ _ _ _ hq7 K none 0
      · clear K hF
        intro g ih i8 i9 x hF K p10 c11
        refine at_round ?_
        refine at_seq ?_
        refine at_seq ?_
        refine at_region ?_
        refine at_val rfl rfl rfl (r_move rfl) ?_
        refine at_val rfl rfl rfl (r_move rfl) ?_
        refine at_val rfl rfl rfl (r_len_sl Tryd.underlying76 rfl) ?_
        refine at_val rfl rfl rfl (r_ilss rfl rfl) ?_
        refine at_nil ?_
        refine at_weak [(1, _), (6, _), (7, _), (8, _), (19, _)] ⟨rfl, rfl, rfl, rfl, rfl, trivial⟩ ?_
        refine at_then_normal ?_
        rcases of_ite hF with ⟨h14, hF⟩ | ⟨h14, hF⟩
        · refine at_cond_true rfl h14 ?_
          refine at_skip ?_
          refine at_then_normal ?_
          refine at_seq ?_
          refine at_block ?_
          refine at_seq ?_
          refine at_region ?_
          refine at_val rfl rfl rfl (r_move rfl) ?_
          refine at_val rfl rfl rfl (r_move rfl) ?_
          obtain ⟨h15, hF⟩ := of_guard hF
          refine at_pure (φ := ∃ b o, p3 = some ⟨b, o, none⟩) (fun _ hw => row_ptr (hw.own (.s .z)).row h15) ?_
          rintro ⟨b17, o18, hp16⟩
          refine at_val rfl rfl rfl (r_idx Tryd.underlying76 Tryd.sizeOf9 rfl rfl h15 hp16) ?_
          refine at_val rfl rfl rfl (r_load_cell Tryd.isAgg9 rfl (fun _ hw => row_cell0 (W := fun w1 => w1 = _) (fun w1 h => by subst h; exact Below.refl _ _) (hw.own (.s .z)).row h15 hp16 rfl _ rfl)) ?_
          obtain ⟨t19, ht19, hF⟩ := of_bindM hF
          refine at_call0 Tryd.func103 rfl (by kernel_rfl) rfl rfl (fun w => crawlwayref05_ReadGroup_ok _ _ ht19 w) ?_
          refine at_val rfl rfl rfl (r_assign rfl) ?_
          refine at_nil ?_
          refine at_weak [(1, _), (6, _), (7, _), (8, _), (9, _)] ⟨rfl, rfl, rfl, rfl, rfl, trivial⟩ ?_
          refine at_then_normal ?_
          refine at_seq ?_
          refine at_seq ?_
          refine at_region ?_
          refine at_val rfl rfl rfl (r_move rfl) ?_
          refine at_val rfl rfl rfl (r_igeq rfl rfl) ?_
          refine at_nil ?_
          refine at_weak [(1, _), (6, _), (7, _), (8, _), (9, _), (28, _)] ⟨rfl, rfl, rfl, rfl, rfl, rfl, trivial⟩ ?_
          refine at_then_normal ?_
          rcases of_ite hF with ⟨h20, hF⟩ | ⟨h20, hF⟩
          · refine at_cond_true rfl h20 ?_
            refine at_seq ?_
            refine at_region ?_
            refine at_val rfl rfl rfl (r_move rfl) ?_
            refine at_val rfl rfl rfl (r_move rfl) ?_
            refine at_lit (cs := (cInt .i64).all ([t19] : List Int)) Tryd.underlying104 Tryd.sizeOf3 Tryd.zeroValue3 rfl rfl rfl (by kernel_rfl) rfl ?_
            intro b21
            obtain ⟨h22, hF⟩ := of_guard hF
            refine at_append (z := .int .i64 0) (c := (cInt .i64)) (ys := ([t19] : List Int)) (.s .z) Tryd.underlying104 infoH53 (by kernel_rfl) (by kernel_rfl) rfl rfl rfl rfl (fun _ hw => cells_src (hw.ok (Upd.mem .z))) (by kernel_rfl) h22 (app_small h22) rfl ?_
            intro p23 c24
            refine at_val rfl rfl rfl (r_assign rfl) ?_
            refine at_nil ?_
            refine at_drop (H := _) .z ?_
            refine at_weak [(1, _), (6, _), (7, _), (8, _)] ⟨rfl, rfl, rfl, rfl, trivial⟩ ?_
            refine at_then_normal ?_
            refine at_exit ?_
            refine at_then_exit (at_blk_same (at_then_normal ?_))
            refine at_region ?_
            refine at_val rfl rfl rfl (r_move rfl) ?_
            refine at_val rfl rfl rfl (r_iadd rfl rfl) ?_
            refine at_val rfl rfl rfl (r_assign rfl) ?_
            refine at_nil ?_
            refine at_weak [(1, _), (6, _), (7, _), (8, _)] ⟨rfl, rfl, rfl, rfl, trivial⟩ ?_
            refine at_then_normal ?_
            exact at_weak_k (ih _ _ _ hF K p23 c24) ⟨rfl, rfl, rfl, rfl, trivial⟩
          · refine at_cond_false rfl h20 ?_
            refine at_skip ?_
            refine at_then_normal ?_
            refine at_seq ?_
            refine at_region ?_
            refine at_val rfl rfl rfl (r_move rfl) ?_
            refine at_val rfl rfl rfl (r_move rfl) ?_
            obtain ⟨h25, hF⟩ := of_guard hF
            refine at_pure (φ := ∃ b o, p3 = some ⟨b, o, none⟩) (fun _ hw => row_ptr (hw.own (.s .z)).row h25) ?_
            rintro ⟨b27, o28, hp26⟩
            refine at_val rfl rfl rfl (r_idx Tryd.underlying76 Tryd.sizeOf9 rfl rfl h25 hp26) ?_
            refine at_val rfl rfl rfl (r_load_cell Tryd.isAgg9 rfl (fun _ hw => row_cell0 (W := fun w1 => w1 = _) (fun w1 h => by subst h; exact Below.refl _ _) (hw.own (.s .z)).row h25 hp26 rfl _ rfl)) ?_
            obtain ⟨t29, ht29, hF⟩ := of_bindM hF
            refine at_callB Tryd.func70 rfl (by kernel_rfl) rfl rfl (fun w hw => crawlwayref08_Parse_ok _ _ ht29 w) ?_
            refine at_val rfl rfl rfl (r_move rfl) ?_
            refine at_val rfl rfl rfl (r_extract rfl rfl) ?_
            refine at_val rfl rfl rfl (r_extract rfl rfl) ?_
            refine at_alloc (cs := Cd.cs (cVec (cInt .u8) 4 (by decide)) (Vector.replicate 4 (0 : Int) : (Vector Int 4))) Tryd.zeroValue47 rfl rfl ?_
            intro b30
            refine at_store (c := (cVec (cInt .u8) 4 (by decide))) (z := t29.1) .z (Lens.whole _ _) Tryd.sizeOf47 rfl rfl rfl ?_
            refine at_val rfl rfl rfl (r_assign rfl) ?_
            refine at_nil ?_
            refine at_weak [(1, _), (6, _), (7, _), (8, _), (10, _), (11, _)] ⟨rfl, rfl, rfl, rfl, rfl, rfl, trivial⟩ ?_
            refine at_then_normal ?_
            refine at_seq ?_
            refine at_seq ?_
            refine at_region ?_
            refine at_val rfl rfl rfl (r_move rfl) ?_
            refine at_val rfl rfl rfl (r_ineq rfl rfl) ?_
            refine at_val rfl rfl rfl (r_move rfl) ?_
            rcases of_ite hF with ⟨h31, hF⟩ | ⟨h31, hF⟩
            · refine at_fix (g := 43) rfl h31 ?_
              refine at_guard_no rfl rfl rfl rfl rfl ?_
              refine at_guard_no rfl rfl rfl rfl rfl ?_
              refine at_val rfl rfl rfl (r_pick rfl rfl rfl) ?_
              refine at_val rfl rfl rfl (r_move rfl) ?_
              refine at_guard_no rfl rfl rfl rfl rfl ?_
              refine at_guard_no rfl rfl rfl rfl rfl ?_
              refine at_guard_no rfl rfl rfl rfl rfl ?_
              refine at_guard_no rfl rfl rfl rfl rfl ?_
              refine at_guard_no rfl rfl rfl rfl rfl ?_
              refine at_val rfl rfl rfl (r_pick rfl rfl rfl) ?_
              refine at_nil ?_
              refine at_weak [(1, _), (6, _), (7, _), (8, _), (10, _), (53, _)] ⟨rfl, rfl, rfl, rfl, rfl, rfl, trivial⟩ ?_
              refine at_then_normal ?_
              refine at_cond_true rfl rfl ?_
              refine at_seq ?_
              refine at_region ?_
              refine at_val rfl rfl rfl (r_assign rfl) ?_
              refine at_val rfl rfl rfl (r_assign rfl) ?_
              refine at_nil ?_
              refine at_drop (H := _) .z ?_
              refine at_drop (H := _) .z ?_
              refine at_drop (H := _) .z ?_
              refine at_weak [(4, _), (5, _)] ⟨rfl, rfl, trivial⟩ ?_
              refine at_then_normal ?_
              refine at_ret ?_
              refine at_then_ret (at_blk_ret (at_then_ret (at_then_ret (at_blk_ret (at_then_ret ?_)))))
              obtain rfl := of_some hF
              subst K
              exact at_return2 rfl rfl rfl (fun w1 hw => ⟨none, 0, rfl, Own.nil _ _ _ _, hw.below⟩)
            · refine at_fix (g := 43) rfl h31 ?_
              refine at_guard_yes rfl rfl rfl ?_
              refine at_val rfl rfl rfl (r_move rfl) ?_
              refine at_guard_yes rfl rfl rfl ?_
              refine at_val rfl rfl rfl (r_not rfl) ?_
              refine at_val rfl rfl rfl (r_pick rfl rfl rfl) ?_
              refine at_val rfl rfl rfl (r_move rfl) ?_
              rcases of_ite hF with ⟨h32, hF⟩ | ⟨h32, hF⟩
              · refine at_fix (g := 47) rfl h32 ?_
                refine at_guard_no rfl rfl rfl rfl rfl ?_
                refine at_guard_no rfl rfl rfl rfl rfl ?_
                refine at_guard_no rfl rfl rfl rfl rfl ?_
                refine at_guard_no rfl rfl rfl rfl rfl ?_
                refine at_guard_no rfl rfl rfl rfl rfl ?_
                refine at_val rfl rfl rfl (r_pick rfl rfl rfl) ?_
                refine at_nil ?_
                refine at_weak [(1, _), (6, _), (7, _), (8, _), (10, _), (53, _)] ⟨rfl, rfl, rfl, rfl, rfl, rfl, trivial⟩ ?_
                refine at_then_normal ?_
                refine at_cond_true rfl rfl ?_
                refine at_seq ?_
                refine at_region ?_
                refine at_val rfl rfl rfl (r_assign rfl) ?_
                refine at_val rfl rfl rfl (r_assign rfl) ?_
                refine at_nil ?_
                refine at_drop (H := _) .z ?_
                refine at_drop (H := _) .z ?_
                refine at_drop (H := _) .z ?_
                refine at_weak [(4, _), (5, _)] ⟨rfl, rfl, trivial⟩ ?_
                refine at_then_normal ?_
                refine at_ret ?_
                refine at_then_ret (at_blk_ret (at_then_ret (at_then_ret (at_blk_ret (at_then_ret ?_)))))
                obtain rfl := of_some hF
                subst K
                exact at_return2 rfl rfl rfl (fun w1 hw => ⟨none, 0, rfl, Own.nil _ _ _ _, hw.below⟩)
              · refine at_fix (g := 47) rfl h32 ?_
                refine at_guard_yes rfl rfl rfl ?_
                refine at_val rfl rfl rfl (r_move rfl) ?_
                refine at_guard_yes rfl rfl rfl ?_
                refine at_val rfl rfl rfl (r_move rfl) ?_
                refine at_guard_yes rfl rfl rfl ?_
                refine at_val rfl rfl rfl (r_len_sl Tryd.underlying76 rfl) ?_
                refine at_guard_yes rfl rfl rfl ?_
                refine at_val rfl rfl rfl (r_isub rfl rfl) ?_
                refine at_guard_yes rfl rfl rfl ?_
                refine at_val rfl rfl rfl (r_ilss rfl rfl) ?_
                refine at_val rfl rfl rfl (r_pick rfl rfl rfl) ?_
                refine at_nil ?_
                refine at_weak [(1, _), (6, _), (7, _), (8, _), (10, _), (53, _)] ⟨rfl, rfl, rfl, rfl, rfl, rfl, trivial⟩ ?_
                refine at_then_normal ?_
                rcases of_ite hF with ⟨h33, hF⟩ | ⟨h33, hF⟩
                · refine at_cond_true rfl h33 ?_
                  refine at_seq ?_
                  refine at_region ?_
                  refine at_val rfl rfl rfl (r_assign rfl) ?_
                  refine at_val rfl rfl rfl (r_assign rfl) ?_
                  refine at_nil ?_
                  refine at_drop (H := _) .z ?_
                  refine at_drop (H := _) .z ?_
                  refine at_drop (H := _) .z ?_
                  refine at_weak [(4, _), (5, _)] ⟨rfl, rfl, trivial⟩ ?_
                  refine at_then_normal ?_
                  refine at_ret ?_
                  refine at_then_ret (at_blk_ret (at_then_ret (at_then_ret (at_blk_ret (at_then_ret ?_)))))
                  obtain rfl := of_some hF
                  subst K
                  exact at_return2 rfl rfl rfl (fun w1 hw => ⟨none, 0, rfl, Own.nil _ _ _ _, hw.below⟩)
                · refine at_cond_false rfl h33 ?_
                  refine at_skip ?_
                  refine at_then_normal ?_
                  refine at_region ?_
                  refine at_val rfl rfl rfl (r_move rfl) ?_
                  refine at_val rfl rfl rfl (r_idxArr Tryd.underlying47 Tryd.sizeOf5 rfl rfl (by decide)) ?_
                  refine at_val rfl rfl rfl (r_load_cell Tryd.isAgg5 rfl (lens_cell0 (c := (cInt .u8)) (y := vget t29.1 0) .z (Lens.comp (Lens.whole _ _) (fun z => vset t29.1 0 z) (Lens.vec (cInt .u8) (by decide) t29.1 0 (by decide))) rfl)) ?_
                  refine at_val rfl rfl rfl (r_conv Tryd.underlying5 Tryd.underlying3 rfl) ?_
                  refine at_val rfl rfl rfl (r_imul rfl rfl) ?_
                  refine at_val rfl rfl rfl (r_idxArr Tryd.underlying47 Tryd.sizeOf5 rfl rfl (by decide)) ?_
                  refine at_val rfl rfl rfl (r_load_cell Tryd.isAgg5 rfl (lens_cell0 (c := (cInt .u8)) (y := vget t29.1 1) .z (Lens.comp (Lens.whole _ _) (fun z => vset t29.1 1 z) (Lens.vec (cInt .u8) (by decide) t29.1 1 (by decide))) rfl)) ?_
                  refine at_val rfl rfl rfl (r_conv Tryd.underlying5 Tryd.underlying3 rfl) ?_
                  refine at_val rfl rfl rfl (r_iadd rfl rfl) ?_
                  refine at_val rfl rfl rfl (r_idxArr Tryd.underlying47 Tryd.sizeOf5 rfl rfl (by decide)) ?_
                  refine at_val rfl rfl rfl (r_load_cell Tryd.isAgg5 rfl (lens_cell0 (c := (cInt .u8)) (y := vget t29.1 2) .z (Lens.comp (Lens.whole _ _) (fun z => vset t29.1 2 z) (Lens.vec (cInt .u8) (by decide) t29.1 2 (by decide))) rfl)) ?_
                  refine at_val rfl rfl rfl (r_conv Tryd.underlying5 Tryd.underlying3 rfl) ?_
                  refine at_val rfl rfl rfl (r_imul rfl rfl) ?_
                  refine at_val rfl rfl rfl (r_idxArr Tryd.underlying47 Tryd.sizeOf5 rfl rfl (by decide)) ?_
                  refine at_val rfl rfl rfl (r_load_cell Tryd.isAgg5 rfl (lens_cell0 (c := (cInt .u8)) (y := vget t29.1 3) .z (Lens.comp (Lens.whole _ _) (fun z => vset t29.1 3 z) (Lens.vec (cInt .u8) (by decide) t29.1 3 (by decide))) rfl)) ?_
                  refine at_val rfl rfl rfl (r_conv Tryd.underlying5 Tryd.underlying3 rfl) ?_
                  refine at_val rfl rfl rfl (r_iadd rfl rfl) ?_
                  refine at_lit (cs := (cInt .i64).all ([wr .i64 ((wr .i64 (256 * (wr .i64 (vget t29.1 0)))) + (wr .i64 (vget t29.1 1))), wr .i64 ((wr .i64 (256 * (wr .i64 (vget t29.1 2)))) + (wr .i64 (vget t29.1 3)))] : List Int)) Tryd.underlying104 Tryd.sizeOf3 Tryd.zeroValue3 rfl rfl rfl (by kernel_rfl) rfl ?_
                  intro b34
                  obtain ⟨h35, hF⟩ := of_guard hF
                  refine at_append (z := .int .i64 0) (c := (cInt .i64)) (ys := ([wr .i64 ((wr .i64 (256 * (wr .i64 (vget t29.1 0)))) + (wr .i64 (vget t29.1 1))), wr .i64 ((wr .i64 (256 * (wr .i64 (vget t29.1 2)))) + (wr .i64 (vget t29.1 3)))] : List Int)) (.s (.s .z)) Tryd.underlying104 infoH53 (by kernel_rfl) (by kernel_rfl) rfl rfl rfl rfl (fun _ hw => cells_src (hw.ok (Upd.mem .z))) (by kernel_rfl) h35 (app_small h35) rfl ?_
                  intro p36 c37
                  refine at_val rfl rfl rfl (r_assign rfl) ?_
                  refine at_nil ?_
                  refine at_drop (H := _) .z ?_
                  refine at_drop (H := _) .z ?_
                  refine at_weak [(1, _), (6, _), (7, _), (8, _)] ⟨rfl, rfl, rfl, rfl, trivial⟩ ?_
                  refine at_blk_normal (at_then_normal ?_)
                  refine at_region ?_
                  refine at_val rfl rfl rfl (r_move rfl) ?_
                  refine at_val rfl rfl rfl (r_iadd rfl rfl) ?_
                  refine at_val rfl rfl rfl (r_assign rfl) ?_
                  refine at_nil ?_
                  refine at_weak [(1, _), (6, _), (7, _), (8, _)] ⟨rfl, rfl, rfl, rfl, trivial⟩ ?_
                  refine at_then_normal ?_
                  exact at_weak_k (ih _ _ _ hF K p36 c37) ⟨rfl, rfl, rfl, rfl, trivial⟩
        · refine at_cond_false rfl h14 ?_
          refine at_exit ?_
          refine at_then_exit (at_then_exit ?_)
          refine at_drop (H := _) (.s .z) ?_
          obtain rfl := of_some hF
          exact at_weak_k (K p10 c11) ⟨rfl, trivial⟩
    · cases q7 with
      | ret r' => exact of_some hF
      | nx sq7 =>
        intro p12 c13
        refine at_blk_same ?_
        refine at_then_normal ?_
        refine at_seq ?_
        refine at_region ?_
        refine at_val rfl rfl rfl (r_move rfl) ?_
        refine at_val rfl rfl rfl (r_assign rfl) ?_
        refine at_val rfl rfl rfl (r_assign rfl) ?_
        refine at_nil ?_
        refine at_weak [(4, _), (5, _)] ⟨rfl, rfl, trivial⟩ ?_
        refine at_then_normal ?_
        refine at_ret ?_
        have K := of_some hF
        subst K
        exact at_return2 rfl rfl rfl (fun w1 hw => ⟨p12, c13, rfl, hw.own .z, hw.below⟩)

def crawlwayref09_Parse.l0 (t5 : List Int × Bool) (i11 : Int) (i12 : (Vector Int 16)) : Option ((Vector Int 16)) :=
  if (decide (i11 < 8)) = true then (if (0 : Int) ≤ i11 ∧ i11 < (t5.1.length : Int) then if (0 : Int) ≤ wr .i64 (2 * i11) ∧ wr .i64 (2 * i11) < 16 then if (0 : Int) ≤ i11 ∧ i11 < (t5.1.length : Int) then if (0 : Int) ≤ wr .i64 ((wr .i64 (2 * i11)) + 1) ∧ wr .i64 ((wr .i64 (2 * i11)) + 1) < 16 then crawlwayref09_Parse.l0 t5 (wr .i64 (i11 + 1)) (vset (vset i12 (wr .i64 (2 * i11)) (wr .u8 (wr .i64 (Int.tdiv (lget t5.1 i11) 256)))) (wr .i64 ((wr .i64 (2 * i11)) + 1)) (wr .u8 (Int.tmod (lget t5.1 i11) 256))) else none else none else none else none) else (some i12)
  partial_fixpoint
def crawlwayref09_Parse.l1 (t25 : List Int × Bool) (i38 : List Int) (i39 : Int) : Option (List Int) :=
  if (decide (i39 < (t25.1.length : Int))) = true then (if (0 : Int) ≤ i39 ∧ i39 < (t25.1.length : Int) then if (i38.length + 1) * 8 ≤ 140737488355328 then crawlwayref09_Parse.l1 t25 (i38 ++ [lget t25.1 i39]) (wr .i64 (i39 + 1)) else none else none) else (some i38)
  partial_fixpoint
def crawlwayref09_Parse.l2 (t29 : List Int × Bool) (i56 : List Int) : Option (List Int) :=
  if (decide (wr .i64 ((i56.length : Int) + (t29.1.length : Int)) < 8)) = true then (if (i56.length + 1) * 8 ≤ 140737488355328 then crawlwayref09_Parse.l2 t29 (i56 ++ [0]) else none) else (some i56)
  partial_fixpoint
def crawlwayref09_Parse.l3 (t29 : List Int × Bool) (q55 : List Int) (i70 : Int) (i71 : (Vector Int 16)) : Option ((Vector Int 16)) :=
  if (decide (i70 < 8)) = true then (if (0 : Int) ≤ i70 ∧ i70 < ((q55 ++ t29.1).length : Int) then if (0 : Int) ≤ wr .i64 (2 * i70) ∧ wr .i64 (2 * i70) < 16 then if (0 : Int) ≤ i70 ∧ i70 < ((q55 ++ t29.1).length : Int) then if (0 : Int) ≤ wr .i64 ((wr .i64 (2 * i70)) + 1) ∧ wr .i64 ((wr .i64 (2 * i70)) + 1) < 16 then crawlwayref09_Parse.l3 t29 q55 (wr .i64 (i70 + 1)) (vset (vset i71 (wr .i64 (2 * i70)) (wr .u8 (wr .i64 (Int.tdiv (lget (q55 ++ t29.1) i70) 256)))) (wr .i64 ((wr .i64 (2 * i70)) + 1)) (wr .u8 (Int.tmod (lget (q55 ++ t29.1) i70) 256))) else none else none else none else none) else (some i71)
  partial_fixpoint
def crawlwayref09_Parse (x0 : ByteArray) : Option ((Vector Int 16) × Bool) :=
  crawlwayref09_gap x0 >>= fun t3 => if (decide (t3 < 0)) = true then (crawlwayref09_list x0 true >>= fun t5 => if (!t5.2) = true then (some ((Vector.replicate 16 (0 : Int) : (Vector Int 16)), false)) else (if ((t5.1.length : Int) != 8) = true then (some ((Vector.replicate 16 (0 : Int) : (Vector Int 16)), false)) else (crawlwayref09_Parse.l0 t5 0 (Vector.replicate 16 (0 : Int) : (Vector Int 16)) >>= fun q10 => some (q10, true)))) else (if (0 : Int) ≤ 0 ∧ 0 ≤ t3 ∧ t3 ≤ (x0.size : Int) then crawlwayref09_list (x0.extract (Int.toNat 0) (Int.toNat t3)) false >>= fun t25 => if (0 : Int) ≤ wr .i64 (t3 + 2) ∧ wr .i64 (t3 + 2) ≤ (x0.size : Int) ∧ (x0.size : Int) ≤ (x0.size : Int) then crawlwayref09_list (x0.extract (Int.toNat (wr .i64 (t3 + 2))) (Int.toNat (x0.size : Int))) true >>= fun t29 => if (!t25.2) = true then (some ((Vector.replicate 16 (0 : Int) : (Vector Int 16)), false)) else (if (!t29.2) = true then (some ((Vector.replicate 16 (0 : Int) : (Vector Int 16)), false)) else (if (decide (wr .i64 ((t25.1.length : Int) + (t29.1.length : Int)) > 7)) = true then (some ((Vector.replicate 16 (0 : Int) : (Vector Int 16)), false)) else (crawlwayref09_Parse.l1 t25 ([] : List Int) 0 >>= fun q37 => crawlwayref09_Parse.l2 t29 q37 >>= fun q55 => if (q55.length + t29.1.length) * 8 ≤ 140737488355328 then crawlwayref09_Parse.l3 t29 q55 0 (Vector.replicate 16 (0 : Int) : (Vector Int 16)) >>= fun q69 => some (q69, true) else none))) else none else none)
theorem crawlwayref09_Parse_ok (x0 : ByteArray) (r : (Vector Int 16) × Bool) (hF : crawlwayref09_Parse x0 = some r) (w : World) :
    Calls Tryd.prog 63 #[.string x0] w (fun e w' => e = .returned (.tuple #[.agg (Cd.cs (cVec (cInt .u8) 16 (by decide)) r.1).toArray, .bool r.2]) ∧ Below w.heap.size w w') := by
  unfold crawlwayref09_Parse at hF
  refine calls_enter (l := [.string x0]) Tryd.func63 rfl rfl rfl ?_
  refine at_start ?_
  refine at_weak [(0, _)] ⟨rfl, trivial⟩ ?_
  refine at_seq ?_
  refine at_region ?_
  refine at_alloc (cs := Cd.cs (cVec (cInt .u8) 16 (by decide)) (Vector.replicate 16 (0 : Int) : (Vector Int 16))) Tryd.zeroValue22 rfl rfl ?_
  intro b1
  refine at_val rfl rfl rfl (r_assign rfl) ?_
  refine at_nil ?_
  refine at_weak [(0, _), (2, _)] ⟨rfl, rfl, trivial⟩ ?_
  refine at_then_normal ?_
  refine at_seq ?_
  refine at_region ?_
  refine at_alloc (cs := Cd.cs (cVec (cInt .u8) 16 (by decide)) (Vector.replicate 16 (0 : Int) : (Vector Int 16))) Tryd.zeroValue22 rfl rfl ?_
  intro b2
  refine at_nil ?_
  refine at_weak [(0, _), (2, _), (4, _)] ⟨rfl, rfl, rfl, trivial⟩ ?_
  refine at_then_normal ?_
  refine at_seq ?_
  refine at_region ?_
  refine at_val rfl rfl rfl (r_assign rfl) ?_
  refine at_nil ?_
  refine at_weak [(0, _), (2, _), (4, _), (5, _)] ⟨rfl, rfl, rfl, rfl, trivial⟩ ?_
  refine at_then_normal ?_
  refine at_seq ?_
  refine at_region ?_
  refine at_val rfl rfl rfl (r_move rfl) ?_
  obtain ⟨t3, ht3, hF⟩ := of_bindM hF
  refine at_call0 Tryd.func86 rfl (by kernel_rfl) rfl rfl (fun w => crawlwayref09_gap_ok _ _ ht3 w) ?_
  refine at_val rfl rfl rfl (r_assign rfl) ?_
  refine at_nil ?_
  refine at_weak [(0, _), (2, _), (4, _), (5, _), (6, _)] ⟨rfl, rfl, rfl, rfl, rfl, trivial⟩ ?_
  refine at_then_normal ?_
  refine at_seq ?_
  refine at_seq ?_
  refine at_region ?_
  refine at_val rfl rfl rfl (r_move rfl) ?_
  refine at_val rfl rfl rfl (r_ilss rfl rfl) ?_
  refine at_nil ?_
  refine at_weak [(0, _), (2, _), (4, _), (5, _), (6, _), (18, _)] ⟨rfl, rfl, rfl, rfl, rfl, rfl, trivial⟩ ?_
  refine at_then_normal ?_
  rcases of_ite hF with ⟨h4, hF⟩ | ⟨h4, hF⟩
  · refine at_cond_true rfl h4 ?_
    refine at_seq ?_
    refine at_region ?_
    refine at_val rfl rfl rfl (r_move rfl) ?_
    obtain ⟨t5, ht5, hF⟩ := of_bindM hF
    refine at_callO (c := (cInt .i64)) (e := 3) (ys := t5.1) (V := fun p cap => .tuple #[.slice p t5.1.length cap, .bool t5.2]) Tryd.func87 rfl (by kernel_rfl) rfl rfl (fun w hw => crawlwayref09_list_ok _ _ _ ht5 w) ?_
    intro p6 c7
    refine at_val rfl rfl rfl (r_move rfl) ?_
    refine at_val rfl rfl rfl (r_extract rfl rfl) ?_
    refine at_val rfl rfl rfl (r_extract rfl rfl) ?_
    refine at_val rfl rfl rfl (r_assign rfl) ?_
    refine at_val rfl rfl rfl (r_assign rfl) ?_
    refine at_nil ?_
    refine at_weak [(2, _), (4, _), (7, _), (8, _)] ⟨rfl, rfl, rfl, rfl, trivial⟩ ?_
    refine at_then_normal ?_
    refine at_seq ?_
    refine at_seq ?_
    refine at_region ?_
    refine at_val rfl rfl rfl (r_move rfl) ?_
    refine at_val rfl rfl rfl (r_not rfl) ?_
    refine at_val rfl rfl rfl (r_move rfl) ?_
    rcases of_ite hF with ⟨h8, hF⟩ | ⟨h8, hF⟩
    · refine at_fix (g := 26) rfl h8 ?_
      refine at_guard_no rfl rfl rfl rfl rfl ?_
      refine at_guard_no rfl rfl rfl rfl rfl ?_
      refine at_guard_no rfl rfl rfl rfl rfl ?_
      refine at_val rfl rfl rfl (r_pick rfl rfl rfl) ?_
      refine at_nil ?_
      refine at_weak [(2, _), (4, _), (7, _), (30, _)] ⟨rfl, rfl, rfl, rfl, trivial⟩ ?_
      refine at_then_normal ?_
      refine at_cond_true rfl rfl ?_
      refine at_seq ?_
      refine at_region ?_
      refine at_val rfl rfl rfl (r_load_aggc (c := (cVec (cInt .u8) 16 (by decide))) (z := (Vector.replicate 16 (0 : Int) : (Vector Int 16))) Tryd.isAgg22 Tryd.sizeOf22 rfl (lens_cell (.s .z) (Lens.whole _ _))) ?_
      refine at_store (c := (cVec (cInt .u8) 16 (by decide))) (z := (Vector.replicate 16 (0 : Int) : (Vector Int 16))) (.s (.s .z)) (Lens.whole _ _) Tryd.sizeOf22 rfl rfl rfl ?_
      refine at_val rfl rfl rfl (r_assign rfl) ?_
      refine at_nil ?_
      refine at_drop (H := _) .z ?_
      refine at_drop (H := _) .z ?_
      refine at_weak [(2, _), (3, _)] ⟨rfl, rfl, trivial⟩ ?_
      refine at_then_normal ?_
      refine at_ret ?_
      refine at_then_ret (at_then_ret ?_)
      have K := of_some hF
      subst K
      exact at_res2 rfl (res_cell (c := (cVec (cInt .u8) 16 (by decide))) (y := (Vector.replicate 16 (0 : Int) : (Vector Int 16))) rfl .z (Lens.whole _ _) Tryd.isAgg22 Tryd.sizeOf22 (.inl rfl)) (res_tmp rfl) (fun w1 hw => ⟨rfl, hw.below⟩)
    · refine at_fix (g := 26) rfl h8 ?_
      refine at_guard_yes rfl rfl rfl ?_
      refine at_val rfl rfl rfl (r_move rfl) ?_
      refine at_guard_yes rfl rfl rfl ?_
      refine at_val rfl rfl rfl (r_len_sl Tryd.underlying104 rfl) ?_
      refine at_guard_yes rfl rfl rfl ?_
      refine at_val rfl rfl rfl (r_ineq rfl rfl) ?_
      refine at_val rfl rfl rfl (r_pick rfl rfl rfl) ?_
      refine at_nil ?_
      refine at_weak [(2, _), (4, _), (7, _), (30, _)] ⟨rfl, rfl, rfl, rfl, trivial⟩ ?_
      refine at_then_normal ?_
      rcases of_ite hF with ⟨h9, hF⟩ | ⟨h9, hF⟩
      · refine at_cond_true rfl h9 ?_
        refine at_seq ?_
        refine at_region ?_
        refine at_val rfl rfl rfl (r_load_aggc (c := (cVec (cInt .u8) 16 (by decide))) (z := (Vector.replicate 16 (0 : Int) : (Vector Int 16))) Tryd.isAgg22 Tryd.sizeOf22 rfl (lens_cell (.s .z) (Lens.whole _ _))) ?_
        refine at_store (c := (cVec (cInt .u8) 16 (by decide))) (z := (Vector.replicate 16 (0 : Int) : (Vector Int 16))) (.s (.s .z)) (Lens.whole _ _) Tryd.sizeOf22 rfl rfl rfl ?_
        refine at_val rfl rfl rfl (r_assign rfl) ?_
        refine at_nil ?_
        refine at_drop (H := _) .z ?_
        refine at_drop (H := _) .z ?_
        refine at_weak [(2, _), (3, _)] ⟨rfl, rfl, trivial⟩ ?_
        refine at_then_normal ?_
        refine at_ret ?_
        refine at_then_ret (at_then_ret ?_)
        have K := of_some hF
        subst K
        exact at_res2 rfl (res_cell (c := (cVec (cInt .u8) 16 (by decide))) (y := (Vector.replicate 16 (0 : Int) : (Vector Int 16))) rfl .z (Lens.whole _ _) Tryd.isAgg22 Tryd.sizeOf22 (.inl rfl)) (res_tmp rfl) (fun w1 hw => ⟨rfl, hw.below⟩)
      · refine at_cond_false rfl h9 ?_
        refine at_skip ?_
        refine at_then_normal ?_
        refine at_region ?_
        refine at_val rfl rfl rfl (r_move rfl) ?_
        refine at_val rfl rfl rfl (r_assign rfl) ?_
        refine at_nil ?_
        refine at_weak [(2, _), (4, _), (5, _)] ⟨rfl, rfl, rfl, trivial⟩ ?_
        refine at_then_normal ?_
        refine at_seq ?_
        refine at_seq ?_
        refine at_region ?_
        refine at_val rfl rfl rfl (r_assign rfl) ?_
        refine at_nil ?_
        refine at_weak [(2, _), (4, _), (5, _), (14, _)] ⟨rfl, rfl, rfl, rfl, trivial⟩ ?_
        refine at_then_normal ?_
        refine at_block ?_
        obtain ⟨q10, hq10, hF⟩ := of_bindM hF
        refine at_weak [(2, _), (4, _), (5, _), (14, _)] ⟨rfl, rfl, rfl, rfl, trivial⟩ ?_
        refine at_loop_n (B := 4) (A := fun Y => At 112 [(2, .pointer (some ⟨b1, 0, none⟩)), (4, .pointer (some ⟨b2, 0, none⟩))] (Wd w [cellsE b2 (Cd.cs (cVec (cInt .u8) 16 (by decide)) q10) 22, cellsE b1 (Cd.cs (cVec (cInt .u8) 16 (by decide)) (Vector.replicate 16 (0 : Int) : (Vector Int 16))) 22]) Y) ?_ ?_
        · intro K
          refine crawlwayref09_Parse.l0.partial_correctness t5 (motive := fun i11 i12 x => KN (fun Y => At 112 [(2, .pointer (some ⟨b1, 0, none⟩)), (4, .pointer (some ⟨b2, 0, none⟩))] (Wd w [cellsE b2 (Cd.cs (cVec (cInt .u8) 16 (by decide)) x) 22, cellsE b1 (Cd.cs (cVec (cInt .u8) 16 (by decide)) (Vector.replicate 16 (0 : Int) : (Vector Int 16))) 22]) Y) _ 4 → Round (fun Y => At 112 [(2, .pointer (some ⟨b1, 0, none⟩)), (4, .pointer (some ⟨b2, 0, none⟩)), (5, .slice p6 t5.1.length c7), (14, .int .i64 i11)] (Wd w [rowE (cInt .i64) 3 p6 c7 t5.1, cellsE b2 (Cd.cs (cVec (cInt .u8) 16 (by decide)) i12) 22, cellsE b1 (Cd.cs (cVec (cInt .u8) 16 (by decide)) (Vector.replicate 16 (0 : Int) : (Vector Int 16))) 22]) Y) _ _ _) ?_ _ _ _ hq10 K
          · clear K hF
            intro g ih i11 i12 x hF K
            refine at_round ?_
            refine at_seq ?_
            refine at_seq ?_
            refine at_region ?_
            refine at_val rfl rfl rfl (r_move rfl) ?_
            refine at_val rfl rfl rfl (r_ilss rfl rfl) ?_
            refine at_nil ?_
            refine at_weak [(2, _), (4, _), (5, _), (14, _), (89, _)] ⟨rfl, rfl, rfl, rfl, rfl, trivial⟩ ?_
            refine at_then_normal ?_
            rcases of_ite hF with ⟨h13, hF⟩ | ⟨h13, hF⟩
            · refine at_cond_true rfl h13 ?_
              refine at_skip ?_
              refine at_then_normal ?_
              refine at_seq ?_
              refine at_block ?_
              refine at_seq ?_
              refine at_region ?_
              refine at_val rfl rfl rfl (r_move rfl) ?_
              refine at_val rfl rfl rfl (r_imul rfl rfl) ?_
              refine at_val rfl rfl rfl (r_move rfl) ?_
              refine at_val rfl rfl rfl (r_move rfl) ?_
              obtain ⟨h14, hF⟩ := of_guard hF
              refine at_pure (φ := ∃ b o, p6 = some ⟨b, o, none⟩) (fun _ hw => row_ptr (hw.own .z).row h14) ?_
              rintro ⟨b16, o17, hp15⟩
              refine at_val rfl rfl rfl (r_idx Tryd.underlying104 Tryd.sizeOf3 rfl rfl h14 hp15) ?_
              refine at_val rfl rfl rfl (r_load_cell Tryd.isAgg3 rfl (fun _ hw => row_cell0 (W := fun w1 => w1 = _) (fun w1 h => by subst h; exact Below.refl _ _) (hw.own .z).row h14 hp15 rfl _ rfl)) ?_
              refine at_val rfl rfl rfl (r_iquo rfl rfl (by decide)) ?_
              refine at_val rfl rfl rfl (r_conv Tryd.underlying3 Tryd.underlying5 rfl) ?_
              obtain ⟨h18, hF⟩ := of_guard hF
              refine at_val rfl rfl rfl (r_idxArr Tryd.underlying22 Tryd.sizeOf5 rfl rfl h18) ?_
              refine at_store (c := (cInt .u8)) (z := wr .u8 (wr .i64 (Int.tdiv (lget t5.1 i11) 256))) (.s .z) (Lens.comp (Lens.whole _ _) (fun z => vset i12 (wr .i64 (2 * i11)) z) (Lens.vec (cInt .u8) (by decide) i12 (wr .i64 (2 * i11)) h18)) Tryd.sizeOf5 rfl rfl rfl ?_
              refine at_nil ?_
              refine at_weak [(2, _), (4, _), (5, _), (14, _)] ⟨rfl, rfl, rfl, rfl, trivial⟩ ?_
              refine at_then_normal ?_
              refine at_region ?_
              refine at_val rfl rfl rfl (r_move rfl) ?_
              refine at_val rfl rfl rfl (r_imul rfl rfl) ?_
              refine at_val rfl rfl rfl (r_iadd rfl rfl) ?_
              refine at_val rfl rfl rfl (r_move rfl) ?_
              refine at_val rfl rfl rfl (r_move rfl) ?_
              obtain ⟨h19, hF⟩ := of_guard hF
              refine at_pure (φ := ∃ b o, p6 = some ⟨b, o, none⟩) (fun _ hw => row_ptr (hw.own .z).row h19) ?_
              rintro ⟨b21, o22, hp20⟩
              refine at_val rfl rfl rfl (r_idx Tryd.underlying104 Tryd.sizeOf3 rfl rfl h19 hp20) ?_
              refine at_val rfl rfl rfl (r_load_cell Tryd.isAgg3 rfl (fun _ hw => row_cell0 (W := fun w1 => w1 = _) (fun w1 h => by subst h; exact Below.refl _ _) (hw.own .z).row h19 hp20 rfl _ rfl)) ?_
              refine at_val rfl rfl rfl (r_irem rfl rfl (by decide)) ?_
              refine at_val rfl rfl rfl (r_conv Tryd.underlying3 Tryd.underlying5 rfl) ?_
              obtain ⟨h23, hF⟩ := of_guard hF
              refine at_val rfl rfl rfl (r_idxArr Tryd.underlying22 Tryd.sizeOf5 rfl rfl h23) ?_
              refine at_store (c := (cInt .u8)) (z := wr .u8 (Int.tmod (lget t5.1 i11) 256)) (.s .z) (Lens.comp (Lens.whole _ _) (fun z => vset (vset i12 (wr .i64 (2 * i11)) (wr .u8 (wr .i64 (Int.tdiv (lget t5.1 i11) 256)))) (wr .i64 ((wr .i64 (2 * i11)) + 1)) z) (Lens.vec (cInt .u8) (by decide) (vset i12 (wr .i64 (2 * i11)) (wr .u8 (wr .i64 (Int.tdiv (lget t5.1 i11) 256)))) (wr .i64 ((wr .i64 (2 * i11)) + 1)) h23)) Tryd.sizeOf5 rfl rfl rfl ?_
              refine at_nil ?_
              refine at_weak [(2, _), (4, _), (5, _), (14, _)] ⟨rfl, rfl, rfl, rfl, trivial⟩ ?_
              refine at_blk_normal (at_then_normal ?_)
              refine at_region ?_
              refine at_val rfl rfl rfl (r_move rfl) ?_
              refine at_val rfl rfl rfl (r_iadd rfl rfl) ?_
              refine at_val rfl rfl rfl (r_assign rfl) ?_
              refine at_nil ?_
              refine at_weak [(2, _), (4, _), (5, _), (14, _)] ⟨rfl, rfl, rfl, rfl, trivial⟩ ?_
              refine at_then_normal ?_
              exact at_weak_k (ih _ _ _ hF K) ⟨rfl, rfl, rfl, rfl, trivial⟩
            · refine at_cond_false rfl h13 ?_
              refine at_exit ?_
              refine at_then_exit (at_then_exit ?_)
              refine at_drop (H := _) .z ?_
              obtain rfl := of_some hF
              exact at_weak_k K ⟨rfl, rfl, trivial⟩
        · skip
          skip
          refine at_blk_same ?_
          refine at_then_normal ?_
          refine at_seq ?_
          refine at_region ?_
          refine at_val rfl rfl rfl (r_load_aggc (c := (cVec (cInt .u8) 16 (by decide))) (z := q10) Tryd.isAgg22 Tryd.sizeOf22 rfl (lens_cell .z (Lens.whole _ _))) ?_
          refine at_store (c := (cVec (cInt .u8) 16 (by decide))) (z := q10) (.s .z) (Lens.whole _ _) Tryd.sizeOf22 rfl rfl rfl ?_
          refine at_val rfl rfl rfl (r_assign rfl) ?_
          refine at_nil ?_
          refine at_drop (H := _) .z ?_
          refine at_weak [(2, _), (3, _)] ⟨rfl, rfl, trivial⟩ ?_
          refine at_then_normal ?_
          refine at_ret ?_
          have K := of_some hF
          subst K
          exact at_res2 rfl (res_cell (c := (cVec (cInt .u8) 16 (by decide))) (y := q10) rfl .z (Lens.whole _ _) Tryd.isAgg22 Tryd.sizeOf22 (.inl rfl)) (res_tmp rfl) (fun w1 hw => ⟨rfl, hw.below⟩)
  · refine at_cond_false rfl h4 ?_
    refine at_seq ?_
    refine at_region ?_
    refine at_val rfl rfl rfl (r_move rfl) ?_
    refine at_val rfl rfl rfl (r_move rfl) ?_
    obtain ⟨h24, hF⟩ := of_guard hF
    refine at_val rfl rfl rfl (r_slice_str Tryd.underlying9 rfl rfl ⟨_, rfl⟩ h24) ?_
    obtain ⟨t25, ht25, hF⟩ := of_bindM hF
    refine at_callO (c := (cInt .i64)) (e := 3) (ys := t25.1) (V := fun p cap => .tuple #[.slice p t25.1.length cap, .bool t25.2]) Tryd.func87 rfl (by kernel_rfl) rfl rfl (fun w hw => crawlwayref09_list_ok _ _ _ ht25 w) ?_
    intro p26 c27
    refine at_val rfl rfl rfl (r_move rfl) ?_
    refine at_val rfl rfl rfl (r_extract rfl rfl) ?_
    refine at_val rfl rfl rfl (r_extract rfl rfl) ?_
    refine at_val rfl rfl rfl (r_assign rfl) ?_
    refine at_val rfl rfl rfl (r_assign rfl) ?_
    refine at_nil ?_
    refine at_weak [(0, _), (2, _), (4, _), (5, _), (6, _), (9, _), (10, _)] ⟨rfl, rfl, rfl, rfl, rfl, rfl, rfl, trivial⟩ ?_
    refine at_then_normal ?_
    refine at_seq ?_
    refine at_region ?_
    refine at_val rfl rfl rfl (r_move rfl) ?_
    refine at_val rfl rfl rfl (r_move rfl) ?_
    refine at_val rfl rfl rfl (r_iadd rfl rfl) ?_
    obtain ⟨h28, hF⟩ := of_guard hF
    refine at_val rfl rfl rfl (r_slice_str Tryd.underlying9 rfl ⟨_, rfl⟩ rfl h28) ?_
    obtain ⟨t29, ht29, hF⟩ := of_bindM hF
    refine at_callO (c := (cInt .i64)) (e := 3) (ys := t29.1) (V := fun p cap => .tuple #[.slice p t29.1.length cap, .bool t29.2]) Tryd.func87 rfl (by kernel_rfl) rfl rfl (fun w hw => crawlwayref09_list_ok _ _ _ ht29 w) ?_
    intro p30 c31
    refine at_val rfl rfl rfl (r_move rfl) ?_
    refine at_val rfl rfl rfl (r_extract rfl rfl) ?_
    refine at_val rfl rfl rfl (r_extract rfl rfl) ?_
    refine at_val rfl rfl rfl (r_assign rfl) ?_
    refine at_val rfl rfl rfl (r_assign rfl) ?_
    refine at_nil ?_
    refine at_weak [(2, _), (4, _), (5, _), (9, _), (10, _), (11, _), (12, _)] ⟨rfl, rfl, rfl, rfl, rfl, rfl, rfl, trivial⟩ ?_
    refine at_then_normal ?_
    refine at_seq ?_
    refine at_seq ?_
    refine at_region ?_
    refine at_val rfl rfl rfl (r_move rfl) ?_
    refine at_val rfl rfl rfl (r_not rfl) ?_
    refine at_val rfl rfl rfl (r_move rfl) ?_
    rcases of_ite hF with ⟨h32, hF⟩ | ⟨h32, hF⟩
    · refine at_fix (g := 50) rfl h32 ?_
      refine at_guard_no rfl rfl rfl rfl rfl ?_
      refine at_guard_no rfl rfl rfl rfl rfl ?_
      refine at_val rfl rfl rfl (r_pick rfl rfl rfl) ?_
      refine at_val rfl rfl rfl (r_move rfl) ?_
      refine at_guard_no rfl rfl rfl rfl rfl ?_
      refine at_guard_no rfl rfl rfl rfl rfl ?_
      refine at_guard_no rfl rfl rfl rfl rfl ?_
      refine at_guard_no rfl rfl rfl rfl rfl ?_
      refine at_guard_no rfl rfl rfl rfl rfl ?_
      refine at_guard_no rfl rfl rfl rfl rfl ?_
      refine at_val rfl rfl rfl (r_pick rfl rfl rfl) ?_
      refine at_nil ?_
      refine at_weak [(2, _), (4, _), (5, _), (9, _), (11, _), (61, _)] ⟨rfl, rfl, rfl, rfl, rfl, rfl, trivial⟩ ?_
      refine at_then_normal ?_
      refine at_cond_true rfl rfl ?_
      refine at_seq ?_
      refine at_region ?_
      refine at_val rfl rfl rfl (r_load_aggc (c := (cVec (cInt .u8) 16 (by decide))) (z := (Vector.replicate 16 (0 : Int) : (Vector Int 16))) Tryd.isAgg22 Tryd.sizeOf22 rfl (lens_cell (.s (.s .z)) (Lens.whole _ _))) ?_
      refine at_store (c := (cVec (cInt .u8) 16 (by decide))) (z := (Vector.replicate 16 (0 : Int) : (Vector Int 16))) (.s (.s (.s .z))) (Lens.whole _ _) Tryd.sizeOf22 rfl rfl rfl ?_
      refine at_val rfl rfl rfl (r_assign rfl) ?_
      refine at_nil ?_
      refine at_drop (H := _) .z ?_
      refine at_drop (H := _) .z ?_
      refine at_drop (H := _) .z ?_
      refine at_weak [(2, _), (3, _)] ⟨rfl, rfl, trivial⟩ ?_
      refine at_then_normal ?_
      refine at_ret ?_
      refine at_then_ret (at_then_ret ?_)
      have K := of_some hF
      subst K
      exact at_res2 rfl (res_cell (c := (cVec (cInt .u8) 16 (by decide))) (y := (Vector.replicate 16 (0 : Int) : (Vector Int 16))) rfl .z (Lens.whole _ _) Tryd.isAgg22 Tryd.sizeOf22 (.inl rfl)) (res_tmp rfl) (fun w1 hw => ⟨rfl, hw.below⟩)
    · refine at_fix (g := 50) rfl h32 ?_
      refine at_guard_yes rfl rfl rfl ?_
      refine at_val rfl rfl rfl (r_move rfl) ?_
      refine at_guard_yes rfl rfl rfl ?_
      refine at_val rfl rfl rfl (r_not rfl) ?_
      refine at_val rfl rfl rfl (r_pick rfl rfl rfl) ?_
      refine at_val rfl rfl rfl (r_move rfl) ?_
      rcases of_ite hF with ⟨h33, hF⟩ | ⟨h33, hF⟩
      · refine at_fix (g := 54) rfl h33 ?_
        refine at_guard_no rfl rfl rfl rfl rfl ?_
        refine at_guard_no rfl rfl rfl rfl rfl ?_
        refine at_guard_no rfl rfl rfl rfl rfl ?_
        refine at_guard_no rfl rfl rfl rfl rfl ?_
        refine at_guard_no rfl rfl rfl rfl rfl ?_
        refine at_guard_no rfl rfl rfl rfl rfl ?_
        refine at_val rfl rfl rfl (r_pick rfl rfl rfl) ?_
        refine at_nil ?_
        refine at_weak [(2, _), (4, _), (5, _), (9, _), (11, _), (61, _)] ⟨rfl, rfl, rfl, rfl, rfl, rfl, trivial⟩ ?_
        refine at_then_normal ?_
        refine at_cond_true rfl rfl ?_
        refine at_seq ?_
        refine at_region ?_
        refine at_val rfl rfl rfl (r_load_aggc (c := (cVec (cInt .u8) 16 (by decide))) (z := (Vector.replicate 16 (0 : Int) : (Vector Int 16))) Tryd.isAgg22 Tryd.sizeOf22 rfl (lens_cell (.s (.s .z)) (Lens.whole _ _))) ?_
        refine at_store (c := (cVec (cInt .u8) 16 (by decide))) (z := (Vector.replicate 16 (0 : Int) : (Vector Int 16))) (.s (.s (.s .z))) (Lens.whole _ _) Tryd.sizeOf22 rfl rfl rfl ?_
        refine at_val rfl rfl rfl (r_assign rfl) ?_
        refine at_nil ?_
        refine at_drop (H := _) .z ?_
        refine at_drop (H := _) .z ?_
        refine at_drop (H := _) .z ?_
        refine at_weak [(2, _), (3, _)] ⟨rfl, rfl, trivial⟩ ?_
        refine at_then_normal ?_
        refine at_ret ?_
        refine at_then_ret (at_then_ret ?_)
        have K := of_some hF
        subst K
        exact at_res2 rfl (res_cell (c := (cVec (cInt .u8) 16 (by decide))) (y := (Vector.replicate 16 (0 : Int) : (Vector Int 16))) rfl .z (Lens.whole _ _) Tryd.isAgg22 Tryd.sizeOf22 (.inl rfl)) (res_tmp rfl) (fun w1 hw => ⟨rfl, hw.below⟩)
      · refine at_fix (g := 54) rfl h33 ?_
        refine at_guard_yes rfl rfl rfl ?_
        refine at_val rfl rfl rfl (r_move rfl) ?_
        refine at_guard_yes rfl rfl rfl ?_
        refine at_val rfl rfl rfl (r_len_sl Tryd.underlying104 rfl) ?_
        refine at_guard_yes rfl rfl rfl ?_
        refine at_val rfl rfl rfl (r_move rfl) ?_
        refine at_guard_yes rfl rfl rfl ?_
        refine at_val rfl rfl rfl (r_len_sl Tryd.underlying104 rfl) ?_
        refine at_guard_yes rfl rfl rfl ?_
        refine at_val rfl rfl rfl (r_iadd rfl rfl) ?_
        refine at_guard_yes rfl rfl rfl ?_
        refine at_val rfl rfl rfl (r_igtr rfl rfl) ?_
        refine at_val rfl rfl rfl (r_pick rfl rfl rfl) ?_
        refine at_nil ?_
        refine at_weak [(2, _), (4, _), (5, _), (9, _), (11, _), (61, _)] ⟨rfl, rfl, rfl, rfl, rfl, rfl, trivial⟩ ?_
        refine at_then_normal ?_
        rcases of_ite hF with ⟨h34, hF⟩ | ⟨h34, hF⟩
        · refine at_cond_true rfl h34 ?_
          refine at_seq ?_
          refine at_region ?_
          refine at_val rfl rfl rfl (r_load_aggc (c := (cVec (cInt .u8) 16 (by decide))) (z := (Vector.replicate 16 (0 : Int) : (Vector Int 16))) Tryd.isAgg22 Tryd.sizeOf22 rfl (lens_cell (.s (.s .z)) (Lens.whole _ _))) ?_
          refine at_store (c := (cVec (cInt .u8) 16 (by decide))) (z := (Vector.replicate 16 (0 : Int) : (Vector Int 16))) (.s (.s (.s .z))) (Lens.whole _ _) Tryd.sizeOf22 rfl rfl rfl ?_
          refine at_val rfl rfl rfl (r_assign rfl) ?_
          refine at_nil ?_
          refine at_drop (H := _) .z ?_
          refine at_drop (H := _) .z ?_
          refine at_drop (H := _) .z ?_
          refine at_weak [(2, _), (3, _)] ⟨rfl, rfl, trivial⟩ ?_
          refine at_then_normal ?_
          refine at_ret ?_
          refine at_then_ret (at_then_ret ?_)
          have K := of_some hF
          subst K
          exact at_res2 rfl (res_cell (c := (cVec (cInt .u8) 16 (by decide))) (y := (Vector.replicate 16 (0 : Int) : (Vector Int 16))) rfl .z (Lens.whole _ _) Tryd.isAgg22 Tryd.sizeOf22 (.inl rfl)) (res_tmp rfl) (fun w1 hw => ⟨rfl, hw.below⟩)
        · refine at_cond_false rfl h34 ?_
          refine at_skip ?_
          refine at_then_normal ?_
          refine at_seq ?_
          refine at_seq ?_
          refine at_region ?_
          refine at_val rfl rfl rfl (r_assign rfl) ?_
          refine at_nil ?_
          refine at_weak [(2, _), (4, _), (5, _), (9, _), (11, _), (13, _)] ⟨rfl, rfl, rfl, rfl, rfl, rfl, trivial⟩ ?_
          refine at_then_normal ?_
          refine at_block ?_
          refine at_own_nil (cInt .i64) 3 ?_
          refine at_weak [(2, _), (4, _), (5, .slice none ([] : List Int).length 0), (9, _), (11, _), (13, _)] ⟨rfl, rfl, rfl, rfl, rfl, rfl, trivial⟩ ?_
          obtain ⟨q37, hq37, hF⟩ := of_bindM hF
          refine at_weak [(2, _), (4, _), (5, _), (9, _), (11, _), (13, _)] ⟨rfl, rfl, rfl, rfl, rfl, rfl, trivial⟩ ?_
          refine at_loop_n (B := 0) (A := fun Y => ∀ (p42 : Option Addr) (c43 : Nat), At 112 [(2, .pointer (some ⟨b1, 0, none⟩)), (4, .pointer (some ⟨b2, 0, none⟩)), (5, .slice p42 q37.length c43), (11, .slice p30 t29.1.length c31)] (Wd w [rowE (cInt .i64) 3 p42 c43 q37, rowE (cInt .i64) 3 p30 c31 t29.1, cellsE b2 (Cd.cs (cVec (cInt .u8) 16 (by decide)) (Vector.replicate 16 (0 : Int) : (Vector Int 16))) 22, cellsE b1 (Cd.cs (cVec (cInt .u8) 16 (by decide)) (Vector.replicate 16 (0 : Int) : (Vector Int 16))) 22]) Y) ?_ ?_
          · intro K
            refine crawlwayref09_Parse.l1.partial_correctness t25 (motive := fun i38 i39 x => KN (fun Y => ∀ (p42 : Option Addr) (c43 : Nat), At 112 [(2, .pointer (some ⟨b1, 0, none⟩)), (4, .pointer (some ⟨b2, 0, none⟩)), (5, .slice p42 x.length c43), (11, .slice p30 t29.1.length c31)] (Wd w [rowE (cInt .i64) 3 p42 c43 x, rowE (cInt .i64) 3 p30 c31 t29.1, cellsE b2 (Cd.cs (cVec (cInt .u8) 16 (by decide)) (Vector.replicate 16 (0 : Int) : (Vector Int 16))) 22, cellsE b1 (Cd.cs (cVec (cInt .u8) 16 (by decide)) (Vector.replicate 16 (0 : Int) : (Vector Int 16))) 22]) Y) _ 0 → Round (fun Y => ∀ (p40 : Option Addr) (c41 : Nat), At 112 [(2, .pointer (some ⟨b1, 0, none⟩)), (4, .pointer (some ⟨b2, 0, none⟩)), (5, .slice p40 i38.length c41), (9, .slice p26 t25.1.length c27), (11, .slice p30 t29.1.length c31), (13, .int .i64 i39)] (Wd w [rowE (cInt .i64) 3 p40 c41 i38, rowE (cInt .i64) 3 p30 c31 t29.1, rowE (cInt .i64) 3 p26 c27 t25.1, cellsE b2 (Cd.cs (cVec (cInt .u8) 16 (by decide)) (Vector.replicate 16 (0 : Int) : (Vector Int 16))) 22, cellsE b1 (Cd.cs (cVec (cInt .u8) 16 (by decide)) (Vector.replicate 16 (0 : Int) : (Vector Int 16))) 22]) Y) _ _ _) ?_ _ _ _ hq37 K none 0
            · clear K hF
              intro g ih i38 i39 x hF K p40 c41
              refine at_round ?_
              refine at_seq ?_
              refine at_seq ?_
              refine at_region ?_
              refine at_val rfl rfl rfl (r_move rfl) ?_
              refine at_val rfl rfl rfl (r_move rfl) ?_
              refine at_val rfl rfl rfl (r_len_sl Tryd.underlying104 rfl) ?_
              refine at_val rfl rfl rfl (r_ilss rfl rfl) ?_
              refine at_nil ?_
              refine at_weak [(2, _), (4, _), (5, _), (9, _), (11, _), (13, _), (66, _)] ⟨rfl, rfl, rfl, rfl, rfl, rfl, rfl, trivial⟩ ?_
              refine at_then_normal ?_
              rcases of_ite hF with ⟨h44, hF⟩ | ⟨h44, hF⟩
              · refine at_cond_true rfl h44 ?_
                refine at_skip ?_
                refine at_then_normal ?_
                refine at_seq ?_
                refine at_block ?_
                refine at_region ?_
                refine at_val rfl rfl rfl (r_move rfl) ?_
                refine at_val rfl rfl rfl (r_move rfl) ?_
                refine at_val rfl rfl rfl (r_move rfl) ?_
                obtain ⟨h45, hF⟩ := of_guard hF
                refine at_pure (φ := ∃ b o, p26 = some ⟨b, o, none⟩) (fun _ hw => row_ptr (hw.own (.s (.s .z))).row h45) ?_
                rintro ⟨b47, o48, hp46⟩
                refine at_val rfl rfl rfl (r_idx Tryd.underlying104 Tryd.sizeOf3 rfl rfl h45 hp46) ?_
                refine at_val rfl rfl rfl (r_load_cell Tryd.isAgg3 rfl (fun _ hw => row_cell0 (W := fun w1 => w1 = _) (fun w1 h => by subst h; exact Below.refl _ _) (hw.own (.s (.s .z))).row h45 hp46 rfl _ rfl)) ?_
                refine at_lit (cs := (cInt .i64).all ([lget t25.1 i39] : List Int)) Tryd.underlying104 Tryd.sizeOf3 Tryd.zeroValue3 rfl rfl rfl (by kernel_rfl) rfl ?_
                intro b49
                obtain ⟨h50, hF⟩ := of_guard hF
                refine at_append (z := .int .i64 0) (c := (cInt .i64)) (ys := ([lget t25.1 i39] : List Int)) (.s .z) Tryd.underlying104 infoH53 (by kernel_rfl) (by kernel_rfl) rfl rfl rfl rfl (fun _ hw => cells_src (hw.ok (Upd.mem .z))) (by kernel_rfl) h50 (app_small h50) rfl ?_
                intro p51 c52
                refine at_val rfl rfl rfl (r_assign rfl) ?_
                refine at_nil ?_
                refine at_drop (H := _) .z ?_
                refine at_weak [(2, _), (4, _), (5, _), (9, _), (11, _), (13, _)] ⟨rfl, rfl, rfl, rfl, rfl, rfl, trivial⟩ ?_
                refine at_blk_normal (at_then_normal ?_)
                refine at_region ?_
                refine at_val rfl rfl rfl (r_move rfl) ?_
                refine at_val rfl rfl rfl (r_iadd rfl rfl) ?_
                refine at_val rfl rfl rfl (r_assign rfl) ?_
                refine at_nil ?_
                refine at_weak [(2, _), (4, _), (5, _), (9, _), (11, _), (13, _)] ⟨rfl, rfl, rfl, rfl, rfl, rfl, trivial⟩ ?_
                refine at_then_normal ?_
                exact at_weak_k (ih _ _ _ hF K p51 c52) ⟨rfl, rfl, rfl, rfl, rfl, rfl, trivial⟩
              · refine at_cond_false rfl h44 ?_
                refine at_exit ?_
                refine at_then_exit (at_then_exit ?_)
                refine at_drop (H := _) (.s (.s .z)) ?_
                obtain rfl := of_some hF
                exact at_weak_k (K p40 c41) ⟨rfl, rfl, rfl, rfl, trivial⟩
          · skip
            intro p42 c43
            refine at_blk_same ?_
            refine at_then_normal ?_
            refine at_seq ?_
            refine at_block ?_
            obtain ⟨q55, hq55, hF⟩ := of_bindM hF
            refine at_weak [(2, _), (4, _), (5, _), (11, _)] ⟨rfl, rfl, rfl, rfl, trivial⟩ ?_
            refine at_loop_n (B := 2) (A := fun Y => ∀ (p59 : Option Addr) (c60 : Nat), At 112 [(2, .pointer (some ⟨b1, 0, none⟩)), (4, .pointer (some ⟨b2, 0, none⟩)), (5, .slice p59 q55.length c60), (11, .slice p30 t29.1.length c31)] (Wd w [rowE (cInt .i64) 3 p59 c60 q55, rowE (cInt .i64) 3 p30 c31 t29.1, cellsE b2 (Cd.cs (cVec (cInt .u8) 16 (by decide)) (Vector.replicate 16 (0 : Int) : (Vector Int 16))) 22, cellsE b1 (Cd.cs (cVec (cInt .u8) 16 (by decide)) (Vector.replicate 16 (0 : Int) : (Vector Int 16))) 22]) Y) ?_ ?_
            · intro K
              refine crawlwayref09_Parse.l2.partial_correctness t29 (motive := fun i56 x => KN (fun Y => ∀ (p59 : Option Addr) (c60 : Nat), At 112 [(2, .pointer (some ⟨b1, 0, none⟩)), (4, .pointer (some ⟨b2, 0, none⟩)), (5, .slice p59 x.length c60), (11, .slice p30 t29.1.length c31)] (Wd w [rowE (cInt .i64) 3 p59 c60 x, rowE (cInt .i64) 3 p30 c31 t29.1, cellsE b2 (Cd.cs (cVec (cInt .u8) 16 (by decide)) (Vector.replicate 16 (0 : Int) : (Vector Int 16))) 22, cellsE b1 (Cd.cs (cVec (cInt .u8) 16 (by decide)) (Vector.replicate 16 (0 : Int) : (Vector Int 16))) 22]) Y) _ 2 → Round (fun Y => ∀ (p57 : Option Addr) (c58 : Nat), At 112 [(2, .pointer (some ⟨b1, 0, none⟩)), (4, .pointer (some ⟨b2, 0, none⟩)), (5, .slice p57 i56.length c58), (11, .slice p30 t29.1.length c31)] (Wd w [rowE (cInt .i64) 3 p57 c58 i56, rowE (cInt .i64) 3 p30 c31 t29.1, cellsE b2 (Cd.cs (cVec (cInt .u8) 16 (by decide)) (Vector.replicate 16 (0 : Int) : (Vector Int 16))) 22, cellsE b1 (Cd.cs (cVec (cInt .u8) 16 (by decide)) (Vector.replicate 16 (0 : Int) : (Vector Int 16))) 22]) Y) _ _ _) ?_ _ _ hq55 K p42 c43
              · clear K hF
                intro g ih i56 x hF K p57 c58
                refine at_round ?_
                refine at_seq ?_
                refine at_seq ?_
                refine at_region ?_
                refine at_val rfl rfl rfl (r_move rfl) ?_
                refine at_val rfl rfl rfl (r_len_sl Tryd.underlying104 rfl) ?_
                refine at_val rfl rfl rfl (r_move rfl) ?_
                refine at_val rfl rfl rfl (r_len_sl Tryd.underlying104 rfl) ?_
                refine at_val rfl rfl rfl (r_iadd rfl rfl) ?_
                refine at_val rfl rfl rfl (r_ilss rfl rfl) ?_
                refine at_nil ?_
                refine at_weak [(2, _), (4, _), (5, _), (11, _), (81, _)] ⟨rfl, rfl, rfl, rfl, rfl, trivial⟩ ?_
                refine at_then_normal ?_
                rcases of_ite hF with ⟨h61, hF⟩ | ⟨h61, hF⟩
                · refine at_cond_true rfl h61 ?_
                  refine at_skip ?_
                  refine at_then_normal ?_
                  refine at_block ?_
                  refine at_region ?_
                  refine at_val rfl rfl rfl (r_move rfl) ?_
                  refine at_lit (cs := (cInt .i64).all ([0] : List Int)) Tryd.underlying104 Tryd.sizeOf3 Tryd.zeroValue3 rfl rfl rfl (by kernel_rfl) rfl ?_
                  intro b62
                  obtain ⟨h63, hF⟩ := of_guard hF
                  refine at_append (z := .int .i64 0) (c := (cInt .i64)) (ys := ([0] : List Int)) (.s .z) Tryd.underlying104 infoH53 (by kernel_rfl) (by kernel_rfl) rfl rfl rfl rfl (fun _ hw => cells_src (hw.ok (Upd.mem .z))) (by kernel_rfl) h63 (app_small h63) rfl ?_
                  intro p64 c65
                  refine at_val rfl rfl rfl (r_assign rfl) ?_
                  refine at_nil ?_
                  refine at_drop (H := _) .z ?_
                  refine at_weak [(2, _), (4, _), (5, _), (11, _)] ⟨rfl, rfl, rfl, rfl, trivial⟩ ?_
                  refine at_blk_normal (at_then_normal ?_)
                  exact at_weak_k (ih _ _ hF K p64 c65) ⟨rfl, rfl, rfl, rfl, trivial⟩
                · refine at_cond_false rfl h61 ?_
                  refine at_exit ?_
                  refine at_then_exit (at_then_exit ?_)
                  obtain rfl := of_some hF
                  exact at_weak_k (K p57 c58) ⟨rfl, rfl, rfl, rfl, trivial⟩
            · skip
              intro p59 c60
              refine at_blk_same ?_
              refine at_then_normal ?_
              refine at_region ?_
              refine at_val rfl rfl rfl (r_move rfl) ?_
              refine at_val rfl rfl rfl (r_move rfl) ?_
              obtain ⟨h66, hF⟩ := of_guard hF
              refine at_append_row (z := .int .i64 0) (c := (cInt .i64)) (ys := t29.1) .z Tryd.underlying104 infoH53 (by kernel_rfl) (by kernel_rfl) rfl rfl rfl (fun w1 hw => (hw.own (.s .z)).row) (by kernel_rfl) h66 (app_small h66) rfl ?_
              intro p67 c68
              refine at_val rfl rfl rfl (r_assign rfl) ?_
              refine at_nil ?_
              refine at_drop (H := _) (.s .z) ?_
              refine at_weak [(2, _), (4, _), (5, _)] ⟨rfl, rfl, rfl, trivial⟩ ?_
              refine at_then_normal ?_
              refine at_seq ?_
              refine at_seq ?_
              refine at_region ?_
              refine at_val rfl rfl rfl (r_assign rfl) ?_
              refine at_nil ?_
              refine at_weak [(2, _), (4, _), (5, _), (14, _)] ⟨rfl, rfl, rfl, rfl, trivial⟩ ?_
              refine at_then_normal ?_
              refine at_block ?_
              obtain ⟨q69, hq69, hF⟩ := of_bindM hF
              refine at_weak [(2, _), (4, _), (5, _), (14, _)] ⟨rfl, rfl, rfl, rfl, trivial⟩ ?_
              refine at_loop_n (B := 4) (A := fun Y => At 112 [(2, .pointer (some ⟨b1, 0, none⟩)), (4, .pointer (some ⟨b2, 0, none⟩))] (Wd w [cellsE b2 (Cd.cs (cVec (cInt .u8) 16 (by decide)) q69) 22, cellsE b1 (Cd.cs (cVec (cInt .u8) 16 (by decide)) (Vector.replicate 16 (0 : Int) : (Vector Int 16))) 22]) Y) ?_ ?_
              · intro K
                refine crawlwayref09_Parse.l3.partial_correctness t29 q55 (motive := fun i70 i71 x => KN (fun Y => At 112 [(2, .pointer (some ⟨b1, 0, none⟩)), (4, .pointer (some ⟨b2, 0, none⟩))] (Wd w [cellsE b2 (Cd.cs (cVec (cInt .u8) 16 (by decide)) x) 22, cellsE b1 (Cd.cs (cVec (cInt .u8) 16 (by decide)) (Vector.replicate 16 (0 : Int) : (Vector Int 16))) 22]) Y) _ 4 → Round (fun Y => At 112 [(2, .pointer (some ⟨b1, 0, none⟩)), (4, .pointer (some ⟨b2, 0, none⟩)), (5, .slice p67 (q55 ++ t29.1).length c68), (14, .int .i64 i70)] (Wd w [rowE (cInt .i64) 3 p67 c68 (q55 ++ t29.1), cellsE b2 (Cd.cs (cVec (cInt .u8) 16 (by decide)) i71) 22, cellsE b1 (Cd.cs (cVec (cInt .u8) 16 (by decide)) (Vector.replicate 16 (0 : Int) : (Vector Int 16))) 22]) Y) _ _ _) ?_ _ _ _ hq69 K
                · clear K hF
                  intro g ih i70 i71 x hF K
                  refine at_round ?_
                  refine at_seq ?_
                  refine at_seq ?_
                  refine at_region ?_
                  refine at_val rfl rfl rfl (r_move rfl) ?_
                  refine at_val rfl rfl rfl (r_ilss rfl rfl) ?_
                  refine at_nil ?_
                  refine at_weak [(2, _), (4, _), (5, _), (14, _), (89, _)] ⟨rfl, rfl, rfl, rfl, rfl, trivial⟩ ?_
                  refine at_then_normal ?_
                  rcases of_ite hF with ⟨h72, hF⟩ | ⟨h72, hF⟩
                  · refine at_cond_true rfl h72 ?_
                    refine at_skip ?_
                    refine at_then_normal ?_
                    refine at_seq ?_
                    refine at_block ?_
                    refine at_seq ?_
                    refine at_region ?_
                    refine at_val rfl rfl rfl (r_move rfl) ?_
                    refine at_val rfl rfl rfl (r_imul rfl rfl) ?_
                    refine at_val rfl rfl rfl (r_move rfl) ?_
                    refine at_val rfl rfl rfl (r_move rfl) ?_
                    obtain ⟨h73, hF⟩ := of_guard hF
                    refine at_pure (φ := ∃ b o, p67 = some ⟨b, o, none⟩) (fun _ hw => row_ptr (hw.own .z).row h73) ?_
                    rintro ⟨b75, o76, hp74⟩
                    refine at_val rfl rfl rfl (r_idx Tryd.underlying104 Tryd.sizeOf3 rfl rfl h73 hp74) ?_
                    refine at_val rfl rfl rfl (r_load_cell Tryd.isAgg3 rfl (fun _ hw => row_cell0 (W := fun w1 => w1 = _) (fun w1 h => by subst h; exact Below.refl _ _) (hw.own .z).row h73 hp74 rfl _ rfl)) ?_
                    refine at_val rfl rfl rfl (r_iquo rfl rfl (by decide)) ?_
                    refine at_val rfl rfl rfl (r_conv Tryd.underlying3 Tryd.underlying5 rfl) ?_
                    obtain ⟨h77, hF⟩ := of_guard hF
                    refine at_val rfl rfl rfl (r_idxArr Tryd.underlying22 Tryd.sizeOf5 rfl rfl h77) ?_
                    refine at_store (c := (cInt .u8)) (z := wr .u8 (wr .i64 (Int.tdiv (lget (q55 ++ t29.1) i70) 256))) (.s .z) (Lens.comp (Lens.whole _ _) (fun z => vset i71 (wr .i64 (2 * i70)) z) (Lens.vec (cInt .u8) (by decide) i71 (wr .i64 (2 * i70)) h77)) Tryd.sizeOf5 rfl rfl rfl ?_
                    refine at_nil ?_
                    refine at_weak [(2, _), (4, _), (5, _), (14, _)] ⟨rfl, rfl, rfl, rfl, trivial⟩ ?_
                    refine at_then_normal ?_
                    refine at_region ?_
                    refine at_val rfl rfl rfl (r_move rfl) ?_
                    refine at_val rfl rfl rfl (r_imul rfl rfl) ?_
                    refine at_val rfl rfl rfl (r_iadd rfl rfl) ?_
                    refine at_val rfl rfl rfl (r_move rfl) ?_
                    refine at_val rfl rfl rfl (r_move rfl) ?_
                    obtain ⟨h78, hF⟩ := of_guard hF
                    refine at_pure (φ := ∃ b o, p67 = some ⟨b, o, none⟩) (fun _ hw => row_ptr (hw.own .z).row h78) ?_
                    rintro ⟨b80, o81, hp79⟩
                    refine at_val rfl rfl rfl (r_idx Tryd.underlying104 Tryd.sizeOf3 rfl rfl h78 hp79) ?_
                    refine at_val rfl rfl rfl (r_load_cell Tryd.isAgg3 rfl (fun _ hw => row_cell0 (W := fun w1 => w1 = _) (fun w1 h => by subst h; exact Below.refl _ _) (hw.own .z).row h78 hp79 rfl _ rfl)) ?_
                    refine at_val rfl rfl rfl (r_irem rfl rfl (by decide)) ?_
                    refine at_val rfl rfl rfl (r_conv Tryd.underlying3 Tryd.underlying5 rfl) ?_
                    obtain ⟨h82, hF⟩ := of_guard hF
                    refine at_val rfl rfl rfl (r_idxArr Tryd.underlying22 Tryd.sizeOf5 rfl rfl h82) ?_
                    refine at_store (c := (cInt .u8)) (z := wr .u8 (Int.tmod (lget (q55 ++ t29.1) i70) 256)) (.s .z) (Lens.comp (Lens.whole _ _) (fun z => vset (vset i71 (wr .i64 (2 * i70)) (wr .u8 (wr .i64 (Int.tdiv (lget (q55 ++ t29.1) i70) 256)))) (wr .i64 ((wr .i64 (2 * i70)) + 1)) z) (Lens.vec (cInt .u8) (by decide) (vset i71 (wr .i64 (2 * i70)) (wr .u8 (wr .i64 (Int.tdiv (lget (q55 ++ t29.1) i70) 256)))) (wr .i64 ((wr .i64 (2 * i70)) + 1)) h82)) Tryd.sizeOf5 rfl rfl rfl ?_
                    refine at_nil ?_
                    refine at_weak [(2, _), (4, _), (5, _), (14, _)] ⟨rfl, rfl, rfl, rfl, trivial⟩ ?_
                    refine at_blk_normal (at_then_normal ?_)
                    refine at_region ?_
                    refine at_val rfl rfl rfl (r_move rfl) ?_
                    refine at_val rfl rfl rfl (r_iadd rfl rfl) ?_
                    refine at_val rfl rfl rfl (r_assign rfl) ?_
                    refine at_nil ?_
                    refine at_weak [(2, _), (4, _), (5, _), (14, _)] ⟨rfl, rfl, rfl, rfl, trivial⟩ ?_
                    refine at_then_normal ?_
                    exact at_weak_k (ih _ _ _ hF K) ⟨rfl, rfl, rfl, rfl, trivial⟩
                  · refine at_cond_false rfl h72 ?_
                    refine at_exit ?_
                    refine at_then_exit (at_then_exit ?_)
                    refine at_drop (H := _) .z ?_
                    obtain rfl := of_some hF
                    exact at_weak_k K ⟨rfl, rfl, trivial⟩
              · skip
                skip
                refine at_blk_same ?_
                refine at_then_normal ?_
                refine at_seq ?_
                refine at_region ?_
                refine at_val rfl rfl rfl (r_load_aggc (c := (cVec (cInt .u8) 16 (by decide))) (z := q69) Tryd.isAgg22 Tryd.sizeOf22 rfl (lens_cell .z (Lens.whole _ _))) ?_
                refine at_store (c := (cVec (cInt .u8) 16 (by decide))) (z := q69) (.s .z) (Lens.whole _ _) Tryd.sizeOf22 rfl rfl rfl ?_
                refine at_val rfl rfl rfl (r_assign rfl) ?_
                refine at_nil ?_
                refine at_drop (H := _) .z ?_
                refine at_weak [(2, _), (3, _)] ⟨rfl, rfl, trivial⟩ ?_
                refine at_then_normal ?_
                refine at_ret ?_
                have K := of_some hF
                subst K
                exact at_res2 rfl (res_cell (c := (cVec (cInt .u8) 16 (by decide))) (y := q69) rfl .z (Lens.whole _ _) Tryd.isAgg22 Tryd.sizeOf22 (.inl rfl)) (res_tmp rfl) (fun w1 hw => ⟨rfl, hw.below⟩)

def crawlwayref09_groups.l0 (x0 : (Vector Int 16)) (i5 : Int) (i6 : (Vector Int 8)) : Option ((Vector Int 8)) :=
  if (decide (i5 < 8)) = true then (if (0 : Int) ≤ wr .i64 (2 * i5) ∧ wr .i64 (2 * i5) < 16 then if (0 : Int) ≤ wr .i64 ((wr .i64 (2 * i5)) + 1) ∧ wr .i64 ((wr .i64 (2 * i5)) + 1) < 16 then if (0 : Int) ≤ i5 ∧ i5 < 8 then crawlwayref09_groups.l0 x0 (wr .i64 (i5 + 1)) (vset i6 i5 (wr .i64 ((wr .i64 (256 * (wr .i64 (vget x0 (wr .i64 (2 * i5)))))) + (wr .i64 (vget x0 (wr .i64 ((wr .i64 (2 * i5)) + 1))))))) else none else none else none) else (some i6)
  partial_fixpoint
def crawlwayref09_groups (x0 : (Vector Int 16)) : Option ((Vector Int 8)) :=
  crawlwayref09_groups.l0 x0 0 (Vector.replicate 8 (0 : Int) : (Vector Int 8)) >>= fun q4 => some q4
set_option maxRecDepth 10000 in
theorem crawlwayref09_groups_ok (x0 : (Vector Int 16)) (r : (Vector Int 8)) (hF : crawlwayref09_groups x0 = some r) (w : World) :
    Calls Tryd.prog 83 #[.agg (Cd.cs (cVec (cInt .u8) 16 (by decide)) x0).toArray] w (fun e w' => e = .returned (.agg (Cd.cs (cVec (cInt .i64) 8 (by decide)) r).toArray) ∧ Below w.heap.size w w') := by
  unfold crawlwayref09_groups at hF
  refine calls_enter (l := [.agg (Cd.cs (cVec (cInt .u8) 16 (by decide)) x0).toArray]) Tryd.func83 rfl rfl rfl ?_
  refine at_start ?_
  refine at_weak [(0, _)] ⟨rfl, trivial⟩ ?_
  refine at_seq ?_
  refine at_region ?_
  refine at_box (cs := Cd.cs (cVec (cInt .u8) 16 (by decide)) x0) rfl rfl rfl ?_
  intro b1
  refine at_alloc (cs := Cd.cs (cVec (cInt .i64) 8 (by decide)) (Vector.replicate 8 (0 : Int) : (Vector Int 8))) Tryd.zeroValue100 rfl rfl ?_
  intro b2
  refine at_nil ?_
  refine at_weak [(1, _), (2, _)] ⟨rfl, rfl, trivial⟩ ?_
  refine at_then_normal ?_
  refine at_seq ?_
  refine at_region ?_
  refine at_alloc (cs := Cd.cs (cVec (cInt .i64) 8 (by decide)) (Vector.replicate 8 (0 : Int) : (Vector Int 8))) Tryd.zeroValue100 rfl rfl ?_
  intro b3
  refine at_nil ?_
  refine at_weak [(1, _), (2, _), (3, _)] ⟨rfl, rfl, rfl, trivial⟩ ?_
  refine at_then_normal ?_
  refine at_seq ?_
  refine at_seq ?_
  refine at_region ?_
  refine at_val rfl rfl rfl (r_assign rfl) ?_
  refine at_nil ?_
  refine at_weak [(1, _), (2, _), (3, _), (4, _)] ⟨rfl, rfl, rfl, rfl, trivial⟩ ?_
  refine at_then_normal ?_
  refine at_block ?_
  obtain ⟨q4, hq4, hF⟩ := of_bindM hF
  refine at_weak [(1, _), (2, _), (3, _), (4, _)] ⟨rfl, rfl, rfl, rfl, trivial⟩ ?_
  refine at_loop_n (B := 0) (A := fun Y => At 25 [(2, .pointer (some ⟨b2, 0, none⟩)), (3, .pointer (some ⟨b3, 0, none⟩))] (Wd w [cellsE b3 (Cd.cs (cVec (cInt .i64) 8 (by decide)) q4) 100, cellsE b2 (Cd.cs (cVec (cInt .i64) 8 (by decide)) (Vector.replicate 8 (0 : Int) : (Vector Int 8))) 100]) Y) ?_ ?_
  · intro K
    refine crawlwayref09_groups.l0.partial_correctness x0 (motive := fun i5 i6 x => KN (fun Y => At 25 [(2, .pointer (some ⟨b2, 0, none⟩)), (3, .pointer (some ⟨b3, 0, none⟩))] (Wd w [cellsE b3 (Cd.cs (cVec (cInt .i64) 8 (by decide)) x) 100, cellsE b2 (Cd.cs (cVec (cInt .i64) 8 (by decide)) (Vector.replicate 8 (0 : Int) : (Vector Int 8))) 100]) Y) _ 0 → Round (fun Y => At 25 [(1, .pointer (some ⟨b1, 0, none⟩)), (2, .pointer (some ⟨b2, 0, none⟩)), (3, .pointer (some ⟨b3, 0, none⟩)), (4, .int .i64 i5)] (Wd w [cellsE b3 (Cd.cs (cVec (cInt .i64) 8 (by decide)) i6) 100, cellsE b2 (Cd.cs (cVec (cInt .i64) 8 (by decide)) (Vector.replicate 8 (0 : Int) : (Vector Int 8))) 100, cellsE b1 (Cd.cs (cVec (cInt .u8) 16 (by decide)) x0) 22]) Y) _ _ _) ?_ _ _ _ hq4 K
    · clear K hF
      intro g ih i5 i6 x hF K
      refine at_round ?_
      refine at_seq ?_
      refine at_seq ?_
      refine at_region ?_
      refine at_val rfl rfl rfl (r_move rfl) ?_
      refine at_val rfl rfl rfl (r_ilss rfl rfl) ?_
      refine at_nil ?_
      refine at_weak [(1, _), (2, _), (3, _), (4, _), (6, _)] ⟨rfl, rfl, rfl, rfl, rfl, trivial⟩ ?_
      refine at_then_normal ?_
      rcases of_ite hF with ⟨h7, hF⟩ | ⟨h7, hF⟩
      · refine at_cond_true rfl h7 ?_
        refine at_skip ?_
        refine at_then_normal ?_
        refine at_seq ?_
        refine at_block ?_
        refine at_draw_tail 15 (by kernel_rfl) (by kernel_rfl) (fun _ h => h.drew) ?_
        simp only [List.take_succ_cons, List.take_zero, List.drop_succ_cons, List.drop_zero]
        refine ats_val rfl rfl rfl (r_move rfl) ?_
        refine ats_val rfl rfl rfl (r_move rfl) ?_
        refine ats_val rfl rfl rfl (r_imul rfl rfl) ?_
        obtain ⟨h8, hF⟩ := of_guard hF
        refine ats_val rfl rfl rfl (r_idxArr Tryd.underlying22 Tryd.sizeOf5 rfl rfl h8) ?_
        refine ats_val rfl rfl rfl (r_load_cell Tryd.isAgg5 rfl (lens_cell0 (c := (cInt .u8)) (y := vget x0 (wr .i64 (2 * i5))) (.s (.s .z)) (Lens.comp (Lens.whole _ _) (fun z => vset x0 (wr .i64 (2 * i5)) z) (Lens.vec (cInt .u8) (by decide) x0 (wr .i64 (2 * i5)) h8)) rfl)) ?_
        refine ats_val rfl rfl rfl (r_conv Tryd.underlying5 Tryd.underlying3 rfl) ?_
        refine ats_val rfl rfl rfl (r_imul rfl rfl) ?_
        refine ats_val rfl rfl rfl (r_move rfl) ?_
        refine ats_val rfl rfl rfl (r_imul rfl rfl) ?_
        refine ats_val rfl rfl rfl (r_iadd rfl rfl) ?_
        obtain ⟨h9, hF⟩ := of_guard hF
        refine ats_val rfl rfl rfl (r_idxArr Tryd.underlying22 Tryd.sizeOf5 rfl rfl h9) ?_
        refine ats_val rfl rfl rfl (r_load_cell Tryd.isAgg5 rfl (lens_cell0 (c := (cInt .u8)) (y := vget x0 (wr .i64 ((wr .i64 (2 * i5)) + 1))) (.s (.s .z)) (Lens.comp (Lens.whole _ _) (fun z => vset x0 (wr .i64 ((wr .i64 (2 * i5)) + 1)) z) (Lens.vec (cInt .u8) (by decide) x0 (wr .i64 ((wr .i64 (2 * i5)) + 1)) h9)) rfl)) ?_
        refine ats_val rfl rfl rfl (r_conv Tryd.underlying5 Tryd.underlying3 rfl) ?_
        refine ats_val rfl rfl rfl (r_iadd rfl rfl) ?_
        obtain ⟨h10, hF⟩ := of_guard hF
        refine ats_val rfl rfl rfl (r_idxArr Tryd.underlying100 Tryd.sizeOf3 rfl rfl h10) ?_
        refine ats_nil ?_
        refine at_store (c := (cInt .i64)) (z := wr .i64 ((wr .i64 (256 * (wr .i64 (vget x0 (wr .i64 (2 * i5)))))) + (wr .i64 (vget x0 (wr .i64 ((wr .i64 (2 * i5)) + 1)))))) .z (Lens.comp (Lens.whole _ _) (fun z => vset i6 i5 z) (Lens.vec (cInt .i64) (by decide) i6 i5 h10)) Tryd.sizeOf3 rfl rfl rfl ?_
        refine at_nil ?_
        refine at_weak [(1, _), (2, _), (3, _), (4, _)] ⟨rfl, rfl, rfl, rfl, trivial⟩ ?_
        refine at_blk_normal (at_then_normal ?_)
        refine at_region ?_
        refine at_val rfl rfl rfl (r_move rfl) ?_
        refine at_val rfl rfl rfl (r_iadd rfl rfl) ?_
        refine at_val rfl rfl rfl (r_assign rfl) ?_
        refine at_nil ?_
        refine at_weak [(1, _), (2, _), (3, _), (4, _)] ⟨rfl, rfl, rfl, rfl, trivial⟩ ?_
        refine at_then_normal ?_
        exact at_weak_k (ih _ _ _ hF K) ⟨rfl, rfl, rfl, rfl, trivial⟩
      · refine at_cond_false rfl h7 ?_
        refine at_exit ?_
        refine at_then_exit (at_then_exit ?_)
        refine at_drop (H := _) (.s (.s .z)) ?_
        obtain rfl := of_some hF
        exact at_weak_k K ⟨rfl, rfl, trivial⟩
  · skip
    skip
    refine at_blk_same ?_
    refine at_then_normal ?_
    refine at_seq ?_
    refine at_region ?_
    refine at_val rfl rfl rfl (r_load_aggc (c := (cVec (cInt .i64) 8 (by decide))) (z := q4) Tryd.isAgg100 Tryd.sizeOf100 rfl (lens_cell .z (Lens.whole _ _))) ?_
    refine at_store (c := (cVec (cInt .i64) 8 (by decide))) (z := q4) (.s .z) (Lens.whole _ _) Tryd.sizeOf100 rfl rfl rfl ?_
    refine at_nil ?_
    refine at_drop (H := _) .z ?_
    refine at_weak [(2, _)] ⟨rfl, trivial⟩ ?_
    refine at_then_normal ?_
    refine at_ret ?_
    have K := of_some hF
    subst K
    exact at_res1 rfl (res_cell (c := (cVec (cInt .i64) 8 (by decide))) (y := q4) rfl .z (Lens.whole _ _) Tryd.isAgg100 Tryd.sizeOf100 (.inl rfl)) (fun w1 hw => ⟨rfl, hw.below⟩)

def crawlwayref09_run.l0 (x0 : (Vector Int 8)) (x1 : Int) (i3 : Int) : Option (Int) :=
  if (decide (wr .i64 (x1 + i3) < 8)) = true then (if (0 : Int) ≤ wr .i64 (x1 + i3) ∧ wr .i64 (x1 + i3) < 8 then if (vget x0 (wr .i64 (x1 + i3)) == 0) = true then (crawlwayref09_run.l0 x0 x1 (wr .i64 (i3 + 1))) else (some i3) else none) else (some i3)
  partial_fixpoint
def crawlwayref09_run (x0 : (Vector Int 8)) (x1 : Int) : Option (Int) :=
  crawlwayref09_run.l0 x0 x1 0 >>= fun q2 => some q2
theorem crawlwayref09_run_ok (x0 : (Vector Int 8)) (x1 : Int) (r : Int) (hF : crawlwayref09_run x0 x1 = some r) (w : World) :
    Calls Tryd.prog 84 #[.agg (Cd.cs (cVec (cInt .i64) 8 (by decide)) x0).toArray, .int .i64 x1] w (fun e w' => e = .returned (.int .i64 r) ∧ Below w.heap.size w w') := by
  unfold crawlwayref09_run at hF
  refine calls_enter (l := [.agg (Cd.cs (cVec (cInt .i64) 8 (by decide)) x0).toArray, .int .i64 x1]) Tryd.func84 rfl rfl rfl ?_
  refine at_start ?_
  refine at_weak [(0, _), (1, _)] ⟨rfl, rfl, trivial⟩ ?_
  refine at_seq ?_
  refine at_region ?_
  refine at_box (cs := Cd.cs (cVec (cInt .i64) 8 (by decide)) x0) rfl rfl rfl ?_
  intro b1
  refine at_val rfl rfl rfl (r_assign rfl) ?_
  refine at_nil ?_
  refine at_weak [(1, _), (2, _)] ⟨rfl, rfl, trivial⟩ ?_
  refine at_then_normal ?_
  refine at_seq ?_
  refine at_region ?_
  refine at_val rfl rfl rfl (r_assign rfl) ?_
  refine at_nil ?_
  refine at_weak [(1, _), (2, _), (5, _)] ⟨rfl, rfl, rfl, trivial⟩ ?_
  refine at_then_normal ?_
  refine at_seq ?_
  refine at_block ?_
  obtain ⟨q2, hq2, hF⟩ := of_bindM hF
  refine at_weak [(1, _), (2, _), (5, _)] ⟨rfl, rfl, rfl, trivial⟩ ?_
  refine at_loop_n (B := 0) (A := fun Y => At 21 [(5, .int .i64 q2)] (Wd w []) Y) ?_ ?_
  · intro K
    refine crawlwayref09_run.l0.partial_correctness x0 x1 (motive := fun i3 x => KN (fun Y => At 21 [(5, .int .i64 x)] (Wd w []) Y) _ 0 → Round (fun Y => At 21 [(1, .int .i64 x1), (2, .pointer (some ⟨b1, 0, none⟩)), (5, .int .i64 i3)] (Wd w [cellsE b1 (Cd.cs (cVec (cInt .i64) 8 (by decide)) x0) 100]) Y) _ _ _) ?_ _ _ hq2 K
    · clear K hF
      intro g ih i3 x hF K
      refine at_round ?_
      refine at_seq ?_
      refine at_seq ?_
      refine at_region ?_
      refine at_val rfl rfl rfl (r_move rfl) ?_
      refine at_val rfl rfl rfl (r_move rfl) ?_
      refine at_val rfl rfl rfl (r_iadd rfl rfl) ?_
      refine at_val rfl rfl rfl (r_ilss rfl rfl) ?_
      refine at_val rfl rfl rfl (r_move rfl) ?_
      rcases of_ite hF with ⟨h4, hF⟩ | ⟨h4, hF⟩
      · refine at_fix (g := 10) rfl h4 ?_
        refine at_guard_yes rfl rfl rfl ?_
        refine at_val rfl rfl rfl (r_move rfl) ?_
        refine at_guard_yes rfl rfl rfl ?_
        refine at_val rfl rfl rfl (r_move rfl) ?_
        refine at_guard_yes rfl rfl rfl ?_
        refine at_val rfl rfl rfl (r_iadd rfl rfl) ?_
        refine at_guard_yes rfl rfl rfl ?_
        obtain ⟨h5, hF⟩ := of_guard hF
        refine at_val rfl rfl rfl (r_idxArr Tryd.underlying100 Tryd.sizeOf3 rfl rfl h5) ?_
        refine at_guard_yes rfl rfl rfl ?_
        refine at_val rfl rfl rfl (r_load_cell Tryd.isAgg3 rfl (lens_cell0 (c := (cInt .i64)) (y := vget x0 (wr .i64 (x1 + i3))) .z (Lens.comp (Lens.whole _ _) (fun z => vset x0 (wr .i64 (x1 + i3)) z) (Lens.vec (cInt .i64) (by decide) x0 (wr .i64 (x1 + i3)) h5)) rfl)) ?_
        refine at_guard_yes rfl rfl rfl ?_
        refine at_val rfl rfl rfl (r_ieql rfl rfl) ?_
        refine at_val rfl rfl rfl (r_pick rfl rfl rfl) ?_
        refine at_nil ?_
        refine at_weak [(1, _), (2, _), (5, _), (17, _)] ⟨rfl, rfl, rfl, rfl, trivial⟩ ?_
        refine at_then_normal ?_
        rcases of_ite hF with ⟨h6, hF⟩ | ⟨h6, hF⟩
        · refine at_cond_true rfl h6 ?_
          refine at_skip ?_
          refine at_then_normal ?_
          refine at_block ?_
          refine at_region ?_
          refine at_val rfl rfl rfl (r_move rfl) ?_
          refine at_val rfl rfl rfl (r_iadd rfl rfl) ?_
          refine at_val rfl rfl rfl (r_assign rfl) ?_
          refine at_nil ?_
          refine at_weak [(1, _), (2, _), (5, _)] ⟨rfl, rfl, rfl, trivial⟩ ?_
          refine at_blk_normal (at_then_normal ?_)
          exact at_weak_k (ih _ _ hF K) ⟨rfl, rfl, rfl, trivial⟩
        · refine at_cond_false rfl h6 ?_
          refine at_exit ?_
          refine at_then_exit (at_then_exit ?_)
          refine at_drop (H := _) .z ?_
          obtain rfl := of_some hF
          exact at_weak_k K ⟨rfl, trivial⟩
      · refine at_fix (g := 10) rfl h4 ?_
        refine at_guard_no rfl rfl rfl rfl rfl ?_
        refine at_guard_no rfl rfl rfl rfl rfl ?_
        refine at_guard_no rfl rfl rfl rfl rfl ?_
        refine at_guard_no rfl rfl rfl rfl rfl ?_
        refine at_guard_no rfl rfl rfl rfl rfl ?_
        refine at_guard_no rfl rfl rfl rfl rfl ?_
        refine at_val rfl rfl rfl (r_pick rfl rfl rfl) ?_
        refine at_nil ?_
        refine at_weak [(1, _), (2, _), (5, _), (17, _)] ⟨rfl, rfl, rfl, rfl, trivial⟩ ?_
        refine at_then_normal ?_
        refine at_cond_false rfl rfl ?_
        refine at_exit ?_
        refine at_then_exit (at_then_exit ?_)
        refine at_drop (H := _) .z ?_
        obtain rfl := of_some hF
        exact at_weak_k K ⟨rfl, trivial⟩
  · skip
    skip
    refine at_blk_same ?_
    refine at_then_normal ?_
    refine at_seq ?_
    refine at_region ?_
    refine at_val rfl rfl rfl (r_move rfl) ?_
    refine at_val rfl rfl rfl (r_assign rfl) ?_
    refine at_nil ?_
    refine at_weak [(4, _)] ⟨rfl, trivial⟩ ?_
    refine at_then_normal ?_
    refine at_ret ?_
    have K := of_some hF
    subst K
    exact at_return1 rfl rfl (fun w1 hw => ⟨rfl, hw.below⟩)

def crawlwayref05_Group (x0 : Int) : Option (ByteArray) :=
  if (decide (x0 < 16)) = true then (crawlwayref05_digit x0 >>= fun t2 => some t2) else (crawlwayref05_Group (wr .i64 (Int.tdiv x0 16)) >>= fun t3 => crawlwayref05_digit (Int.tmod x0 16) >>= fun t4 => if t3.size + t4.size ≤ 140737488355328 then some (t3 ++ t4) else none)
  partial_fixpoint
theorem crawlwayref05_Group_ok (x0 : Int) (r : ByteArray) (hF : crawlwayref05_Group x0 = some r) (w : World) :
    Calls Tryd.prog 102 #[.int .i64 x0] w (fun e w' => e = .returned (.string r) ∧ w' = w) := by
  refine crawlwayref05_Group.partial_correctness (motive := fun x0 r => ∀ (w : World), Calls Tryd.prog 102 #[.int .i64 x0] w (fun e w' => e = .returned (.string r) ∧ w' = w)) ?_ _ _ hF w
  clear hF
  intro g ihf0 x0 r hF w
  have ihf : ∀ (x0 : Int) (r : ByteArray) (hF : g x0 = some r) (w : World), Calls Tryd.prog 102 #[.int .i64 x0] w (fun e w' => e = .returned (.string r) ∧ w' = w) := fun x0 r hF w => ihf0 x0 r hF w
  refine calls_enter (l := [.int .i64 x0]) Tryd.func102 rfl rfl rfl ?_
  refine at_weak [(0, _)] ⟨rfl, trivial⟩ ?_
  refine at_seq ?_
  refine at_region ?_
  refine at_val rfl rfl rfl (r_assign rfl) ?_
  refine at_nil ?_
  refine at_weak [(0, _)] ⟨rfl, trivial⟩ ?_
  refine at_then_normal ?_
  refine at_seq ?_
  refine at_seq ?_
  refine at_region ?_
  refine at_val rfl rfl rfl (r_move rfl) ?_
  refine at_val rfl rfl rfl (r_ilss rfl rfl) ?_
  refine at_nil ?_
  refine at_weak [(0, _), (4, _)] ⟨rfl, rfl, trivial⟩ ?_
  refine at_then_normal ?_
  rcases of_ite hF with ⟨h1, hF⟩ | ⟨h1, hF⟩
  · refine at_cond_true rfl h1 ?_
    refine at_seq ?_
    refine at_region ?_
    refine at_val rfl rfl rfl (r_move rfl) ?_
    obtain ⟨t2, ht2, hF⟩ := of_bindM hF
    refine at_call0 Tryd.func115 rfl (by kernel_rfl) rfl rfl (fun w => crawlwayref05_digit_ok _ _ ht2 w) ?_
    refine at_val rfl rfl rfl (r_assign rfl) ?_
    refine at_nil ?_
    refine at_weak [(2, _)] ⟨rfl, trivial⟩ ?_
    refine at_then_normal ?_
    refine at_ret ?_
    refine at_then_ret ?_
    have K := of_some hF
    subst K
    exact at_return1 rfl rfl (fun w1 hw => ⟨rfl, hw⟩)
  · refine at_cond_false rfl h1 ?_
    refine at_skip ?_
    refine at_then_normal ?_
    refine at_seq ?_
    refine at_region ?_
    refine at_val rfl rfl rfl (r_move rfl) ?_
    refine at_val rfl rfl rfl (r_iquo rfl rfl (by decide)) ?_
    obtain ⟨t3, ht3, hF⟩ := of_bindM hF
    refine at_call0 Tryd.func102 rfl (by kernel_rfl) rfl rfl (fun w => ihf _ _ ht3 w) ?_
    refine at_val rfl rfl rfl (r_move rfl) ?_
    refine at_val rfl rfl rfl (r_irem rfl rfl (by decide)) ?_
    obtain ⟨t4, ht4, hF⟩ := of_bindM hF
    refine at_call0 Tryd.func115 rfl (by kernel_rfl) rfl rfl (fun w => crawlwayref05_digit_ok _ _ ht4 w) ?_
    obtain ⟨h5, hF⟩ := of_guard hF
    refine at_val rfl rfl rfl (r_concat rfl rfl h5) ?_
    refine at_val rfl rfl rfl (r_assign rfl) ?_
    refine at_nil ?_
    refine at_weak [(2, _)] ⟨rfl, trivial⟩ ?_
    refine at_then_normal ?_
    refine at_ret ?_
    have K := of_some hF
    subst K
    exact at_return1 rfl rfl (fun w1 hw => ⟨rfl, hw⟩)

def crawlwayref09_row.l0 (x0 : (Vector Int 8)) (x1 : Int) (x2 : Int) (i3 : ByteArray) (i4 : Int) : Option (ByteArray) :=
  if (decide (i4 < x2)) = true then (if (decide (i4 > x1)) = true then (if i3.size + (⟨#[58]⟩ : ByteArray).size ≤ 140737488355328 then if (0 : Int) ≤ i4 ∧ i4 < 8 then crawlwayref05_Group (vget x0 i4) >>= fun t9 => if (i3 ++ (⟨#[58]⟩ : ByteArray)).size + t9.size ≤ 140737488355328 then crawlwayref09_row.l0 x0 x1 x2 ((i3 ++ (⟨#[58]⟩ : ByteArray)) ++ t9) (wr .i64 (i4 + 1)) else none else none else none) else (if (0 : Int) ≤ i4 ∧ i4 < 8 then crawlwayref05_Group (vget x0 i4) >>= fun t12 => if i3.size + t12.size ≤ 140737488355328 then crawlwayref09_row.l0 x0 x1 x2 (i3 ++ t12) (wr .i64 (i4 + 1)) else none else none)) else (some i3)
  partial_fixpoint
def crawlwayref09_row (x0 : (Vector Int 8)) (x1 : Int) (x2 : Int) : Option (ByteArray) :=
  crawlwayref09_row.l0 x0 x1 x2 (⟨#[]⟩) x1 >>= fun q2 => some q2
theorem crawlwayref09_row_ok (x0 : (Vector Int 8)) (x1 : Int) (x2 : Int) (r : ByteArray) (hF : crawlwayref09_row x0 x1 x2 = some r) (w : World) :
    Calls Tryd.prog 85 #[.agg (Cd.cs (cVec (cInt .i64) 8 (by decide)) x0).toArray, .int .i64 x1, .int .i64 x2] w (fun e w' => e = .returned (.string r) ∧ Below w.heap.size w w') := by
  unfold crawlwayref09_row at hF
  refine calls_enter (l := [.agg (Cd.cs (cVec (cInt .i64) 8 (by decide)) x0).toArray, .int .i64 x1, .int .i64 x2]) Tryd.func85 rfl rfl rfl ?_
  refine at_start ?_
  refine at_weak [(0, _), (1, _), (2, _)] ⟨rfl, rfl, rfl, trivial⟩ ?_
  refine at_seq ?_
  refine at_region ?_
  refine at_box (cs := Cd.cs (cVec (cInt .i64) 8 (by decide)) x0) rfl rfl rfl ?_
  intro b1
  refine at_val rfl rfl rfl (r_assign rfl) ?_
  refine at_nil ?_
  refine at_weak [(1, _), (2, _), (3, _)] ⟨rfl, rfl, rfl, trivial⟩ ?_
  refine at_then_normal ?_
  refine at_seq ?_
  refine at_region ?_
  refine at_val rfl rfl rfl (r_assign rfl) ?_
  refine at_nil ?_
  refine at_weak [(1, _), (2, _), (3, _), (7, _)] ⟨rfl, rfl, rfl, rfl, trivial⟩ ?_
  refine at_then_normal ?_
  refine at_seq ?_
  refine at_seq ?_
  refine at_region ?_
  refine at_val rfl rfl rfl (r_move rfl) ?_
  refine at_val rfl rfl rfl (r_assign rfl) ?_
  refine at_nil ?_
  refine at_weak [(1, _), (2, _), (3, _), (7, _), (8, _)] ⟨rfl, rfl, rfl, rfl, rfl, trivial⟩ ?_
  refine at_then_normal ?_
  refine at_block ?_
  obtain ⟨q2, hq2, hF⟩ := of_bindM hF
  refine at_weak [(1, _), (2, _), (3, _), (7, _), (8, _)] ⟨rfl, rfl, rfl, rfl, rfl, trivial⟩ ?_
  refine at_loop_n (B := 0) (A := fun Y => At 27 [(7, .string q2)] (Wd w []) Y) ?_ ?_
  · intro K
    refine crawlwayref09_row.l0.partial_correctness x0 x1 x2 (motive := fun i3 i4 x => KN (fun Y => At 27 [(7, .string x)] (Wd w []) Y) _ 0 → Round (fun Y => At 27 [(1, .int .i64 x1), (2, .int .i64 x2), (3, .pointer (some ⟨b1, 0, none⟩)), (7, .string i3), (8, .int .i64 i4)] (Wd w [cellsE b1 (Cd.cs (cVec (cInt .i64) 8 (by decide)) x0) 100]) Y) _ _ _) ?_ _ _ _ hq2 K
    · clear K hF
      intro g ih i3 i4 x hF K
      refine at_round ?_
      refine at_seq ?_
      refine at_seq ?_
      refine at_region ?_
      refine at_val rfl rfl rfl (r_move rfl) ?_
      refine at_val rfl rfl rfl (r_move rfl) ?_
      refine at_val rfl rfl rfl (r_ilss rfl rfl) ?_
      refine at_nil ?_
      refine at_weak [(1, _), (2, _), (3, _), (7, _), (8, _), (12, _)] ⟨rfl, rfl, rfl, rfl, rfl, rfl, trivial⟩ ?_
      refine at_then_normal ?_
      rcases of_ite hF with ⟨h5, hF⟩ | ⟨h5, hF⟩
      · refine at_cond_true rfl h5 ?_
        refine at_skip ?_
        refine at_then_normal ?_
        refine at_seq ?_
        refine at_block ?_
        refine at_seq ?_
        refine at_seq ?_
        refine at_region ?_
        refine at_val rfl rfl rfl (r_move rfl) ?_
        refine at_val rfl rfl rfl (r_move rfl) ?_
        refine at_val rfl rfl rfl (r_igtr rfl rfl) ?_
        refine at_nil ?_
        refine at_weak [(1, _), (2, _), (3, _), (7, _), (8, _), (17, _)] ⟨rfl, rfl, rfl, rfl, rfl, rfl, trivial⟩ ?_
        refine at_then_normal ?_
        rcases of_ite hF with ⟨h6, hF⟩ | ⟨h6, hF⟩
        · refine at_cond_true rfl h6 ?_
          refine at_region ?_
          refine at_val rfl rfl rfl (r_move rfl) ?_
          obtain ⟨h7, hF⟩ := of_guard hF
          refine at_val rfl rfl rfl (r_concat rfl rfl h7) ?_
          refine at_val rfl rfl rfl (r_assign rfl) ?_
          refine at_nil ?_
          refine at_weak [(1, _), (2, _), (3, _), (7, _), (8, _)] ⟨rfl, rfl, rfl, rfl, rfl, trivial⟩ ?_
          refine at_then_normal ?_
          refine at_region ?_
          refine at_val rfl rfl rfl (r_move rfl) ?_
          refine at_val rfl rfl rfl (r_move rfl) ?_
          obtain ⟨h8, hF⟩ := of_guard hF
          refine at_val rfl rfl rfl (r_idxArr Tryd.underlying100 Tryd.sizeOf3 rfl rfl h8) ?_
          refine at_val rfl rfl rfl (r_load_cell Tryd.isAgg3 rfl (lens_cell0 (c := (cInt .i64)) (y := vget x0 i4) .z (Lens.comp (Lens.whole _ _) (fun z => vset x0 i4 z) (Lens.vec (cInt .i64) (by decide) x0 i4 h8)) rfl)) ?_
          obtain ⟨t9, ht9, hF⟩ := of_bindM hF
          refine at_call0 Tryd.func102 rfl (by kernel_rfl) rfl rfl (fun w => crawlwayref05_Group_ok _ _ ht9 w) ?_
          obtain ⟨h10, hF⟩ := of_guard hF
          refine at_val rfl rfl rfl (r_concat rfl rfl h10) ?_
          refine at_val rfl rfl rfl (r_assign rfl) ?_
          refine at_nil ?_
          refine at_weak [(1, _), (2, _), (3, _), (7, _), (8, _)] ⟨rfl, rfl, rfl, rfl, rfl, trivial⟩ ?_
          refine at_blk_normal (at_then_normal ?_)
          refine at_region ?_
          refine at_val rfl rfl rfl (r_move rfl) ?_
          refine at_val rfl rfl rfl (r_iadd rfl rfl) ?_
          refine at_val rfl rfl rfl (r_assign rfl) ?_
          refine at_nil ?_
          refine at_weak [(1, _), (2, _), (3, _), (7, _), (8, _)] ⟨rfl, rfl, rfl, rfl, rfl, trivial⟩ ?_
          refine at_then_normal ?_
          exact at_weak_k (ih _ _ _ hF K) ⟨rfl, rfl, rfl, rfl, rfl, trivial⟩
        · refine at_cond_false rfl h6 ?_
          refine at_skip ?_
          refine at_then_normal ?_
          refine at_region ?_
          refine at_val rfl rfl rfl (r_move rfl) ?_
          refine at_val rfl rfl rfl (r_move rfl) ?_
          obtain ⟨h11, hF⟩ := of_guard hF
          refine at_val rfl rfl rfl (r_idxArr Tryd.underlying100 Tryd.sizeOf3 rfl rfl h11) ?_
          refine at_val rfl rfl rfl (r_load_cell Tryd.isAgg3 rfl (lens_cell0 (c := (cInt .i64)) (y := vget x0 i4) .z (Lens.comp (Lens.whole _ _) (fun z => vset x0 i4 z) (Lens.vec (cInt .i64) (by decide) x0 i4 h11)) rfl)) ?_
          obtain ⟨t12, ht12, hF⟩ := of_bindM hF
          refine at_call0 Tryd.func102 rfl (by kernel_rfl) rfl rfl (fun w => crawlwayref05_Group_ok _ _ ht12 w) ?_
          obtain ⟨h13, hF⟩ := of_guard hF
          refine at_val rfl rfl rfl (r_concat rfl rfl h13) ?_
          refine at_val rfl rfl rfl (r_assign rfl) ?_
          refine at_nil ?_
          refine at_weak [(1, _), (2, _), (3, _), (7, _), (8, _)] ⟨rfl, rfl, rfl, rfl, rfl, trivial⟩ ?_
          refine at_blk_normal (at_then_normal ?_)
          refine at_region ?_
          refine at_val rfl rfl rfl (r_move rfl) ?_
          refine at_val rfl rfl rfl (r_iadd rfl rfl) ?_
          refine at_val rfl rfl rfl (r_assign rfl) ?_
          refine at_nil ?_
          refine at_weak [(1, _), (2, _), (3, _), (7, _), (8, _)] ⟨rfl, rfl, rfl, rfl, rfl, trivial⟩ ?_
          refine at_then_normal ?_
          exact at_weak_k (ih _ _ _ hF K) ⟨rfl, rfl, rfl, rfl, rfl, trivial⟩
      · refine at_cond_false rfl h5 ?_
        refine at_exit ?_
        refine at_then_exit (at_then_exit ?_)
        refine at_drop (H := _) .z ?_
        obtain rfl := of_some hF
        exact at_weak_k K ⟨rfl, trivial⟩
  · skip
    skip
    refine at_blk_same ?_
    refine at_then_normal ?_
    refine at_seq ?_
    refine at_region ?_
    refine at_val rfl rfl rfl (r_move rfl) ?_
    refine at_val rfl rfl rfl (r_assign rfl) ?_
    refine at_nil ?_
    refine at_weak [(6, _)] ⟨rfl, trivial⟩ ?_
    refine at_then_normal ?_
    refine at_ret ?_
    have K := of_some hF
    subst K
    exact at_return1 rfl rfl (fun w1 hw => ⟨rfl, hw.below⟩)

def crawlwayref09_Text.l0 (t2 : (Vector Int 8)) (i5 : Int) (i6 : Int) (i7 : Int) : Option (Int × Int) :=
  if (decide (i7 < 8)) = true then (crawlwayref09_run t2 i7 >>= fun t9 => if (decide (t9 > i6)) = true then (crawlwayref09_run t2 i7 >>= fun t11 => crawlwayref09_Text.l0 t2 i7 t11 (wr .i64 (i7 + 1))) else (crawlwayref09_Text.l0 t2 i5 i6 (wr .i64 (i7 + 1)))) else (some (i5, i6))
  partial_fixpoint
def crawlwayref09_Text (x0 : (Vector Int 16)) : Option (ByteArray) :=
  crawlwayref09_groups x0 >>= fun t2 => crawlwayref09_Text.l0 t2 0 0 0 >>= fun q4 => if (decide (q4.2 < 2)) = true then (crawlwayref09_row t2 0 8 >>= fun t13 => some t13) else (crawlwayref09_row t2 0 q4.1 >>= fun t14 => if t14.size + (⟨#[58, 58]⟩ : ByteArray).size ≤ 140737488355328 then crawlwayref09_row t2 (wr .i64 (q4.1 + q4.2)) 8 >>= fun t16 => if (t14 ++ (⟨#[58, 58]⟩ : ByteArray)).size + t16.size ≤ 140737488355328 then some ((t14 ++ (⟨#[58, 58]⟩ : ByteArray)) ++ t16) else none else none)
theorem crawlwayref09_Text_ok (x0 : (Vector Int 16)) (r : ByteArray) (hF : crawlwayref09_Text x0 = some r) (w : World) :
    Calls Tryd.prog 61 #[.agg (Cd.cs (cVec (cInt .u8) 16 (by decide)) x0).toArray] w (fun e w' => e = .returned (.string r) ∧ Below w.heap.size w w') := by
  unfold crawlwayref09_Text at hF
  refine calls_enter (l := [.agg (Cd.cs (cVec (cInt .u8) 16 (by decide)) x0).toArray]) Tryd.func61 rfl rfl rfl ?_
  refine at_start ?_
  refine at_weak [(0, _)] ⟨rfl, trivial⟩ ?_
  refine at_seq ?_
  refine at_region ?_
  refine at_box (cs := Cd.cs (cVec (cInt .u8) 16 (by decide)) x0) rfl rfl rfl ?_
  intro b1
  refine at_val rfl rfl rfl (r_assign rfl) ?_
  refine at_nil ?_
  refine at_weak [(1, _)] ⟨rfl, trivial⟩ ?_
  refine at_then_normal ?_
  refine at_seq ?_
  refine at_region ?_
  refine at_val rfl rfl rfl (r_load_aggc (c := (cVec (cInt .u8) 16 (by decide))) (z := x0) Tryd.isAgg22 Tryd.sizeOf22 rfl (lens_cell .z (Lens.whole _ _))) ?_
  obtain ⟨t2, ht2, hF⟩ := of_bindM hF
  refine at_callB Tryd.func83 rfl (by kernel_rfl) rfl rfl (fun w hw => crawlwayref09_groups_ok _ _ ht2 w) ?_
  refine at_alloc (cs := Cd.cs (cVec (cInt .i64) 8 (by decide)) (Vector.replicate 8 (0 : Int) : (Vector Int 8))) Tryd.zeroValue100 rfl rfl ?_
  intro b3
  refine at_store (c := (cVec (cInt .i64) 8 (by decide))) (z := t2) .z (Lens.whole _ _) Tryd.sizeOf100 rfl rfl rfl ?_
  refine at_nil ?_
  refine at_drop (H := _) (.s .z) ?_
  refine at_weak [(3, _)] ⟨rfl, trivial⟩ ?_
  refine at_then_normal ?_
  refine at_seq ?_
  refine at_region ?_
  refine at_val rfl rfl rfl (r_assign rfl) ?_
  refine at_nil ?_
  refine at_weak [(3, _), (4, _)] ⟨rfl, rfl, trivial⟩ ?_
  refine at_then_normal ?_
  refine at_seq ?_
  refine at_region ?_
  refine at_val rfl rfl rfl (r_assign rfl) ?_
  refine at_nil ?_
  refine at_weak [(3, _), (4, _), (5, _)] ⟨rfl, rfl, rfl, trivial⟩ ?_
  refine at_then_normal ?_
  refine at_seq ?_
  refine at_seq ?_
  refine at_region ?_
  refine at_val rfl rfl rfl (r_assign rfl) ?_
  refine at_nil ?_
  refine at_weak [(3, _), (4, _), (5, _), (6, _)] ⟨rfl, rfl, rfl, rfl, trivial⟩ ?_
  refine at_then_normal ?_
  refine at_block ?_
  obtain ⟨q4, hq4, hF⟩ := of_bindM hF
  refine at_weak [(3, _), (4, _), (5, _), (6, _)] ⟨rfl, rfl, rfl, rfl, trivial⟩ ?_
  refine at_loop_n (B := 0) (A := fun Y => At 36 [(3, .pointer (some ⟨b3, 0, none⟩)), (4, .int .i64 q4.1), (5, .int .i64 q4.2)] (Wd w [cellsE b3 (Cd.cs (cVec (cInt .i64) 8 (by decide)) t2) 100]) Y) ?_ ?_
  · intro K
    refine crawlwayref09_Text.l0.partial_correctness t2 (motive := fun i5 i6 i7 x => KN (fun Y => At 36 [(3, .pointer (some ⟨b3, 0, none⟩)), (4, .int .i64 x.1), (5, .int .i64 x.2)] (Wd w [cellsE b3 (Cd.cs (cVec (cInt .i64) 8 (by decide)) t2) 100]) Y) _ 0 → Round (fun Y => At 36 [(3, .pointer (some ⟨b3, 0, none⟩)), (4, .int .i64 i5), (5, .int .i64 i6), (6, .int .i64 i7)] (Wd w [cellsE b3 (Cd.cs (cVec (cInt .i64) 8 (by decide)) t2) 100]) Y) _ _ _) ?_ _ _ _ _ hq4 K
    · clear K hF
      intro g ih i5 i6 i7 x hF K
      refine at_round ?_
      refine at_seq ?_
      refine at_seq ?_
      refine at_region ?_
      refine at_val rfl rfl rfl (r_move rfl) ?_
      refine at_val rfl rfl rfl (r_ilss rfl rfl) ?_
      refine at_nil ?_
      refine at_weak [(3, _), (4, _), (5, _), (6, _), (10, _)] ⟨rfl, rfl, rfl, rfl, rfl, trivial⟩ ?_
      refine at_then_normal ?_
      rcases of_ite hF with ⟨h8, hF⟩ | ⟨h8, hF⟩
      · refine at_cond_true rfl h8 ?_
        refine at_skip ?_
        refine at_then_normal ?_
        refine at_seq ?_
        refine at_block ?_
        refine at_seq ?_
        refine at_region ?_
        refine at_val rfl rfl rfl (r_load_aggc (c := (cVec (cInt .i64) 8 (by decide))) (z := t2) Tryd.isAgg100 Tryd.sizeOf100 rfl (lens_cell .z (Lens.whole _ _))) ?_
        refine at_val rfl rfl rfl (r_move rfl) ?_
        obtain ⟨t9, ht9, hF⟩ := of_bindM hF
        refine at_callB Tryd.func84 rfl (by kernel_rfl) rfl rfl (fun w hw => crawlwayref09_run_ok _ _ _ ht9 w) ?_
        refine at_val rfl rfl rfl (r_move rfl) ?_
        refine at_val rfl rfl rfl (r_igtr rfl rfl) ?_
        refine at_nil ?_
        refine at_weak [(3, _), (4, _), (5, _), (6, _), (17, _)] ⟨rfl, rfl, rfl, rfl, rfl, trivial⟩ ?_
        refine at_then_normal ?_
        rcases of_ite hF with ⟨h10, hF⟩ | ⟨h10, hF⟩
        · refine at_cond_true rfl h10 ?_
          refine at_seq ?_
          refine at_region ?_
          refine at_val rfl rfl rfl (r_move rfl) ?_
          refine at_val rfl rfl rfl (r_assign rfl) ?_
          refine at_nil ?_
          refine at_weak [(3, _), (4, _), (6, _)] ⟨rfl, rfl, rfl, trivial⟩ ?_
          refine at_then_normal ?_
          refine at_region ?_
          refine at_val rfl rfl rfl (r_load_aggc (c := (cVec (cInt .i64) 8 (by decide))) (z := t2) Tryd.isAgg100 Tryd.sizeOf100 rfl (lens_cell .z (Lens.whole _ _))) ?_
          refine at_val rfl rfl rfl (r_move rfl) ?_
          obtain ⟨t11, ht11, hF⟩ := of_bindM hF
          refine at_callB Tryd.func84 rfl (by kernel_rfl) rfl rfl (fun w hw => crawlwayref09_run_ok _ _ _ ht11 w) ?_
          refine at_val rfl rfl rfl (r_assign rfl) ?_
          refine at_nil ?_
          refine at_weak [(3, _), (4, _), (5, _), (6, _)] ⟨rfl, rfl, rfl, rfl, trivial⟩ ?_
          refine at_blk_normal (at_then_normal ?_)
          refine at_region ?_
          refine at_val rfl rfl rfl (r_move rfl) ?_
          refine at_val rfl rfl rfl (r_iadd rfl rfl) ?_
          refine at_val rfl rfl rfl (r_assign rfl) ?_
          refine at_nil ?_
          refine at_weak [(3, _), (4, _), (5, _), (6, _)] ⟨rfl, rfl, rfl, rfl, trivial⟩ ?_
          refine at_then_normal ?_
          exact at_weak_k (ih _ _ _ _ hF K) ⟨rfl, rfl, rfl, rfl, trivial⟩
        · refine at_cond_false rfl h10 ?_
          refine at_skip ?_
          refine at_blk_normal (at_then_normal ?_)
          refine at_region ?_
          refine at_val rfl rfl rfl (r_move rfl) ?_
          refine at_val rfl rfl rfl (r_iadd rfl rfl) ?_
          refine at_val rfl rfl rfl (r_assign rfl) ?_
          refine at_nil ?_
          refine at_weak [(3, _), (4, _), (5, _), (6, _)] ⟨rfl, rfl, rfl, rfl, trivial⟩ ?_
          refine at_then_normal ?_
          exact at_weak_k (ih _ _ _ _ hF K) ⟨rfl, rfl, rfl, rfl, trivial⟩
      · refine at_cond_false rfl h8 ?_
        refine at_exit ?_
        refine at_then_exit (at_then_exit ?_)
        obtain rfl := of_some hF
        exact at_weak_k K ⟨rfl, rfl, rfl, trivial⟩
  · skip
    skip
    refine at_blk_same ?_
    refine at_then_normal ?_
    refine at_seq ?_
    refine at_seq ?_
    refine at_region ?_
    refine at_val rfl rfl rfl (r_move rfl) ?_
    refine at_val rfl rfl rfl (r_ilss rfl rfl) ?_
    refine at_nil ?_
    refine at_weak [(3, _), (4, _), (5, _), (23, _)] ⟨rfl, rfl, rfl, rfl, trivial⟩ ?_
    refine at_then_normal ?_
    rcases of_ite hF with ⟨h12, hF⟩ | ⟨h12, hF⟩
    · refine at_cond_true rfl h12 ?_
      refine at_seq ?_
      refine at_region ?_
      refine at_val rfl rfl rfl (r_load_aggc (c := (cVec (cInt .i64) 8 (by decide))) (z := t2) Tryd.isAgg100 Tryd.sizeOf100 rfl (lens_cell .z (Lens.whole _ _))) ?_
      obtain ⟨t13, ht13, hF⟩ := of_bindM hF
      refine at_callB Tryd.func85 rfl (by kernel_rfl) rfl rfl (fun w hw => crawlwayref09_row_ok _ _ _ _ ht13 w) ?_
      refine at_val rfl rfl rfl (r_assign rfl) ?_
      refine at_nil ?_
      refine at_drop (H := _) .z ?_
      refine at_weak [(2, _)] ⟨rfl, trivial⟩ ?_
      refine at_then_normal ?_
      refine at_ret ?_
      refine at_then_ret ?_
      have K := of_some hF
      subst K
      exact at_return1 rfl rfl (fun w1 hw => ⟨rfl, hw.below⟩)
    · refine at_cond_false rfl h12 ?_
      refine at_skip ?_
      refine at_then_normal ?_
      refine at_seq ?_
      refine at_draw (by kernel_rfl) (by kernel_rfl) (fun _ h => h.drew) ?_
      refine atq_val rfl rfl rfl (r_load_aggc (c := (cVec (cInt .i64) 8 (by decide))) (z := t2) Tryd.isAgg100 Tryd.sizeOf100 rfl (lens_cell .z (Lens.whole _ _))) ?_
      refine atq_val rfl rfl rfl (r_move rfl) ?_
      obtain ⟨t14, ht14, hF⟩ := of_bindM hF
      refine atq_call Tryd.func85 rfl (by kernel_rfl) rfl rfl (fun w hw => (crawlwayref09_row_ok _ _ _ _ ht14 w).mono fun _ _ h => ⟨h.1, hw.call h.2⟩) ?_
      obtain ⟨h15, hF⟩ := of_guard hF
      refine atq_val rfl rfl rfl (r_concat rfl rfl h15) ?_
      refine atq_val rfl rfl rfl (r_load_aggc (c := (cVec (cInt .i64) 8 (by decide))) (z := t2) Tryd.isAgg100 Tryd.sizeOf100 rfl (lens_cell .z (Lens.whole _ _))) ?_
      refine atq_val rfl rfl rfl (r_move rfl) ?_
      refine atq_val rfl rfl rfl (r_move rfl) ?_
      refine atq_val rfl rfl rfl (r_iadd rfl rfl) ?_
      obtain ⟨t16, ht16, hF⟩ := of_bindM hF
      refine atq_call Tryd.func85 rfl (by kernel_rfl) rfl rfl (fun w hw => (crawlwayref09_row_ok _ _ _ _ ht16 w).mono fun _ _ h => ⟨h.1, hw.call h.2⟩) ?_
      obtain ⟨h17, hF⟩ := of_guard hF
      refine atq_val rfl rfl rfl (r_concat rfl rfl h17) ?_
      refine atq_val rfl rfl rfl (r_assign rfl) ?_
      refine atq_nil ?_
      refine at_drop (H := _) .z ?_
      refine at_weak [(2, _)] ⟨rfl, trivial⟩ ?_
      refine at_then_normal ?_
      refine at_ret ?_
      have K := of_some hF
      subst K
      exact at_return1 rfl rfl (fun w1 hw => ⟨rfl, hw.below⟩)
end Go.Proofs.YtecolkjlpklaaaaDoor
