/- Functions with the same answers as the Go functions that they are named for, and the proofs of it, by a program of this project (gen.py). -/
import Derived.Test.YthccncpephpdjaaT
import Derived.Test.YthccncpephpdjaaShelf
import Derived.Test.YthccncpephpdjaaW
import Derived.Test.YthccncpephpdjaaL
import Derived.Test.YthccncpephpdjaaR
import Derived.Test.YthccncpephpdjaaN
import Derived.Test.YthccncpephpdjaaProg
import Derived.Test.YthccncpephpdjaaG1
import Derived.Test.YthccncpephpdjaaG2
import Derived.Test.YthccncpephpdjaaG3
import Derived.Test.YthccncpephpdjaaG4
set_option linter.unusedVariables false
set_option linter.unusedSimpArgs false
namespace Go.Proofs.Ythccncpephpdjaa
open E Go.RowKit


def crawlwaylaw32_ChangeRight.l0 (x0 : S_api_Request) (i6 : Int) : Option (Ctl (Bool) (Unit)) :=
  if (decide (i6 < (x0.f_Peers.length : Int))) = true then (if (0 : Int) ≤ i6 ∧ i6 < (x0.f_Peers.length : Int) then change_RightPeer (lget x0.f_Peers i6) >>= fun t19 => crawlwayref32_RightPeer (lget x0.f_Peers i6) >>= fun t20 => if (t19 != t20) = true then (some (.ret false)) else (crawlwaylaw32_ChangeRight.l0 x0 (wr .i64 (i6 + 1))) else none) else (some (.nx ()))
  partial_fixpoint
def crawlwaylaw32_ChangeRight (x0 : S_api_Request) : Option (Bool) :=
  crawlwayref32_Large x0 >>= fun t2 => if t2 = true then (crawlwaylaw32_alive >>= fun t4 => some t4) else (crawlwaylaw32_ChangeRight.l0 x0 0 >>= fun q5 => match q5 with | .ret r' => some r' | .nx sq5 => (change_Right x0 >>= fun t22 => crawlwayref32_Right x0 >>= fun t23 => if (t22 == t23) = true then (crawlwaylaw32_alive >>= fun t25 => some t25) else (some false)))
theorem crawlwaylaw32_ChangeRight_ok (g0_ : G_api_Request) (x0 : S_api_Request) (r : Bool) (hF : crawlwaylaw32_ChangeRight x0 = some r) (w : World) (hn0 : N_api_Request w (g0_, x0)) :
    Calls Try.prog 3 #[.agg (Cd.cs c_api_Request (g0_, x0)).toArray] w (fun e w' => e = .returned (.bool r) ∧ Below w.heap.size w w') := by
  unfold crawlwaylaw32_ChangeRight at hF
  refine calls_enter (l := [.agg (Cd.cs c_api_Request (g0_, x0)).toArray]) Try.func3 rfl rfl rfl ?_
  refine at_start ?_
  refine at_weak [(0, _)] ⟨rfl, trivial⟩ ?_
  refine at_seq ?_
  refine at_region ?_
  refine at_box (cs := Cd.cs c_api_Request (g0_, x0)) rfl rfl rfl ?_
  intro b1
  refine at_val rfl rfl rfl (r_assign rfl) ?_
  refine at_nil ?_
  refine at_weak [(1, _)] ⟨rfl, trivial⟩ ?_
  refine at_then_normal ?_
  refine at_seq ?_
  refine at_seq ?_
  refine at_region ?_
  refine at_val rfl rfl rfl (r_load_aggc (c := c_api_Request) (z := (g0_, x0)) Try.isAgg27 Try.sizeOf27 rfl (lens_cell .z (Lens.whole _ _))) ?_
  obtain ⟨t2, ht2, hF⟩ := of_bindM hF
  refine at_callB Try.func13 rfl (by kernel_rfl) rfl rfl (fun w hw => crawlwayref32_Large_ok _ _ _ ht2 w (N_api_Request.below hn0 hw.below)) ?_
  refine at_nil ?_
  refine at_weak [(1, _), (6, _)] ⟨rfl, rfl, trivial⟩ ?_
  refine at_then_normal ?_
  rcases of_ite hF with ⟨h3, hF⟩ | ⟨h3, hF⟩
  · refine at_cond_true rfl h3 ?_
    refine at_seq ?_
    refine at_region ?_
    obtain ⟨t4, ht4, hF⟩ := of_bindM hF
    refine at_callB Try.func14 rfl (by kernel_rfl) rfl rfl (fun w hw => crawlwaylaw32_alive_ok  _ ht4 w) ?_
    refine at_val rfl rfl rfl (r_assign rfl) ?_
    refine at_nil ?_
    refine at_drop (H := _) .z ?_
    refine at_weak [(2, _)] ⟨rfl, trivial⟩ ?_
    refine at_then_normal ?_
    refine at_ret ?_
    refine at_then_ret ?_
    have K := of_some hF
    subst K
    exact at_return1 rfl rfl (fun w1 hw => ⟨rfl, hw.below⟩)
  · refine at_cond_false rfl h3 ?_
    refine at_skip ?_
    refine at_then_normal ?_
    refine at_seq ?_
    refine at_seq ?_
    refine at_region ?_
    refine at_val rfl rfl rfl (r_fieldAddr (fo := 38) Try.underlying27 rfl rfl (fun w => ⟨_, Try.sizeOf25 w⟩) rfl) ?_
    refine at_val rfl rfl rfl (r_load_cell Try.isAgg25 rfl (lens_cell0 (c := cHd) (y := ⟨g0_.1, List.length x0.f_Peers, g0_.2⟩) .z (c_api_Request_f_Peers g0_ x0) rfl)) ?_
    refine at_val rfl rfl rfl (r_len_sl Try.underlying25 rfl) ?_
    refine at_val rfl rfl rfl (r_move rfl) ?_
    refine at_nil ?_
    refine at_weak [(1, _), (9, _), (10, _), (11, _)] ⟨rfl, rfl, rfl, rfl, trivial⟩ ?_
    refine at_then_normal ?_
    refine at_block ?_
    obtain ⟨q5, hq5, hF⟩ := of_bindM hF
    refine at_weak [(1, _), (9, _), (10, _), (11, _)] ⟨rfl, rfl, rfl, rfl, trivial⟩ ?_
    refine at_loop_r (B := 0) (r := r) (q := q5) (A := fun (_ : Unit) Y => At 29 [(1, .pointer (some ⟨b1, 0, none⟩))] (Wd w [cellsE b1 (Cd.cs c_api_Request (g0_, x0)) 27]) Y) ?_ ?_
    · intro K
      refine crawlwaylaw32_ChangeRight.l0.partial_correctness x0 (motive := fun i6 x => KR (fun (_ : Unit) Y => At 29 [(1, .pointer (some ⟨b1, 0, none⟩))] (Wd w [cellsE b1 (Cd.cs c_api_Request (g0_, x0)) 27]) Y) _ 0 r x → Round (fun Y => At 29 [(1, .pointer (some ⟨b1, 0, none⟩)), (9, .slice g0_.1 x0.f_Peers.length g0_.2), (10, .int .i64 (x0.f_Peers.length : Int)), (11, .int .i64 i6)] (Wd w [cellsE b1 (Cd.cs c_api_Request (g0_, x0)) 27]) Y) _ _ _) ?_ _ _ hq5 K
      · clear K hF
        intro g ih i6 x hF K
        refine at_round ?_
        refine at_seq ?_
        refine at_region ?_
        refine at_val rfl rfl rfl (r_ilss rfl rfl) ?_
        refine at_nil ?_
        refine at_weak [(1, _), (9, _), (10, _), (11, _), (12, _)] ⟨rfl, rfl, rfl, rfl, rfl, trivial⟩ ?_
        refine at_then_normal ?_
        refine at_seq ?_
        rcases of_ite hF with ⟨h7, hF⟩ | ⟨h7, hF⟩
        · refine at_cond_true rfl h7 ?_
          refine at_skip ?_
          refine at_then_normal ?_
          refine at_seq ?_
          refine at_block ?_
          refine at_seq ?_
          refine at_region ?_
          obtain ⟨h8, hF⟩ := of_guard hF
          obtain ⟨zs12, hz13, hr14, hn15⟩ := hn0
          obtain ⟨b10, o11, hp9⟩ := row_ptr hr14 (zidx hz13 h8)
          obtain ⟨g16, hg17⟩ := zget hz13 i6
          refine at_val rfl rfl rfl (r_idx Try.underlying25 Try.sizeOf37 rfl rfl h8 hp9) ?_
          refine at_val rfl rfl rfl (r_load_aggc (c := c_api_PeerChange) (z := (g16, lget x0.f_Peers i6)) Try.isAgg37 Try.sizeOf37 rfl (ncell (fun _ h => h.below) hr14 (zidx hz13 h8) hp9 hg17)) ?_
          refine at_alloc (cs := Cd.cs c_api_PeerChange (((none : Option Addr), (0 : Nat)), ({ f_Key := (Vector.replicate 32 (0 : Int) : (Vector Int 32)), f_Remove := false, f_Update := false, f_HasPsk := false, f_Psk := (Vector.replicate 32 (0 : Int) : (Vector Int 32)), f_HasEnd := false, f_End := ({ f_A := ({ f_V := (0 : Int), f_B := (Vector.replicate 16 (0 : Int) : (Vector Int 16)) } : S_api_Addr), f_Port := (0 : Int) } : S_api_Endpoint), f_HasKeep := false, f_Keep := (0 : Int), f_Replace := false, f_Allowed := ([] : List S_api_Prefix) } : S_api_PeerChange))) Try.zeroValue37 rfl rfl ?_
          intro b18
          refine at_store (c := c_api_PeerChange) (z := (g16, lget x0.f_Peers i6)) .z (Lens.whole _ _) Try.sizeOf37 rfl rfl rfl ?_
          refine at_nil ?_
          refine at_weak [(1, _), (4, _), (9, _), (10, _), (11, _)] ⟨rfl, rfl, rfl, rfl, rfl, trivial⟩ ?_
          refine at_then_normal ?_
          refine at_seq ?_
          refine at_draw (by kernel_rfl) (by kernel_rfl) (fun _ h => h.drew) ?_
          refine atq_val rfl rfl rfl (r_load_aggc (c := c_api_PeerChange) (z := (g16, lget x0.f_Peers i6)) Try.isAgg37 Try.sizeOf37 rfl (lens_cell .z (Lens.whole _ _))) ?_
          obtain ⟨t19, ht19, hF⟩ := of_bindM hF
          refine atq_call Try.func15 rfl (by kernel_rfl) rfl rfl (fun w hw => (change_RightPeer_ok _ _ _ ht19 w (N_api_PeerChange.below (nz hg17 hn15 (zidx hz13 h8)) hw.below)).mono fun _ _ h => ⟨h.1, hw.call h.2⟩) ?_
          refine atq_val rfl rfl rfl (r_load_aggc (c := c_api_PeerChange) (z := (g16, lget x0.f_Peers i6)) Try.isAgg37 Try.sizeOf37 rfl (lens_cell .z (Lens.whole _ _))) ?_
          obtain ⟨t20, ht20, hF⟩ := of_bindM hF
          refine atq_call Try.func16 rfl (by kernel_rfl) rfl rfl (fun w hw => (crawlwayref32_RightPeer_ok _ _ _ ht20 w (N_api_PeerChange.below (nz hg17 hn15 (zidx hz13 h8)) hw.below)).mono fun _ _ h => ⟨h.1, hw.call h.2⟩) ?_
          refine atq_val rfl rfl rfl (r_bool Try.underlying4 rfl rfl (.inr rfl) rfl) ?_
          refine atq_nil ?_
          refine at_drop (H := _) .z ?_
          refine at_weak [(1, _), (9, _), (10, _), (11, _), (19, _)] ⟨rfl, rfl, rfl, rfl, rfl, trivial⟩ ?_
          refine at_then_normal ?_
          rcases of_ite hF with ⟨h21, hF⟩ | ⟨h21, hF⟩
          · refine at_cond_true rfl h21 ?_
            refine at_seq ?_
            refine at_region ?_
            refine at_val rfl rfl rfl (r_assign rfl) ?_
            refine at_nil ?_
            refine at_drop (H := _) .z ?_
            refine at_weak [(2, _)] ⟨rfl, trivial⟩ ?_
            refine at_then_normal ?_
            refine at_ret ?_
            refine at_blk_ret (at_then_ret (at_then_ret (at_blk_ret (at_then_ret ?_))))
            obtain rfl := of_some hF
            subst K
            exact at_return1 rfl rfl (fun w1 hw => ⟨rfl, hw.below⟩)
          · refine at_cond_false rfl h21 ?_
            refine at_skip ?_
            refine at_blk_normal (at_then_normal ?_)
            refine at_region ?_
            refine at_val rfl rfl rfl (r_iadd rfl rfl) ?_
            refine at_val rfl rfl rfl (r_move rfl) ?_
            refine at_nil ?_
            refine at_weak [(1, _), (9, _), (10, _), (11, _)] ⟨rfl, rfl, rfl, rfl, trivial⟩ ?_
            refine at_then_normal ?_
            exact at_weak_k (ih _ _ hF K) ⟨rfl, rfl, rfl, rfl, trivial⟩
        · refine at_cond_false rfl h7 ?_
          refine at_exit ?_
          refine at_then_exit (at_then_exit ?_)
          obtain rfl := of_some hF
          exact at_weak_k K ⟨rfl, trivial⟩
    · cases q5 with
      | ret r' => exact of_some hF
      | nx sq5 =>
        skip
        refine at_blk_same ?_
        refine at_then_normal ?_
        refine at_seq ?_
        refine at_draw (by kernel_rfl) (by kernel_rfl) (fun _ h => h.drew) ?_
        refine atq_val rfl rfl rfl (r_load_aggc (c := c_api_Request) (z := (g0_, x0)) Try.isAgg27 Try.sizeOf27 rfl (lens_cell .z (Lens.whole _ _))) ?_
        obtain ⟨t22, ht22, hF⟩ := of_bindM hF
        refine atq_call Try.func17 rfl (by kernel_rfl) rfl rfl (fun w hw => (change_Right_ok _ _ _ ht22 w (N_api_Request.below hn0 hw.below)).mono fun _ _ h => ⟨h.1, hw.call h.2⟩) ?_
        refine atq_val rfl rfl rfl (r_load_aggc (c := c_api_Request) (z := (g0_, x0)) Try.isAgg27 Try.sizeOf27 rfl (lens_cell .z (Lens.whole _ _))) ?_
        obtain ⟨t23, ht23, hF⟩ := of_bindM hF
        refine atq_call Try.func18 rfl (by kernel_rfl) rfl rfl (fun w hw => (crawlwayref32_Right_ok _ _ _ ht23 w (N_api_Request.below hn0 hw.below)).mono fun _ _ h => ⟨h.1, hw.call h.2⟩) ?_
        refine atq_val rfl rfl rfl (r_bool Try.underlying4 rfl rfl (.inl rfl) rfl) ?_
        refine atq_val rfl rfl rfl (r_move rfl) ?_
        rcases of_ite hF with ⟨h24, hF⟩ | ⟨h24, hF⟩
        · refine atq_fix (g := 26) rfl h24 ?_
          refine atq_guard_yes rfl rfl rfl ?_
          obtain ⟨t25, ht25, hF⟩ := of_bindM hF
          refine atq_call Try.func14 rfl (by kernel_rfl) rfl rfl (fun w hw => (crawlwaylaw32_alive_ok  _ ht25 w).mono fun _ _ h => ⟨h.1, hw.call h.2⟩) ?_
          refine atq_val rfl rfl rfl (r_pick rfl rfl rfl) ?_
          refine atq_val rfl rfl rfl (r_assign rfl) ?_
          refine atq_nil ?_
          refine at_drop (H := _) .z ?_
          refine at_weak [(2, _)] ⟨rfl, trivial⟩ ?_
          refine at_then_normal ?_
          refine at_ret ?_
          have K := of_some hF
          subst K
          exact at_return1 rfl rfl (fun w1 hw => ⟨rfl, hw.below⟩)
        · refine atq_fix (g := 26) rfl h24 ?_
          refine atq_guard_no rfl rfl rfl rfl rfl ?_
          refine atq_val rfl rfl rfl (r_pick rfl rfl rfl) ?_
          refine atq_val rfl rfl rfl (r_assign rfl) ?_
          refine atq_nil ?_
          refine at_drop (H := _) .z ?_
          refine at_weak [(2, _)] ⟨rfl, trivial⟩ ?_
          refine at_then_normal ?_
          refine at_ret ?_
          have K := of_some hF
          subst K
          exact at_return1 rfl rfl (fun w1 hw => ⟨rfl, hw.below⟩)
end Go.Proofs.Ythccncpephpdjaa
