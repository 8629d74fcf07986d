/- strconv.FormatUint at base 10, strconv.ParseUint at base 10 and 64 bits, in the printed functions' words. -/
import Derived.Test.YtkkmmpofdcccmaaGreatDoorShelf
import Derived.Test.YtkkmmpofdcccmaaGreatDoorL
import Derived.Lib.Walk
import Derived.Lib.ItoaWalk
import Derived.Lib.ItoaMem
import Derived.Lib.AppendIntMem
import Derived.Lib.Hide
import Derived.WalkKit
import Derived.BigCall
import Derived.BigGuard
import Derived.CellFam
namespace Go.Proofs.YtkkmmpofdcccmaaGreatDoor
open E Go.RowKit Go.Sort

set_option maxHeartbeats 6400000 in
set_option maxRecDepth 100000 in
theorem intFormatUint_small (u : Nat) (hu : u < 100) (w : World) :
    Calls Tryz.prog 188 #[.int .u64 u, .int .i64 10] w fun e w' => e = .returned (.string ⟨(Lib.decDigits u).toArray⟩) ∧ w' = w := by
  have hw : IntKind.i64.wrap (u : Int) = (u : Int) := by rw [IntKind.wrap_i64]; omega
  have iu : (u : Int) < 100 := by omega
  go_enter Tryz.func188, Tryz.ntmps188
  go_wp2_with (go_at_call 208; refine (Tryz.internal_strconv_small u hu _).mono ?_; rintro e w' ⟨rfl, rfl⟩)
  go_ret
  exact ⟨rfl, rfl⟩

set_option maxHeartbeats 12800000 in
set_option maxRecDepth 100000 in
theorem intFormatUint_big (u : Nat) (hu : 100 ≤ u) (hu64 : u < 18446744073709551616) (w : World) (htab : Lib.TabIs Tryz.prog w "internal/strconv.uint64pow10" .u64 Lib.pow10Tab) :
    Calls Tryz.prog 188 #[.int .u64 u, .int .i64 10] w fun e w' => e = .returned (.string ⟨(Lib.decDigits u).toArray⟩) ∧ Below w.heap.size w w' := by
  have hu1 : 1 ≤ u := by omega
  have hnd20 : Lib.nDigits u ≤ 20 := by have := Lib.numDigits_eq u hu1 hu64; split at this <;> omega
  have hal : Tryz.prog.arrayLen 224 = 24 := by simp [Program.arrayLen, Tryz.underlying224]
  have hsl : ∀ W, (Instr.sliceAt 224 (.pointer (some ⟨w.heap.size, 0, none⟩)) none (some (.int .i64 (Lib.nDigits u : Int))) none).run Tryz.prog W = .ok (.slice (some ⟨w.heap.size, 0, none⟩) (Lib.nDigits u) 24) W := fun W => by
    rw [run_sliceAt_array_h W 224 ⟨w.heap.size, 0, none⟩ (by simp [Program.arrayLen, Program.elem, Tryz.underlying224]) .i64 (Lib.nDigits u : Int) (by omega) (by rw [hal]; omega)]
    go_simp
  have hH0 := Lib.holds_zero0 w 224 (Lib.nDigits u) (by omega)
  have hfmt := Tryz.internal_strconv_formatBase10 w.heap.size 0 24 u (Array.replicate (Lib.nDigits u) 0) (w.alloc (.cells Lib.zeros24 224)) hH0 (by rw [Array.size_replicate]; exact Lib.lt_pow_nDigits u) hu64 (by rw [Array.size_replicate]; omega)
  rw [Array.size_replicate] at hfmt
  have HH0 := Lib.hid hH0
  have iu : (100 : Int) ≤ (u : Int) := by omega
  clear hH0 hal
  go_enter Tryz.func188, Tryz.ntmps188
  go_wp2_with (first
    | (go_at_call 209; refine (Tryz.internal_strconv_numDigits u hu1 hu64 _ (Lib.tabIs_alloc htab _)).mono ?_; rintro e w' ⟨rfl, rfl⟩))
  go_at_call 210
  refine hfmt.mono ?_
  rintro e w' ⟨rfl, k, v', dk, rfl, hF⟩
  have hcv : (convert 22 9 (.slice (some ⟨w.heap.size, 0, none⟩) (Lib.nDigits u) 24)).run Tryz.prog ((putRow (fun (b : UInt8) => Value.int .u8 (b.toNat : Int)) (w.alloc (.cells Lib.zeros24 224)) w.heap.size 0 dk).drewN k) = .ok (.string ⟨(Lib.decDigits u).toArray⟩) ((putRow (fun (b : UInt8) => Value.int .u8 (b.toNat : Int)) (w.alloc (.cells Lib.zeros24 224)) w.heap.size 0 dk).drewN k) := by
    have h := run_convert_bytes_back (P := Tryz.prog) ((putRow (fun (b : UInt8) => Value.int .u8 (b.toNat : Int)) (w.alloc (.cells Lib.zeros24 224)) w.heap.size 0 dk).drewN k) 22 9 5 ⟨w.heap.size, 0, none⟩ 24 (Lib.decDigits u) Tryz.underlying22 Tryz.underlying5 Tryz.underlying9 (fun j hj => by
      rw [Lib.row_is_numeral hF j hj, Lib.add_plain, World.cell?_drewN]
      exact cell?_putRow (fun (b : UInt8) => Value.int .u8 (b.toNat : Int)) _ w.heap.size 0 _ dk HH0.out (by rw [hF.size, Array.size_replicate]) j (by rw [hF.size]; rw [Lib.decDigits_length] at hj; exact hj))
    rw [Lib.decDigits_length] at h
    exact h
  go_wp2
  go_ret
  obtain ⟨os, eo⟩ := Lib.fin_at w (.cells Lib.zeros24 224) dk k 0
  refine ⟨rfl, ?_⟩
  rw [eo]
  exact Lib.below_grow w.heap.size w (Nat.le_refl _) k os

theorem formatUint_ok (n : Int) (h : 0 ≤ n ∧ n < 18446744073709551616) (w : World) (hg : GV_strconv_uint64pow10 w) :
    Calls Tryz.prog 163 #[.int .u64 n, .int .i64 10] w fun e w' => e = .returned (.string (fmtU n)) ∧ Below w.heap.size w w' := by
  obtain ⟨u, rfl⟩ := Int.eq_ofNat_of_zero_le h.1
  have hu64 : u < 18446744073709551616 := by omega
  have hin : Calls Tryz.prog 188 #[.int .u64 u, .int .i64 10] w fun e w' => e = .returned (.string (fmtU u)) ∧ Below w.heap.size w w' := by
    by_cases hs : u < 100
    · exact (intFormatUint_small u hs w).mono fun e w' ⟨he, hw⟩ => ⟨he, hw ▸ Below.refl _ _⟩
    · exact intFormatUint_big u (by omega) hu64 w hg
  refine calls_enter (l := [.int .u64 u, .int .i64 10]) Tryz.func163 rfl rfl rfl ?_
  refine at_seq ?_
  refine at_region ?_
  refine at_val rfl rfl rfl (r_assign rfl) ?_
  refine at_nil ?_
  refine at_then_normal ?_
  refine at_seq ?_
  refine at_region ?_
  refine at_val rfl rfl rfl (r_move rfl) ?_
  refine at_val rfl rfl rfl (r_move rfl) ?_
  refine at_call (W' := fun v w' => v = .string (fmtU u) ∧ Below w.heap.size w w') Tryz.func188 rfl (by kernel_rfl) rfl rfl (fun w1 hw1 => ?_) ?_
  · obtain rfl : w1 = w := hw1
    exact hin.mono fun e w' ⟨he, hw⟩ => ⟨_, he, rfl, hw⟩
  · intro v
    refine at_pure (φ := v = .string (fmtU u)) (fun _ h => h.1) ?_
    rintro rfl
    refine at_val rfl rfl rfl (r_assign rfl) ?_
    refine at_nil ?_
    refine at_then_normal ?_
    refine at_ret ?_
    exact at_return1 rfl rfl (fun w1 hw => ⟨rfl, hw.2⟩)

theorem parseUint_ok (s : ByteArray) (h : s.size ≤ 281474976710656) (w : World) (hgR : GV_strconv_ErrRange w) (hgS : GV_strconv_ErrSyntax w) :
    Calls Tryz.prog 162 #[.string s, .int .i64 10, .int .i64 64] w fun e w' => ∃ u, e = .returned (.tuple #[.int .u64 (parU s).1, u]) ∧ ErrV u (parU s).2 ∧ Below w.heap.size w w' := by
  obtain ⟨tr, pr, hr⟩ := hgR
  obtain ⟨ts, ps, hs⟩ := hgS
  unfold parU
  cases hp : Lib.parseUintB 64 s.data.toList
  · refine (Tryz.strconv_ParseUint_10_at64_ok s (by omega) _ hp w).mono fun e w' ⟨he, hw⟩ => ⟨_, he, .inl ⟨rfl, rfl⟩, ?_⟩
    rcases hw with rfl | rfl
    · exact Below.refl _ _
    · exact Lib.bytesWorld_below _ _ _
  · exact (Any.strconv_ParseUint_10_at64_syntax_var Tryz.laysPu14 s h hp ts ps w hs).mono fun e w' ⟨N, he, _, _, hw⟩ => ⟨_, he, .inr ⟨rfl, _, _, rfl⟩, hw⟩
  · exact (Tryz.strconv_ParseUint_10_at64_range_var s h hp tr pr w hr).mono fun e w' ⟨N, he, _, _, hw⟩ => ⟨_, he, .inr ⟨rfl, _, _, rfl⟩, hw⟩
end Go.Proofs.YtkkmmpofdcccmaaGreatDoor
