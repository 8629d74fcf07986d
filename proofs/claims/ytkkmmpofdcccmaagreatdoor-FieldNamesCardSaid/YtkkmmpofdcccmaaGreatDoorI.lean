/- strconv.Itoa in the printed functions' words. -/
import Derived.Test.YtkkmmpofdcccmaaGreatDoorS
namespace Go.Proofs.YtkkmmpofdcccmaaGreatDoor
open E Go.RowKit

theorem itoa_ok (n : Int) (h : -9223372036854775808 ≤ n ∧ n ≤ 9223372036854775807) (w : World) (hg : GV_strconv_uint64pow10 w) :
    Calls Tryz.prog 225 #[.int .i64 n] w fun e w' => e = .returned (.string (fmtI n)) ∧ Below w.heap.size w w' :=
  (Tryz.strconv_Itoa n h.1 h.2 w hg).mono fun e w' ⟨he, k, os, hw⟩ => ⟨he, by rw [hw]; exact Lib.below_grow w.heap.size w (Nat.le_refl _) k os⟩
end Go.Proofs.YtkkmmpofdcccmaaGreatDoor
