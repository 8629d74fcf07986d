/- The plain laws of chapter 08. -/
import Derived.Test.YtcllgijeihiajaaDoorQuad
set_option linter.unusedVariables false
set_option linter.unusedSimpArgs false
namespace Go.Proofs.YtcllgijeihiajaaDoor
open E Go.RowKit

theorem alive08 : crawlwaylaw08_alive = some true := by
  unfold crawlwaylaw08_alive
  have h1 := quad_parse [49, 48, 46, 48, 46, 48, 46, 50, 53, 54] (by decide)
  have h2 := quad_parse [49, 48, 46, 48, 46, 48, 46, 48, 49] (by decide)
  have e1 : (quadP [49, 48, 46, 48, 46, 48, 46, 50, 53, 54]).2 = 6 := by decide +kernel
  have e2 : (quadP [49, 48, 46, 48, 46, 48, 46, 48, 49]).2 = 5 := by decide +kernel
  have h3 : (vset (vset (vset (vset (Vector.replicate 4 (0 : Int) : (Vector Int 4)) 0 10) 1 0) 2 0) 3 1) = v4 [10, 0, 0, 1] := v4_of (by simp only [vset_toList]; rfl)
  have h4 := quad_text (m := [10, 0, 0, 1]) rfl
  have e4 : qText [10, 0, 0, 1] = [49, 48, 46, 48, 46, 48, 46, 49] := by
    show Lib.decDigits 10 ++ 46 :: (Lib.decDigits 0 ++ 46 :: (Lib.decDigits 0 ++ 46 :: Lib.decDigits 1)) = _
    rw [decDigits_big (n := 10) (by decide), decDigits_small (n := 10 / 10) (by decide), decDigits_small (n := 0) (by decide)]; rfl
  rw [e4] at h4
  have c : ∀ (l : List UInt8) (n : Nat), (quadP l).2 = n → ((viOf (quadP l)).2 == (n : Int)) = true := fun l n e => by
    show ((((quadP l).2 : Nat) : Int) == (n : Int)) = true
    rw [e]; exact beq_self_eq_true _
  have c1 : ((viOf (quadP [49, 48, 46, 48, 46, 48, 46, 50, 53, 54])).2 == 6) = true := c _ 6 e1
  have c2 : ((viOf (quadP [49, 48, 46, 48, 46, 48, 46, 48, 49])).2 == 5) = true := c _ 5 e2
  show (quad_Parse (bs [49, 48, 46, 48, 46, 48, 46, 50, 53, 54]) >>= fun t1 => quad_Parse (bs [49, 48, 46, 48, 46, 48, 46, 48, 49]) >>= fun t3 => if (t1.2 == 6) = true then (if (t3.2 == 5) = true then (quad_Text (vset (vset (vset (vset (Vector.replicate 4 (0 : Int) : (Vector Int 4)) 0 10) 1 0) 2 0) 3 1) >>= fun t7 => some (seq t7 (bs [49, 48, 46, 48, 46, 48, 46, 49]))) else (some false)) else (some false)) = some true
  rw [h1, bindM_some, h2, bindM_some, c1, if_pos rfl, c2, if_pos rfl, h3, h4, bindM_some, seq_self]
theorem alive08_then : (crawlwaylaw08_alive >>= fun t => some t) = some true := by rw [alive08]; rfl
theorem QuadBack_pure (a0 : Vector Int 4) (w0 : ∀ x ∈ a0.toList, (Lit.int .u8 x).wf = true) : crawlwaylaw08_QuadBack a0 = some true := by
  obtain ⟨m, rfl, hm⟩ := exists_v4 a0 w0
  have hl := qText_len hm
  unfold crawlwaylaw08_QuadBack
  rw [quad_text hm, bindM_some, quad_parse _ (by omega), bindM_some, refQuad_loop hm, bindM_some, seq_self, if_pos rfl, quadP_text hm]
  show (if decide (v4 m = v4 m) = true then (if ((0 : Int) == 0) = true then (crawlwaylaw08_alive >>= fun t9 => some t9) else some false) else some false) = _
  rw [if_pos (decide_eq_true rfl), if_pos (by rfl)]
  exact alive08_then
theorem QuadReads_pure (a0 : ByteArray) (w0 : a0.size ≤ maxLen) : crawlwaylaw08_QuadReads a0 = some true := by
  unfold crawlwaylaw08_QuadReads
  by_cases h : 100 < a0.size
  · rw [if_pos (decide_eq_true (by omega))]; exact alive08_then
  · rw [if_neg (by rw [decide_eq_true_eq]; omega)]
    have he := eq_bs a0
    have hlen : a0.data.toList.length = a0.size := size_toList a0
    generalize a0.data.toList = l at he hlen
    subst he
    rw [quad_parse l (by omega), bindM_some, quad_parse_ref l (by omega), bindM_some, if_pos (decide_eq_true rfl), if_pos (beq_self_eq_true _)]
    by_cases h0 : (quadP l).2 = 0
    · obtain ⟨m, hm, hq, ht⟩ := quadP_back h0
      have hb : ((viOf (quadP l)).2 != 0) = false := by rw [hq]; rfl
      rw [hb, if_neg Bool.false_ne_true, hq]
      show (quad_Text (v4 m) >>= fun t11 => _) = _
      rw [quad_text hm, bindM_some, ht, seq_self, if_pos rfl]
      exact alive08_then
    · have hb : ((viOf (quadP l)).2 != 0) = true := by rw [bne_iff_ne]; show (((quadP l).2 : Nat) : Int) ≠ 0; omega
      rw [hb, if_pos rfl]
      exact alive08_then
end Go.Proofs.YtcllgijeihiajaaDoor
