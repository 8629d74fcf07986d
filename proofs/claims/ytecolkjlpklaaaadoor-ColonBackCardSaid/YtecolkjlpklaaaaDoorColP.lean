/- The plain laws of chapter 09: ColonBack, ColonReads. -/
import Derived.Test.YtecolkjlpklaaaaDoorColR
import Derived.Test.YtecolkjlpklaaaaDoorColU
set_option linter.unusedVariables false
set_option linter.unusedSimpArgs false
namespace Go.Proofs.YtecolkjlpklaaaaDoor
open E Go.RowKit
open Col

theorem exists_v16 (v : Vector Int 16) (h : ∀ x ∈ v.toList, (Lit.int .u8 x).wf = true) : ∃ m, v = v16 m ∧ m.length = 16 := by
  obtain ⟨m, hm⟩ := exists_ob v.toList h
  exact ⟨m, v16_of hm, by have := congrArg List.length hm; rw [ob_length] at this; simpa using this.symm⟩
theorem back_ok {m : List UInt8} (hm : m.length = 16) : colon_Parse (bs (textL (gr m))) = some (v16 m, 0) := by
  have hg : (gr m).length = 8 := by rw [gr_len, hm]
  have hl := textL_len (gr m) (gr_lt m) hg
  rw [colon_parse _ (by omega)]
  unfold parseV
  rw [parse_text (gr m) (gr_lt m) hg]
  show some (v16 (un (gr m)), _) = _
  rw [un_gr m (by omega)]; rfl
theorem alive09 : crawlwaylaw09_alive = some true := by
  unfold crawlwaylaw09_alive
  have h1 := colon_parse [58, 58, 102, 102, 102, 102, 58, 49, 46, 50, 46, 51, 46, 52] (by decide)
  have h2 := colon_parse [49, 58, 58, 50, 58, 58, 51] (by decide)
  have e1 : parseL [58, 58, 102, 102, 102, 102, 58, 49, 46, 50, 46, 51, 46, 52] = some [0, 0, 0, 0, 0, 65535, 258, 772] := by decide +kernel
  have e2 : parseL [49, 58, 58, 50, 58, 58, 51] = none := by decide +kernel
  have e3 : textL [0, 0, 0, 0, 0, 65535, 258, 772] = [58, 58, 102, 102, 102, 102, 58, 49, 48, 50, 58, 51, 48, 52] := by decide +kernel
  unfold parseV at h1
  rw [e1] at h1
  rw [e2] at h2
  have hm : (un [0, 0, 0, 0, 0, 65535, 258, 772]).length = 16 := rfl
  have h3 := text_ok hm
  rw [gr_un _ (by decide), e3] at h3
  show (colon_Parse (bs [58, 58, 102, 102, 102, 102, 58, 49, 46, 50, 46, 51, 46, 52]) >>= fun t1 => colon_Parse (bs [49, 58, 58, 50, 58, 58, 51]) >>= fun t3 => if (t1.2 == 0) = true then (colon_Text t1.1 >>= fun t6 => if (seq t6 (bs [58, 58, 102, 102, 102, 102, 58, 49, 48, 50, 58, 51, 48, 52])) = true then (some (t3.2 == 5)) else (some false)) else (some false)) = some true
  rw [h1, bindM_some, h2, bindM_some]
  show (if ((0 : Int) == 0) = true then (colon_Text (v16 (un [0, 0, 0, 0, 0, 65535, 258, 772])) >>= fun t6 => if (seq t6 (bs [58, 58, 102, 102, 102, 102, 58, 49, 48, 50, 58, 51, 48, 52])) = true then (some ((5 : Int) == 5)) else (some false)) else (some false)) = some true
  rw [if_pos (by rfl), h3, bindM_some, seq_self, if_pos rfl]; rfl
theorem alive09_then : (crawlwaylaw09_alive >>= fun t => some t) = some true := by rw [alive09]; rfl
theorem ColonBack_pure (a0 : Vector Int 16) (w0 : ∀ x ∈ a0.toList, (Lit.int .u8 x).wf = true) : crawlwaylaw09_ColonBack a0 = some true := by
  obtain ⟨m, rfl, hm⟩ := exists_v16 a0 w0
  unfold crawlwaylaw09_ColonBack
  rw [text_ok hm, bindM_some, back_ok hm, bindM_some, refText_ok hm, bindM_some, seq_self, if_pos rfl, if_pos (decide_eq_true rfl)]
  show (if ((0 : Int) == 0) = true then _ else _) = _
  rw [if_pos (by rfl)]
  exact alive09_then
theorem parseV_16 (l : List UInt8) : ∃ m, parseV l = v16 m ∧ m.length = 16 := by
  unfold parseV
  cases h : parseL l with
  | none => exact ⟨_, rfl, by simp⟩
  | some G => exact ⟨un G, rfl, by rw [un_len, (parseL_ok h).1]⟩
theorem ColonReads_pure (a0 : ByteArray) (w0 : a0.size ≤ maxLen) : crawlwaylaw09_ColonReads a0 = some true := by
  unfold crawlwaylaw09_ColonReads
  by_cases h : 100 < a0.size
  · rw [if_pos (decide_eq_true (by omega))]; exact alive09_then
  · rw [if_neg (by rw [decide_eq_true_eq]; omega)]
    have he := eq_bs a0
    have hlen : a0.data.toList.length = a0.size := size_toList a0
    generalize a0.data.toList = l at he hlen
    subst he
    rw [colon_parse l (by omega), bindM_some, ref_parse l (by omega), bindM_some]
    obtain ⟨m, hv, hm⟩ := parseV_16 l
    show (if (!decide (parseV l = parseV l)) = true then _ else if (((if (parseL l).isSome = true then (0 : Int) else 5) == 0) != (parseL l).isSome) = true then _ else _) = _
    rw [if_neg (by rw [decide_eq_true rfl]; decide)]
    have e1 : (((if (parseL l).isSome = true then (0 : Int) else 5) == 0) != (parseL l).isSome) = false := by cases parseL l <;> rfl
    rw [e1, if_neg Bool.false_ne_true, hv, text_ok hm, bindM_some, back_ok hm, bindM_some]
    cases hq : (parseL l).isSome with
    | true =>
      show (if true = true then (if decide (v16 m = v16 m) = true then (if ((0 : Int) == 0) = true then _ else _) else _) else _) = _
      rw [if_pos rfl, if_pos (decide_eq_true rfl), if_pos (by rfl)]
      exact alive09_then
    | false =>
      show (if false = true then _ else if ((5 : Int) == 5) = true then (if decide (v16 m = v16 m) = true then (if ((0 : Int) == 0) = true then _ else _) else _) else _) = _
      rw [if_neg Bool.false_ne_true, if_pos (by rfl), if_pos (decide_eq_true rfl), if_pos (by rfl)]
      exact alive09_then
end Go.Proofs.YtecolkjlpklaaaaDoor
