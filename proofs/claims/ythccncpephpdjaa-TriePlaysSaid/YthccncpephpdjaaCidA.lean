/- Prefixes (chapter 11): both sides' functions in plain words. -/
import Derived.Test.YthccncpephpdjaaAddrM
set_option linter.unusedVariables false
set_option linter.unusedSimpArgs false
namespace Go.Proofs.Ythccncpephpdjaa.Cid
open E Go.RowKit
open Adr

def mkP (A : S_api_Addr) (b : Int) : S_api_Prefix := { f_A := A, f_Bits := b }
def zP : S_api_Prefix := { f_A := ({ f_V := (0 : Int), f_B := (Vector.replicate 16 (0 : Int) : (Vector Int 16)) } : S_api_Addr), f_Bits := (0 : Int) }
theorem exists_mkP (a : S_api_Prefix) (h : ok_api_Prefix a) : ∃ V l b, a = mkP (mkA V l) b ∧ l.length = 16 ∧ (Lit.int .i64 b).wf = true := by
  obtain ⟨V, l, hA, hl, _⟩ := exists_mkA a.f_A h.1
  refine ⟨V, l, a.f_Bits, ?_, hl, h.2⟩
  cases a with | mk A n =>
  simp only at hA
  subst hA; rfl
theorem wf_i64 {n : Int} (h : (Lit.int .i64 n).wf = true) : -9223372036854775808 ≤ n ∧ n < 9223372036854775808 := by
  simp [Lit.wf, IntKind.min, IntKind.max, IntKind.signed, IntKind.bits] at h
  omega
theorem mkP_inj {V W : Int} {l k : List UInt8} {b c : Int} (hl : l.length = 16) (hk : k.length = 16) : mkP (mkA V l) b = mkP (mkA W k) c ↔ (V = W ∧ l = k) ∧ b = c := by
  unfold mkP
  rw [S_api_Prefix.mk.injEq, mkA_inj hl hk]
/-! ### the prefix of some bits -/
def fits (V : Int) (l : List UInt8) (b : Int) : Bool := rightL V l && (decide (0 ≤ b) && decide (b ≤ (widthL V l : Int)))
theorem fits_iff {V : Int} {l : List UInt8} {b : Int} : fits V l b = true ↔ rightL V l = true ∧ 0 ≤ b ∧ b ≤ (widthL V l : Int) := by
  unfold fits
  simp only [Bool.and_eq_true, decide_eq_true_eq]
def ofP (V : Int) (l : List UInt8) (b : Int) : S_api_Prefix × Int := if rightL V l = true then (if fits V l b = true then (mkP (mkA V (mfull l b)) b, 0) else (zP, 6)) else (zP, 1)
theorem of_code {V b : Int} {l : List UInt8} (hl : l.length = 16) : cidr_Of (mkA V l) b = some (ofP V l b) := by
  unfold cidr_Of ofP
  rw [right_code hl, bindM_some]
  have hw := width_le (V := V) (l := l)
  cases hr : rightL V l with
  | false => rfl
  | true =>
    rw [if_neg (show ¬ (!true) = true by decide), if_pos rfl]
    by_cases h0 : b < 0
    · have hf : ¬ fits V l b = true := fun h => by have := (fits_iff.1 h).2.1; omega
      rw [if_pos (decide_eq_true h0), if_neg hf]; rfl
    · rw [if_neg (by rw [decide_eq_true_eq]; exact h0), width_code hl, bindM_some]
      by_cases h1 : b > (widthL V l : Int)
      · have hf : ¬ fits V l b = true := fun h => by have := (fits_iff.1 h).2.2; omega
        rw [if_pos (decide_eq_true h1), if_neg hf]; rfl
      · have hf : fits V l b = true := fits_iff.2 ⟨hr, by omega, by omega⟩
        rw [if_neg (by rw [decide_eq_true_eq]; exact h1), mask_code hl (by omega), bindM_some, if_pos hf]
        unfold maskA
        rw [if_pos hr]; rfl
def rightP (V : Int) (l : List UInt8) (b : Int) : Bool := fits V l b && decide (mfull l b = l)
theorem rightP_iff {V : Int} {l : List UInt8} {b : Int} : rightP V l b = true ↔ (rightL V l = true ∧ 0 ≤ b ∧ b ≤ (widthL V l : Int)) ∧ mfull l b = l := by
  unfold rightP
  rw [Bool.and_eq_true, fits_iff, decide_eq_true_eq]
theorem mlen {l : List UInt8} (hl : l.length = 16) (b : Int) : (mfull l b).length = 16 := by rw [mfull_len, hl]
theorem cright_code {V b : Int} {l : List UInt8} (hl : l.length = 16) : cidr_Right (mkP (mkA V l) b) = some (rightP V l b) := by
  unfold cidr_Right
  show (cidr_Of (mkA V l) b >>= fun t2 => if (t2.2 == 0) = true then some (decide (t2.1 = mkP (mkA V l) b)) else some false) = _
  rw [of_code hl, bindM_some]
  unfold ofP rightP
  cases hr : rightL V l with
  | false =>
    have hf : fits V l b = false := by unfold fits; rw [hr]; rfl
    rw [hf]; rfl
  | true =>
    rw [if_pos rfl]
    cases hf : fits V l b with
    | false => rfl
    | true =>
      rw [if_pos rfl]
      show (if ((0 : Int) == 0) = true then some (decide (mkP (mkA V (mfull l b)) b = mkP (mkA V l) b)) else some false) = _
      rw [if_pos (by rfl), Bool.true_and]
      refine congrArg some ?_
      rw [decide_eq_decide, mkP_inj (mlen hl b) hl]
      exact ⟨fun h => h.1.2, fun h => ⟨⟨rfl, h⟩, rfl⟩⟩
theorem cright_ref {V b : Int} {l : List UInt8} (hl : l.length = 16) : crawlwayref11_Right (mkP (mkA V l) b) = some (rightP V l b) := by
  unfold crawlwayref11_Right rightP
  show (crawlwayref10_Right (mkA V l) >>= fun t2 => if (!t2) = true then some false else (if decide (b < 0) = true then some false else (crawlwayref10_Width (mkA V l) >>= fun t5 => if decide (b > t5) = true then some false else (crawlwayref10_Mask (mkA V l) b >>= fun t7 => some (decide (mkA V l = t7)))))) = _
  rw [right_ref hl, bindM_some]
  cases hr : rightL V l with
  | false =>
    have hf : fits V l b = false := by unfold fits; rw [hr]; rfl
    rw [hf]; rfl
  | true =>
    rw [if_neg (show ¬ (!true) = true by decide)]
    by_cases h0 : b < 0
    · have hf : fits V l b = false := by cases h : fits V l b with | false => rfl | true => have := (fits_iff.1 h).2.1; omega
      rw [if_pos (decide_eq_true h0), hf]; rfl
    · rw [if_neg (by rw [decide_eq_true_eq]; exact h0), width_ref hl, bindM_some]
      by_cases h1 : b > (widthL V l : Int)
      · have hf : fits V l b = false := by cases h : fits V l b with | false => rfl | true => have := (fits_iff.1 h).2.2; omega
        rw [if_pos (decide_eq_true h1), hf]; rfl
      · have hf : fits V l b = true := fits_iff.2 ⟨hr, by omega, by omega⟩
        rw [if_neg (by rw [decide_eq_true_eq]; exact h1), mask_ref hl, bindM_some, hf, Bool.true_and]
        unfold maskA
        rw [if_pos hr]
        refine congrArg some ?_
        rw [decide_eq_decide, mkA_inj hl (mlen hl b)]
        exact ⟨fun h => h.2.symm, fun h => ⟨rfl, h.symm⟩⟩
/-! ### whose address -/
/-! ### texts -/
/-! ### prefixes out of texts -/
end Go.Proofs.Ythccncpephpdjaa.Cid
