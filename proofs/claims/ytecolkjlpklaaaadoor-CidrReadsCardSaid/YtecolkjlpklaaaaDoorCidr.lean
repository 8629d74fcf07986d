/- Prefixes (chapter 11): both sides' functions in plain words. -/
import Derived.Test.YtecolkjlpklaaaaDoorAddrT
import Derived.Test.YtecolkjlpklaaaaDoorAddrF
import Derived.Test.YtecolkjlpklaaaaDoorGu
set_option linter.unusedVariables false
set_option linter.unusedSimpArgs false
namespace Go.Proofs.YtecolkjlpklaaaaDoor.Cid
open E Go.RowKit
open Adr AdrT

def mkP (A : S_api_Addr) (b : Int) : S_api_Prefix := { f_A := A, f_Bits := b }
def zP : S_api_Prefix := { f_A := ({ f_V := (0 : Int), f_B := (Vector.replicate 16 (0 : Int) : (Vector Int 16)) } : S_api_Addr), f_Bits := (0 : Int) }
theorem exists_mkP (a : S_api_Prefix) (h : ok_api_Prefix a) : ∃ V l b, a = mkP (mkA V l) b ∧ l.length = 16 ∧ (Lit.int .i64 b).wf = true := by
  obtain ⟨V, l, hA, hl, _⟩ := exists_mkA a.f_A h.1
  refine ⟨V, l, a.f_Bits, ?_, hl, h.2⟩
  cases a with | mk A n =>
  simp only at hA
  subst hA; rfl
theorem wf_i64 {n : Int} (h : (Lit.int .i64 n).wf = true) : -9223372036854775808 ≤ n ∧ n < 9223372036854775808 := by
  simp [Lit.wf, IntKind.min, IntKind.max, IntKind.signed, IntKind.bits] at h
  omega
theorem mkP_inj {V W : Int} {l k : List UInt8} {b c : Int} (hl : l.length = 16) (hk : k.length = 16) : mkP (mkA V l) b = mkP (mkA W k) c ↔ (V = W ∧ l = k) ∧ b = c := by
  unfold mkP
  rw [S_api_Prefix.mk.injEq, mkA_inj hl hk]
/-! ### the prefix of some bits -/
def fits (V : Int) (l : List UInt8) (b : Int) : Bool := rightL V l && (decide (0 ≤ b) && decide (b ≤ (widthL V l : Int)))
theorem fits_iff {V : Int} {l : List UInt8} {b : Int} : fits V l b = true ↔ rightL V l = true ∧ 0 ≤ b ∧ b ≤ (widthL V l : Int) := by
  unfold fits
  simp only [Bool.and_eq_true, decide_eq_true_eq]
def ofP (V : Int) (l : List UInt8) (b : Int) : S_api_Prefix × Int := if rightL V l = true then (if fits V l b = true then (mkP (mkA V (mfull l b)) b, 0) else (zP, 6)) else (zP, 1)
theorem of_code {V b : Int} {l : List UInt8} (hl : l.length = 16) : cidr_Of (mkA V l) b = some (ofP V l b) := by
  unfold cidr_Of ofP
  rw [right_code hl, bindM_some]
  have hw := width_le (V := V) (l := l)
  cases hr : rightL V l with
  | false => rfl
  | true =>
    rw [if_neg (show ¬ (!true) = true by decide), if_pos rfl]
    by_cases h0 : b < 0
    · have hf : ¬ fits V l b = true := fun h => by have := (fits_iff.1 h).2.1; omega
      rw [if_pos (decide_eq_true h0), if_neg hf]; rfl
    · rw [if_neg (by rw [decide_eq_true_eq]; exact h0), width_code hl, bindM_some]
      by_cases h1 : b > (widthL V l : Int)
      · have hf : ¬ fits V l b = true := fun h => by have := (fits_iff.1 h).2.2; omega
        rw [if_pos (decide_eq_true h1), if_neg hf]; rfl
      · have hf : fits V l b = true := fits_iff.2 ⟨hr, by omega, by omega⟩
        rw [if_neg (by rw [decide_eq_true_eq]; exact h1), mask_code hl (by omega), bindM_some, if_pos hf]
        unfold maskA
        rw [if_pos hr]; rfl
theorem of_ref {V b : Int} {l : List UInt8} (hl : l.length = 16) : crawlwayref11_Of (mkA V l) b = some (ofP V l b) := by
  unfold crawlwayref11_Of ofP
  rw [right_ref hl, bindM_some]
  have hw := width_le (V := V) (l := l)
  cases hr : rightL V l with
  | false => rfl
  | true =>
    rw [if_neg (show ¬ (!true) = true by decide), if_pos rfl]
    by_cases h0 : b < 0
    · have hf : ¬ fits V l b = true := fun h => by have := (fits_iff.1 h).2.1; omega
      rw [if_pos (decide_eq_true h0), if_neg hf]; rfl
    · rw [if_neg (by rw [decide_eq_true_eq]; exact h0), width_ref hl, bindM_some]
      by_cases h1 : b > (widthL V l : Int)
      · have hf : ¬ fits V l b = true := fun h => by have := (fits_iff.1 h).2.2; omega
        rw [if_pos (decide_eq_true h1), if_neg hf]; rfl
      · have hf : fits V l b = true := fits_iff.2 ⟨hr, by omega, by omega⟩
        rw [if_neg (by rw [decide_eq_true_eq]; exact h1), mask_ref hl, bindM_some, if_pos hf]
        unfold maskA
        rw [if_pos hr]; rfl
def rightP (V : Int) (l : List UInt8) (b : Int) : Bool := fits V l b && decide (mfull l b = l)
theorem rightP_iff {V : Int} {l : List UInt8} {b : Int} : rightP V l b = true ↔ (rightL V l = true ∧ 0 ≤ b ∧ b ≤ (widthL V l : Int)) ∧ mfull l b = l := by
  unfold rightP
  rw [Bool.and_eq_true, fits_iff, decide_eq_true_eq]
theorem mlen {l : List UInt8} (hl : l.length = 16) (b : Int) : (mfull l b).length = 16 := by rw [mfull_len, hl]
theorem cright_code {V b : Int} {l : List UInt8} (hl : l.length = 16) : cidr_Right (mkP (mkA V l) b) = some (rightP V l b) := by
  unfold cidr_Right
  show (cidr_Of (mkA V l) b >>= fun t2 => if (t2.2 == 0) = true then some (decide (t2.1 = mkP (mkA V l) b)) else some false) = _
  rw [of_code hl, bindM_some]
  unfold ofP rightP
  cases hr : rightL V l with
  | false =>
    have hf : fits V l b = false := by unfold fits; rw [hr]; rfl
    rw [hf]; rfl
  | true =>
    rw [if_pos rfl]
    cases hf : fits V l b with
    | false => rfl
    | true =>
      rw [if_pos rfl]
      show (if ((0 : Int) == 0) = true then some (decide (mkP (mkA V (mfull l b)) b = mkP (mkA V l) b)) else some false) = _
      rw [if_pos (by rfl), Bool.true_and]
      refine congrArg some ?_
      rw [decide_eq_decide, mkP_inj (mlen hl b) hl]
      exact ⟨fun h => h.1.2, fun h => ⟨⟨rfl, h⟩, rfl⟩⟩
theorem cright_ref {V b : Int} {l : List UInt8} (hl : l.length = 16) : crawlwayref11_Right (mkP (mkA V l) b) = some (rightP V l b) := by
  unfold crawlwayref11_Right rightP
  show (crawlwayref10_Right (mkA V l) >>= fun t2 => if (!t2) = true then some false else (if decide (b < 0) = true then some false else (crawlwayref10_Width (mkA V l) >>= fun t5 => if decide (b > t5) = true then some false else (crawlwayref10_Mask (mkA V l) b >>= fun t7 => some (decide (mkA V l = t7)))))) = _
  rw [right_ref hl, bindM_some]
  cases hr : rightL V l with
  | false =>
    have hf : fits V l b = false := by unfold fits; rw [hr]; rfl
    rw [hf]; rfl
  | true =>
    rw [if_neg (show ¬ (!true) = true by decide)]
    by_cases h0 : b < 0
    · have hf : fits V l b = false := by cases h : fits V l b with | false => rfl | true => have := (fits_iff.1 h).2.1; omega
      rw [if_pos (decide_eq_true h0), hf]; rfl
    · rw [if_neg (by rw [decide_eq_true_eq]; exact h0), width_ref hl, bindM_some]
      by_cases h1 : b > (widthL V l : Int)
      · have hf : fits V l b = false := by cases h : fits V l b with | false => rfl | true => have := (fits_iff.1 h).2.2; omega
        rw [if_pos (decide_eq_true h1), hf]; rfl
      · have hf : fits V l b = true := fits_iff.2 ⟨hr, by omega, by omega⟩
        rw [if_neg (by rw [decide_eq_true_eq]; exact h1), mask_ref hl, bindM_some, hf, Bool.true_and]
        unfold maskA
        rw [if_pos hr]
        refine congrArg some ?_
        rw [decide_eq_decide, mkA_inj hl (mlen hl b)]
        exact ⟨fun h => h.2.symm, fun h => ⟨rfl, h.symm⟩⟩
theorem whole_code {V : Int} {l : List UInt8} (hl : l.length = 16) : cidr_Whole (mkA V l) = some (ofP V l (widthL V l : Int)).1 := by
  unfold cidr_Whole
  rw [width_code hl, bindM_some, of_code hl, bindM_some]
theorem width_mfull {V b : Int} {l : List UInt8} (hl : l.length = 16) (hr : rightL V l = true) : widthL V (mfull l b) = widthL V l := by
  unfold widthL
  rw [if_pos hr, if_pos (right_mfull hl hr)]
theorem rightP_of {V b : Int} {l : List UInt8} (hl : l.length = 16) (hf : fits V l b = true) : rightP V (mfull l b) b = true := by
  obtain ⟨hr, h0, h1⟩ := fits_iff.1 hf
  exact rightP_iff.2 ⟨⟨right_mfull hl hr, h0, by rw [width_mfull hl hr]; exact h1⟩, mfull_idem l b⟩
/-! ### whose address -/
theorem mb_bit_fin : ∀ (x : Fin 256) (m : Fin 9) (j : Fin 8), j.val < m.val → (x.val - x.val % 2 ^ (8 - m.val)) / 2 ^ (7 - j.val) % 2 = x.val / 2 ^ (7 - j.val) % 2 := by decide +kernel
theorem bit_mfull {l : List UInt8} (hl : l.length = 16) (b : Int) (i : Nat) (hi : (i : Int) < b) (h128 : i < 128) : bit (mfull l b) i = bit l i := by
  unfold bit
  obtain ⟨c, hc⟩ : ∃ c, l[i / 8]? = some c := ⟨_, List.getElem?_eq_getElem (by omega)⟩
  have hm : (mfull l b)[i / 8]? = some (mb c (lft b (i / 8))) := by rw [mfull_get, hc]; rfl
  rw [bg_get hc, bg_get hm, mb_toNat]
  have hle := lft_le b (i / 8)
  have hlt : i % 8 < lft b (i / 8) := by unfold lft; omega
  exact mb_bit_fin ⟨c.toNat, c.toNat_lt⟩ ⟨lft b (i / 8), by omega⟩ ⟨i % 8, by omega⟩ hlt
theorem fd_far (p : Nat → Bool) (f c : Nat) (hc : c ≤ f) (h : ∀ j, j < c → p j = true) : c ≤ fd p f 0 := by
  rcases Nat.lt_or_ge (fd p f 0) c with hlt | hge
  · have h1 := fd_stop p f 0 (by omega)
    rw [h _ hlt] at h1; cases h1
  · exact hge
theorem same_bits {V W : Int} {l k : List UInt8} {b : Int} (hl : l.length = 16) (hk : k.length = 16) (hp : rightP V l b = true) (hV : V = W) (hr : rightL W k = true) : decide (mfull k b = l) = decide (commonL V l W k ≥ b) := by
  subst hV
  obtain ⟨⟨hrl, h0, h1⟩, hm⟩ := rightP_iff.1 hp
  have hw := width_le (V := V) (l := l)
  obtain ⟨c, rfl⟩ := Int.eq_ofNat_of_zero_le h0
  have hc : commonL V l V k = ((fd (alikeB l k) (widthL V l) 0 : Nat) : Int) := by unfold commonL; rw [if_pos ⟨hrl, hr, rfl⟩]
  rw [hc, decide_eq_decide]
  constructor
  · intro h
    have := fd_far (alikeB l k) (widthL V l) c (by omega) fun j hj => by
      unfold alikeB
      refine decide_eq_true ?_
      rw [← h, bit_mfull hk (c : Int) j (by omega) (by omega)]
    omega
  · intro h
    have hall := fd_all (alikeB l k) (widthL V l) 0
    have := mfull_alike hl hk c (by omega) fun j hj => of_decide_eq_true (hall j (by omega) (by omega))
    rw [← this, hm]
def hasP (V : Int) (l : List UInt8) (b W : Int) (k : List UInt8) : Bool := rightP V l b && (rightL W k && (decide (W = V) && decide (mfull k b = l)))
theorem has_code {V b W : Int} {l k : List UInt8} (hl : l.length = 16) (hk : k.length = 16) : cidr_Has (mkP (mkA V l) b) (mkA W k) = some (hasP V l b W k) := by
  unfold cidr_Has hasP
  rw [cright_code hl, bindM_some]
  cases hp : rightP V l b with
  | false => rfl
  | true =>
    obtain ⟨⟨hrl, h0, h1⟩, hm⟩ := rightP_iff.1 hp
    have hw := width_le (V := V) (l := l)
    rw [if_pos rfl, right_code hk, bindM_some, Bool.true_and]
    cases hr : rightL W k with
    | false => rfl
    | true =>
      rw [if_pos rfl, Bool.true_and]
      show (if (W == V) = true then (addr_Mask (mkA W k) b >>= fun t8 => some (decide (t8 = mkA V l))) else some false) = _
      by_cases hV : W = V
      · subst hV
        rw [if_pos (beq_self_eq_true _), mask_code hk (by omega), bindM_some, decide_eq_true rfl, Bool.true_and]
        unfold maskA
        rw [if_pos hr]
        refine congrArg some ?_
        rw [decide_eq_decide, mkA_inj (mlen hk b) hl]
        exact ⟨fun h => h.2, fun h => ⟨rfl, h⟩⟩
      · rw [if_neg (by rw [beq_iff_eq]; exact hV), decide_eq_false hV]; rfl
theorem has_ref {V b W : Int} {l k : List UInt8} (hl : l.length = 16) (hk : k.length = 16) : crawlwayref11_Has (mkP (mkA V l) b) (mkA W k) = some (hasP V l b W k) := by
  unfold crawlwayref11_Has hasP
  rw [cright_ref hl, bindM_some]
  cases hp : rightP V l b with
  | false => rfl
  | true =>
    obtain ⟨⟨hrl, h0, h1⟩, hm⟩ := rightP_iff.1 hp
    rw [if_pos rfl, Bool.true_and]
    show (crawlwayref10_Common (mkA V l) (mkA W k) >>= fun t5 => some (decide (t5 ≥ b))) = _
    rw [common_ref hl hk, bindM_some]
    refine congrArg some ?_
    cases hr : rightL W k with
    | false =>
      have hc : commonL V l W k = -1 := by unfold commonL; rw [if_neg (by rw [hr]; simp)]
      rw [hc, Bool.false_and]
      exact decide_eq_false (by omega)
    | true =>
      rw [Bool.true_and]
      by_cases hV : W = V
      · rw [decide_eq_true hV, Bool.true_and]
        exact (same_bits hl hk hp hV.symm hr).symm
      · have hc : commonL V l W k = -1 := by unfold commonL; rw [if_neg (fun h => hV h.2.2.symm)]
        rw [hc, decide_eq_false hV, Bool.false_and]
        exact decide_eq_false (by omega)
def covP (V : Int) (l : List UInt8) (b W : Int) (k : List UInt8) (c : Int) : Bool := rightP W k c && (decide (b ≤ c) && hasP V l b W k)
theorem cov_code {V b W c : Int} {l k : List UInt8} (hl : l.length = 16) (hk : k.length = 16) : cidr_Covers (mkP (mkA V l) b) (mkP (mkA W k) c) = some (covP V l b W k c) := by
  unfold cidr_Covers covP
  rw [cright_code hk, bindM_some]
  cases rightP W k c with
  | false => rfl
  | true =>
    rw [if_pos rfl, Bool.true_and]
    show (if decide (b ≤ c) = true then (cidr_Has (mkP (mkA V l) b) (mkA W k) >>= fun t6 => some t6) else some false) = _
    by_cases h : b ≤ c
    · rw [if_pos (decide_eq_true h), has_code hl hk, bindM_some, decide_eq_true h, Bool.true_and]
    · rw [if_neg (by rw [decide_eq_true_eq]; exact h), decide_eq_false h]; rfl
theorem cov_ref {V b W c : Int} {l k : List UInt8} (hl : l.length = 16) (hk : k.length = 16) : crawlwayref11_Covers (mkP (mkA V l) b) (mkP (mkA W k) c) = some (covP V l b W k c) := by
  unfold crawlwayref11_Covers covP
  rw [cright_ref hk, bindM_some]
  cases rightP W k c with
  | false => rfl
  | true =>
    rw [if_pos rfl, Bool.true_and]
    show (crawlwayref11_Has (mkP (mkA V l) b) (mkA W k) >>= fun t5 => if t5 = true then some (decide (b ≤ c)) else some false) = _
    rw [has_ref hl hk, bindM_some]
    cases hasP V l b W k with
    | false => rw [if_neg Bool.false_ne_true, Bool.and_false]
    | true => rw [if_pos rfl, Bool.and_true]
theorem less_same {V b W c : Int} {l k : List UInt8} (hl : l.length = 16) (hk : k.length = 16) : ∃ z, cidr_Less (mkP (mkA V l) b) (mkP (mkA W k) c) = some z ∧ crawlwayref11_Less (mkP (mkA V l) b) (mkP (mkA W k) c) = some z := by
  unfold cidr_Less crawlwayref11_Less
  show ∃ z, (if decide (mkA V l = mkA W k) = true then some (decide (b < c)) else (addr_Less (mkA V l) (mkA W k) >>= fun t4 => some t4)) = some z ∧ (if (!decide (mkA V l = mkA W k)) = true then (crawlwayref10_Less (mkA V l) (mkA W k) >>= fun t4 => some t4) else some (decide (b < c))) = some z
  by_cases h : mkA V l = mkA W k
  · rw [decide_eq_true h]
    exact ⟨_, rfl, rfl⟩
  · rw [decide_eq_false h, less_code hl hk, less_ref hl hk]
    exact ⟨_, rfl, rfl⟩
/-! ### texts -/
theorem bs_app (l k : List UInt8) : bs l ++ bs k = bs (l ++ k) := by apply mk_inj; rw [append_list, bs_list, bs_list, bs_list]
theorem fmtU_bs (k : Nat) : fmtU (k : Int) = bs (Lib.decDigits k) := by apply mk_inj; rw [fmtU_list, bs_list]
def cidT (V : Int) (l : List UInt8) (b : Nat) : List UInt8 := adrT V l ++ 47 :: Lib.decDigits b
theorem cidT_len {V : Int} {l : List UInt8} (hl : l.length = 16) (b : Nat) (hb : b ≤ 128) : (cidT V l b).length ≤ 70 := by
  have h1 := adrT_len (V := V) hl
  have h2 := decDigits_len b (by omega)
  unfold cidT
  simp only [List.length_append, List.length_cons]; omega
theorem ctext_code {V b : Int} {l : List UInt8} (hl : l.length = 16) : cidr_Text (mkP (mkA V l) b) = some (bs (if rightP V l b = true then cidT V l b.toNat else [])) := by
  unfold cidr_Text
  rw [cright_code hl, bindM_some]
  cases hr : rightP V l b with
  | false => rw [if_pos (show (!false) = true from rfl)]; rfl
  | true =>
    obtain ⟨⟨hrl, h0, h1⟩, _⟩ := rightP_iff.1 hr
    have hw := width_le (V := V) (l := l)
    obtain ⟨k, rfl⟩ := Int.eq_ofNat_of_zero_le h0
    have ht := adrT_len (V := V) hl
    have hd := decDigits_len k (by omega)
    have b47 : (⟨#[47]⟩ : ByteArray) = bs [47] := rfl
    rw [if_neg (show ¬ (!true) = true by decide), if_pos rfl, Int.toNat_natCast]
    show (addr_Text (mkA V l) >>= fun t4 => if t4.size + (⟨#[47]⟩ : ByteArray).size ≤ 140737488355328 then decimal_Text (wr .u64 (k : Int)) >>= fun t6 => if (t4 ++ (⟨#[47]⟩ : ByteArray)).size + t6.size ≤ 140737488355328 then some ((t4 ++ (⟨#[47]⟩ : ByteArray)) ++ t6) else none else none) = _
    rw [addr_text hl, bindM_some, b47, if_pos (by rw [bs_size, bs_size]; simp only [List.length_cons, List.length_nil]; omega), wr_u64 (by omega) (by omega), text_code k (by omega), bindM_some, fmtU_bs, bs_app, if_pos (by rw [bs_size, bs_size, List.length_append]; simp only [List.length_cons, List.length_nil]; omega), bs_app]
    unfold cidT
    rw [List.append_assoc]; rfl
theorem ctext_ref {V b : Int} {l : List UInt8} (hl : l.length = 16) : crawlwayref11_Text (mkP (mkA V l) b) = some (bs (if rightP V l b = true then cidT V l b.toNat else [])) := by
  unfold crawlwayref11_Text
  rw [cright_ref hl, bindM_some]
  cases hr : rightP V l b with
  | false => rw [if_pos (show (!false) = true from rfl)]; rfl
  | true =>
    obtain ⟨⟨hrl, h0, h1⟩, _⟩ := rightP_iff.1 hr
    have hw := width_le (V := V) (l := l)
    obtain ⟨k, rfl⟩ := Int.eq_ofNat_of_zero_le h0
    have ht := adrT_len (V := V) hl
    have hd := decDigits_len k (by omega)
    have b47 : (⟨#[47]⟩ : ByteArray) = bs [47] := rfl
    rw [if_neg (show ¬ (!true) = true by decide), if_pos rfl, Int.toNat_natCast]
    show (crawlwayref10_Text (mkA V l) >>= fun t4 => if t4.size + (⟨#[47]⟩ : ByteArray).size ≤ 140737488355328 then crawlwayref03_Text (wr .u64 (k : Int)) >>= fun t6 => if (t4 ++ (⟨#[47]⟩ : ByteArray)).size + t6.size ≤ 140737488355328 then some ((t4 ++ (⟨#[47]⟩ : ByteArray)) ++ t6) else none else none) = _
    rw [ref_text10 hl, bindM_some, b47, if_pos (by rw [bs_size, bs_size]; simp only [List.length_cons, List.length_nil]; omega), wr_u64 (by omega) (by omega), text_ref k (by omega), bindM_some, fmtU_bs, bs_app, if_pos (by rw [bs_size, bs_size, List.length_append]; simp only [List.length_cons, List.length_nil]; omega), bs_app]
    unfold cidT
    rw [List.append_assoc]; rfl
theorem dg_47 : ∀ n : Fin 16, Hex.dg n.1 ≠ 47 := by decide +kernel
theorem g1_47 (n : Nat) : ∀ x ∈ Col.g1 n, x ≠ 47 := by
  induction n using Nat.strongRecOn with
  | _ n ih =>
    intro x hx
    unfold Col.g1 Hex.grp at hx
    split at hx
    · next h =>
      simp only [Hex.dig, List.mem_singleton] at hx
      subst hx
      exact dg_47 ⟨n, h⟩
    · next h =>
      rw [append_list] at hx
      rcases List.mem_append.1 hx with hx | hx
      · exact ih _ (show n / 16 < n by omega) x hx
      · simp only [Hex.dig, List.mem_singleton] at hx
        subst hx
        exact dg_47 ⟨n % 16, by omega⟩
theorem rowL_47 : ∀ (G : List Nat), ∀ x ∈ Col.rowL G, x ≠ 47
  | [], x, h => by cases h
  | [n], x, h => g1_47 n x h
  | n :: m :: r, x, h => by
    rcases List.mem_append.1 h with h | h
    · exact g1_47 n x h
    · rcases List.mem_cons.1 h with rfl | h
      · decide
      · exact rowL_47 (m :: r) x h
theorem textL_47 (G : List Nat) : ∀ x ∈ Col.textL G, x ≠ 47 := by
  intro x h
  unfold Col.textL at h
  split at h
  · exact rowL_47 _ x h
  · rcases List.mem_append.1 h with h | h
    · exact rowL_47 _ x h
    · rcases List.mem_cons.1 h with rfl | h
      · decide
      · rcases List.mem_cons.1 h with rfl | h
        · decide
        · exact rowL_47 _ x h
theorem dec_47 (n : Nat) : ∀ x ∈ Lib.decDigits n, x ≠ 47 := fun x hx => by
  have := dig_iff.1 (List.all_eq_true.1 (decDigits_dig n) x hx)
  intro e; subst e
  have : (47 : UInt8).toNat = 47 := rfl
  omega
theorem qText_47 {m : List UInt8} (hm : m.length = 4) : ∀ x ∈ qText m, x ≠ 47 := by
  intro x hx
  match m, hm with
  | [a, b, c, d], _ =>
    have hx' : x ∈ Lib.decDigits a.toNat ++ 46 :: (Lib.decDigits b.toNat ++ 46 :: (Lib.decDigits c.toNat ++ 46 :: Lib.decDigits d.toNat)) := hx
    simp only [List.mem_append, List.mem_cons] at hx'
    rcases hx' with h | h | h | h | h | h | h
    · exact dec_47 _ x h
    · subst h; decide
    · exact dec_47 _ x h
    · subst h; decide
    · exact dec_47 _ x h
    · subst h; decide
    · exact dec_47 _ x h
theorem adrT_47 {V : Int} {l : List UInt8} (hl : l.length = 16) : ∀ x ∈ adrT V l, x ≠ 47 := by
  intro x hx
  unfold adrT at hx
  split at hx
  · split at hx
    · exact qText_47 (by rw [List.length_take]; omega) x hx
    · exact textL_47 _ x hx
  · cases hx
/-! ### prefixes out of texts -/
def f47 : List UInt8 → Option (List UInt8 × List UInt8)
  | [] => none
  | c :: r => if c = 47 then some ([], r) else (f47 r).map fun q => (c :: q.1, q.2)
theorem f47_at (r : List UInt8) : ∀ (p : List UInt8), (∀ x ∈ p, x ≠ 47) → f47 (p ++ 47 :: r) = some (p, r)
  | [], _ => by
    show (if (47 : UInt8) = 47 then some ([], r) else _) = _
    rw [if_pos rfl]
  | c :: p, h => by
    show (if c = 47 then _ else (f47 (p ++ 47 :: r)).map _) = _
    rw [if_neg (h c (List.mem_cons_self ..)), f47_at r p fun x hx => h x (List.mem_cons_of_mem _ hx)]; rfl
theorem f47_none : ∀ (l : List UInt8), (∀ x ∈ l, x ≠ 47) → f47 l = none
  | [], _ => rfl
  | c :: r, h => by
    unfold f47
    rw [if_neg (h c (List.mem_cons_self ..)), f47_none r fun x hx => h x (List.mem_cons_of_mem _ hx)]; rfl
def wd (A : S_api_Addr) : Nat := ((addr_Width A).getD 0).toNat
def ofA (A : S_api_Addr) (b : Int) : S_api_Prefix × Int := (cidr_Of A b).getD (zP, 0)
theorem wd_mkA {V : Int} {l : List UInt8} (hl : l.length = 16) : wd (mkA V l) = widthL V l := by
  unfold wd
  rw [width_code hl]; rfl
theorem ofA_mkA {V b : Int} {l : List UInt8} (hl : l.length = 16) : ofA (mkA V l) b = ofP V l b := by
  unfold ofA
  rw [of_code hl]; rfl
def cidP (l : List UInt8) : S_api_Prefix × Int := match f47 l with
  | none => if (adrP l).2 = 0 then ofA (adrP l).1 (wd (adrP l).1 : Int) else (zP, (adrP l).2)
  | some (h, p) => if (adrP h).2 = 0 then (if (rdU p (wd (adrP h).1)).2 = 0 then ofA (adrP h).1 ((rdU p (wd (adrP h).1)).1 : Int) else (zP, ((rdU p (wd (adrP h).1)).2 : Int))) else (zP, (adrP h).2)
theorem whole_fits {V : Int} {l : List UInt8} (hr : rightL V l = true) : fits V l (widthL V l : Int) = true := fits_iff.2 ⟨hr, by omega, by omega⟩
theorem cid_parse (l : List UInt8) (hl : l.length < 100000) : cidr_Parse (bs l) = some (cidP l) := by
  unfold cidr_Parse cidP
  have h47 : ((47 : UInt8).toNat : Int) = 47 := rfl
  rcases split_at 47 l with h2 | ⟨h, r, rfl, h2⟩
  · have hcut := cut_none l 47 h2
    rw [h47] at hcut
    rw [hcut, bindM_some, f47_none l h2]
    show (addr_Parse (bs l) >>= fun t3 => _) = _
    rw [addr_parse l (by omega), bindM_some]
    by_cases h0 : (adrP l).2 = 0
    · obtain ⟨V, k, hA, hk, hr⟩ := adrP_right h0
      have e : ((adrP l).2 != 0) = false := by rw [h0]; rfl
      rw [e, if_neg Bool.false_ne_true, if_pos (show (!false) = true from rfl), hA, whole_code hk, bindM_some]
      simp only [h0, if_true]
      rw [wd_mkA hk, ofA_mkA hk]
      unfold ofP
      rw [if_pos hr, if_pos (whole_fits hr)]
    · have e : ((adrP l).2 != 0) = true := by rw [bne_iff_ne]; exact h0
      rw [e, if_pos rfl]
      simp only [h0, if_false]; rfl
  · have hlen : (h ++ 47 :: r).length = h.length + (r.length + 1) := by simp
    have hcut := cut_some h r 47 h2 (by omega)
    rw [h47] at hcut
    rw [hcut, bindM_some, f47_at r h h2]
    show (addr_Parse (bs h) >>= fun t3 => _) = _
    rw [addr_parse h (by omega), bindM_some]
    by_cases h0 : (adrP h).2 = 0
    · obtain ⟨V, k, hA, hk, hr⟩ := adrP_right h0
      have hw := width_le (V := V) (l := k)
      have e : ((adrP h).2 != 0) = false := by rw [h0]; rfl
      rw [e, if_neg Bool.false_ne_true, if_neg (show ¬ (!true) = true by decide), hA, width_code hk, bindM_some]
      simp only [h0, if_true]
      rw [hA, wd_mkA hk]
      have hrd := read_code (bs r) (widthL V k) (by rw [bs_size]; omega) (by omega)
      rw [bs_list] at hrd
      have hle := rdU_le r (widthL V k)
      rw [wr_u64 (by omega) (by omega)]
      show (decimal_Read (bs r) ((widthL V k : Nat) : Int) >>= fun t9 => _) = _
      rw [hrd, bindM_some]
      show (if ((((rdU r (widthL V k)).2 : Nat) : Int) != 0) = true then some (zP, (((rdU r (widthL V k)).2 : Nat) : Int)) else (cidr_Of (mkA V k) (wr .i64 (((rdU r (widthL V k)).1 : Nat) : Int)) >>= fun t11 => some (t11.1, t11.2))) = _
      by_cases h3 : (rdU r (widthL V k)).2 = 0
      · have e3 : ((((rdU r (widthL V k)).2 : Nat) : Int) != 0) = false := by rw [h3]; rfl
        rw [e3, if_neg Bool.false_ne_true, if_pos h3, wr_i64 (by omega) (by omega), of_code hk, bindM_some, ofA_mkA hk]
      · have e3 : ((((rdU r (widthL V k)).2 : Nat) : Int) != 0) = true := by rw [bne_iff_ne]; omega
        rw [e3, if_pos rfl, if_neg h3]
    · have e : ((adrP h).2 != 0) = true := by rw [bne_iff_ne]; exact h0
      rw [e, if_pos rfl]
      simp only [h0, if_false]; rfl
theorem cid_parse_ref (l : List UInt8) (hl : l.length < 100000) : crawlwayref11_Parse (bs l) = some (cidP l) := by
  unfold crawlwayref11_Parse cidP
  have hp := parts_ref 47 l (by omega)
  rw [show ((47 : UInt8).toNat : Int) = 47 from rfl] at hp
  rw [hp, bindM_some]
  have hne := parts_ne 47 l
  have hg0 : (0 : Int) ≤ 0 ∧ (0 : Int) < (((parts 47 l).map bs).length : Int) := by
    rw [List.length_map]
    cases hq : parts 47 l with
    | nil => exact absurd hq hne
    | cons _ _ => simp
  rw [if_pos hg0]
  rcases split_at 47 l with h2 | ⟨h, r, rfl, h2⟩
  · have e0 : lget ((parts 47 l).map bs) 0 = bs l := by rw [parts_none 47 l h2]; rfl
    have e1 : (((parts 47 l).map bs).length : Int) = 1 := by rw [parts_none 47 l h2]; rfl
    rw [e0, e1, f47_none l h2, ref_parse10 l hl, bindM_some]
    by_cases h0 : (adrP l).2 = 0
    · obtain ⟨V, k, hA, hk, hr⟩ := adrP_right h0
      have e : ((adrP l).2 != 0) = false := by rw [h0]; rfl
      rw [e, if_neg Bool.false_ne_true, if_pos (show ((1 : Int) == 1) = true from rfl), hA, width_ref hk, bindM_some, of_ref hk, bindM_some]
      simp only [h0, if_true]
      rw [wd_mkA hk, ofA_mkA hk]
    · have e : ((adrP l).2 != 0) = true := by rw [bne_iff_ne]; exact h0
      rw [e, if_pos rfl]
      simp only [h0, if_false]; rfl
  · have hlen : (h ++ 47 :: r).length = h.length + (r.length + 1) := by simp
    have e0 : lget ((parts 47 (h ++ 47 :: r)).map bs) 0 = bs h := by rw [parts_cons 47 r h h2]; rfl
    have e1 : ((((parts 47 (h ++ 47 :: r)).map bs).length : Int) == 1) = false := by
      rw [parts_cons 47 r h h2, beq_eq_false_iff_ne, List.length_map, List.length_cons]
      have := parts_ne 47 r
      cases hq : parts 47 r with
      | nil => exact absurd hq this
      | cons _ _ => simp only [List.length_cons]; omega
    have w : wr .i64 (((bs h).size : Int) + 1) = ((h.length + 1 : Nat) : Int) := by rw [bs_size, wr_i64 (by omega) (by omega)]; omega
    have x : (bs (h ++ 47 :: r)).extract (Int.toNat ((h.length + 1 : Nat) : Int)) (Int.toNat ((bs (h ++ 47 :: r)).size : Int)) = bs r := by
      rw [Int.toNat_natCast, Int.toNat_natCast, bs_extract, bs_size, List.take_of_length_le (Nat.le_refl _), List.drop_append, List.drop_eq_nil_of_le (by omega), show h.length + 1 - h.length = 1 by omega]; rfl
    rw [e0, f47_at r h h2, ref_parse10 h (by omega), bindM_some]
    by_cases h0 : (adrP h).2 = 0
    · obtain ⟨V, k, hA, hk, hr⟩ := adrP_right h0
      have hw := width_le (V := V) (l := k)
      have e : ((adrP h).2 != 0) = false := by rw [h0]; rfl
      rw [e, if_neg Bool.false_ne_true, e1, if_neg Bool.false_ne_true, if_pos hg0, w, if_pos (by rw [bs_size]; omega), hA, width_ref hk, bindM_some, x]
      simp only [h0, if_true]
      rw [hA, wd_mkA hk, wr_u64 (by omega) (by omega)]
      have hrd := read_ref (bs r) (widthL V k) (by rw [bs_size]; omega) (by omega)
      rw [bs_list] at hrd
      have hle := rdU_le r (widthL V k)
      rw [hrd, bindM_some]
      show (if ((((rdU r (widthL V k)).2 : Nat) : Int) != 0) = true then some (zP, (((rdU r (widthL V k)).2 : Nat) : Int)) else (crawlwayref11_Of (mkA V k) (wr .i64 (((rdU r (widthL V k)).1 : Nat) : Int)) >>= fun t11 => some (t11.1, t11.2))) = _
      by_cases h3 : (rdU r (widthL V k)).2 = 0
      · have e3 : ((((rdU r (widthL V k)).2 : Nat) : Int) != 0) = false := by rw [h3]; rfl
        rw [e3, if_neg Bool.false_ne_true, if_pos h3, wr_i64 (by omega) (by omega), of_ref hk, bindM_some, ofA_mkA hk]
      · have e3 : ((((rdU r (widthL V k)).2 : Nat) : Int) != 0) = true := by rw [bne_iff_ne]; omega
        rw [e3, if_pos rfl, if_neg h3]
    · have e : ((adrP h).2 != 0) = true := by rw [bne_iff_ne]; exact h0
      rw [e, if_pos rfl]
      simp only [h0, if_false]; rfl
theorem cidP_text {V : Int} {l : List UInt8} (hl : l.length = 16) (b : Nat) (hr : rightP V l (b : Int) = true) : cidP (cidT V l b) = (mkP (mkA V l) (b : Int), 0) := by
  obtain ⟨⟨hrl, h0, h1⟩, hm⟩ := rightP_iff.1 hr
  unfold cidP cidT
  rw [f47_at _ _ (adrT_47 hl)]
  simp only
  rw [parse_text10 hl hrl]
  simp only [if_true]
  have hrd : rdU (Lib.decDigits b) (widthL V l) = (b, 0) := by rw [rdU_text, if_pos (by omega)]
  rw [wd_mkA hl, hrd]
  simp only [if_true]
  rw [ofA_mkA hl]
  unfold ofP
  rw [if_pos hrl, if_pos (fits_iff.2 ⟨hrl, h0, h1⟩), hm]
theorem cidP_ok {l : List UInt8} (e : (cidP l).2 = 0) : ∃ V k b, (cidP l).1 = mkP (mkA V k) ((b : Nat) : Int) ∧ k.length = 16 ∧ rightP V k ((b : Nat) : Int) = true := by
  have key : ∀ (V : Int) (k : List UInt8) (b : Nat), k.length = 16 → rightL V k = true → (ofP V k (b : Int)).2 = 0 → ∃ V' k' b', (ofP V k (b : Int)).1 = mkP (mkA V' k') ((b' : Nat) : Int) ∧ k'.length = 16 ∧ rightP V' k' ((b' : Nat) : Int) = true := by
    intro V k b hk hr h
    unfold ofP at h ⊢
    rw [if_pos hr] at h ⊢
    cases hf : fits V k (b : Int) with
    | false => rw [hf] at h; cases h
    | true =>
      rw [if_pos rfl]
      exact ⟨V, mfull k (b : Int), b, rfl, mlen hk _, rightP_of hk hf⟩
  unfold cidP at e ⊢
  cases hq : f47 l with
  | none =>
    rw [hq] at e
    simp only at e ⊢
    by_cases h0 : (adrP l).2 = 0
    · obtain ⟨V, k, hA, hk, hr⟩ := adrP_right h0
      rw [if_pos h0, hA, wd_mkA hk, ofA_mkA hk] at e ⊢
      exact key V k _ hk hr e
    · rw [if_neg h0] at e; exact absurd e h0
  | some q =>
    obtain ⟨h, p⟩ := q
    rw [hq] at e
    simp only at e ⊢
    by_cases h0 : (adrP h).2 = 0
    · obtain ⟨V, k, hA, hk, hr⟩ := adrP_right h0
      rw [if_pos h0, hA, wd_mkA hk] at e ⊢
      by_cases h3 : (rdU p (widthL V k)).2 = 0
      · rw [if_pos h3, ofA_mkA hk] at e ⊢
        exact key V k _ hk hr e
      · rw [if_neg h3] at e
        have : ((rdU p (widthL V k)).2 : Int) = 0 := e
        omega
    · rw [if_neg h0] at e; exact absurd e h0
theorem alive11 : crawlwaylaw11_alive = some true := by
  have p1 := cid_parse [49, 48, 46, 49, 46, 50, 46, 51, 47, 56] (by decide)
  have p2 := cid_parse [58, 58, 49] (by decide)
  have hl1 : (fourL [10, 1, 2, 3]).length = 16 := rfl
  have hl2 : (Col.un [0, 0, 0, 0, 0, 0, 0, 1]).length = 16 := rfl
  have e1 : cidP [49, 48, 46, 49, 46, 50, 46, 51, 47, 56] = (mkP (mkA 4 (fourL [10, 0, 0, 0])) ((8 : Nat) : Int), 0) := by
    have hh : f47 [49, 48, 46, 49, 46, 50, 46, 51, 47, 56] = some ([49, 48, 46, 49, 46, 50, 46, 51], [56]) := by decide +kernel
    have ha : adrP [49, 48, 46, 49, 46, 50, 46, 51] = (mkA 4 (fourL [10, 1, 2, 3]), 0) := by
      unfold adrP
      rw [if_neg (by decide)]
      have hq : qText [10, 1, 2, 3] = [49, 48, 46, 49, 46, 50, 46, 51] := by
        show Lib.decDigits 10 ++ 46 :: (Lib.decDigits 1 ++ 46 :: (Lib.decDigits 2 ++ 46 :: Lib.decDigits 3)) = _
        rw [decDigits_big (n := 10) (by decide), decDigits_small (n := 10 / 10) (by decide), decDigits_small (n := 2) (by decide), decDigits_small (n := 3) (by decide)]; rfl
      have h := quadP_text (m := [10, 1, 2, 3]) rfl
      rw [hq] at h
      unfold quadA
      rw [h]
      show (if (0 : Nat) = 0 then (mkA 4 (fourL (unb (v4 [10, 1, 2, 3]).toList)), (0 : Int)) else _) = _
      rw [if_pos rfl, v4_toList rfl, AdrT.unb_ob]
    have hw : widthL 4 (fourL [10, 1, 2, 3]) = 32 := by decide +kernel
    have hr : rdU [56] 32 = (8, 0) := by decide +kernel
    unfold cidP
    rw [hh]
    simp only
    rw [ha]
    simp only [if_true]
    rw [wd_mkA hl1, hw, hr]
    simp only [if_true]
    rw [ofA_mkA hl1]
    unfold ofP
    rw [if_pos (by decide +kernel), if_pos (by decide +kernel)]
    exact congrArg (fun z => (mkP (mkA 4 z) ((8 : Nat) : Int), (0 : Int))) (by decide +kernel)
  have e2 : cidP [58, 58, 49] = (mkP (mkA 6 (Col.un [0, 0, 0, 0, 0, 0, 0, 1])) ((128 : Nat) : Int), 0) := by
    have hh : f47 [58, 58, 49] = none := by decide +kernel
    have hp : Col.parseL [58, 58, 49] = some [0, 0, 0, 0, 0, 0, 0, 1] := by decide +kernel
    have ha : adrP [58, 58, 49] = (mkA 6 (Col.un [0, 0, 0, 0, 0, 0, 0, 1]), 0) := by
      unfold adrP
      rw [if_pos (by decide), hp]
    have hw : widthL 6 (Col.un [0, 0, 0, 0, 0, 0, 0, 1]) = 128 := by decide +kernel
    unfold cidP
    rw [hh]
    simp only
    rw [ha]
    simp only [if_true]
    rw [wd_mkA hl2, hw, ofA_mkA hl2]
    unfold ofP
    rw [if_pos (by decide +kernel), if_pos (by decide +kernel)]
    exact congrArg (fun z => (mkP (mkA 6 z) ((128 : Nat) : Int), (0 : Int))) (by decide +kernel)
  have t1 := ctext_code (V := 4) (b := ((8 : Nat) : Int)) (l := fourL [10, 0, 0, 0]) rfl
  have t2 := ctext_code (V := 6) (b := ((128 : Nat) : Int)) hl2
  have r1 : rightP 4 (fourL [10, 0, 0, 0]) ((8 : Nat) : Int) = true := by decide +kernel
  have r2 : rightP 6 (Col.un [0, 0, 0, 0, 0, 0, 0, 1]) ((128 : Nat) : Int) = true := by decide +kernel
  have q1 : cidT 4 (fourL [10, 0, 0, 0]) 8 = [49, 48, 46, 48, 46, 48, 46, 48, 47, 56] := by
    unfold cidT adrT
    rw [if_pos (by decide +kernel), if_pos rfl]
    show (Lib.decDigits 10 ++ 46 :: (Lib.decDigits 0 ++ 46 :: (Lib.decDigits 0 ++ 46 :: Lib.decDigits 0))) ++ 47 :: Lib.decDigits 8 = _
    rw [decDigits_big (n := 10) (by decide), decDigits_small (n := 10 / 10) (by decide), decDigits_small (n := 0) (by decide), decDigits_small (n := 8) (by decide)]; rfl
  have q2 : cidT 6 (Col.un [0, 0, 0, 0, 0, 0, 0, 1]) 128 = [58, 58, 49, 47, 49, 50, 56] := by
    unfold cidT adrT
    rw [if_pos (by decide +kernel), if_neg (by decide), Col.gr_un _ (by decide)]
    have h1 : Col.textL [0, 0, 0, 0, 0, 0, 0, 1] = [58, 58, 49] := by decide +kernel
    have h2 : Lib.decDigits 128 = [49, 50, 56] := by
      rw [decDigits_big (by decide), decDigits_big (n := 128 / 10) (by decide), decDigits_small (by decide)]; rfl
    rw [h1, h2]; rfl
  rw [r1, if_pos rfl, Int.toNat_natCast, q1] at t1
  rw [r2, if_pos rfl, Int.toNat_natCast, q2] at t2
  unfold crawlwaylaw11_alive
  show (cidr_Parse (bs [49, 48, 46, 49, 46, 50, 46, 51, 47, 56]) >>= fun t1 => cidr_Parse (bs [58, 58, 49]) >>= fun t3 => if (t1.2 == 0) = true then (if (t3.2 == 0) = true then (cidr_Text t1.1 >>= fun t7 => if (seq t7 (bs [49, 48, 46, 48, 46, 48, 46, 48, 47, 56])) = true then (cidr_Text t3.1 >>= fun t9 => some (seq t9 (bs [58, 58, 49, 47, 49, 50, 56]))) else (some false)) else (some false)) else (some false)) = some true
  rw [p1, bindM_some, p2, bindM_some, e1, e2]
  simp only
  rw [if_pos (by rfl), if_pos (by rfl), t1, bindM_some, seq_self, if_pos rfl, t2, bindM_some, seq_self]
theorem alive_then : (crawlwaylaw11_alive >>= fun t => some t) = some true := by rw [alive11]; rfl
end Go.Proofs.YtecolkjlpklaaaaDoor.Cid
