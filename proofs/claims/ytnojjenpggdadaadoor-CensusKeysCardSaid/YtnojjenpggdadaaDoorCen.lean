/- Chapter 52 in plain words: what events come to, and its text. -/
import Derived.Test.YtnojjenpggdadaaDoorC2
import Derived.Test.YtnojjenpggdadaaDoorDec
import Derived.Test.YtnojjenpggdadaaDoorPure
import Derived.Test.YtnojjenpggdadaaDoorI
namespace Go.Proofs.YtnojjenpggdadaaDoor
open E

namespace Cen
theorem size_toList (s : ByteArray) : s.data.toList.length = s.size := by
  show s.data.toList.length = s.data.size
  simp
theorem mk_inj {a b : ByteArray} (h : a.data.toList = b.data.toList) : a = b := by
  cases a with | mk a => cases b with | mk b =>
  simp at h; subst h; rfl
theorem fmtU_list (n : Nat) : (fmtU (n : Int)).data.toList = Lib.decDigits n := by simp [fmtU]
theorem decDigits_len (n : Nat) (h : n < 18446744073709551616) : (Lib.decDigits n).length ≤ 20 := by
  have key : ∀ (k n : Nat), n < 10 ^ (k + 1) → (Lib.decDigits n).length ≤ k + 1 := by
    intro k
    induction k with
    | zero => intro n h; rw [decDigits_small (by omega)]; simp
    | succ k ih =>
      intro n h
      by_cases h1 : n < 10
      · rw [decDigits_small h1]; simp
      · rw [decDigits_big h1, List.length_append]
        have := ih (n / 10) (by rw [Nat.pow_succ] at h; omega)
        simp; omega
  exact key 19 n (by omega)
theorem fmtU_size (n : Nat) (h : n < 18446744073709551616) : (fmtU (n : Int)).size ≤ 20 := by
  rw [← size_toList, fmtU_list]; exact decDigits_len n h
theorem append_list (a b : ByteArray) : (a ++ b).data.toList = a.data.toList ++ b.data.toList := by simp [ByteArray.data_append]
theorem size_app (a b : ByteArray) : (a ++ b).size = a.size + b.size := by
  rw [← size_toList, append_list, List.length_append, size_toList, size_toList]
theorem app_assoc (a b c : ByteArray) : (a ++ b) ++ c = a ++ (b ++ c) := by
  apply mk_inj; rw [append_list, append_list, append_list, append_list, List.append_assoc]
theorem text_ref (n : Nat) (h : n < 18446744073709551616) : crawlwayref03_Text (n : Int) = some (fmtU n) := by
  induction n using Nat.strongRecOn with
  | _ n ih =>
    have hd : wr .u8 (wr .u64 (48 + Int.tmod (n : Int) 10)) = ((48 + n % 10 : Nat) : Int) := by
      have e1 : Int.tmod (n : Int) 10 = ((n % 10 : Nat) : Int) := by rw [Int.tmod_eq_emod_of_nonneg (by omega)]; omega
      rw [e1, wr_u64 (by omega) (by omega), wr_u8 (by omega) (by omega)]; omega
    have hl : ((⟨(unb ([wr .u8 (wr .u64 (48 + (Int.tmod (n : Int) 10)))])).toArray⟩ : ByteArray)).data.toList = [UInt8.ofNat (48 + n % 10)] := by
      rw [hd]; rfl
    rw [crawlwayref03_Text.eq_def]
    by_cases h1 : n < 10
    · rw [if_pos (decide_eq_true (by omega))]
      congr 1
      apply mk_inj
      rw [hl, fmtU_list, decDigits_small h1]
      rw [Nat.mod_eq_of_lt h1]
    · rw [if_neg (by rw [decide_eq_true_eq]; omega)]
      have e2 : wr .u64 (Int.tdiv (n : Int) 10) = ((n / 10 : Nat) : Int) := by
        have : Int.tdiv (n : Int) 10 = ((n / 10 : Nat) : Int) := by rw [Int.tdiv_eq_ediv_of_nonneg (by omega)]; omega
        rw [this, wr_u64 (by omega) (by omega)]
      rw [e2, ih (n / 10) (by omega) (by omega), bindM_some]
      have hsz := fmtU_size (n / 10) (by omega)
      rw [if_pos]
      · congr 1
        apply mk_inj
        rw [append_list, hl, fmtU_list, fmtU_list, decDigits_big h1]
      · have : ((⟨(unb ([wr .u8 (wr .u64 (48 + (Int.tmod (n : Int) 10)))])).toArray⟩ : ByteArray)).size = 1 := by rw [← size_toList, hl]; rfl
        rw [this]; omega
/-! ### numbers with a sign -/
def I64 (n : Int) : Prop := -9223372036854775808 ≤ n ∧ n ≤ 9223372036854775807
theorem fmtI_neg (n : Int) (h : n < 0) : fmtI n = ⟨#[45]⟩ ++ fmtU (n.natAbs : Int) := by
  apply mk_inj
  rw [append_list, fmtU_list]
  show (Lib.itoa n).toArray.toList = _
  rw [List.toList_toArray, Lib.itoa, if_pos h]; rfl
theorem fmtI_pos (n : Nat) : fmtI (n : Int) = fmtU (n : Int) := by
  apply mk_inj
  rw [fmtU_list]
  show (Lib.itoa n).toArray.toList = _
  rw [List.toList_toArray, Lib.itoa, if_neg (by omega), Int.toNat_natCast]
theorem fmtI_size (n : Int) (h : I64 n) : (fmtI n).size ≤ 21 := by
  obtain ⟨h1, h2⟩ := h
  by_cases h0 : n < 0
  · rw [fmtI_neg n h0, size_app]
    have := fmtU_size n.natAbs (by omega)
    have e : (⟨#[45]⟩ : ByteArray).size = 1 := rfl
    omega
  · obtain ⟨m, rfl⟩ := Int.eq_ofNat_of_zero_le (by omega : 0 ≤ n)
    rw [fmtI_pos]
    have := fmtU_size m (by omega)
    omega
theorem number_ref (n : Int) (h : I64 n) : crawlwayref52_number n = some (fmtI n) := by
  obtain ⟨h1, h2⟩ := h
  unfold crawlwayref52_number
  by_cases h0 : n < 0
  · have e : wr .u64 ((wr .u64 (wr .i64 (0 - (wr .i64 (n + 1))))) + 1) = ((n.natAbs : Nat) : Int) := by
      rw [wr_i64 (x := n + 1) (by omega) (by omega), wr_i64 (by omega) (by omega), wr_u64 (x := 0 - (n + 1)) (by omega) (by omega), wr_u64 (by omega) (by omega)]; omega
    have hs := fmtU_size n.natAbs (by omega)
    have e1 : (⟨#[45]⟩ : ByteArray).size = 1 := rfl
    rw [if_pos (decide_eq_true h0), e, text_ref _ (by omega), bindM_some, if_pos (by omega), fmtI_neg n h0]
  · obtain ⟨m, rfl⟩ := Int.eq_ofNat_of_zero_le (by omega : 0 ≤ n)
    rw [if_neg (by rw [decide_eq_true_eq]; exact h0), wr_u64 (by omega) (by omega), text_ref _ (by omega), bindM_some, fmtI_pos]
theorem vget_mem {α : Type} [Inhabited α] {m : Nat} (v : Vector α m) (i : Nat) (h : i < m) : vget v (i : Int) ∈ v.toList := by
  unfold vget
  rw [Int.toNat_natCast, List.getD_eq_getElem?_getD, List.getElem?_eq_getElem (by simp; exact h)]
  exact List.getElem_mem _
theorem wf_i64 {n : Int} (h : (Lit.int .i64 n).wf = true) : I64 n := by
  simp [Lit.wf, IntKind.min, IntKind.max, IntKind.signed, IntKind.bits] at h
  unfold I64; omega
/-! ### the texts -/
def nmT (i : Nat) : ByteArray := vget gval_census_names (i : Int)
def sp : ByteArray := ⟨#[32]⟩
def nl : ByteArray := ⟨#[10]⟩
def why : ByteArray := ⟨#[119, 104, 121, 32]⟩
theorem nmT_size (i : Nat) (h : i < 7) : (nmT i).size ≤ 7 := by
  have : i = 0 ∨ i = 1 ∨ i = 2 ∨ i = 3 ∨ i = 4 ∨ i = 5 ∨ i = 6 := by omega
  rcases this with rfl | rfl | rfl | rfl | rfl | rfl | rfl <;> decide
theorem nmT_ref (i : Nat) (h : i < 7) : lget ([⟨#[]⟩, ⟨#[114, 101, 112, 108, 121]⟩, ⟨#[115, 101, 110, 100]⟩, ⟨#[100, 101, 108, 105, 118, 101, 114]⟩, ⟨#[114, 101, 102, 117, 115, 101]⟩, ⟨#[100, 114, 111, 112]⟩, ⟨#[112, 97, 115, 115]⟩] : List ByteArray) (i : Int) = nmT i := by
  have : i = 0 ∨ i = 1 ∨ i = 2 ∨ i = 3 ∨ i = 4 ∨ i = 5 ∨ i = 6 := by omega
  rcases this with rfl | rfl | rfl | rfl | rfl | rfl | rfl <;> rfl
def lineK (K B : Vector Int 7) (i : Nat) : ByteArray := ((((nmT i ++ sp) ++ fmtI (vget K i)) ++ sp) ++ fmtI (vget B i)) ++ nl
def linesK (K B : Vector Int 7) : Nat → Nat → ByteArray → ByteArray
  | 0, _, acc => acc
  | f + 1, i, acc => linesK K B f (i + 1) (if 0 < i ∧ vget K i ≠ 0 then acc ++ lineK K B i else acc)
def lineW (W : Vector Int 21) (i : Nat) : ByteArray := (((why ++ fmtI i) ++ sp) ++ fmtI (vget W i)) ++ nl
def linesW (W : Vector Int 21) : Nat → Nat → ByteArray → ByteArray
  | 0, _, acc => acc
  | f + 1, i, acc => linesW W f (i + 1) (if 0 < i ∧ vget W i ≠ 0 then acc ++ lineW W i else acc)
section
variable {x : S_census_Count}
theorem code_l0 (hK : ∀ i : Nat, i < 7 → I64 (vget x.f_Kinds i)) (hB : ∀ i : Nat, i < 7 → I64 (vget x.f_Bytes i)) : ∀ (f i : Nat) (acc : ByteArray), i + f = 7 → acc.size ≤ 60 * i →
    census_Text.l0 x (i : Int) acc = some (linesK x.f_Kinds x.f_Bytes f i acc)
  | 0, i, acc, h, _ => by
    rw [census_Text.l0.eq_def, decide_eq_false (by omega), if_neg Bool.false_ne_true]; rfl
  | f + 1, i, acc, h, ha => by
    have hi : (0 : Int) ≤ (i : Int) ∧ (i : Int) < 7 := by omega
    have e1 : wr .i64 ((i : Int) + 1) = ((i + 1 : Nat) : Int) := by rw [wr_i64 (by omega) (by omega)]; omega
    rw [census_Text.l0.eq_def, decide_eq_true (by omega : (i : Int) < 7), if_pos rfl, if_pos hi, e1]
    unfold linesK
    by_cases h0 : 0 < i
    · rw [decide_eq_true (by omega : (i : Int) > 0), if_pos rfl]
      by_cases hk : vget x.f_Kinds (i : Int) ≠ 0
      · obtain ⟨k1, k2⟩ := hK i (by omega)
        obtain ⟨b1, b2⟩ := hB i (by omega)
        have s1 := fmtI_size _ (hK i (by omega))
        have s2 := fmtI_size _ (hB i (by omega))
        have s3 : (vget gval_census_names (i : Int)).size ≤ 7 := nmT_size i (by omega)
        have z1 : (⟨#[32]⟩ : ByteArray).size = 1 := rfl
        have z2 : (⟨#[10]⟩ : ByteArray).size = 1 := rfl
        rw [if_pos (by simpa using hk), if_pos hi, if_pos (by omega), if_pos ⟨k1, k2⟩, if_pos (by simp only [size_app]; omega), if_pos (by simp only [size_app]; omega), if_pos hi, if_pos ⟨b1, b2⟩,
          if_pos (by simp only [size_app]; omega), if_pos (by simp only [size_app]; omega), if_pos (by simp only [size_app]; omega), if_pos ⟨h0, hk⟩]
        exact code_l0 hK hB f (i + 1) _ (by omega) (by simp only [size_app, lineK, nmT, sp, nl]; omega)
      · rw [if_neg (by simpa using hk), if_neg (fun c => hk c.2)]
        exact code_l0 hK hB f (i + 1) _ (by omega) (by omega)
    · rw [decide_eq_false (by omega : ¬ (i : Int) > 0), if_neg Bool.false_ne_true, if_neg (fun c => h0 c.1)]
      exact code_l0 hK hB f (i + 1) _ (by omega) (by omega)
theorem code_l1 (hW : ∀ i : Nat, i < 21 → I64 (vget x.f_Whys i)) : ∀ (f i : Nat) (acc : ByteArray), i + f = 21 → acc.size ≤ 1000 + 60 * i →
    census_Text.l1 x (i : Int) acc = some (linesW x.f_Whys f i acc)
  | 0, i, acc, h, _ => by
    rw [census_Text.l1.eq_def, decide_eq_false (by omega), if_neg Bool.false_ne_true]; rfl
  | f + 1, i, acc, h, ha => by
    have hi : (0 : Int) ≤ (i : Int) ∧ (i : Int) < 21 := by omega
    have e1 : wr .i64 ((i : Int) + 1) = ((i + 1 : Nat) : Int) := by rw [wr_i64 (by omega) (by omega)]; omega
    rw [census_Text.l1.eq_def, decide_eq_true (by omega : (i : Int) < 21), if_pos rfl, if_pos hi, e1]
    unfold linesW
    by_cases h0 : 0 < i
    · rw [decide_eq_true (by omega : (i : Int) > 0), if_pos rfl]
      by_cases hk : vget x.f_Whys (i : Int) ≠ 0
      · obtain ⟨k1, k2⟩ := hW i (by omega)
        have s1 := fmtI_size _ (hW i (by omega))
        have s2 := fmtI_size (i : Int) (by unfold I64; omega)
        have z1 : (⟨#[32]⟩ : ByteArray).size = 1 := rfl
        have z2 : (⟨#[10]⟩ : ByteArray).size = 1 := rfl
        have z3 : (⟨#[119, 104, 121, 32]⟩ : ByteArray).size = 4 := rfl
        rw [if_pos (by simpa using hk), if_pos (by omega), if_pos (by omega), if_pos (by simp only [size_app]; omega), if_pos ⟨k1, k2⟩,
          if_pos (by simp only [size_app]; omega), if_pos (by simp only [size_app]; omega), if_pos (by simp only [size_app]; omega), if_pos ⟨h0, hk⟩]
        exact code_l1 hW f (i + 1) _ (by omega) (by simp only [size_app, lineW, why, sp, nl]; omega)
      · rw [if_neg (by simpa using hk), if_neg (fun c => hk c.2)]
        exact code_l1 hW f (i + 1) _ (by omega) (by omega)
    · rw [decide_eq_false (by omega : ¬ (i : Int) > 0), if_neg Bool.false_ne_true, if_neg (fun c => h0 c.1)]
      exact code_l1 hW f (i + 1) _ (by omega) (by omega)
theorem ref_l0 {K B : Vector Int 7} (hK : ∀ i : Nat, i < 7 → I64 (vget K i)) (hB : ∀ i : Nat, i < 7 → I64 (vget B i)) : ∀ (f i : Nat) (acc : ByteArray), i + f = 7 → 0 < i → acc.size ≤ 60 * i →
    crawlwayref52_Text.l0 K B acc (i : Int) = some (linesK K B f i acc)
  | 0, i, acc, h, _, _ => by
    rw [crawlwayref52_Text.l0.eq_def, decide_eq_false (by omega), if_neg Bool.false_ne_true]; rfl
  | f + 1, i, acc, h, h0, ha => by
    have hi : (0 : Int) ≤ (i : Int) ∧ (i : Int) < 7 := by omega
    have e1 : wr .i64 ((i : Int) + 1) = ((i + 1 : Nat) : Int) := by rw [wr_i64 (by omega) (by omega)]; omega
    rw [crawlwayref52_Text.l0.eq_def, decide_eq_true (by omega : (i : Int) ≤ 6), if_pos rfl, if_pos hi, e1]
    unfold linesK
    by_cases hk : vget K (i : Int) ≠ 0
    · have s1 := fmtI_size _ (hK i (by omega))
      have s2 := fmtI_size _ (hB i (by omega))
      have s3 := nmT_size i (by omega)
      have z1 : (⟨#[32]⟩ : ByteArray).size = 1 := rfl
      have z2 : (⟨#[10]⟩ : ByteArray).size = 1 := rfl
      rw [if_pos (by simpa using hk), if_pos (by exact hi), nmT_ref i (by omega), if_pos (by omega), if_pos (by simp only [size_app]; omega), if_pos hi, number_ref _ (hK i (by omega)), bindM_some,
        if_pos (by simp only [size_app]; omega), if_pos (by simp only [size_app]; omega), if_pos hi, number_ref _ (hB i (by omega)), bindM_some, if_pos (by simp only [size_app]; omega), if_pos (by simp only [size_app]; omega), if_pos ⟨h0, hk⟩]
      have e : ((((((acc ++ nmT i) ++ (⟨#[32]⟩ : ByteArray)) ++ fmtI (vget K i)) ++ (⟨#[32]⟩ : ByteArray)) ++ fmtI (vget B i)) ++ (⟨#[10]⟩ : ByteArray)) = acc ++ lineK K B i := by
        unfold lineK sp nl
        simp only [app_assoc]
      rw [e]
      exact ref_l0 hK hB f (i + 1) _ (by omega) (by omega) (by simp only [size_app, lineK, sp, nl]; omega)
    · rw [if_neg (by simpa using hk), if_neg (fun c => hk c.2)]
      exact ref_l0 hK hB f (i + 1) _ (by omega) (by omega) (by omega)
theorem ref_l1 {W : Vector Int 21} (hW : ∀ i : Nat, i < 21 → I64 (vget W i)) : ∀ (f i : Nat) (acc : ByteArray), i + f = 21 → 0 < i → acc.size ≤ 1000 + 60 * i →
    crawlwayref52_Text.l1 W acc (i : Int) = some (linesW W f i acc)
  | 0, i, acc, h, _, _ => by
    rw [crawlwayref52_Text.l1.eq_def, decide_eq_false (by omega), if_neg Bool.false_ne_true]; rfl
  | f + 1, i, acc, h, h0, ha => by
    have hi : (0 : Int) ≤ (i : Int) ∧ (i : Int) < 21 := by omega
    have e1 : wr .i64 ((i : Int) + 1) = ((i + 1 : Nat) : Int) := by rw [wr_i64 (by omega) (by omega)]; omega
    rw [crawlwayref52_Text.l1.eq_def, decide_eq_true (by omega : (i : Int) ≤ 20), if_pos rfl, if_pos hi, e1]
    unfold linesW
    by_cases hk : vget W (i : Int) ≠ 0
    · have s1 := fmtI_size _ (hW i (by omega))
      have s2 := fmtI_size (i : Int) (by unfold I64; omega)
      have z1 : (⟨#[32]⟩ : ByteArray).size = 1 := rfl
      have z2 : (⟨#[10]⟩ : ByteArray).size = 1 := rfl
      have z3 : (⟨#[119, 104, 121, 32]⟩ : ByteArray).size = 4 := rfl
      rw [if_pos (by simpa using hk), if_pos (by omega), number_ref _ (by unfold I64; omega), bindM_some, if_pos (by simp only [size_app]; omega), if_pos (by simp only [size_app]; omega), if_pos hi, number_ref _ (hW i (by omega)), bindM_some,
        if_pos (by simp only [size_app]; omega), if_pos (by simp only [size_app]; omega), if_pos ⟨h0, hk⟩]
      have e : (((((acc ++ (⟨#[119, 104, 121, 32]⟩ : ByteArray)) ++ fmtI i) ++ (⟨#[32]⟩ : ByteArray)) ++ fmtI (vget W i)) ++ (⟨#[10]⟩ : ByteArray)) = acc ++ lineW W i := by
        unfold lineW why sp nl
        simp only [app_assoc]
      rw [e]
      exact ref_l1 hW f (i + 1) _ (by omega) (by omega) (by simp only [size_app, lineW, why, sp, nl]; omega)
    · rw [if_neg (by simpa using hk), if_neg (fun c => hk c.2)]
      exact ref_l1 hW f (i + 1) _ (by omega) (by omega) (by omega)
end
theorem linesK_size {K B : Vector Int 7} (hK : ∀ i : Nat, i < 7 → I64 (vget K i)) (hB : ∀ i : Nat, i < 7 → I64 (vget B i)) : ∀ (f i : Nat) (acc : ByteArray), i + f = 7 → acc.size ≤ 60 * i → (linesK K B f i acc).size ≤ 60 * 7
  | 0, i, acc, h, ha => by unfold linesK; omega
  | f + 1, i, acc, h, ha => by
    unfold linesK
    refine linesK_size hK hB f (i + 1) _ (by omega) ?_
    have s1 := fmtI_size _ (hK i (by omega))
    have s2 := fmtI_size _ (hB i (by omega))
    have s3 := nmT_size i (by omega)
    have z1 : (⟨#[32]⟩ : ByteArray).size = 1 := rfl
    have z2 : (⟨#[10]⟩ : ByteArray).size = 1 := rfl
    split
    · simp only [size_app, lineK, sp, nl]; omega
    · omega
def textC (x : S_census_Count) : ByteArray := linesW x.f_Whys 21 0 (linesK x.f_Kinds x.f_Bytes 7 0 ⟨#[]⟩)
def okC (x : S_census_Count) : Prop := (∀ i : Nat, i < 7 → I64 (vget x.f_Kinds i)) ∧ (∀ i : Nat, i < 7 → I64 (vget x.f_Bytes i)) ∧ ∀ i : Nat, i < 21 → I64 (vget x.f_Whys i)
theorem text_code (x : S_census_Count) (h : okC x) : census_Text x = some (textC x) := by
  obtain ⟨hK, hB, hW⟩ := h
  have h0 := code_l0 hK hB 7 0 ⟨#[]⟩ rfl (by decide)
  have hs := linesK_size hK hB 7 0 ⟨#[]⟩ rfl (by decide)
  have h1 := code_l1 hW 21 0 (linesK x.f_Kinds x.f_Bytes 7 0 ⟨#[]⟩) rfl (by omega)
  unfold census_Text
  rw [show (ByteArray.empty) = (⟨#[]⟩ : ByteArray) from rfl, show (0 : Int) = ((0 : Nat) : Int) from rfl, h0, bindM_some, h1]; rfl
theorem linesK_zero {K B : Vector Int 7} {f : Nat} {acc : ByteArray} : linesK K B (f + 1) 0 acc = linesK K B f 1 acc := by
  conv => lhs; unfold linesK
  rw [if_neg (fun c => absurd c.1 (by decide))]
theorem linesW_zero {W : Vector Int 21} {f : Nat} {acc : ByteArray} : linesW W (f + 1) 0 acc = linesW W f 1 acc := by
  conv => lhs; unfold linesW
  rw [if_neg (fun c => absurd c.1 (by decide))]
theorem text_refs (x : S_census_Count) (h : okC x) : crawlwayref52_Text x.f_Kinds x.f_Bytes x.f_Whys = some (textC x) := by
  obtain ⟨hK, hB, hW⟩ := h
  have h0 := ref_l0 hK hB 6 1 ⟨#[]⟩ rfl (by decide) (by decide)
  have hs := linesK_size hK hB 6 1 ⟨#[]⟩ rfl (by decide)
  have h1 := ref_l1 hW 20 1 (linesK x.f_Kinds x.f_Bytes 6 1 ⟨#[]⟩) rfl (by decide) (by omega)
  unfold crawlwayref52_Text
  rw [show ((1 : Nat) : Int) = 1 from rfl] at h0 h1
  rw [h0, bindM_some, h1, bindM_some, textC, linesK_zero, linesW_zero]
/-! ### what is counted -/
def kd (x : S_api_Event) : Nat := if 1 ≤ x.f_Kind ∧ x.f_Kind ≤ 6 then x.f_Kind.toNat else 0
def wh (x : S_api_Event) : Nat := if 1 ≤ x.f_Why ∧ x.f_Why ≤ 20 then x.f_Why.toNat else 0
theorem kd_lt (x : S_api_Event) : kd x < 7 := by unfold kd; split <;> omega
theorem wh_lt (x : S_api_Event) : wh x < 21 := by unfold wh; split <;> omega
theorem within_kd (x : S_api_Event) : census_within x.f_Kind 7 = some (kd x : Int) := by
  unfold census_within kd
  by_cases h : x.f_Kind < 0
  · rw [if_pos (decide_eq_true h), if_neg (by omega)]; rfl
  · rw [if_neg (by rw [decide_eq_true_eq]; exact h)]
    by_cases h1 : x.f_Kind ≥ 7
    · rw [if_pos (decide_eq_true h1), if_neg (by omega)]; rfl
    · rw [if_neg (by rw [decide_eq_true_eq]; exact h1)]
      congr 1
      split <;> omega
theorem within_wh (x : S_api_Event) : census_within x.f_Why 21 = some (wh x : Int) := by
  unfold census_within wh
  by_cases h : x.f_Why < 0
  · rw [if_pos (decide_eq_true h), if_neg (by omega)]; rfl
  · rw [if_neg (by rw [decide_eq_true_eq]; exact h)]
    by_cases h1 : x.f_Why ≥ 21
    · rw [if_pos (decide_eq_true h1), if_neg (by omega)]; rfl
    · rw [if_neg (by rw [decide_eq_true_eq]; exact h1)]
      congr 1
      split <;> omega
theorem ref_kd (x : S_api_Event) : crawlwayref52_Kind x = some (kd x : Int) := by
  unfold crawlwayref52_Kind kd
  by_cases h : x.f_Kind < 1
  · rw [if_pos (decide_eq_true h), if_neg (by omega)]; rfl
  · rw [if_neg (by rw [decide_eq_true_eq]; exact h)]
    by_cases h1 : x.f_Kind > 6
    · rw [if_pos (decide_eq_true h1), if_neg (by omega)]; rfl
    · rw [if_neg (by rw [decide_eq_true_eq]; exact h1), if_pos (by omega)]
      congr 1
      omega
theorem ref_wh (x : S_api_Event) : crawlwayref52_Why x = some (wh x : Int) := by
  unfold crawlwayref52_Why wh
  by_cases h : x.f_Why < 1
  · rw [if_pos (decide_eq_true h), if_neg (by omega)]; rfl
  · rw [if_neg (by rw [decide_eq_true_eq]; exact h)]
    by_cases h1 : x.f_Why > 20
    · rw [if_pos (decide_eq_true h1), if_neg (by omega)]; rfl
    · rw [if_neg (by rw [decide_eq_true_eq]; exact h1), if_pos (by omega)]
      congr 1
      omega
def sumI (g : S_api_Event → Int) (l : List S_api_Event) : Int := (l.map g).sum
theorem sumI_app (g : S_api_Event → Int) (l m : List S_api_Event) : sumI g (l ++ m) = sumI g l + sumI g m := by simp [sumI]
theorem sumI_one (g : S_api_Event → Int) (x : S_api_Event) : sumI g [x] = g x := by simp [sumI]
def gK (k : Nat) (x : S_api_Event) : Int := if kd x = k then 1 else 0
def gB (k : Nat) (x : S_api_Event) : Int := if kd x = k then (x.f_Bytes.n : Int) else 0
def gW (k : Nat) (x : S_api_Event) : Int := if x.f_Kind = 5 ∧ wh x = k then 1 else 0
theorem wr_bmod (x : Int) : wr .i64 x = Int.bmod x 18446744073709551616 := by
  unfold wr IntKind.wrap Int.bmod
  simp [IntKind.bits, IntKind.signed]
  split <;> split <;> omega
theorem wr_add (a b : Int) : wr .i64 (wr .i64 a + b) = wr .i64 (a + b) := by
  rw [wr_bmod, wr_bmod, wr_bmod, Int.bmod_add_bmod]
theorem wr_add2 (a b : Int) : wr .i64 (wr .i64 a + wr .i64 b) = wr .i64 (a + b) := by
  rw [wr_add, Int.add_comm a, wr_add, Int.add_comm b]
theorem wr_range (a : Int) : I64 (wr .i64 a) := by
  rw [wr_bmod]
  unfold I64 Int.bmod
  simp only []
  split <;> omega
def vf (m : Nat) (f : Nat → Int) : Vector Int m := Vector.ofFn fun i => f i.1
theorem vf_get {m : Nat} {f : Nat → Int} (i : Nat) (h : i < m) : vget (vf m f) (i : Int) = f i := by
  unfold vget vf
  rw [Int.toNat_natCast, List.getD_eq_getElem?_getD, List.getElem?_eq_getElem (by simp; exact h)]
  simp
theorem vf_set {m : Nat} {f g : Nat → Int} {v : Int} (i : Nat) (h1 : g i = v) (h2 : ∀ j, j ≠ i → g j = f j) : vset (vf m f) (i : Int) v = vf m g := by
  apply Vector.ext
  intro j hj
  unfold vset vf
  rw [Vector.getElem_setIfInBounds]
  by_cases h : i = j
  · subst h; simp [h1]
  · rw [if_neg (by simpa using h)]
    simp [h2 j (fun e => h e.symm)]
theorem vf_ext {m : Nat} {f g : Nat → Int} (h : ∀ j, j < m → f j = g j) : vf m f = vf m g := by
  apply Vector.ext
  intro j hj
  simp [vf, h j hj]
def cnt (l : List S_api_Event) : S_census_Count := { f_Kinds := vf 7 fun k => wr .i64 (sumI (gK k) l), f_Bytes := vf 7 fun k => wr .i64 (sumI (gB k) l), f_Whys := vf 21 fun k => wr .i64 (sumI (gW k) l) }
theorem cnt_K (l : List S_api_Event) : (cnt l).f_Kinds = vf 7 fun k => wr .i64 (sumI (gK k) l) := rfl
theorem cnt_B (l : List S_api_Event) : (cnt l).f_Bytes = vf 7 fun k => wr .i64 (sumI (gB k) l) := rfl
theorem cnt_W (l : List S_api_Event) : (cnt l).f_Whys = vf 21 fun k => wr .i64 (sumI (gW k) l) := rfl
theorem cnt_ok (l : List S_api_Event) : okC (cnt l) := by
  refine ⟨fun i h => ?_, fun i h => ?_, fun i h => ?_⟩
  · rw [cnt_K, vf_get i h]; exact wr_range _
  · rw [cnt_B, vf_get i h]; exact wr_range _
  · rw [cnt_W, vf_get i h]; exact wr_range _
theorem one_cnt (l : List S_api_Event) (x : S_api_Event) : census_Count_one (cnt l) x = some (cnt (l ++ [x])) := by
  have hk := kd_lt x
  have hw := wh_lt x
  have hK : (0 : Int) ≤ (kd x : Int) ∧ (kd x : Int) < 7 := by omega
  have hW : (0 : Int) ≤ (wh x : Int) ∧ (wh x : Int) < 21 := by omega
  have sK : vset (cnt l).f_Kinds (kd x : Int) (wr .i64 (vget (cnt l).f_Kinds (kd x : Int) + 1)) = (cnt (l ++ [x])).f_Kinds := by
    rw [cnt_K, cnt_K, vf_get _ hk]
    refine vf_set _ ?_ fun j hj => ?_
    · rw [sumI_app, sumI_one, wr_add]; simp [gK]
    · rw [sumI_app, sumI_one]; simp [gK, Ne.symm hj]
  have sB : vset (cnt l).f_Bytes (kd x : Int) (wr .i64 (vget (cnt l).f_Bytes (kd x : Int) + (x.f_Bytes.n : Int))) = (cnt (l ++ [x])).f_Bytes := by
    rw [cnt_B, cnt_B, vf_get _ hk]
    refine vf_set _ ?_ fun j hj => ?_
    · rw [sumI_app, sumI_one, wr_add]; simp [gB]
    · rw [sumI_app, sumI_one]; simp [gB, Ne.symm hj]
  unfold census_Count_one
  rw [within_kd, bindM_some, if_pos hK, if_pos hK, if_pos hK, if_pos hK, within_wh, bindM_some, if_pos hW, if_pos hW]
  simp only [sK, sB]
  by_cases h5 : x.f_Kind = 5
  · have sW : vset (cnt l).f_Whys (wh x : Int) (wr .i64 (vget (cnt l).f_Whys (wh x : Int) + 1)) = (cnt (l ++ [x])).f_Whys := by
      rw [cnt_W, cnt_W, vf_get _ hw]
      refine vf_set _ ?_ fun j hj => ?_
      · rw [sumI_app, sumI_one, wr_add]; simp [gW, h5]
      · rw [sumI_app, sumI_one]; simp [gW, Ne.symm hj]
    rw [if_pos (by simpa using h5)]
    simp only [sW]
  · rw [if_neg (by simpa using h5)]
    have : (cnt (l ++ [x])).f_Whys = (cnt l).f_Whys := by
      rw [cnt_W, cnt_W]
      refine vf_ext fun j _ => ?_
      rw [sumI_app, sumI_one]; simp [gW, h5]
    rw [← this]
theorem lget_at (l : List S_api_Event) (i : Nat) (h : i < l.length) : lget l (i : Int) = l[i] := by
  unfold lget
  rw [Int.toNat_natCast, List.getD_eq_getElem?_getD, List.getElem?_eq_getElem h]; rfl
theorem take_snoc (l : List S_api_Event) (i : Nat) (h : i < l.length) : l.take (i + 1) = l.take i ++ [lget l (i : Int)] := by
  rw [lget_at l i h, List.take_succ_eq_append_getElem h]
theorem of_l0 (l : List S_api_Event) (hl : l.length < 1000) : ∀ (f i : Nat), i + f = l.length → census_Of.l0 l (i : Int) (cnt (l.take i)) = some (cnt l)
  | 0, i, h => by
    rw [census_Of.l0.eq_def, decide_eq_false (by omega), if_neg Bool.false_ne_true, List.take_of_length_le (by omega)]
  | f + 1, i, h => by
    have e1 : wr .i64 ((i : Int) + 1) = ((i + 1 : Nat) : Int) := by rw [wr_i64 (by omega) (by omega)]; omega
    rw [census_Of.l0.eq_def, decide_eq_true (by omega : (i : Int) < (l.length : Int)), if_pos rfl, if_pos (by omega), one_cnt, bindM_some, e1, ← take_snoc l i (by omega)]
    exact of_l0 l hl f (i + 1) (by omega)
theorem cnt_nil : cnt [] = ({ f_Kinds := (Vector.replicate 7 (0 : Int) : (Vector Int 7)), f_Bytes := (Vector.replicate 7 (0 : Int) : (Vector Int 7)), f_Whys := (Vector.replicate 21 (0 : Int) : (Vector Int 21)) } : S_census_Count) := by
  have z : ∀ g, wr .i64 (sumI g []) = 0 := fun g => by rw [show sumI g [] = 0 from rfl, wr_i64 (by omega) (by omega)]
  have e : ∀ m (f : Nat → S_api_Event → Int), (vf m fun k => wr .i64 (sumI (f k) [])) = Vector.replicate m 0 := fun m f => by
    apply Vector.ext
    intro j hj
    simp [vf, z]
  unfold cnt
  rw [e, e, e]
theorem of_cnt (l : List S_api_Event) (hl : l.length < 1000) : census_Of l = some (cnt l) := by
  unfold census_Of
  have := of_l0 l hl l.length 0 (by omega)
  rw [List.take_zero, cnt_nil] at this
  rw [show (0 : Int) = ((0 : Nat) : Int) from rfl] at *
  rw [this]; rfl
theorem many_l0 (l : List S_api_Event) (hl : l.length < 1000) (k : Nat) : ∀ (f i : Nat), i + f = l.length →
    crawlwayref52_Many.l0 l (k : Int) (wr .i64 (sumI (gK k) (l.take i))) (wr .i64 (sumI (gB k) (l.take i))) (i : Int) = some (wr .i64 (sumI (gK k) l), wr .i64 (sumI (gB k) l))
  | 0, i, h => by
    rw [crawlwayref52_Many.l0.eq_def, decide_eq_false (by omega), if_neg Bool.false_ne_true, List.take_of_length_le (by omega)]
  | f + 1, i, h => by
    have e1 : wr .i64 ((i : Int) + 1) = ((i + 1 : Nat) : Int) := by rw [wr_i64 (by omega) (by omega)]; omega
    have ih := many_l0 l hl k f (i + 1) (by omega)
    rw [take_snoc l i (by omega), sumI_app, sumI_app, sumI_one, sumI_one] at ih
    rw [crawlwayref52_Many.l0.eq_def, decide_eq_true (by omega : (i : Int) < (l.length : Int)), if_pos rfl, if_pos (by omega), ref_kd, bindM_some, e1]
    by_cases hk : kd (lget l (i : Int)) = k
    · rw [if_pos (by rw [hk]; exact beq_self_eq_true _), if_pos (by omega), wr_add, wr_add]
      simpa [gK, gB, hk] using ih
    · rw [if_neg (fun e => hk (by have := eq_of_beq e; omega))]
      simpa [gK, gB, hk] using ih
theorem many_cnt (l : List S_api_Event) (hl : l.length < 1000) (k : Nat) : crawlwayref52_Many l (k : Int) = some (wr .i64 (sumI (gK k) l), wr .i64 (sumI (gB k) l)) := by
  unfold crawlwayref52_Many
  have := many_l0 l hl k l.length 0 (by omega)
  rw [List.take_zero, show sumI (gK k) [] = 0 from rfl, show sumI (gB k) [] = 0 from rfl, wr_i64 (x := 0) (by omega) (by omega)] at this
  rw [show ((0 : Nat) : Int) = 0 from rfl] at this
  rw [this]; rfl
theorem drops_l0 (l : List S_api_Event) (hl : l.length < 1000) (k : Nat) : ∀ (f i : Nat), i + f = l.length →
    crawlwayref52_Drops.l0 l (k : Int) (wr .i64 (sumI (gW k) (l.take i))) (i : Int) = some (wr .i64 (sumI (gW k) l))
  | 0, i, h => by
    rw [crawlwayref52_Drops.l0.eq_def, decide_eq_false (by omega), if_neg Bool.false_ne_true, List.take_of_length_le (by omega)]
  | f + 1, i, h => by
    have e1 : wr .i64 ((i : Int) + 1) = ((i + 1 : Nat) : Int) := by rw [wr_i64 (by omega) (by omega)]; omega
    have ih := drops_l0 l hl k f (i + 1) (by omega)
    rw [take_snoc l i (by omega), sumI_app, sumI_one] at ih
    rw [crawlwayref52_Drops.l0.eq_def, decide_eq_true (by omega : (i : Int) < (l.length : Int)), if_pos rfl, if_pos (by omega), e1]
    by_cases h5 : (lget l (i : Int)).f_Kind = 5
    · rw [if_pos (by simpa using h5), if_pos (by omega), ref_wh, bindM_some]
      by_cases hk : wh (lget l (i : Int)) = k
      · rw [if_pos (by rw [hk]; exact beq_self_eq_true _), wr_add]
        simpa [gW, h5, hk] using ih
      · rw [if_neg (fun e => hk (by have := eq_of_beq e; omega))]
        simpa [gW, h5, hk] using ih
    · rw [if_neg (by simpa using h5)]
      simpa [gW, h5] using ih
theorem drops_cnt (l : List S_api_Event) (hl : l.length < 1000) (k : Nat) : crawlwayref52_Drops l (k : Int) = some (wr .i64 (sumI (gW k) l)) := by
  unfold crawlwayref52_Drops
  have := drops_l0 l hl k l.length 0 (by omega)
  rw [List.take_zero, show sumI (gW k) [] = 0 from rfl, wr_i64 (x := 0) (by omega) (by omega)] at this
  rw [show ((0 : Nat) : Int) = 0 from rfl] at this
  rw [this]; rfl
theorem is_l0 (l : List S_api_Event) (hl : l.length < 1000) : ∀ (f i : Nat), i + f = 7 → crawlwaylaw52_is.l0 (cnt l) l (i : Int) = some (.nx ())
  | 0, i, h => by rw [crawlwaylaw52_is.l0.eq_def, decide_eq_false (by omega), if_neg Bool.false_ne_true]
  | f + 1, i, h => by
    have e1 : wr .i64 ((i : Int) + 1) = ((i + 1 : Nat) : Int) := by rw [wr_i64 (by omega) (by omega)]; omega
    have hi : (0 : Int) ≤ (i : Int) ∧ (i : Int) < 7 := by omega
    have g1 : vget (cnt l).f_Kinds (i : Int) = wr .i64 (sumI (gK i) l) := by rw [cnt_K, vf_get i (by omega)]
    have g2 : vget (cnt l).f_Bytes (i : Int) = wr .i64 (sumI (gB i) l) := by rw [cnt_B, vf_get i (by omega)]
    rw [crawlwaylaw52_is.l0.eq_def, decide_eq_true (by omega : (i : Int) < 7), if_pos rfl, many_cnt l hl, bindM_some, if_pos hi, if_neg (by rw [g1]; simp), if_pos hi, if_neg (by rw [g2]; simp), e1]
    exact is_l0 l hl f (i + 1) (by omega)
theorem is_l1 (l : List S_api_Event) (hl : l.length < 1000) : ∀ (f i : Nat), i + f = 21 → crawlwaylaw52_is.l1 (cnt l) l (i : Int) = some (.nx ())
  | 0, i, h => by rw [crawlwaylaw52_is.l1.eq_def, decide_eq_false (by omega), if_neg Bool.false_ne_true]
  | f + 1, i, h => by
    have e1 : wr .i64 ((i : Int) + 1) = ((i + 1 : Nat) : Int) := by rw [wr_i64 (by omega) (by omega)]; omega
    have hi : (0 : Int) ≤ (i : Int) ∧ (i : Int) < 21 := by omega
    have g1 : vget (cnt l).f_Whys (i : Int) = wr .i64 (sumI (gW i) l) := by rw [cnt_W, vf_get i (by omega)]
    rw [crawlwaylaw52_is.l1.eq_def, decide_eq_true (by omega : (i : Int) < 21), if_pos rfl, if_pos hi, drops_cnt l hl, bindM_some, if_neg (by rw [g1]; simp), e1]
    exact is_l1 l hl f (i + 1) (by omega)
theorem is_cnt (l : List S_api_Event) (hl : l.length < 1000) : crawlwaylaw52_is (cnt l) l = some true := by
  unfold crawlwaylaw52_is
  have h0 := is_l0 l hl 7 0 rfl
  have h1 := is_l1 l hl 21 0 rfl
  rw [show ((0 : Nat) : Int) = 0 from rfl] at h0 h1
  rw [h0, bindM_some]
  dsimp only
  rw [h1, bindM_some]
def mixI (g : Nat → S_api_Event → Int) (l m : List S_api_Event) (i k : Nat) : Int := if k < i then wr .i64 (sumI (g k) (l ++ m)) else wr .i64 (sumI (g k) l)
theorem mix_step (g : Nat → S_api_Event → Int) (l m : List S_api_Event) (n i : Nat) (h : i < n) : vset (vf n (mixI g l m i)) (i : Int) (wr .i64 (vget (vf n (mixI g l m i)) (i : Int) + vget (vf n fun k => wr .i64 (sumI (g k) m)) (i : Int))) = vf n (mixI g l m (i + 1)) := by
  rw [vf_get i h, vf_get i h]
  refine vf_set i ?_ fun j hj => ?_
  · unfold mixI
    rw [if_pos (by omega), if_neg (by omega), wr_add2, sumI_app]
  · unfold mixI
    by_cases h1 : j < i
    · rw [if_pos (by omega), if_pos h1]
    · rw [if_neg (by omega), if_neg h1]
theorem mix_zero (g : Nat → S_api_Event → Int) (l m : List S_api_Event) (n : Nat) : vf n (mixI g l m 0) = vf n fun k => wr .i64 (sumI (g k) l) := vf_ext fun j _ => by
  unfold mixI; rw [if_neg (by omega)]
theorem mix_full (g : Nat → S_api_Event → Int) (l m : List S_api_Event) (n : Nat) : vf n (mixI g l m n) = vf n fun k => wr .i64 (sumI (g k) (l ++ m)) := vf_ext fun j h => by
  unfold mixI; rw [if_pos h]
theorem add_l0 (l m : List S_api_Event) (W : Vector Int 21) : ∀ (f i : Nat), i + f = 7 →
    census_Add.l0 (cnt m) (i : Int) { f_Kinds := vf 7 (mixI gK l m i), f_Bytes := vf 7 (mixI gB l m i), f_Whys := W } = some { f_Kinds := vf 7 (mixI gK l m 7), f_Bytes := vf 7 (mixI gB l m 7), f_Whys := W }
  | 0, i, h => by
    have : i = 7 := by omega
    subst this
    rw [census_Add.l0.eq_def, decide_eq_false (by omega), if_neg Bool.false_ne_true]
  | f + 1, i, h => by
    have e1 : wr .i64 ((i : Int) + 1) = ((i + 1 : Nat) : Int) := by rw [wr_i64 (by omega) (by omega)]; omega
    have hi : (0 : Int) ≤ (i : Int) ∧ (i : Int) < 7 := by omega
    rw [census_Add.l0.eq_def, decide_eq_true (by omega : (i : Int) < 7), if_pos rfl, if_pos hi, if_pos hi, if_pos hi, if_pos hi, if_pos hi, if_pos hi, e1]
    have s1 := mix_step gK l m 7 i (by omega)
    have s2 := mix_step gB l m 7 i (by omega)
    have ih := add_l0 l m W f (i + 1) (by omega)
    rw [← s1, ← s2] at ih
    exact ih
theorem add_l1 (l m : List S_api_Event) (K B : Vector Int 7) : ∀ (f i : Nat), i + f = 21 →
    census_Add.l1 (cnt m) (i : Int) { f_Kinds := K, f_Bytes := B, f_Whys := vf 21 (mixI gW l m i) } = some { f_Kinds := K, f_Bytes := B, f_Whys := vf 21 (mixI gW l m 21) }
  | 0, i, h => by
    have : i = 21 := by omega
    subst this
    rw [census_Add.l1.eq_def, decide_eq_false (by omega), if_neg Bool.false_ne_true]
  | f + 1, i, h => by
    have e1 : wr .i64 ((i : Int) + 1) = ((i + 1 : Nat) : Int) := by rw [wr_i64 (by omega) (by omega)]; omega
    have hi : (0 : Int) ≤ (i : Int) ∧ (i : Int) < 21 := by omega
    rw [census_Add.l1.eq_def, decide_eq_true (by omega : (i : Int) < 21), if_pos rfl, if_pos hi, if_pos hi, if_pos hi, e1]
    have s1 := mix_step gW l m 21 i (by omega)
    have ih := add_l1 l m K B f (i + 1) (by omega)
    rw [← s1] at ih
    exact ih
theorem add_cnt (l m : List S_api_Event) : census_Add (cnt l) (cnt m) = some (cnt (l ++ m)) := by
  unfold census_Add
  have h0 := add_l0 l m (cnt l).f_Whys 7 0 rfl
  rw [mix_zero, mix_zero, mix_full, mix_full] at h0
  have h1 := add_l1 l m (cnt (l ++ m)).f_Kinds (cnt (l ++ m)).f_Bytes 21 0 rfl
  rw [mix_zero, mix_full] at h1
  have h0' : census_Add.l0 (cnt m) 0 (cnt l) = some { f_Kinds := (cnt (l ++ m)).f_Kinds, f_Bytes := (cnt (l ++ m)).f_Bytes, f_Whys := (cnt l).f_Whys } := h0
  rw [h0', bindM_some]
  have h1' : census_Add.l1 (cnt m) 0 { f_Kinds := (cnt (l ++ m)).f_Kinds, f_Bytes := (cnt (l ++ m)).f_Bytes, f_Whys := (cnt l).f_Whys } = some (cnt (l ++ m)) := h1
  rw [h1', bindM_some]
/-! ### the laws -/
def evX : S_api_Event := { { ({ f_Kind := (0 : Int), f_Bytes := (⟨none, 0, 0⟩ : Hd), f_To := ({ f_A := ({ f_V := (0 : Int), f_B := (Vector.replicate 16 (0 : Int) : (Vector Int 16)) } : S_api_Addr), f_Port := (0 : Int) } : S_api_Endpoint), f_Key := (Vector.replicate 32 (0 : Int) : (Vector Int 32)), f_Why := (0 : Int) } : S_api_Event) with f_Kind := 5 } with f_Why := 7 }
theorem lineK_no {K B : Vector Int 7} {f i : Nat} {acc : ByteArray} (h : vget K i = 0) : linesK K B (f + 1) i acc = linesK K B f (i + 1) acc := by
  conv => lhs; unfold linesK
  rw [if_neg (fun c => c.2 h)]
theorem lineW_no {K : Vector Int 21} {f i : Nat} {acc : ByteArray} (h : vget K i = 0) : linesW K (f + 1) i acc = linesW K f (i + 1) acc := by
  conv => lhs; unfold linesW
  rw [if_neg (fun c => c.2 h)]
theorem lineW_all {K : Vector Int 21} : ∀ (f i : Nat) (acc : ByteArray), i + f = 21 → (∀ j, i ≤ j → j < 21 → vget K (j : Int) = 0) → linesW K f i acc = acc
  | 0, i, acc, _, _ => rfl
  | f + 1, i, acc, h, hz => by
    rw [lineW_no (hz i (Nat.le_refl _) (by omega))]
    exact lineW_all f (i + 1) acc (by omega) fun j h1 h2 => hz j (by omega) h2
theorem alive52 : crawlwaylaw52_alive = some true := by
  unfold crawlwaylaw52_alive
  show (census_Of [evX] >>= fun t2 => census_Text t2 >>= fun t3 => some (seq t3 _)) = _
  rw [of_cnt _ (by decide), bindM_some, text_code _ (cnt_ok _), bindM_some]
  have kdx : kd evX = 5 := by decide
  have whx : wh evX = 7 := by decide
  have vK : ∀ i : Nat, i < 7 → vget (cnt [evX]).f_Kinds (i : Int) = if i = 5 then 1 else 0 := fun i h => by
    rw [cnt_K, vf_get i h, sumI_one, gK, kdx]
    by_cases h5 : i = 5
    · subst h5; decide
    · rw [if_neg (fun e => h5 e.symm), if_neg h5]; decide
  have vB : ∀ i : Nat, i < 7 → vget (cnt [evX]).f_Bytes (i : Int) = 0 := fun i h => by
    rw [cnt_B, vf_get i h, sumI_one, gB]
    split <;> decide
  have vW : ∀ i : Nat, i < 21 → vget (cnt [evX]).f_Whys (i : Int) = if i = 7 then 1 else 0 := fun i h => by
    rw [cnt_W, vf_get i h, sumI_one, gW, whx]
    by_cases h5 : i = 7
    · subst h5; decide
    · rw [if_neg (fun e => h5 e.2.symm), if_neg h5]; decide
  have d1 : fmtI ((1 : Nat) : Int) = ⟨#[49]⟩ := by rw [fmtI_pos]; apply mk_inj; rw [fmtU_list, decDigits_small (by decide)]; rfl
  have d0 : fmtI ((0 : Nat) : Int) = ⟨#[48]⟩ := by rw [fmtI_pos]; apply mk_inj; rw [fmtU_list, decDigits_small (by decide)]; rfl
  have d7 : fmtI ((7 : Nat) : Int) = ⟨#[55]⟩ := by rw [fmtI_pos]; apply mk_inj; rw [fmtU_list, decDigits_small (by decide)]; rfl
  have tK : linesK (cnt [evX]).f_Kinds (cnt [evX]).f_Bytes 7 0 ⟨#[]⟩ = ⟨#[100, 114, 111, 112, 32, 49, 32, 48, 10]⟩ := by
    rw [lineK_no (vK 0 (by decide)), lineK_no (vK 1 (by decide)), lineK_no (vK 2 (by decide)), lineK_no (vK 3 (by decide)), lineK_no (vK 4 (by decide))]
    conv => lhs; unfold linesK
    rw [if_pos ⟨by decide, by rw [vK _ (by decide)]; decide⟩, lineK_no (vK 6 (by decide))]
    unfold linesK lineK
    rw [vK _ (by decide), vB _ (by decide)]
    rw [show (if (0 + 1 + 1 + 1 + 1 + 1 : Nat) = 5 then (1 : Int) else 0) = ((1 : Nat) : Int) from rfl, show (0 : Int) = ((0 : Nat) : Int) from rfl, d1, d0]
    rfl
  have tW : ∀ acc, linesW (cnt [evX]).f_Whys 21 0 acc = acc ++ ⟨#[119, 104, 121, 32, 55, 32, 49, 10]⟩ := fun acc => by
    rw [lineW_no (vW 0 (by decide)), lineW_no (vW 1 (by decide)), lineW_no (vW 2 (by decide)), lineW_no (vW 3 (by decide)), lineW_no (vW 4 (by decide)), lineW_no (vW 5 (by decide)), lineW_no (vW 6 (by decide))]
    conv => lhs; unfold linesW
    rw [if_pos ⟨by decide, by rw [vW _ (by decide)]; decide⟩, lineW_all _ _ _ (by decide) fun j h1 h2 => by rw [vW j h2, if_neg (by omega)]]
    unfold lineW
    rw [vW _ (by decide)]
    rw [show (if (0 + 1 + 1 + 1 + 1 + 1 + 1 + 1 : Nat) = 7 then (1 : Int) else 0) = ((1 : Nat) : Int) from rfl, show ((0 + 1 + 1 + 1 + 1 + 1 + 1 + 1 : Nat) : Int) = ((7 : Nat) : Int) from rfl, d1, d7]
    rfl
  have : textC (cnt [evX]) = ⟨#[100, 114, 111, 112, 32, 49, 32, 48, 10, 119, 104, 121, 32, 55, 32, 49, 10]⟩ := by
    unfold textC
    rw [tK, tW]; rfl
  rw [this, seq_self]
theorem long_iff (l : List S_api_Event) : crawlwaylaw52_long l = some (decide (60 < l.length)) := by
  unfold crawlwaylaw52_long
  congr 1
  rw [decide_eq_decide]
  omega
end Cen
theorem CensusTexts_pure (a0 : S_census_Count) (w0 : ok_census_Count a0) : crawlwaylaw52_CensusTexts a0 = some true := by
  obtain ⟨h1, h2, h3⟩ := w0
  have h : Cen.okC a0 := ⟨fun i hi => Cen.wf_i64 (h1 _ (Cen.vget_mem _ i hi)), fun i hi => Cen.wf_i64 (h2 _ (Cen.vget_mem _ i hi)), fun i hi => Cen.wf_i64 (h3 _ (Cen.vget_mem _ i hi))⟩
  unfold crawlwaylaw52_CensusTexts
  rw [Cen.text_code _ h, bindM_some, Cen.text_refs _ h, bindM_some, if_pos (seq_self _), Cen.alive52, bindM_some]
theorem CensusCounts_pure (xs0 : List S_api_Event) (hw0 : ∀ x ∈ xs0, ok_api_Event x) (xs1 : List S_api_Event) (hw1 : ∀ x ∈ xs1, ok_api_Event x) : crawlwaylaw52_CensusCounts xs0 xs1 = some true := by
  unfold crawlwaylaw52_CensusCounts
  rw [Cen.long_iff, bindM_some, Cen.long_iff]
  by_cases h0 : 60 < xs0.length
  · rw [if_pos (decide_eq_true h0), Cen.alive52, bindM_some]
  · rw [if_neg (by rw [decide_eq_true_eq]; exact h0), bindM_some]
    by_cases h1 : 60 < xs1.length
    · rw [if_pos (decide_eq_true h1), Cen.alive52, bindM_some]
    · rw [if_neg (by rw [decide_eq_true_eq]; exact h1), Cen.of_cnt _ (by omega), bindM_some, Cen.of_cnt _ (by omega), bindM_some,
        if_pos (by simp; omega), if_pos (by simp; omega), Cen.is_cnt _ (by omega), bindM_some, if_pos rfl, Cen.is_cnt _ (by omega), bindM_some, if_pos rfl, Cen.add_cnt, bindM_some, List.nil_append, Cen.is_cnt _ (by simp; omega), bindM_some, if_pos rfl,
        Cen.of_cnt _ (by simp; omega), bindM_some, bindM_some, if_pos (decide_eq_true rfl), Cen.alive52, bindM_some]
end Go.Proofs.YtnojjenpggdadaaDoor
