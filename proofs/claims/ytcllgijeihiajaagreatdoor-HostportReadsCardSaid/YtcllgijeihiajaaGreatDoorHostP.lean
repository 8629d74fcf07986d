/- The plain laws of chapter 12: HostportTexts, HostportReads. -/
import Derived.Test.YtcllgijeihiajaaGreatDoorHost
set_option linter.unusedVariables false
set_option linter.unusedSimpArgs false
namespace Go.Proofs.YtcllgijeihiajaaGreatDoor.Host
open E Go.RowKit
open Adr AdrT

theorem exists_mkE (a : S_api_Endpoint) (h : ok_api_Endpoint a) : ∃ V l n, a = mkE (mkA V l) n ∧ l.length = 16 ∧ (Lit.int .i64 n).wf = true := by
  obtain ⟨V, l, hA, hl, _⟩ := exists_mkA a.f_A h.1
  refine ⟨V, l, a.f_Port, ?_, hl, h.2⟩
  cases a with | mk A n =>
  simp only at hA
  subst hA; rfl
def rightE (V : Int) (l : List UInt8) (n : Int) : Bool := rightL V l && (decide (1 ≤ n) && decide (n ≤ 65535))
theorem right_code12 {V n : Int} {l : List UInt8} (hl : l.length = 16) : hostport_Right (mkE (mkA V l) n) = some (rightE V l n) := by
  unfold hostport_Right rightE
  show (addr_Right (mkA V l) >>= fun t2 => if t2 = true then (if decide (n ≥ 1) = true then some (decide (n ≤ 65535)) else some false) else some false) = _
  rw [right_code hl, bindM_some]
  cases rightL V l with
  | false => rfl
  | true =>
    rw [if_pos rfl]
    by_cases h : 1 ≤ n
    · rw [if_pos (decide_eq_true h), decide_eq_true h]; rfl
    · rw [if_neg (by rw [decide_eq_true_eq]; exact h), decide_eq_false h]; rfl
theorem right_ref12 {V n : Int} {l : List UInt8} (hl : l.length = 16) : crawlwayref12_Right (mkE (mkA V l) n) = some (rightE V l n) := by
  unfold crawlwayref12_Right rightE
  show (crawlwayref10_Right (mkA V l) >>= fun t2 => if t2 = true then (if decide (n ≥ 1) = true then some (decide (n ≤ 65535)) else some false) else some false) = _
  rw [right_ref hl, bindM_some]
  cases rightL V l with
  | false => rfl
  | true =>
    rw [if_pos rfl]
    by_cases h : 1 ≤ n
    · rw [if_pos (decide_eq_true h), decide_eq_true h]; rfl
    · rw [if_neg (by rw [decide_eq_true_eq]; exact h), decide_eq_false h]; rfl
theorem rightE_iff {V n : Int} {l : List UInt8} (h : rightE V l n = true) : rightL V l = true ∧ ∃ k : Nat, n = (k : Int) ∧ 1 ≤ k ∧ k ≤ 65535 := by
  unfold rightE at h
  simp only [Bool.and_eq_true, decide_eq_true_eq] at h
  exact ⟨h.1, n.toNat, by omega, by omega, by omega⟩
def hostL (V : Int) (l : List UInt8) (k : Nat) : List UInt8 := if V = 4 then adrT V l ++ 58 :: Lib.decDigits k else 91 :: (adrT V l ++ 93 :: 58 :: Lib.decDigits k)
theorem dig5 (k : Nat) (h : k ≤ 65535) : (Lib.decDigits k).length ≤ 20 := decDigits_len k (by omega)
theorem bs_app (l k : List UInt8) : bs l ++ bs k = bs (l ++ k) := by apply mk_inj; rw [append_list, bs_list, bs_list, bs_list]
theorem fmtU_bs (k : Nat) : fmtU (k : Int) = bs (Lib.decDigits k) := by apply mk_inj; rw [fmtU_list, bs_list]
theorem hostL_len {V : Int} {l : List UInt8} (hl : l.length = 16) (k : Nat) (hk : k ≤ 65535) : (hostL V l k).length ≤ 70 := by
  have h1 := adrT_len (V := V) hl
  have h2 := dig5 k hk
  unfold hostL
  split <;> simp only [List.length_append, List.length_cons] <;> omega
theorem text_code12 {V n : Int} {l : List UInt8} (hl : l.length = 16) : hostport_Text (mkE (mkA V l) n) = some (bs (if rightE V l n = true then hostL V l n.toNat else [])) := by
  unfold hostport_Text
  rw [right_code12 hl, bindM_some]
  cases hr : rightE V l n with
  | false => rw [if_pos (show (!false) = true from rfl)]; rfl
  | true =>
    obtain ⟨hrl, k, rfl, h1, h2⟩ := rightE_iff hr
    have ht := adrT_len (V := V) hl
    have hd := dig5 k h2
    have b91 : (⟨#[91]⟩ : ByteArray) = bs [91] := rfl
    have b9358 : (⟨#[93, 58]⟩ : ByteArray) = bs [93, 58] := rfl
    have b58 : (⟨#[58]⟩ : ByteArray) = bs [58] := rfl
    rw [if_neg (show ¬ (!true) = true by decide), if_pos rfl, Int.toNat_natCast]
    show (decimal_Text (wr .u64 (k : Int)) >>= fun t4 => addr_Width (mkA V l) >>= fun t5 => if (decide (t5 > 32)) = true then (addr_Text (mkA V l) >>= fun t7 => if (⟨#[91]⟩ : ByteArray).size + t7.size ≤ 140737488355328 then if ((⟨#[91]⟩ : ByteArray) ++ t7).size + (⟨#[93, 58]⟩ : ByteArray).size ≤ 140737488355328 then if (((⟨#[91]⟩ : ByteArray) ++ t7) ++ (⟨#[93, 58]⟩ : ByteArray)).size + t4.size ≤ 140737488355328 then some ((((⟨#[91]⟩ : ByteArray) ++ t7) ++ (⟨#[93, 58]⟩ : ByteArray)) ++ t4) else none else none else none) else (addr_Text (mkA V l) >>= fun t11 => if t11.size + (⟨#[58]⟩ : ByteArray).size ≤ 140737488355328 then if (t11 ++ (⟨#[58]⟩ : ByteArray)).size + t4.size ≤ 140737488355328 then some ((t11 ++ (⟨#[58]⟩ : ByteArray)) ++ t4) else none else none)) = _
    rw [wr_u64 (by omega) (by omega), text_code k (by omega), bindM_some, width_code hl, bindM_some, addr_text hl, bindM_some, bindM_some, fmtU_bs, b91, b9358, b58]
    unfold hostL widthL
    rw [if_pos hrl]
    by_cases h4 : V = 4
    · rw [if_pos h4, if_pos h4, if_neg (by decide), if_pos (by rw [bs_size, bs_size]; simp only [List.length_cons, List.length_nil]; omega), bs_app, if_pos (by rw [bs_size, bs_size, List.length_append]; simp only [List.length_cons, List.length_nil]; omega), bs_app, List.append_assoc]; rfl
    · rw [if_neg h4, if_neg h4, if_pos (by decide), if_pos (by rw [bs_size, bs_size]; simp only [List.length_cons, List.length_nil]; omega), bs_app, if_pos (by rw [bs_size, bs_size, List.length_append]; simp only [List.length_cons, List.length_nil]; omega), bs_app, if_pos (by rw [bs_size, bs_size, List.length_append, List.length_append]; simp only [List.length_cons, List.length_nil]; omega), bs_app, List.append_assoc, List.append_assoc]; rfl
theorem text_ref12 {V n : Int} {l : List UInt8} (hl : l.length = 16) : crawlwayref12_Text (mkE (mkA V l) n) = some (bs (if rightE V l n = true then hostL V l n.toNat else [])) := by
  unfold crawlwayref12_Text
  rw [right_ref12 hl, bindM_some]
  cases hr : rightE V l n with
  | false => rw [if_pos (show (!false) = true from rfl)]; rfl
  | true =>
    obtain ⟨hrl, k, rfl, h1, h2⟩ := rightE_iff hr
    have ht := adrT_len (V := V) hl
    have hd := dig5 k h2
    have b91 : (⟨#[91]⟩ : ByteArray) = bs [91] := rfl
    have b93 : (⟨#[93]⟩ : ByteArray) = bs [93] := rfl
    have b58 : (⟨#[58]⟩ : ByteArray) = bs [58] := rfl
    rw [if_neg (show ¬ (!true) = true by decide), if_pos rfl, Int.toNat_natCast]
    show (crawlwayref03_Text (wr .u64 (k : Int)) >>= fun t4 => if (⟨#[58]⟩ : ByteArray).size + t4.size ≤ 140737488355328 then if (V == 6) = true then (crawlwayref10_Text (mkA V l) >>= fun t7 => if (⟨#[91]⟩ : ByteArray).size + t7.size ≤ 140737488355328 then if ((⟨#[91]⟩ : ByteArray) ++ t7).size + (⟨#[93]⟩ : ByteArray).size ≤ 140737488355328 then if (((⟨#[91]⟩ : ByteArray) ++ t7) ++ (⟨#[93]⟩ : ByteArray)).size + ((⟨#[58]⟩ : ByteArray) ++ t4).size ≤ 140737488355328 then some ((((⟨#[91]⟩ : ByteArray) ++ t7) ++ (⟨#[93]⟩ : ByteArray)) ++ ((⟨#[58]⟩ : ByteArray) ++ t4)) else none else none else none) else (crawlwayref10_Text (mkA V l) >>= fun t11 => if t11.size + ((⟨#[58]⟩ : ByteArray) ++ t4).size ≤ 140737488355328 then some (t11 ++ ((⟨#[58]⟩ : ByteArray) ++ t4)) else none) else none) = _
    rw [wr_u64 (by omega) (by omega), text_ref k (by omega), bindM_some, ref_text10 hl, bindM_some, bindM_some, fmtU_bs, b91, b93, b58, if_pos (by rw [bs_size, bs_size]; simp only [List.length_cons, List.length_nil]; omega), bs_app]
    unfold hostL
    rcases right_cases hrl with h6 | ⟨h4, _⟩
    · subst h6
      rw [if_pos (show ((6 : Int) == 6) = true from rfl), if_neg (show ¬ (6 : Int) = 4 by decide), if_pos (by rw [bs_size, bs_size]; simp only [List.length_cons, List.length_nil]; omega), bs_app, if_pos (by rw [bs_size, bs_size, List.length_append]; simp only [List.length_cons, List.length_nil]; omega), bs_app, if_pos (by rw [bs_size, bs_size, List.length_append, List.length_append, List.length_append]; simp only [List.length_cons, List.length_nil]; omega), bs_app, List.append_assoc, List.append_assoc]; rfl
    · subst h4
      rw [if_neg (show ¬ ((4 : Int) == 6) = true by decide), if_pos rfl, if_pos (by rw [bs_app, bs_size, bs_size, List.length_append]; simp only [List.length_cons, List.length_nil]; omega), bs_app, bs_app]; rfl
/-! ### there and back -/
theorem dg_93 : ∀ n : Fin 16, Hex.dg n.1 ≠ 93 := by decide +kernel
theorem g1_93 (n : Nat) : ∀ x ∈ Col.g1 n, x ≠ 93 := by
  induction n using Nat.strongRecOn with
  | _ n ih =>
    intro x hx
    unfold Col.g1 Hex.grp at hx
    split at hx
    · next h =>
      simp only [Hex.dig, List.mem_singleton] at hx
      subst hx
      exact dg_93 ⟨n, h⟩
    · next h =>
      rw [append_list] at hx
      rcases List.mem_append.1 hx with hx | hx
      · exact ih _ (show n / 16 < n by omega) x hx
      · simp only [Hex.dig, List.mem_singleton] at hx
        subst hx
        exact dg_93 ⟨n % 16, by omega⟩
theorem rowL_93 : ∀ (G : List Nat), ∀ x ∈ Col.rowL G, x ≠ 93
  | [], x, h => by cases h
  | [n], x, h => g1_93 n x h
  | n :: m :: r, x, h => by
    rcases List.mem_append.1 h with h | h
    · exact g1_93 n x h
    · rcases List.mem_cons.1 h with rfl | h
      · decide
      · exact rowL_93 (m :: r) x h
theorem textL_93 (G : List Nat) : ∀ x ∈ Col.textL G, x ≠ 93 := by
  intro x h
  unfold Col.textL at h
  split at h
  · exact rowL_93 _ x h
  · rcases List.mem_append.1 h with h | h
    · exact rowL_93 _ x h
    · rcases List.mem_cons.1 h with rfl | h
      · decide
      · rcases List.mem_cons.1 h with rfl | h
        · decide
        · exact rowL_93 _ x h
theorem cutL_at (r : List UInt8) : ∀ (p : List UInt8), (∀ x ∈ p, x ≠ 93) → cutL (p ++ 93 :: 58 :: r) = some (p, r)
  | [], _ => rfl
  | c :: p, h => by
    have hc := h c (List.mem_cons_self ..)
    have hB : isB (c :: (p ++ 93 :: 58 :: r)) = false := by
      cases hb : isB (c :: (p ++ 93 :: 58 :: r)) with
      | false => rfl
      | true =>
        obtain ⟨r2, h2⟩ := (isB_iff _).1 hb
        exact absurd (List.cons.inj h2).1 hc
    show cutL (c :: (p ++ 93 :: 58 :: r)) = _
    rw [cutL, hB, if_neg Bool.false_ne_true, cutL_at r p fun x hx => h x (List.mem_cons_of_mem _ hx)]; rfl
theorem six_qText {m : List UInt8} (hm : m.length = 4) (r : List UInt8) : six (qText m ++ r) = false := by
  match m, hm with
  | [a, b, c, d], _ =>
    show six ((Lib.decDigits a.toNat ++ 46 :: (Lib.decDigits b.toNat ++ 46 :: (Lib.decDigits c.toNat ++ 46 :: Lib.decDigits d.toNat))) ++ r) = false
    cases hd : Lib.decDigits a.toNat with
    | nil => exact absurd hd (decDigits_ne _)
    | cons x t =>
      have hx := dig_iff.1 (List.all_eq_true.1 (decDigits_dig a.toNat) x (by rw [hd]; exact List.mem_cons_self ..))
      show (some x == some 91) = false
      rw [beq_eq_false_iff_ne]
      intro e
      cases e
      have : (91 : UInt8).toNat = 91 := rfl
      omega
theorem endQ_right {V : Int} {l : List UInt8} (hl : l.length = 16) (hr : rightL V l = true) (k : Nat) (h1 : 1 ≤ k) (h2 : k ≤ 65535) : endQ (adrT V l) (Lib.decDigits k) = (mkE (mkA V l) (k : Int), 0) := by
  unfold endQ
  rw [parse_text10 hl hr, rdU_text, if_pos h2]
  show (if (0 : Int) = 0 then (if (0 : Nat) = 0 then (if k = 0 then _ else _) else _) else _) = _
  rw [if_pos rfl, if_pos rfl, if_neg (by omega)]
theorem endP_text {V : Int} {l : List UInt8} (hl : l.length = 16) (hr : rightL V l = true) (k : Nat) (h1 : 1 ≤ k) (h2 : k ≤ 65535) : endP (hostL V l k) = (mkE (mkA V l) (k : Int), 0) := by
  have hq := endQ_right hl hr k h1 h2
  unfold endP halL hostL
  rcases right_cases hr with h6 | ⟨h4, _⟩
  · subst h6
    have hg : (Col.gr l).length = 8 := by rw [Col.gr_len, hl]
    have he : adrT 6 l = Col.textL (Col.gr l) := by unfold adrT; rw [if_pos hr, if_neg (show ¬ (6 : Int) = 4 by decide)]
    rw [he] at hq ⊢
    rw [if_neg (show ¬ (6 : Int) = 4 by decide), if_pos (show six (91 :: (Col.textL (Col.gr l) ++ 93 :: 58 :: Lib.decDigits k)) = true from rfl)]
    show (match (cutL (Col.textL (Col.gr l) ++ 93 :: 58 :: Lib.decDigits k)).bind fun q => if hasC q.1 = true then some q else none with | some (h, p) => endQ h p | none => (zE, 5)) = _
    rw [cutL_at _ _ (textL_93 _), Option.bind_some, textL_colon hg, if_pos rfl]
    exact hq
  · subst h4
    have h4l : (l.take 4).length = 4 := by rw [List.length_take]; omega
    have he : adrT 4 l = qText (l.take 4) := by unfold adrT; rw [if_pos hr, if_pos rfl]
    rw [he] at hq ⊢
    rw [if_pos rfl, six_qText h4l, if_neg Bool.false_ne_true, f58_at _ _ (hasC_no (qText_nocolon h4l))]
    exact hq
theorem adrP_right {h : List UInt8} (e : (adrP h).2 = 0) : ∃ V k, (adrP h).1 = mkA V k ∧ k.length = 16 ∧ rightL V k = true := by
  unfold adrP at e ⊢
  split at e
  · next hc =>
    rw [if_pos hc]
    cases hq : Col.parseL h with
    | none => rw [hq] at e; cases e
    | some G =>
      exact ⟨6, Col.un G, rfl, by rw [Col.un_len, (Col.parseL_ok hq).1], rfl⟩
  · next hc =>
    rw [if_neg hc]
    unfold quadA at e ⊢
    split at e
    · next h0 =>
      obtain ⟨m, hm, _, hu, _⟩ := quadP_m h0
      rw [if_pos h0, hu]
      have hf := fourL_len hm
      refine ⟨4, fourL m, rfl, hf, ?_⟩
      unfold rightL
      have hlow : low (fourL m) = true := (low_iff hf).2 (by
        unfold fourL
        rw [List.take_left' hm])
      rw [hlow]; rfl
    · next h0 =>
      have : ((quadP h).2 : Int) = 0 := e
      omega
theorem endQ_ok {h p : List UInt8} (e : (endQ h p).2 = 0) : ∃ V l k, (endQ h p).1 = mkE (mkA V l) ((k : Nat) : Int) ∧ l.length = 16 ∧ rightL V l = true ∧ 1 ≤ k ∧ k ≤ 65535 := by
  unfold endQ at e ⊢
  split at e
  · next h1 =>
    rw [if_pos h1]
    split at e
    · next h2 =>
      rw [if_pos h2]
      split at e
      · cases e
      · next h3 =>
        rw [if_neg h3]
        obtain ⟨V, l, hA, hl, hr⟩ := adrP_right h1
        exact ⟨V, l, (rdU p 65535).1, by rw [hA], hl, hr, by omega, rdU_le p 65535⟩
    · next h2 =>
      have : ((rdU p 65535).2 : Int) = 0 := e
      omega
  · next h1 => exact absurd e h1
theorem alive12 : crawlwaylaw12_alive = some true := by
  have p1 := host_parse [91, 58, 58, 49, 93, 58, 53, 49, 56, 50, 48] (by decide)
  have p2 := host_parse [58, 58, 49, 58, 53, 49, 56, 50, 48] (by decide)
  have e2 : (endP [58, 58, 49, 58, 53, 49, 56, 50, 48]).2 = 5 := by
    have hh : halL [58, 58, 49, 58, 53, 49, 56, 50, 48] = some ([], [58, 49, 58, 53, 49, 56, 50, 48]) := by decide +kernel
    unfold endP
    rw [hh]
    show (endQ [] [58, 49, 58, 53, 49, 56, 50, 48]).2 = 5
    have ha : (adrP []).2 = 5 := rfl
    unfold endQ
    rw [ha, if_neg (by decide)]
  have e1 : endP [91, 58, 58, 49, 93, 58, 53, 49, 56, 50, 48] = (mkE (mkA 6 (Col.un [0, 0, 0, 0, 0, 0, 0, 1])) ((51820 : Nat) : Int), 0) := by
    have hh : halL [91, 58, 58, 49, 93, 58, 53, 49, 56, 50, 48] = some ([58, 58, 49], [53, 49, 56, 50, 48]) := by decide +kernel
    have hp : Col.parseL [58, 58, 49] = some [0, 0, 0, 0, 0, 0, 0, 1] := by decide +kernel
    have hr : rdU [53, 49, 56, 50, 48] 65535 = (51820, 0) := by decide +kernel
    unfold endP
    rw [hh]
    show endQ [58, 58, 49] [53, 49, 56, 50, 48] = _
    have ha : adrP [58, 58, 49] = (mkA 6 (Col.un [0, 0, 0, 0, 0, 0, 0, 1]), 0) := by
      unfold adrP
      rw [if_pos (by decide), hp]
    unfold endQ
    rw [ha, hr]
    show (if (0 : Int) = 0 then (if (0 : Nat) = 0 then (if 51820 = 0 then _ else _) else _) else _) = _
    rw [if_pos rfl, if_pos rfl, if_neg (by decide)]
  have hl : (Col.un [0, 0, 0, 0, 0, 0, 0, 1]).length = 16 := rfl
  have t1 := text_code12 (V := 6) (n := ((51820 : Nat) : Int)) hl
  have hre : rightE 6 (Col.un [0, 0, 0, 0, 0, 0, 0, 1]) ((51820 : Nat) : Int) = true := by decide
  have hT : hostL 6 (Col.un [0, 0, 0, 0, 0, 0, 0, 1]) 51820 = [91, 58, 58, 49, 93, 58, 53, 49, 56, 50, 48] := by
    unfold hostL adrT
    rw [if_neg (show ¬ (6 : Int) = 4 by decide), if_pos (by decide), if_neg (show ¬ (6 : Int) = 4 by decide), Col.gr_un _ (by decide)]
    have h1 : Col.textL [0, 0, 0, 0, 0, 0, 0, 1] = [58, 58, 49] := by decide +kernel
    have h2 : Lib.decDigits 51820 = [53, 49, 56, 50, 48] := by
      rw [decDigits_big (by decide), decDigits_big (n := 51820 / 10) (by decide), decDigits_big (n := 51820 / 10 / 10) (by decide), decDigits_big (n := 51820 / 10 / 10 / 10) (by decide), decDigits_small (by decide)]; rfl
    rw [h1, h2]; rfl
  rw [hre, if_pos rfl, Int.toNat_natCast, hT] at t1
  unfold crawlwaylaw12_alive
  show (hostport_Parse (bs [91, 58, 58, 49, 93, 58, 53, 49, 56, 50, 48]) >>= fun t1 => hostport_Parse (bs [58, 58, 49, 58, 53, 49, 56, 50, 48]) >>= fun t3 => if (t1.2 == 0) = true then (hostport_Text t1.1 >>= fun t6 => if (seq t6 (bs [91, 58, 58, 49, 93, 58, 53, 49, 56, 50, 48])) = true then (if (t3.2 == 5) = true then (hostport_None zE >>= fun t9 => some t9) else (some false)) else (some false)) else (some false)) = some true
  rw [p1, bindM_some, p2, bindM_some, e1, e2]
  show (if ((0 : Int) == 0) = true then (hostport_Text (mkE (mkA 6 (Col.un [0, 0, 0, 0, 0, 0, 0, 1])) ((51820 : Nat) : Int)) >>= fun t6 => if (seq t6 (bs [91, 58, 58, 49, 93, 58, 53, 49, 56, 50, 48])) = true then (if ((5 : Int) == 5) = true then (hostport_None zE >>= fun t9 => some t9) else (some false)) else (some false)) else (some false)) = some true
  rw [if_pos (by rfl), t1, bindM_some, seq_self, if_pos rfl, if_pos (by rfl)]
  unfold hostport_None
  rw [bindM_some]
  exact congrArg some (decide_eq_true rfl)
theorem alive_then : (crawlwaylaw12_alive >>= fun t => some t) = some true := by rw [alive12]; rfl
theorem HostportTexts_pure (a0 : S_api_Endpoint) (w0 : ok_api_Endpoint a0) : crawlwaylaw12_HostportTexts a0 = some true := by
  obtain ⟨V, l, n, rfl, hl, _⟩ := exists_mkE a0 w0
  have n1 : (rightE V l n != rightE V l n) = false := by simp
  unfold crawlwaylaw12_HostportTexts
  rw [text_code12 hl, bindM_some, right_ref12 hl, bindM_some, right_code12 hl, bindM_some, n1, if_neg Bool.false_ne_true, text_ref12 hl, bindM_some, seq_self, if_neg (show ¬ (!true) = true by decide)]
  unfold hostport_None
  rw [bindM_some]
  generalize hz : decide (mkE (mkA V l) n = ({ f_A := ({ f_V := (0 : Int), f_B := (Vector.replicate 16 (0 : Int) : (Vector Int 16)) } : S_api_Addr), f_Port := (0 : Int) } : S_api_Endpoint)) = z
  have n2 : (z != z) = false := by simp
  rw [n2, if_neg Bool.false_ne_true]
  cases hr : rightE V l n with
  | false =>
    rw [if_pos (show (!false) = true from rfl), if_neg Bool.false_ne_true]
    show (if seq (bs []) (bs []) = true then _ else _) = _
    rw [seq_self, if_pos rfl]; exact alive_then
  | true =>
    obtain ⟨hrl, k, rfl, h1, h2⟩ := rightE_iff hr
    have hlen := hostL_len (V := V) hl k h2
    rw [if_neg (show ¬ (!true) = true by decide), if_pos rfl, Int.toNat_natCast, host_parse _ (by omega), bindM_some, endP_text hl hrl k h1 h2, if_pos (decide_eq_true rfl)]
    show (if ((0 : Int) == 0) = true then _ else _) = _
    rw [if_pos (by rfl)]; exact alive_then
theorem HostportReads_pure (a0 : ByteArray) (w0 : a0.size ≤ maxLen) : crawlwaylaw12_HostportReads a0 = some true := by
  unfold crawlwaylaw12_HostportReads
  by_cases h : 100 < a0.size
  · rw [if_pos (decide_eq_true (by omega))]; exact alive_then
  · rw [if_neg (by rw [decide_eq_true_eq]; omega)]
    have he := eq_bs a0
    have hlen : a0.data.toList.length = a0.size := size_toList a0
    generalize a0.data.toList = l at he hlen
    subst he
    have n1 : ((endP l).2 != (endP l).2) = false := by simp
    rw [host_parse l (by omega), bindM_some, ref_parse12 l (by omega), bindM_some, decide_eq_true rfl, if_neg (show ¬ (!true) = true by decide), n1, if_neg Bool.false_ne_true]
    by_cases h0 : (endP l).2 = 0
    · have hok : ∃ V m k, (endP l).1 = mkE (mkA V m) ((k : Nat) : Int) ∧ m.length = 16 ∧ rightL V m = true ∧ 1 ≤ k ∧ k ≤ 65535 := by
        unfold endP at h0 ⊢
        cases hq : halL l with
        | none => rw [hq] at h0; cases h0
        | some q =>
          obtain ⟨h', p⟩ := q
          rw [hq] at h0
          exact endQ_ok h0
      obtain ⟨V, m, k, hE, hm, hr, h1, h2⟩ := hok
      have e0 : ((endP l).2 != 0) = false := by rw [h0]; rfl
      have hre : rightE V m (k : Int) = true := by
        unfold rightE
        rw [hr, decide_eq_true (show (1 : Int) ≤ (k : Int) by omega), decide_eq_true (show (k : Int) ≤ 65535 by omega)]; rfl
      have hll := hostL_len (V := V) hm k h2
      rw [e0, if_neg Bool.false_ne_true, hE, text_code12 hm, bindM_some, hre, if_pos rfl, Int.toNat_natCast, host_parse _ (by omega), bindM_some, endP_text hm hr k h1 h2, if_pos (decide_eq_true rfl)]
      show (if ((0 : Int) == 0) = true then _ else _) = _
      rw [if_pos (by rfl)]; exact alive_then
    · have e0 : ((endP l).2 != 0) = true := by rw [bne_iff_ne]; exact h0
      rw [e0, if_pos rfl]; exact alive_then
end Go.Proofs.YtcllgijeihiajaaGreatDoor.Host
