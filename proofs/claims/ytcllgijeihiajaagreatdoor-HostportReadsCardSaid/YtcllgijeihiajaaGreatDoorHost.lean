/- Endpoints (chapter 12): both sides' functions in plain words. -/
import Derived.Test.YtcllgijeihiajaaGreatDoorAddrT
import Derived.Test.YtcllgijeihiajaaGreatDoorGu
import Derived.Lib.IndexLaws
import Derived.Lib.IndexMore
set_option linter.unusedVariables false
set_option linter.unusedSimpArgs false
namespace Go.Proofs.YtcllgijeihiajaaGreatDoor.Host
open E Go.RowKit
open Adr AdrT

/-! ### in two halves -/
def isB : List UInt8 → Bool
  | x :: y :: _ => x == 93 && y == 58
  | _ => false
theorem isB_iff (r : List UInt8) : isB r = true ↔ ∃ r2, r = 93 :: 58 :: r2 := by
  match r with
  | [] => simp [isB]
  | [x] => simp [isB]
  | x :: y :: r => simp [isB]
def cutL : List UInt8 → Option (List UInt8 × List UInt8)
  | [] => none
  | c :: r => if isB (c :: r) = true then some ([], r.drop 1) else (cutL r).map fun q => (c :: q.1, q.2)
theorem cutL_eq : ∀ {l a b : List UInt8}, cutL l = some (a, b) → l = a ++ 93 :: 58 :: b
  | [], _, _, h => by cases h
  | c :: r, a, b, h => by
    unfold cutL at h
    split at h
    · next hc =>
      obtain ⟨r2, hr⟩ := (isB_iff _).1 hc
      cases h
      rw [hr]
      obtain ⟨_, rfl⟩ := List.cons.inj hr
      rfl
    · obtain ⟨q, hq, h⟩ := Option.map_eq_some_iff.1 h
      obtain ⟨a', b'⟩ := q
      cases h
      rw [cutL_eq hq]; rfl
theorem pre_isB (l : List UInt8) : List.isPrefixOf [93, 58] l = isB l := by
  match l with
  | [] => rfl
  | [x] => simp [List.isPrefixOf, isB]
  | x :: y :: r => simp only [List.isPrefixOf, isB, Bool.and_true]; rw [BEq.comm (a := (93 : UInt8)), BEq.comm (a := (58 : UInt8))]
theorem index_cut : ∀ (l : List UInt8), Lib.index l [93, 58] = match cutL l with | some (a, _) => (a.length : Int) | none => -1
  | [] => rfl
  | c :: r => by
    unfold Lib.index cutL
    rw [pre_isB]
    by_cases h : isB (c :: r) = true
    · rw [if_pos h, if_pos h]; rfl
    · rw [if_neg h, if_neg h, index_cut r]
      cases cutL r with
      | none => rfl
      | some q =>
        obtain ⟨a, b⟩ := q
        have : (((a.length : Nat) : Int) == -1) = false := by rw [beq_eq_false_iff_ne]; omega
        simp only [Option.map_some, List.length_cons]
        rw [this, if_neg Bool.false_ne_true]
        exact (Int.natCast_succ _).symm
theorem lib_cut (l : List UInt8) : Lib.cut l [93, 58] = match cutL l with | some (a, b) => (a, b, true) | none => (l, [], false) := by
  unfold Lib.cut
  rw [index_cut]
  cases h : cutL l with
  | none => rfl
  | some q =>
    obtain ⟨a, b⟩ := q
    have hl := cutL_eq h
    simp only
    rw [if_pos (by omega), Int.toNat_natCast]
    have e1 : l.take a.length = a := by rw [hl]; exact List.take_left' rfl
    have e2 : l.drop (a.length + ([93, 58] : List UInt8).length) = b := by
      rw [hl, List.drop_append, List.drop_eq_nil_of_le (by omega)]
      simp only [List.length_cons, List.length_nil, List.nil_append]
      rw [show a.length + (0 + 1 + 1) - a.length = 2 by omega]; rfl
    rw [e1, e2]
theorem scut_eq (l : List UInt8) : scut (bs l) (⟨#[93, 58]⟩ : ByteArray) = match cutL l with | some (a, b) => (bs a, bs b, true) | none => (bs l, bs [], false) := by
  have h := lib_cut l
  unfold scut
  rw [bs_list]
  show ((⟨(Lib.cut l [93, 58]).1.toArray⟩ : ByteArray), (⟨(Lib.cut l [93, 58]).2.1.toArray⟩ : ByteArray), (Lib.cut l [93, 58]).2.2) = _
  rw [h]
  cases cutL l with
  | none => rfl
  | some q => rfl
theorem index_colon (l : List UInt8) : decide (0 ≤ Lib.indexByte l 58) = hasC l := by
  cases hc : hasC l with
  | true =>
    obtain ⟨p, r, rfl, hp⟩ := (hasC_iff l).1 hc
    rw [index_at p r 58 hp]
    exact decide_eq_true (by omega)
  | false =>
    have := cut_none l 58 (hasC_no hc)
    have h1 := Lib.indexByte_ge l 58
    refine decide_eq_false fun h => ?_
    obtain ⟨o, ho⟩ := Int.eq_ofNat_of_zero_le h
    have := (Lib.indexByte_some ho).1
    exact hasC_no hc 58 (List.mem_of_getElem? this) rfl
def f58 : List UInt8 → Option (List UInt8 × List UInt8)
  | [] => none
  | c :: r => if c = 58 then some ([], r) else (f58 r).map fun q => (c :: q.1, q.2)
theorem f58_at (r : List UInt8) : ∀ (p : List UInt8), (∀ x ∈ p, x ≠ 58) → f58 (p ++ 58 :: r) = some (p, r)
  | [], _ => by
    show (if (58 : UInt8) = 58 then some ([], r) else _) = _
    rw [if_pos rfl]
  | c :: p, h => by
    show (if c = 58 then _ else (f58 (p ++ 58 :: r)).map _) = _
    rw [if_neg (h c (List.mem_cons_self ..)), f58_at r p fun x hx => h x (List.mem_cons_of_mem _ hx)]; rfl
theorem f58_none : ∀ (l : List UInt8), (∀ x ∈ l, x ≠ 58) → f58 l = none
  | [], _ => rfl
  | c :: r, h => by
    unfold f58
    rw [if_neg (h c (List.mem_cons_self ..)), f58_none r fun x hx => h x (List.mem_cons_of_mem _ hx)]; rfl
def six (l : List UInt8) : Bool := l.head? == some 91
def halL (l : List UInt8) : Option (List UInt8 × List UInt8) := if six l = true then (cutL (l.drop 1)).bind fun q => if hasC q.1 = true then some q else none else f58 l
theorem cutPrefix (l : List UInt8) : strings_CutPrefix (bs l) (⟨#[91]⟩ : ByteArray) = some (if six l = true then (bs (l.drop 1), true) else (bs l, false)) := by
  have hp : stringslite_HasPrefix (bs l) (⟨#[91]⟩ : ByteArray) = some (six l) := by
    unfold stringslite_HasPrefix
    cases l with
    | nil => rw [if_neg (by decide)]; rfl
    | cons x r =>
      have hsz : (bs (x :: r)).size = r.length + 1 := bs_size _
      have h1 : ((⟨#[91]⟩ : ByteArray).size : Int) = 1 := rfl
      rw [h1, hsz, if_pos (decide_eq_true (by omega)), if_pos (by omega)]
      refine congrArg some ?_
      show seq ((bs (x :: r)).extract 0 1) (bs [91]) = _
      rw [bs_extract]
      by_cases hx : x = 91
      · subst hx
        exact seq_self _
      · have hf : six (x :: r) = false := by simp [six, hx]
        rw [hf]
        cases hc : seq (bs ((List.take 1 (x :: r)).drop 0)) (bs [91]) with
        | false => rfl
        | true =>
          have := bs_inj ((seq_iff _ _).1 hc)
          simp at this
          exact absurd this hx
  unfold strings_CutPrefix stringslite_CutPrefix
  rw [hp, bindM_some]
  cases h : six l with
  | false => rfl
  | true =>
    have hne : 1 ≤ l.length := by
      cases l with
      | nil => cases h
      | cons x r => simp
    have h1 : ((⟨#[91]⟩ : ByteArray).size : Int) = 1 := rfl
    have hx : (bs l).extract (Int.toNat 1) (Int.toNat ((bs l).size : Int)) = bs (l.drop 1) := by
      rw [Int.toNat_natCast, bs_extract, bs_size, List.take_of_length_le (Nat.le_refl _)]; rfl
    rw [if_neg (by decide), h1, if_pos (by rw [bs_size]; omega), hx]; rfl
theorem halves_ok (l : List UInt8) (hl : l.length < 1000000) : ∃ a b, hostport_halves (bs l) = some (a, b, (halL l).isSome) ∧ ∀ h p, halL l = some (h, p) → a = bs h ∧ b = bs p := by
  unfold hostport_halves halL
  rw [cutPrefix, bindM_some]
  cases h6 : six l with
  | true =>
    have hd : (l.drop 1).length < 1000000 := by rw [List.length_drop]; omega
    rw [if_pos rfl]
    show ∃ a b, (if true = true then (if (bs (l.drop 1)).size < 4294967281 then if (scut (bs (l.drop 1)) (⟨#[93, 58]⟩ : ByteArray)).2.2 = true then some ((scut (bs (l.drop 1)) (⟨#[93, 58]⟩ : ByteArray)).1, (scut (bs (l.drop 1)) (⟨#[93, 58]⟩ : ByteArray)).2.1, decide (0 ≤ Lib.indexByte (scut (bs (l.drop 1)) (⟨#[93, 58]⟩ : ByteArray)).1.data.toList 58)) else some ((scut (bs (l.drop 1)) (⟨#[93, 58]⟩ : ByteArray)).1, (scut (bs (l.drop 1)) (⟨#[93, 58]⟩ : ByteArray)).2.1, false) else none) else _) = _ ∧ _
    rw [if_pos rfl, if_pos (by rw [bs_size]; omega), scut_eq]
    cases hc : cutL (l.drop 1) with
    | none =>
      exact ⟨_, _, rfl, fun h p e => by cases e⟩
    | some q =>
      obtain ⟨a, b⟩ := q
      simp only [if_true, bs_list, index_colon, Option.bind_some]
      cases hasC a with
      | true => exact ⟨_, _, rfl, fun h p e => by cases e; exact ⟨rfl, rfl⟩⟩
      | false => exact ⟨_, _, rfl, fun h p e => by cases e⟩
  | false =>
    have hb : bt (⟨#[58]⟩ : ByteArray) 0 = 58 := rfl
    rw [if_neg Bool.false_ne_true]
    show ∃ a b, (if false = true then _ else (if (0 : Int) ≤ 0 ∧ (0 : Int) < ((⟨#[58]⟩ : ByteArray).size : Int) then lines_Cut (bs l) (bt (⟨#[58]⟩ : ByteArray) 0) >>= fun t6 => some (t6.1, t6.2.1, t6.2.2) else none)) = _ ∧ _
    rw [if_neg Bool.false_ne_true, if_pos (by decide), hb]
    have h58 : ((58 : UInt8).toNat : Int) = 58 := rfl
    rcases split_at 58 l with h2 | ⟨p, r, rfl, h2⟩
    · have hcut := cut_none l 58 h2
      rw [h58] at hcut
      rw [hcut, bindM_some, if_neg Bool.false_ne_true, f58_none l h2]
      exact ⟨_, _, rfl, fun h p e => by cases e⟩
    · have hcut := cut_some p r 58 h2 (by simp at hl; omega)
      rw [h58] at hcut
      rw [hcut, bindM_some, if_neg Bool.false_ne_true, f58_at r p h2]
      exact ⟨_, _, rfl, fun h q e => by cases e; exact ⟨rfl, rfl⟩⟩
/-! ### endpoints out of texts -/
def mkE (A : S_api_Addr) (n : Int) : S_api_Endpoint := { f_A := A, f_Port := n }
def zE : S_api_Endpoint := { f_A := ({ f_V := (0 : Int), f_B := (Vector.replicate 16 (0 : Int) : (Vector Int 16)) } : S_api_Addr), f_Port := (0 : Int) }
def endQ (h p : List UInt8) : S_api_Endpoint × Int := if (adrP h).2 = 0 then (if (rdU p 65535).2 = 0 then (if (rdU p 65535).1 = 0 then (zE, 6) else (mkE (adrP h).1 ((rdU p 65535).1 : Int), 0)) else (zE, ((rdU p 65535).2 : Int))) else (zE, (adrP h).2)
def endP (l : List UInt8) : S_api_Endpoint × Int := match halL l with
  | some (h, p) => endQ h p
  | none => (zE, 5)
/-- What both do with an address and a port. -/
theorem tail_ok {P : Option (S_api_Addr × Int)} {R : Option (Int × Int)} (h p : List UInt8) (hP : P = some (adrP h)) (hR : R = some (iiOf (rdU p 65535))) :
    (P >>= fun t4 => if (t4.2 != 0) = true then (some (zE, t4.2)) else (R >>= fun t7 => if (t7.2 != 0) = true then (some (zE, t7.2)) else (if (t7.1 == 0) = true then (some (zE, 6)) else (some ({ { zE with f_A := t4.1 } with f_Port := wr .i64 t7.1 }, 0))))) = some (endQ h p) := by
  subst hP hR
  rw [bindM_some]
  unfold endQ
  have hle := rdU_le p 65535
  by_cases h1 : (adrP h).2 = 0
  · have e : ((adrP h).2 != 0) = false := by rw [h1]; rfl
    rw [e, if_neg Bool.false_ne_true, if_pos h1, bindM_some]
    show (if ((((rdU p 65535).2 : Nat) : Int) != 0) = true then _ else (if ((((rdU p 65535).1 : Nat) : Int) == 0) = true then _ else some (S_api_Endpoint.mk (adrP h).1 (wr .i64 (((rdU p 65535).1 : Nat) : Int)), (0 : Int)))) = _
    by_cases h2 : (rdU p 65535).2 = 0
    · have e2 : ((((rdU p 65535).2 : Nat) : Int) != 0) = false := by rw [h2]; rfl
      rw [e2, if_neg Bool.false_ne_true, if_pos h2]
      by_cases h3 : (rdU p 65535).1 = 0
      · rw [h3, if_pos (by rfl), if_pos rfl]
      · have e3 : ((((rdU p 65535).1 : Nat) : Int) == 0) = false := by rw [beq_eq_false_iff_ne]; omega
        rw [e3, if_neg Bool.false_ne_true, if_neg h3, wr_i64 (by omega) (by omega)]; rfl
    · have e2 : ((((rdU p 65535).2 : Nat) : Int) != 0) = true := by rw [bne_iff_ne]; omega
      rw [e2, if_pos rfl, if_neg h2]; rfl
  · have e : ((adrP h).2 != 0) = true := by rw [bne_iff_ne]; exact h1
    rw [e, if_pos rfl, if_neg h1]
theorem halL_len {l h p : List UInt8} (e : halL l = some (h, p)) : h.length ≤ l.length ∧ p.length ≤ l.length := by
  unfold halL at e
  split at e
  · obtain ⟨q, hq, e⟩ := Option.bind_eq_some_iff.1 e
    split at e
    · cases e
      have := congrArg List.length (cutL_eq hq)
      rw [List.length_drop, List.length_append, List.length_cons, List.length_cons] at this
      omega
    · cases e
  · rcases split_at 58 l with h2 | ⟨a, r, rfl, h2⟩
    · rw [f58_none l h2] at e; cases e
    · rw [f58_at r a h2] at e
      cases e
      rw [List.length_append, List.length_cons]
      omega
theorem host_parse (l : List UInt8) (hl : l.length < 100000) : hostport_Parse (bs l) = some (endP l) := by
  unfold hostport_Parse endP
  obtain ⟨a, b, hh, hab⟩ := halves_ok l (by omega)
  rw [hh, bindM_some]
  cases hq : halL l with
  | none =>
    show (if (!false) = true then _ else _) = _
    rw [if_pos (show (!false) = true from rfl)]; rfl
  | some q =>
    obtain ⟨h, p⟩ := q
    obtain ⟨rfl, rfl⟩ := hab h p hq
    have hlen := halL_len hq
    show (if (!true) = true then _ else _) = _
    rw [if_neg (by decide)]
    exact tail_ok h p (addr_parse h (by omega)) (by
      have := read_code (bs p) 65535 (by rw [bs_size]; omega) (by omega)
      rw [bs_list] at this
      exact this)
/-! ### the document's -/
theorem u8_93 (x : UInt8) : ((x.toNat : Int) == 93) = (x == 93) := by
  by_cases h : x = 93
  · subst h; rfl
  · have h2 : x.toNat ≠ 93 := fun e => h (UInt8.toNat_inj.1 e)
    have h3 : (x == 93) = false := by simp [h]
    rw [h3, beq_eq_false_iff_ne]; omega
theorem cut_loop (l : List UInt8) (hl : l.length < 1000000) : ∀ (k i : Nat), l.length - i = k → i ≤ l.length →
    crawlwayref12_cut.l0 (bs l) (i : Int) = some (match cutL (l.drop i) with | some (a, b) => .ret (bs (l.take i ++ a), bs b, true) | none => .nx ()) := by
  intro k
  induction k with
  | zero =>
    intro i hk hi
    have w : wr .i64 ((i : Int) + 1) = ((i + 1 : Nat) : Int) := by rw [wr_i64 (by omega) (by omega)]; omega
    rw [crawlwayref12_cut.l0.eq_def, w, bs_size, if_neg (by rw [decide_eq_true_eq]; omega), List.drop_eq_nil_of_le (by omega)]; rfl
  | succ k ih =>
    intro i hk hi
    have w : wr .i64 ((i : Int) + 1) = ((i + 1 : Nat) : Int) := by rw [wr_i64 (by omega) (by omega)]; omega
    have w2 : wr .i64 ((i : Int) + 2) = ((i + 2 : Nat) : Int) := by rw [wr_i64 (by omega) (by omega)]; omega
    obtain ⟨c, hc, hd⟩ := drop_get l i (by omega)
    have hbc : bt (bs l) (i : Int) = (c.toNat : Int) := bt_at (by rw [bs_list]; exact hc)
    have hi1 := ih (i + 1) (by omega) (by omega)
    have htk : l.take (i + 1) = l.take i ++ [c] := by rw [List.take_add_one, hc]; rfl
    rw [crawlwayref12_cut.l0.eq_def, w, bs_size]
    by_cases h1 : i + 1 < l.length
    · obtain ⟨d, hdd, hd2⟩ := drop_get l (i + 1) h1
      have hbd : bt (bs l) ((i + 1 : Nat) : Int) = (d.toNat : Int) := bt_at (by rw [bs_list]; exact hdd)
      have hnot : ∀ (hB : isB (c :: d :: l.drop (i + 1 + 1)) = false), crawlwayref12_cut.l0 (bs l) ((i + 1 : Nat) : Int) = some (match cutL (c :: d :: l.drop (i + 1 + 1)) with | some (a, b) => .ret (bs (l.take i ++ a), bs b, true) | none => .nx ()) := by
        intro hB
        have e : cutL (c :: d :: l.drop (i + 1 + 1)) = (cutL (d :: l.drop (i + 1 + 1))).map fun q => (c :: q.1, q.2) := by
          conv => lhs; unfold cutL
          rw [hB, if_neg Bool.false_ne_true]
        rw [hi1, e, hd2]
        cases cutL (d :: l.drop (i + 1 + 1)) with
        | none => rfl
        | some q => obtain ⟨a, b⟩ := q; simp [htk]
      rw [if_pos (decide_eq_true (by omega)), if_pos (by omega), hbc, u8_93, hbd, Col.u8_58, w2, hd, hd2]
      by_cases hc93 : c = 93
      · subst hc93
        rw [if_pos (by rfl), if_pos (by omega)]
        by_cases hd58 : d = 58
        · subst hd58
          have x1 : (bs l).extract (Int.toNat 0) (Int.toNat (i : Int)) = bs (l.take i) := by rw [Int.toNat_natCast, bs_extract]; rfl
          have x2 : (bs l).extract (Int.toNat ((i + 2 : Nat) : Int)) (Int.toNat ((l.length : Nat) : Int)) = bs (l.drop (i + 2)) := by
            rw [Int.toNat_natCast, Int.toNat_natCast, bs_extract, List.take_of_length_le (Nat.le_refl _)]
          rw [if_pos (by rfl), if_pos (by omega), if_pos (by omega), x1, x2]
          have e : cutL (93 :: 58 :: l.drop (i + 1 + 1)) = some ([], l.drop (i + 1 + 1)) := rfl
          rw [e]
          simp
        · have hf : (d == 58) = false := by simp [hd58]
          rw [hf, if_neg Bool.false_ne_true]
          exact hnot (by simp [isB, hd58])
      · have hf : (c == 93) = false := by simp [hc93]
        rw [hf, if_neg Bool.false_ne_true]
        exact hnot (by simp [isB, hc93])
    · rw [if_neg (by rw [decide_eq_true_eq]; omega), hd, List.drop_eq_nil_of_le (show l.length ≤ i + 1 by omega)]
      rfl
theorem refcut_ok (l : List UInt8) (hl : l.length < 1000000) : crawlwayref12_cut (bs l) = some (match cutL l with | some (a, b) => (bs a, bs b, true) | none => (bs [], bs [], false)) := by
  unfold crawlwayref12_cut
  have h := cut_loop l hl l.length 0 (by omega) (by omega)
  rw [show ((0 : Nat) : Int) = 0 from rfl, List.drop_zero] at h
  rw [h, bindM_some]
  cases cutL l with
  | none => rfl
  | some q => obtain ⟨a, b⟩ := q; simp
theorem parts58 (h : List UInt8) (hl : h.length < 1000000) : crawlwayref06_Parts (bs h) 58 = some ((parts 58 h).map bs) := by
  have := parts_ref 58 h hl
  rwa [show ((58 : UInt8).toNat : Int) = 58 from rfl] at this
theorem many58 (h : List UInt8) : decide ((((parts 58 h).map bs).length : Int) > 1) = hasC h := by
  rw [List.length_map]
  cases hc : hasC h with
  | true => exact decide_eq_true (by have := (parts_many h).2 hc; omega)
  | false => exact decide_eq_false fun h2 => by have := (parts_many h).1 (by omega); rw [this] at hc; cases hc
theorem first_part (p r : List UInt8) (h : ∀ x ∈ p, x ≠ 58) : lget ((parts 58 (p ++ 58 :: r)).map bs) 0 = bs p := by
  rw [parts_cons 58 r p h]; rfl
theorem ref_read (p : List UInt8) (hp : p.length < 1000000) : crawlwayref03_Read (bs p) 65535 = some (iiOf (rdU p 65535)) := by
  have := read_ref (bs p) 65535 (by rw [bs_size]; omega) (by omega)
  rw [bs_list] at this
  exact this
/-- Ahead of a port, with no bracket. -/
theorem plain_ok (l : List UInt8) (hl : l.length < 100000) (h6 : six l = false) (b : Bool) (hb : b = false) :
    (crawlwayref06_Parts (bs l) 58 >>= fun t18 => if (0 : Int) ≤ 0 ∧ 0 < (t18.length : Int) then if (decide ((t18.length : Int) > 1)) = true then (if (0 : Int) ≤ 0 ∧ 0 < (t18.length : Int) then if (0 : Int) ≤ wr .i64 (((lget t18 0).size : Int) + 1) ∧ wr .i64 (((lget t18 0).size : Int) + 1) ≤ ((bs l).size : Int) ∧ ((bs l).size : Int) ≤ ((bs l).size : Int) then if (!(decide ((t18.length : Int) > 1))) = true then (some (zE, 5)) else (crawlwayref06_Parts (lget t18 0) 58 >>= fun t32 => if (decide ((t32.length : Int) > 1) != b) = true then (some (zE, 5)) else (crawlwayref10_Parse (lget t18 0) >>= fun t36 => if (t36.2 != 0) = true then (some (zE, t36.2)) else (crawlwayref03_Read ((bs l).extract (Int.toNat (wr .i64 (((lget t18 0).size : Int) + 1))) (Int.toNat ((bs l).size : Int))) 65535 >>= fun t39 => if (t39.2 != 0) = true then (some (zE, t39.2)) else (if (t39.1 == 0) = true then (some (zE, 6)) else (some ({ { zE with f_A := t36.1 } with f_Port := wr .i64 t39.1 }, 0)))))) else none else none) else (if (!(decide ((t18.length : Int) > 1))) = true then (some (zE, 5)) else (crawlwayref06_Parts (lget t18 0) 58 >>= fun t43 => if (decide ((t43.length : Int) > 1) != b) = true then (some (zE, 5)) else (crawlwayref10_Parse (lget t18 0) >>= fun t47 => if (t47.2 != 0) = true then (some (zE, t47.2)) else (crawlwayref03_Read (⟨#[]⟩ : ByteArray) 65535 >>= fun t50 => if (t50.2 != 0) = true then (some (zE, t50.2)) else (if (t50.1 == 0) = true then (some (zE, 6)) else (some ({ { zE with f_A := t47.1 } with f_Port := wr .i64 t50.1 }, 0))))))) else none) = some (endP l) := by
  subst hb
  have hne := parts_ne 58 l
  have h0 : (0 : Int) ≤ 0 ∧ (0 : Int) < (((parts 58 l).map bs).length : Int) := by
    rw [List.length_map]
    cases hq : parts 58 l with
    | nil => exact absurd hq hne
    | cons _ _ => simp
  unfold endP halL
  rw [h6, if_neg Bool.false_ne_true, parts58 l (by omega), bindM_some, if_pos h0, many58]
  rcases split_at 58 l with h2 | ⟨p, r, rfl, h2⟩
  · have hc : hasC l = false := by
      cases h : hasC l with
      | false => rfl
      | true =>
        obtain ⟨p, r, rfl, _⟩ := (hasC_iff l).1 h
        exact absurd rfl (h2 58 (by simp))
    rw [hc, if_neg Bool.false_ne_true, if_pos (show (!false) = true from rfl), f58_none l h2]
  · have hc : hasC (p ++ 58 :: r) = true := hasC_app p r
    have hpc : hasC p = false := by
      cases h : hasC p with
      | false => rfl
      | true =>
        obtain ⟨p', r', rfl, _⟩ := (hasC_iff p).1 h
        exact absurd rfl (h2 58 (by simp))
    have hlen : (p ++ 58 :: r).length = p.length + (r.length + 1) := by simp
    have w : wr .i64 (((bs p).size : Int) + 1) = ((p.length + 1 : Nat) : Int) := by rw [bs_size, wr_i64 (by omega) (by omega)]; omega
    have x : (bs (p ++ 58 :: r)).extract (Int.toNat ((p.length + 1 : Nat) : Int)) (Int.toNat ((bs (p ++ 58 :: r)).size : Int)) = bs r := by
      rw [Int.toNat_natCast, Int.toNat_natCast, bs_extract, bs_size, List.take_of_length_le (Nat.le_refl _), List.drop_append, List.drop_eq_nil_of_le (by omega), show p.length + 1 - p.length = 1 by omega]; rfl
    rw [hc, if_pos rfl, if_pos h0, first_part p r h2, w, if_pos (by rw [bs_size]; omega), if_neg (show ¬ (!true) = true by decide), parts58 p (by omega), bindM_some, many58, hpc, if_neg (by decide), x, f58_at r p h2]
    exact tail_ok p r (ref_parse10 p (by omega)) (ref_read r (by omega))
theorem ref_parse12 (l : List UInt8) (hl : l.length < 100000) : crawlwayref12_Parse (bs l) = some (endP l) := by
  unfold crawlwayref12_Parse
  cases l with
  | nil =>
    rw [if_neg (by decide)]
    exact plain_ok [] hl rfl false rfl
  | cons x r =>
    have hb : bt (bs (x :: r)) 0 = (x.toNat : Int) := bt_at (i := 0) (by rw [bs_list]; rfl)
    have hs : (0 : Int) ≤ 0 ∧ (0 : Int) < ((bs (x :: r)).size : Int) := by rw [bs_size, List.length_cons]; omega
    rw [if_pos (decide_eq_true hs.2), if_pos hs, hb]
    by_cases hx : x = 91
    · subst hx
      have e91 : (((91 : UInt8).toNat : Int) == 91) = true := rfl
      have hx1 : (bs (91 :: r)).extract (Int.toNat 1) (Int.toNat ((bs (91 :: r)).size : Int)) = bs r := by
        rw [Int.toNat_natCast, bs_extract, bs_size, List.take_of_length_le (Nat.le_refl _)]; rfl
      have h6 : six (91 :: r) = true := rfl
      simp only [List.length_cons] at hl
      rw [e91, if_pos rfl, if_pos (by rw [bs_size, List.length_cons]; omega), hx1, refcut_ok r (by omega), bindM_some]
      unfold endP halL
      rw [h6, if_pos rfl]
      show _ = some (match (cutL r).bind fun q => if hasC q.1 = true then some q else none with | some (h, p) => endQ h p | none => (zE, 5))
      cases hc : cutL r with
      | none => rw [if_pos (show (!false) = true from rfl)]; rfl
      | some q =>
        obtain ⟨a, b⟩ := q
        have hlen := congrArg List.length (cutL_eq hc)
        rw [List.length_append, List.length_cons, List.length_cons] at hlen
        simp only [Option.bind_some]
        rw [if_neg (show ¬ (!true) = true by decide), parts58 a (by omega), bindM_some, many58]
        cases ha : hasC a with
        | false =>
          rw [if_pos (by decide)]
          simp only [Bool.false_eq_true, if_false]; rfl
        | true =>
          rw [if_neg (by decide)]
          simp only [if_true]
          exact tail_ok a b (ref_parse10 a (by omega)) (ref_read b (by omega))
    · have e91 : ((x.toNat : Int) == 91) = false := by
        rw [beq_eq_false_iff_ne]
        intro e
        exact hx (UInt8.toNat_inj.1 (by show x.toNat = 91; omega))
      have h6 : six (x :: r) = false := by simp [six, hx]
      rw [e91, if_neg Bool.false_ne_true]
      exact plain_ok (x :: r) hl h6 false rfl
end Go.Proofs.YtcllgijeihiajaaGreatDoor.Host
