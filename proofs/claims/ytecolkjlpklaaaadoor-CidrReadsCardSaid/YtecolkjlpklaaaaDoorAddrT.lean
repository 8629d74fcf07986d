/- Addresses out of texts and bytes, and their texts and bytes (chapter 10): both sides' functions in plain words. -/
import Derived.Test.YtecolkjlpklaaaaDoorAddrB
import Derived.Test.YtecolkjlpklaaaaDoorColR
import Derived.Test.YtecolkjlpklaaaaDoorColU
import Derived.Test.YtecolkjlpklaaaaDoorGt
set_option linter.unusedVariables false
set_option linter.unusedSimpArgs false
namespace Go.Proofs.YtecolkjlpklaaaaDoor.AdrT
open E Go.RowKit
open Adr

theorem v16_vb (m : List UInt8) : Col.v16 m = vb m := rfl
def z16 : List UInt8 := List.replicate 16 0
def hasC (l : List UInt8) : Bool := l.any (· == 58)
theorem hasC_iff (l : List UInt8) : hasC l = true ↔ ∃ p r, l = p ++ 58 :: r ∧ ∀ x ∈ p, x ≠ 58 := by
  constructor
  · intro h
    rcases split_at 58 l with h2 | h2
    · unfold hasC at h
      obtain ⟨x, hx, h3⟩ := List.any_eq_true.1 h
      exact absurd (beq_iff_eq.1 h3) (h2 x hx)
    · exact h2
  · rintro ⟨p, r, rfl, _⟩
    unfold hasC; simp
theorem hasC_no {l : List UInt8} (h : hasC l = false) : ∀ x ∈ l, x ≠ 58 := fun x hx e => by
  have := List.any_eq_false.1 h x hx
  subst e; simp at this
theorem unb_ob (l : List UInt8) : unb (ob l) = l := by
  unfold unb ob
  rw [List.map_map]
  conv => rhs; rw [← List.map_id l]
  apply List.map_congr_left
  intro b _
  show UInt8.ofNat (Int.toNat ((b.toNat : Int))) = b
  rw [Int.toNat_natCast, UInt8.ofNat_toNat]
def quadA (l : List UInt8) : S_api_Addr × Int := if (quadP l).2 = 0 then (mkA 4 (fourL (unb (quadP l).1.toList)), 0) else (mkA 0 z16, ((quadP l).2 : Int))
def adrP (l : List UInt8) : S_api_Addr × Int := if hasC l = true then (match Col.parseL l with | some G => (mkA 6 (Col.un G), 0) | none => (mkA 0 z16, 5)) else quadA l
theorem six_eq (m : List UInt8) : addr_Six (Col.v16 m) = some (mkA 6 m) := rfl
theorem four_v4 {m : List UInt8} (hm : m.length = 4) : addr_Four (v4 m) = some (mkA 4 (fourL m)) := four_eq _ _ (v4_toList hm)
theorem quadP_m {l : List UInt8} (h : (quadP l).2 = 0) : ∃ m, m.length = 4 ∧ (quadP l).1 = v4 m ∧ unb (quadP l).1.toList = m ∧ qText m = l := by
  obtain ⟨m, hm, hq, ht⟩ := quadP_back h
  refine ⟨m, hm, by rw [hq], ?_, ht⟩
  rw [hq]
  show unb (v4 m).toList = m
  rw [v4_toList hm, unb_ob]
theorem addr_parse (l : List UInt8) (hl : l.length < 1000000) : addr_Parse (bs l) = some (adrP l) := by
  unfold addr_Parse adrP
  have h58 : ((58 : UInt8).toNat : Int) = 58 := rfl
  cases hc : hasC l with
  | true =>
    obtain ⟨p, r, he, hp⟩ := (hasC_iff l).1 hc
    have hcut : lines_Cut (bs l) 58 = some (bs p, bs r, true) := by
      rw [he, ← h58]; exact cut_some p r 58 hp (by rw [he] at hl; simp at hl; omega)
    rw [hcut, bindM_some, if_pos rfl, if_pos rfl, Col.colon_parse l hl, bindM_some]
    unfold Col.parseV
    cases hq : Col.parseL l with
    | none =>
      show (if ((5 : Int) != 0) = true then _ else _) = _
      rw [if_pos (by decide), zero_mkA]; rfl
    | some G =>
      show (if ((0 : Int) != 0) = true then _ else (addr_Six (Col.v16 (Col.un G)) >>= fun t7 => some (t7, 0))) = _
      rw [if_neg (by decide), six_eq, bindM_some]
  | false =>
    have hcut := cut_none l 58 (hasC_no hc)
    rw [h58] at hcut
    rw [hcut, bindM_some, if_neg Bool.false_ne_true, if_neg Bool.false_ne_true, quad_parse l hl, bindM_some]
    unfold quadA
    by_cases h0 : (quadP l).2 = 0
    · obtain ⟨m, hm, hv, hu, _⟩ := quadP_m h0
      have hb : ((viOf (quadP l)).2 != 0) = false := by
        show ((((quadP l).2 : Nat) : Int) != 0) = false
        rw [h0]; rfl
      rw [hb, if_neg Bool.false_ne_true, if_pos h0, hu]
      show (addr_Four (quadP l).1 >>= fun t11 => some (t11, 0)) = _
      rw [hv, four_v4 hm, bindM_some]
    · have hb : ((viOf (quadP l)).2 != 0) = true := by rw [bne_iff_ne]; show (((quadP l).2 : Nat) : Int) ≠ 0; omega
      rw [hb, if_pos rfl, if_neg h0, zero_mkA]; rfl
/-! ### bytes -/
def ofL (b : List UInt8) : S_api_Addr × Int := if b.length = 4 then (mkA 4 (fourL b), 0) else if b.length = 16 then (mkA 6 b, 0) else (mkA 0 z16, 5)
def OfLoop (R : List Int → Int → S_api_Addr → Option S_api_Addr) : Prop := ∀ xs i a, R xs i a = if (decide (i < (xs.length : Int))) = true then (if (0 : Int) ≤ i ∧ i < (xs.length : Int) then if (0 : Int) ≤ i ∧ i < 16 then R xs (wr .i64 (i + 1)) ({ a with f_B := vset a.f_B i (lget xs i) }) else none else none) else (some a)
theorem of_loop {R : List Int → Int → S_api_Addr → Option S_api_Addr} (hR : OfLoop R) (V : Int) (b : List UInt8) (hb : b.length ≤ 16) : ∀ (k i : Nat), i + k = b.length → R (ob b) (i : Int) (mkA V (b.take i ++ List.replicate (16 - i) 0)) = some (mkA V (b ++ List.replicate (16 - b.length) 0)) := by
  intro k
  induction k with
  | zero =>
    intro i hi
    rw [hR, ob_length, if_neg (by rw [decide_eq_true_eq]; omega), List.take_of_length_le (by omega), show i = b.length by omega]
  | succ k ih =>
    intro i hi
    obtain ⟨c, hc⟩ : ∃ c, b[i]? = some c := ⟨_, List.getElem?_eq_getElem (by omega)⟩
    have w : wr .i64 ((i : Int) + 1) = ((i + 1 : Nat) : Int) := by rw [wr_i64 (by omega) (by omega)]; omega
    have hA : (b.take i).length = i := by rw [List.length_take]; omega
    have hs : (b.take i ++ List.replicate (16 - i) 0).set i c = b.take (i + 1) ++ List.replicate (16 - (i + 1)) 0 := by
      have : 16 - i = (16 - (i + 1)) + 1 := by omega
      rw [this, List.replicate_succ, List.take_add_one, hc]
      have e := List.set_append_right (s := b.take i) (t := 0 :: List.replicate (16 - (i + 1)) 0) i c (by omega)
      rw [e, hA, Nat.sub_self]
      simp
    have hg : lget (ob b) (i : Int) = (c.toNat : Int) := lget_ob b i c hc
    rw [hR, ob_length, if_pos (decide_eq_true (by omega)), if_pos (by omega), if_pos (by omega), w, hg]
    show R (ob b) _ (S_api_Addr.mk V (vset (vb (b.take i ++ List.replicate (16 - i) 0)) (i : Int) (c.toNat : Int))) = _
    rw [vset_vb (by simp; omega), hs]
    exact ih (i + 1) (by omega)
theorem ofl0 : OfLoop crawlwayref10_Of.l0 := fun xs i a => crawlwayref10_Of.l0.eq_def xs i a
theorem ofl1 : OfLoop crawlwayref10_Of.l1 := fun xs i a => crawlwayref10_Of.l1.eq_def xs i a
theorem ref_of (b : List UInt8) : crawlwayref10_Of (ob b) = some ((ofL b).1, decide ((ofL b).2 = 0)) := by
  unfold crawlwayref10_Of ofL
  rw [ob_length]
  have z4 : ({ ({ f_V := (0 : Int), f_B := (Vector.replicate 16 (0 : Int) : (Vector Int 16)) } : S_api_Addr) with f_V := 4 } : S_api_Addr) = mkA 4 (List.replicate 16 0) := by
    show S_api_Addr.mk _ _ = S_api_Addr.mk _ _
    rw [zero_vb]
  have z6 : ({ { ({ f_V := (0 : Int), f_B := (Vector.replicate 16 (0 : Int) : (Vector Int 16)) } : S_api_Addr) with f_V := 4 } with f_V := 6 } : S_api_Addr) = mkA 6 (List.replicate 16 0) := by
    show S_api_Addr.mk _ _ = S_api_Addr.mk _ _
    rw [zero_vb]
  rw [z6, z4, zero_mkA]
  by_cases h4 : b.length = 4
  · have e4 : ((b.length : Int) != 4) = false := by rw [h4]; rfl
    have e16 : ((b.length : Int) == 16) = false := by rw [h4]; rfl
    have := of_loop ofl1 4 b (by omega) b.length 0 (by omega)
    rw [List.take_zero, List.nil_append, show ((0 : Nat) : Int) = 0 from rfl, show 16 - 0 = 16 from rfl] at this
    rw [e4, if_neg Bool.false_ne_true, e16, if_neg Bool.false_ne_true, bindM_some, this, bindM_some, if_pos h4, h4]; rfl
  · have e4 : ((b.length : Int) != 4) = true := by rw [bne_iff_ne]; omega
    rw [e4, if_pos rfl, if_neg h4]
    by_cases h16 : b.length = 16
    · have n16 : ((b.length : Int) != 16) = false := by rw [h16]; rfl
      have e16 : ((b.length : Int) == 16) = true := by rw [h16]; rfl
      have := of_loop ofl0 6 b (by omega) b.length 0 (by omega)
      rw [List.take_zero, List.nil_append, show ((0 : Nat) : Int) = 0 from rfl, show 16 - 0 = 16 from rfl] at this
      rw [n16, if_neg Bool.false_ne_true, e16, if_pos rfl, bindM_some, this, bindM_some, if_pos h16, h16]
      show some (mkA 6 (b ++ []), true) = _
      rw [List.append_nil]; rfl
    · have n16 : ((b.length : Int) != 16) = true := by rw [bne_iff_ne]; omega
      rw [n16, if_pos rfl, if_neg h16]; rfl
theorem parts_many (l : List UInt8) : (1 < (parts 58 l).length) ↔ hasC l = true := by
  cases hc : hasC l with
  | true =>
    obtain ⟨p, r, rfl, hp⟩ := (hasC_iff l).1 hc
    rw [parts_cons 58 r p hp]
    have := parts_ne 58 r
    cases hq : parts 58 r with
    | nil => exact absurd hq this
    | cons _ _ => simp
  | false => rw [parts_none 58 l (hasC_no hc)]; simp
theorem ref_parse10 (l : List UInt8) (hl : l.length < 100000) : crawlwayref10_Parse (bs l) = some (adrP l) := by
  unfold crawlwayref10_Parse adrP
  have hp := parts_ref 58 l (by omega)
  rw [show ((58 : UInt8).toNat : Int) = 58 from rfl] at hp
  rw [hp, bindM_some, List.length_map]
  cases hc : hasC l with
  | true =>
    have hm := (parts_many l).2 hc
    rw [if_pos (decide_eq_true (by omega)), if_pos rfl, Col.ref_parse l hl, bindM_some]
    unfold Col.parseV
    cases hq : Col.parseL l with
    | none =>
      show (if (!false) = true then _ else _) = _
      rw [if_pos (show (!false) = true from rfl), zero_mkA]; rfl
    | some G =>
      show (if (!true) = true then _ else _) = _
      rw [if_neg (by decide)]; rfl
  | false =>
    have hm : ¬ 1 < (parts 58 l).length := fun h => by rw [(parts_many l).1 h] at hc; cases hc
    rw [if_neg (by rw [decide_eq_true_eq]; omega), if_neg Bool.false_ne_true, quad_parse_ref l (by omega), bindM_some]
    unfold quadA
    by_cases h0 : (quadP l).2 = 0
    · obtain ⟨m, hm, hv, hu, _⟩ := quadP_m h0
      have hb : ((viOf (quadP l)).2 != 0) = false := by
        show ((((quadP l).2 : Nat) : Int) != 0) = false
        rw [h0]; rfl
      rw [hb, if_neg Bool.false_ne_true, if_pos h0, hu]
      show (crawlwayref10_Of [vget (quadP l).1 0, vget (quadP l).1 1, vget (quadP l).1 2, vget (quadP l).1 3] >>= fun t13 => some (t13.1, 0)) = _
      rw [hv]
      match m, hm with
      | [a, b, c, d], hm =>
        have e0 : vget (v4 [a, b, c, d]) 0 = (a.toNat : Int) := vget_v4 hm 0 a rfl
        have e1 : vget (v4 [a, b, c, d]) 1 = (b.toNat : Int) := vget_v4 hm 1 b rfl
        have e2 : vget (v4 [a, b, c, d]) 2 = (c.toNat : Int) := vget_v4 hm 2 c rfl
        have e3 : vget (v4 [a, b, c, d]) 3 = (d.toNat : Int) := vget_v4 hm 3 d rfl
        rw [e0, e1, e2, e3]
        show (crawlwayref10_Of (ob [a, b, c, d]) >>= _) = _
        rw [ref_of]; rfl
    · have hb : ((viOf (quadP l)).2 != 0) = true := by rw [bne_iff_ne]; show (((quadP l).2 : Nat) : Int) ≠ 0; omega
      rw [hb, if_pos rfl, if_neg h0, zero_mkA]; rfl
def adrT (V : Int) (l : List UInt8) : List UInt8 := if rightL V l = true then (if V = 4 then qText (l.take 4) else Col.textL (Col.gr l)) else []
theorem addr_text {V : Int} {l : List UInt8} (hl : l.length = 16) : addr_Text (mkA V l) = some (bs (adrT V l)) := by
  unfold addr_Text adrT
  rw [right_code hl, bindM_some]
  cases hr : rightL V l with
  | false => rfl
  | true =>
    have h4l : (l.take 4).length = 4 := by rw [List.length_take]; omega
    rw [if_neg (by decide), if_pos rfl]
    by_cases h4 : V = 4
    · have e : ((mkA V l).f_V == 4) = true := by show (V == 4) = true; rw [h4]; rfl
      rw [e, if_pos rfl, if_pos h4]
      show (if 4 ≤ (lsub (vb l).toList 0 4).length then (quad_Text (lvec 4 (lsub (vb l).toList 0 4)) >>= fun t9 => some t9) else none) = _
      have hv : lvec 4 (lsub (vb l).toList 0 4) = v4 (l.take 4) := v4_of (take4 hl)
      rw [if_pos (take4_len hl), hv, quad_text h4l]; rfl
    · have e : ((mkA V l).f_V == 4) = false := by rw [beq_eq_false_iff_ne]; exact h4
      rw [e, if_neg Bool.false_ne_true, if_neg h4]
      show (colon_Text (Col.v16 l) >>= fun t10 => some t10) = _
      rw [Col.text_ok hl]; rfl
theorem four_vget {l : List UInt8} (hl : l.length = 16) : vset (vset (vset (vset (Vector.replicate 4 (0 : Int) : (Vector Int 4)) 0 (vget (vb l) 0)) 1 (vget (vb l) 1)) 2 (vget (vb l) 2)) 3 (vget (vb l) 3) = v4 (l.take 4) := by
  have g0 := vget_vb hl 0 (by omega)
  have g1 := vget_vb hl 1 (by omega)
  have g2 := vget_vb hl 2 (by omega)
  have g3 := vget_vb hl 3 (by omega)
  rw [show ((0 : Nat) : Int) = 0 from rfl] at g0
  rw [show ((1 : Nat) : Int) = 1 from rfl] at g1
  rw [show ((2 : Nat) : Int) = 2 from rfl] at g2
  rw [show ((3 : Nat) : Int) = 3 from rfl] at g3
  apply v4_of
  rw [g0, g1, g2, g3]
  obtain ⟨a, b, c, d, r, rfl⟩ : ∃ a b c d r, l = a :: b :: c :: d :: r := by
    obtain ⟨a, l1, rfl⟩ := List.exists_cons_of_length_pos (show 0 < l.length by omega)
    rw [List.length_cons] at hl
    obtain ⟨b, l2, rfl⟩ := List.exists_cons_of_length_pos (show 0 < l1.length by omega)
    rw [List.length_cons] at hl
    obtain ⟨c, l3, rfl⟩ := List.exists_cons_of_length_pos (show 0 < l2.length by omega)
    rw [List.length_cons] at hl
    obtain ⟨d, l4, rfl⟩ := List.exists_cons_of_length_pos (show 0 < l3.length by omega)
    exact ⟨a, b, c, d, l4, rfl⟩
  have e0 : bg (a :: b :: c :: d :: r) 0 = a.toNat := rfl
  have e1 : bg (a :: b :: c :: d :: r) 1 = b.toNat := rfl
  have e2 : bg (a :: b :: c :: d :: r) 2 = c.toNat := rfl
  have e3 : bg (a :: b :: c :: d :: r) 3 = d.toNat := rfl
  have et : (a :: b :: c :: d :: r).take 4 = [a, b, c, d] := rfl
  rw [e0, e1, e2, e3, et]
  simp only [vset_toList]
  rfl
theorem ref_text10 {V : Int} {l : List UInt8} (hl : l.length = 16) : crawlwayref10_Text (mkA V l) = some (bs (adrT V l)) := by
  unfold crawlwayref10_Text adrT
  rw [right_ref hl, bindM_some]
  cases hr : rightL V l with
  | false => rfl
  | true =>
    have h4l : (l.take 4).length = 4 := by rw [List.length_take]; omega
    rw [if_neg (by decide), if_pos rfl]
    rcases right_cases hr with h6 | ⟨h4, _⟩
    · subst h6
      rw [if_pos (show ((mkA 6 l).f_V == 6) = true from rfl), if_neg (by decide)]
      show (crawlwayref09_Text (Col.v16 l) >>= fun t5 => some t5) = _
      rw [Col.refText_ok hl]; rfl
    · subst h4
      have e46 : ((mkA 4 l).f_V == 6) = false := beq_eq_false_iff_ne.2 (by show (4 : Int) ≠ 6; decide)
      rw [e46, if_neg Bool.false_ne_true, if_pos rfl]
      show (crawlwayref08_Text (vset (vset (vset (vset (Vector.replicate 4 (0 : Int) : (Vector Int 4)) 0 (vget (vb l) 0)) 1 (vget (vb l) 1)) 2 (vget (vb l) 2)) 3 (vget (vb l) 3)) >>= fun t6 => some t6) = _
      rw [four_vget hl, refQuad_loop h4l]; rfl
/-! ### there and back -/
theorem dec_nocolon (n : Nat) : ∀ x ∈ Lib.decDigits n, x ≠ 58 := fun x hx => by
  have := dig_iff.1 (List.all_eq_true.1 (decDigits_dig n) x hx)
  intro e; subst e
  have : (58 : UInt8).toNat = 58 := rfl
  omega
theorem qText_nocolon {m : List UInt8} (hm : m.length = 4) : hasC (qText m) = false := by
  cases h : hasC (qText m) with
  | false => rfl
  | true =>
    exfalso
    unfold hasC at h
    obtain ⟨x, hx, h3⟩ := List.any_eq_true.1 h
    have h58 := beq_iff_eq.1 h3
    match m, hm with
    | [a, b, c, d], _ =>
      have hx' : x ∈ Lib.decDigits a.toNat ++ 46 :: (Lib.decDigits b.toNat ++ 46 :: (Lib.decDigits c.toNat ++ 46 :: Lib.decDigits d.toNat)) := hx
      simp only [List.mem_append, List.mem_cons] at hx'
      rcases hx' with h | h | h | h | h | h | h
      · exact dec_nocolon _ x h h58
      · subst h; cases h58
      · exact dec_nocolon _ x h h58
      · subst h; cases h58
      · exact dec_nocolon _ x h h58
      · subst h; cases h58
      · exact dec_nocolon _ x h h58
theorem hasC_app (p r : List UInt8) : hasC (p ++ 58 :: r) = true := by unfold hasC; simp
theorem textL_colon {G : List Nat} (h8 : G.length = 8) : hasC (Col.textL G) = true := by
  unfold Col.textL
  split
  · match G, h8 with
    | a :: b :: r, _ => exact hasC_app _ _
  · exact hasC_app _ _
theorem parse_text10 {V : Int} {l : List UInt8} (hl : l.length = 16) (hr : rightL V l = true) : adrP (adrT V l) = (mkA V l, 0) := by
  unfold adrT adrP
  rw [if_pos hr]
  rcases right_cases hr with h6 | ⟨h4, hlow⟩
  · subst h6
    have hg : (Col.gr l).length = 8 := by rw [Col.gr_len, hl]
    rw [if_neg (show ¬ (6 : Int) = 4 by decide), textL_colon hg, if_pos rfl, Col.parse_text _ (Col.gr_lt l) hg]
    show (mkA 6 (Col.un (Col.gr l)), (0 : Int)) = _
    rw [Col.un_gr l (by omega)]
  · subst h4
    have h4l : (l.take 4).length = 4 := by rw [List.length_take]; omega
    rw [if_pos rfl, qText_nocolon h4l, if_neg Bool.false_ne_true]
    unfold quadA
    rw [quadP_text h4l]
    show (if (0 : Nat) = 0 then (mkA 4 (fourL (unb (v4 (l.take 4)).toList)), (0 : Int)) else _) = _
    rw [if_pos rfl, v4_toList h4l, unb_ob, ← (low_iff hl).1 hlow]
theorem adrP_right {h : List UInt8} (e : (adrP h).2 = 0) : ∃ V k, (adrP h).1 = mkA V k ∧ k.length = 16 ∧ rightL V k = true := by
  unfold adrP at e ⊢
  split at e
  · next hc =>
    rw [if_pos hc]
    cases hq : Col.parseL h with
    | none => rw [hq] at e; cases e
    | some G =>
      exact ⟨6, Col.un G, rfl, by rw [Col.un_len, (Col.parseL_ok hq).1], rfl⟩
  · next hc =>
    rw [if_neg hc]
    unfold quadA at e ⊢
    split at e
    · next h0 =>
      obtain ⟨m, hm, _, hu, _⟩ := quadP_m h0
      rw [if_pos h0, hu]
      have hf := fourL_len hm
      refine ⟨4, fourL m, rfl, hf, ?_⟩
      unfold rightL
      have hlow : low (fourL m) = true := (low_iff hf).2 (by
        unfold fourL
        rw [List.take_left' hm])
      rw [hlow]; rfl
    · next h0 =>
      have : ((quadP h).2 : Int) = 0 := e
      omega
theorem adrT_len {V : Int} {l : List UInt8} (hl : l.length = 16) : (adrT V l).length ≤ 42 := by
  unfold adrT
  split
  · split
    · have := qText_len (m := l.take 4) (by rw [List.length_take]; omega); omega
    · exact Col.textL_len _ (Col.gr_lt l) (by rw [Col.gr_len, hl])
  · simp
end Go.Proofs.YtecolkjlpklaaaaDoor.AdrT
