/- The plain law of chapter 09: ColonShort. -/
import Derived.Test.YtcllgijeihiajaaDoorColT
set_option linter.unusedVariables false
set_option linter.unusedSimpArgs false
namespace Go.Proofs.YtcllgijeihiajaaDoor
open E Go.RowKit
open Col

theorem exists_v16 (v : Vector Int 16) (h : ∀ x ∈ v.toList, (Lit.int .u8 x).wf = true) : ∃ m, v = v16 m ∧ m.length = 16 := by
  obtain ⟨m, hm⟩ := exists_ob v.toList h
  exact ⟨m, v16_of hm, by have := congrArg List.length hm; rw [ob_length] at this; simpa using this.symm⟩
theorem alive09 : crawlwaylaw09_alive = some true := by
  unfold crawlwaylaw09_alive
  have h1 := colon_parse [58, 58, 102, 102, 102, 102, 58, 49, 46, 50, 46, 51, 46, 52] (by decide)
  have h2 := colon_parse [49, 58, 58, 50, 58, 58, 51] (by decide)
  have e1 : parseL [58, 58, 102, 102, 102, 102, 58, 49, 46, 50, 46, 51, 46, 52] = some [0, 0, 0, 0, 0, 65535, 258, 772] := by decide +kernel
  have e2 : parseL [49, 58, 58, 50, 58, 58, 51] = none := by decide +kernel
  have e3 : textL [0, 0, 0, 0, 0, 65535, 258, 772] = [58, 58, 102, 102, 102, 102, 58, 49, 48, 50, 58, 51, 48, 52] := by decide +kernel
  unfold parseV at h1
  rw [e1] at h1
  rw [e2] at h2
  have hm : (un [0, 0, 0, 0, 0, 65535, 258, 772]).length = 16 := rfl
  have h3 := text_ok hm
  rw [gr_un _ (by decide), e3] at h3
  show (colon_Parse (bs [58, 58, 102, 102, 102, 102, 58, 49, 46, 50, 46, 51, 46, 52]) >>= fun t1 => colon_Parse (bs [49, 58, 58, 50, 58, 58, 51]) >>= fun t3 => if (t1.2 == 0) = true then (colon_Text t1.1 >>= fun t6 => if (seq t6 (bs [58, 58, 102, 102, 102, 102, 58, 49, 48, 50, 58, 51, 48, 52])) = true then (some (t3.2 == 5)) else (some false)) else (some false)) = some true
  rw [h1, bindM_some, h2, bindM_some]
  show (if ((0 : Int) == 0) = true then (colon_Text (v16 (un [0, 0, 0, 0, 0, 65535, 258, 772])) >>= fun t6 => if (seq t6 (bs [58, 58, 102, 102, 102, 102, 58, 49, 48, 50, 58, 51, 48, 52])) = true then (some ((5 : Int) == 5)) else (some false)) else (some false)) = some true
  rw [if_pos (by rfl), h3, bindM_some, seq_self, if_pos rfl]; rfl
theorem alive09_then : (crawlwaylaw09_alive >>= fun t => some t) = some true := by rw [alive09]; rfl

/-! ### lengths -/
def sl (G : List Nat) : Nat := (G.map fun n => (g1 n).length).sum
theorem sl_app (A B : List Nat) : sl (A ++ B) = sl A + sl B := by simp [sl]
theorem sl_zero (k : Nat) : sl (List.replicate k 0) = k := by
  have : (g1 0).length = 1 := by decide +kernel
  simp [sl, this]
theorem row_size : ∀ (G : List Nat), (rowL G).length = sl G + (G.length - 1)
  | [] => rfl
  | [n] => by simp [rowL, sl]
  | n :: m :: r => by
    have := row_size (m :: r)
    simp only [rowL, List.length_append, List.length_cons] at this ⊢
    simp only [sl, List.map_cons, List.sum_cons] at this ⊢
    omega
/-- No number is read of fewer digits than it is written with. -/
theorem grp_least (n : Nat) : ∀ k, n < 16 ^ (k + 1) → (g1 n).length ≤ k + 1 := by
  intro k hk
  unfold g1
  rw [size_toList]
  exact (Hex.grp_size n).2 k hk
theorem read_least (p : List UInt8) (n : Nat) (h : Hex.read (bs p) = some n) : (g1 n).length ≤ p.length := by
  unfold Hex.read at h
  rw [bs_size, bs_list] at h
  split at h
  · cases h
  · next hl =>
    have h2 := Hex.rd_lt _ _ _ h
    have h3 := grp_least n (p.length - 1) (by
      rw [show p.length - 1 + 1 = p.length by omega]
      simpa using h2)
    omega
/-- A text without dots: its parts are at least as long as the groups that they say. -/
theorem nodot_quad (p : List UInt8) (h : ∀ x ∈ p, x ≠ 46) : (quadP p).2 = 5 := by
  unfold quadP
  rw [parts_none 46 p h, if_neg (by simp)]
def pl (ps : List (List UInt8)) : Nat := (ps.map List.length).sum
theorem lst_least (last : Bool) : ∀ (ps : List (List UInt8)) (x : List Nat), (∀ p ∈ ps, ∀ c ∈ p, c ≠ 46) → lst last ps = some x → sl x ≤ pl ps ∧ x.length = ps.length
  | [], x, _, h => by cases h; exact ⟨Nat.le_refl _, rfl⟩
  | p :: r, x, hd, h => by
    rw [lst] at h
    cases hr : Hex.read (bs p) with
    | some m =>
      rw [hr] at h
      obtain ⟨y, hy, rfl⟩ := Option.map_eq_some_iff.1 h
      have h1 := lst_least last r y (fun q hq => hd q (List.mem_cons_of_mem _ hq)) hy
      have h2 := read_least p m hr
      simp only [sl, pl, List.map_cons, List.sum_cons, List.length_cons] at h1 ⊢
      omega
    | none =>
      rw [hr] at h
      simp only at h
      rw [nodot_quad p (hd p (List.mem_cons_self ..)), if_neg (by omega)] at h
      cases h
theorem parts_size : ∀ (l : List UInt8), l.length + 1 = pl (parts 58 l) + (parts 58 l).length
  | [] => rfl
  | c :: r => by
    have ih := parts_size r
    have hne := parts_ne 58 r
    by_cases hc : c = 58
    · subst hc
      rw [parts_colon]
      simp only [pl, List.map_cons, List.sum_cons, List.length_cons, List.length_nil] at ih ⊢
      omega
    · rw [parts, if_neg hc]
      cases hp : parts 58 r with
      | nil => exact absurd hp hne
      | cons h t =>
        rw [hp] at ih
        simp only [pl, List.map_cons, List.sum_cons, List.length_cons, List.headD_cons, List.tail_cons] at ih ⊢
        omega
theorem parts_chars (c : UInt8) : ∀ (l : List UInt8), ∀ p ∈ parts c l, ∀ x ∈ p, x ∈ l
  | [], p, hp, x, hx => by
    simp only [parts, List.mem_singleton] at hp
    subst hp; cases hx
  | y :: r, p, hp, x, hx => by
    have ih := parts_chars c r
    have hne := parts_ne c r
    unfold parts at hp
    split at hp
    · rcases List.mem_cons.1 hp with rfl | hp
      · cases hx
      · exact List.mem_cons_of_mem _ (ih p hp x hx)
    · cases hq : parts c r with
      | nil => exact absurd hq hne
      | cons h t =>
        rw [hq] at hp ih
        rcases List.mem_cons.1 hp with rfl | hp
        · rcases List.mem_cons.1 hx with rfl | hx
          · exact List.mem_cons_self ..
          · exact List.mem_cons_of_mem _ (ih h (List.mem_cons_self ..) x hx)
        · exact List.mem_cons_of_mem _ (ih p (List.mem_cons_of_mem _ hp) x hx)
theorem spl_eq : ∀ {ps a b : List (List UInt8)}, spl ps = some (a, b) → ps = a ++ [] :: b ∧ b ≠ []
  | [], _, _, h => by cases h
  | p :: r, a, b, h => by
    rw [spl] at h
    split at h
    · next hc =>
      cases h
      cases r with
      | nil => simp at hc
      | cons q t =>
        simp at hc
        obtain ⟨rfl, ht⟩ := hc
        refine ⟨rfl, ?_⟩
        intro e
        simp only [List.tail_cons] at e
        rw [e] at ht; simp at ht
    · obtain ⟨q, hq, h⟩ := Option.map_eq_some_iff.1 h
      obtain ⟨a', b'⟩ := q
      cases h
      obtain ⟨h1, h2⟩ := spl_eq hq
      exact ⟨by rw [h1]; rfl, h2⟩
theorem lstE_least {last : Bool} {ps : List (List UInt8)} {x : List Nat} (hd : ∀ p ∈ ps, ∀ c ∈ p, c ≠ 46) (hne : ps ≠ []) (h : lstE last ps = some x) : sl x + (x.length - 1) ≤ pl ps + (ps.length - 1) ∧ (x.length - 1 ≤ ps.length - 1) ∧ sl x ≤ pl ps ∧ (ps.length = 1 ∨ x.length = ps.length) := by
  unfold lstE at h
  split at h
  · next e => cases h; subst e; simp [sl, pl]
  · obtain ⟨h1, h2⟩ := lst_least last ps x hd h
    omega
theorem runz_zeros (k : Nat) (r : List Bool) : k ≤ runz (List.replicate k true ++ r) := by
  induction k with
  | zero => exact Nat.zero_le _
  | succ k ih => rw [List.replicate_succ]; simp only [List.cons_append, runz]; omega
theorem zp_app (A B : List Nat) : zp (A ++ B) = zp A ++ zp B := by simp [zp]
theorem zp_zeros (k : Nat) : zp (List.replicate k 0) = List.replicate k true := by simp [zp]
theorem text_size (G : List Nat) (h8 : G.length = 8) : ((lg (zp G)).2 < 2 ∧ (textL G).length = sl G + 7) ∨
    (2 ≤ (lg (zp G)).2 ∧ ∃ a b, a + b + (lg (zp G)).2 = 8 ∧ (textL G).length + (lg (zp G)).2 = sl G + (a - 1) + (b - 1) + 2) := by
  unfold textL
  by_cases h2 : (lg (zp G)).2 < 2
  · refine .inl ⟨h2, ?_⟩
    rw [if_pos h2, row_size, h8]
  · refine .inr ⟨by omega, (lg (zp G)).1, 8 - ((lg (zp G)).1 + (lg (zp G)).2), ?_, ?_⟩
    · have := lg_fits (z := zp G) (by rw [zp_len, h8]); omega
    · rw [if_neg h2]
      have hf := lg_fits (z := zp G) (by rw [zp_len, h8])
      have hz := zeros_of (lg_zero (z := zp G) (by rw [zp_len, h8]))
      have hG := split3 G (lg (zp G)).1 (lg (zp G)).2
      rw [hz] at hG
      have hs := congrArg sl hG
      rw [sl_app, sl_app, sl_zero] at hs
      rw [List.length_append, List.length_cons, List.length_cons, row_size, row_size, List.length_take, List.length_drop, h8]
      have e : min (lg (zp G)).1 8 = (lg (zp G)).1 := by omega
      rw [e]
      omega
theorem short (l : List UInt8) (hd : ∀ x ∈ l, x ≠ 46) (G : List Nat) (h : parseL l = some G) : (textL G).length ≤ l.length + 1 := by
  obtain ⟨h8, _⟩ := parseL_ok h
  have hps := parts_size l
  have hch : ∀ p ∈ parts 58 l, ∀ c ∈ p, c ≠ 46 := fun p hp c hc => hd c (parts_chars 58 l p hp c hc)
  have ht := text_size G h8
  unfold parseL at h
  split at h
  · obtain ⟨x, hx, h⟩ := Option.bind_eq_some_iff.1 h
    split at h
    · cases h
      obtain ⟨h1, h2⟩ := lst_least true _ _ hch hx
      rcases ht with ⟨_, ht⟩ | ⟨_, a, b, hab, ht⟩ <;> omega
    · cases h
  · next a b hs =>
    obtain ⟨x, hx, h⟩ := Option.bind_eq_some_iff.1 h
    obtain ⟨y, hy, h⟩ := Option.bind_eq_some_iff.1 h
    split at h
    · next h7 =>
      cases h
      obtain ⟨hsp, hbne⟩ := spl_eq hs
      have hane := spl_ne hs
      rw [hsp] at hps hch
      have hda : ∀ p ∈ a, ∀ c ∈ p, c ≠ 46 := fun p hp => hch p (List.mem_append_left _ hp)
      have hdb : ∀ p ∈ b, ∀ c ∈ p, c ≠ 46 := fun p hp => hch p (List.mem_append_right _ (List.mem_cons_of_mem _ hp))
      obtain ⟨a1, a2, a3, a4⟩ := lstE_least hda hane hx
      obtain ⟨b1, b2, b3, b4⟩ := lstE_least hdb hbne hy
      have la : 1 ≤ a.length := by cases a with | nil => exact absurd rfl hane | cons _ _ => simp
      have lb : 1 ≤ b.length := by cases b with | nil => exact absurd rfl hbne | cons _ _ => simp
      have hpl : pl (a ++ [] :: b) = pl a + pl b := by simp [pl]
      rw [hpl, List.length_append, List.length_cons] at hps
      have hsl : sl (x ++ (List.replicate (8 - x.length - y.length) 0 ++ y)) = sl x + (8 - x.length - y.length) + sl y := by rw [sl_app, sl_app, sl_zero]; omega
      have hmax := lg_max (z := zp (x ++ (List.replicate (8 - x.length - y.length) 0 ++ y))) (by rw [zp_len, h8]) x.length (by omega)
      rw [zp_app, zp_app, zp_zeros, List.drop_left' (zp_len x)] at hmax
      have hk := Nat.le_trans (runz_zeros (8 - x.length - y.length) (zp y)) hmax
      rw [← zp_zeros, ← zp_app, ← zp_app] at hk
      generalize x ++ (List.replicate (8 - x.length - y.length) 0 ++ y) = G at *
      generalize (lg (zp G)).2 = z at *
      rcases ht with ⟨hz, ht⟩ | ⟨hz, p, q, hpq, ht⟩
      · omega
      · omega
    · cases h
theorem ColonShort_pure (a0 : ByteArray) (w0 : a0.size ≤ maxLen) : crawlwaylaw09_ColonShort a0 = some true := by
  unfold crawlwaylaw09_ColonShort
  by_cases h : 100 < a0.size
  · rw [if_pos (decide_eq_true (by omega))]; exact alive09_then
  · rw [if_neg (by rw [decide_eq_true_eq]; omega)]
    have he := eq_bs a0
    have hlen : a0.data.toList.length = a0.size := size_toList a0
    generalize a0.data.toList = l at he hlen
    subst he
    have hp := parts_ref 46 l (by omega)
    rw [show ((46 : UInt8).toNat : Int) = 46 from rfl] at hp
    rw [hp, bindM_some, List.length_map]
    by_cases h1 : 1 < (parts 46 l).length
    · rw [if_pos (decide_eq_true (by omega))]; exact alive09_then
    · rw [if_neg (by rw [decide_eq_true_eq]; omega)]
      have hd : ∀ x ∈ l, x ≠ 46 := by
        rcases split_at 46 l with h2 | ⟨p, r, rfl, h2⟩
        · exact h2
        · rw [parts_cons 46 r p h2] at h1
          have := parts_ne 46 r
          cases hq : parts 46 r with
          | nil => exact absurd hq this
          | cons _ _ => rw [hq] at h1; simp at h1
      rw [colon_parse l (by omega), bindM_some]
      unfold parseV
      cases hq : parseL l with
      | none =>
        show (if ((5 : Int) != 0) = true then (if ((5 : Int) == 5) = true then _ else _) else _) = _
        rw [if_pos (by decide), if_pos (by rfl)]
        exact alive09_then
      | some G =>
        obtain ⟨h8, hlt⟩ := parseL_ok hq
        have hs := short l hd G hq
        have ht := text_ok (m := un G) (by rw [un_len, h8])
        rw [gr_un G hlt] at ht
        show (if ((0 : Int) != 0) = true then _ else (colon_Text (v16 (un G)) >>= fun t9 => _)) = _
        rw [if_neg (by decide), ht, bindM_some]
        have hle : ((bs (textL G)).size : Int) ≤ wr .i64 (((bs l).size : Int) + 1) := by
          rw [bs_size, bs_size, wr_i64 (by omega) (by omega)]; omega
        rw [if_pos (decide_eq_true hle)]
        exact alive09_then
end Go.Proofs.YtcllgijeihiajaaDoor
