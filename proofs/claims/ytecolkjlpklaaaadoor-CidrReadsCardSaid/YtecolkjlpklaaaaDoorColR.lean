/- What the document's reader of groups does (crawlwayref09.Parse): 'Col.parseL' too. -/
import Derived.Test.YtecolkjlpklaaaaDoorHexN
import Derived.Test.YtecolkjlpklaaaaDoorColC
set_option linter.unusedVariables false
set_option linter.unusedSimpArgs false
namespace Go.Proofs.YtecolkjlpklaaaaDoor.Col
open E Go.RowKit

/-- Where '::' stands. -/
def gapL : List UInt8 → Option (List UInt8 × List UInt8)
  | [] => none
  | c :: r => if isCC (c :: r) = true then some ([], r.drop 1) else (gapL r).map fun q => (c :: q.1, q.2)
theorem gapL_eq : ∀ {l a b : List UInt8}, gapL l = some (a, b) → l = a ++ 58 :: 58 :: b
  | [], _, _, h => by cases h
  | c :: r, a, b, h => by
    unfold gapL at h
    split at h
    · next hc =>
      obtain ⟨r2, hr⟩ := (isCC_iff _).1 hc
      cases h
      rw [hr]
      obtain ⟨_, rfl⟩ := List.cons.inj hr
      rfl
    · obtain ⟨q, hq, h⟩ := Option.map_eq_some_iff.1 h
      obtain ⟨a', b'⟩ := q
      cases h
      rw [gapL_eq hq]; rfl
theorem u8_58 (x : UInt8) : ((x.toNat : Int) == 58) = (x == 58) := by
  by_cases h : x = 58
  · subst h; rfl
  · have h2 : x.toNat ≠ 58 := fun e => h (UInt8.toNat_inj.1 e)
    have h3 : (x == 58) = false := by simp [h]
    rw [h3, beq_eq_false_iff_ne]; omega
theorem gap_loop (l : List UInt8) (hl : l.length < 1000000) : ∀ (k i : Nat), l.length - i = k → i ≤ l.length →
    crawlwayref09_gap.l0 (bs l) (i : Int) = some (match gapL (l.drop i) with | some (a, _) => .ret ((i + a.length : Nat) : Int) | none => .nx ()) := by
  intro k
  induction k with
  | zero =>
    intro i hk hi
    have w : wr .i64 ((i : Int) + 1) = ((i + 1 : Nat) : Int) := by rw [wr_i64 (by omega) (by omega)]; omega
    rw [crawlwayref09_gap.l0.eq_def, w, bs_size, if_neg (by rw [decide_eq_true_eq]; omega), List.drop_eq_nil_of_le (by omega)]; rfl
  | succ k ih =>
    intro i hk hi
    have w : wr .i64 ((i : Int) + 1) = ((i + 1 : Nat) : Int) := by rw [wr_i64 (by omega) (by omega)]; omega
    obtain ⟨c, hc, hd⟩ := drop_get l i (by omega)
    have hbc : bt (bs l) (i : Int) = (c.toNat : Int) := bt_at (by rw [bs_list]; exact hc)
    have e58 := u8_58
    have hi1 := ih (i + 1) (by omega) (by omega)
    rw [crawlwayref09_gap.l0.eq_def, w, bs_size]
    by_cases h1 : i + 1 < l.length
    · obtain ⟨d, hdd, hd2⟩ := drop_get l (i + 1) h1
      have hbd : bt (bs l) ((i + 1 : Nat) : Int) = (d.toNat : Int) := bt_at (by rw [bs_list]; exact hdd)
      rw [if_pos (decide_eq_true (by omega)), if_pos (by omega), hbc, e58, hbd, e58, hd, hi1, hd2]
      unfold gapL
      by_cases hc58 : c = 58
      · subst hc58
        rw [if_pos (by rfl), if_pos (by omega)]
        by_cases hd58 : d = 58
        · subst hd58
          rw [if_pos (by rfl), if_pos (by rfl)]; rfl
        · have hf : (d == 58) = false := by simp [hd58]
          have hf2 : isCC (58 :: d :: l.drop (i + 1 + 1)) = false := by simp [isCC, hd58]
          rw [hf, if_neg Bool.false_ne_true, hf2, if_neg Bool.false_ne_true]
          have e : gapL (d :: l.drop (i + 1 + 1)) = if isCC (d :: l.drop (i + 1 + 1)) = true then some ([], (l.drop (i + 1 + 1)).drop 1) else (gapL (l.drop (i + 1 + 1))).map fun q => (d :: q.1, q.2) := rfl
          rw [← e]
          cases hg : gapL (d :: l.drop (i + 1 + 1)) with
          | none => rfl
          | some q => obtain ⟨a, b⟩ := q; simp; omega
      · have hf : (c == 58) = false := by simp [hc58]
        have hf2 : isCC (c :: d :: l.drop (i + 1 + 1)) = false := by simp [isCC, hc58]
        rw [hf, if_neg Bool.false_ne_true, hf2, if_neg Bool.false_ne_true]
        have e : gapL (d :: l.drop (i + 1 + 1)) = if isCC (d :: l.drop (i + 1 + 1)) = true then some ([], (l.drop (i + 1 + 1)).drop 1) else (gapL (l.drop (i + 1 + 1))).map fun q => (d :: q.1, q.2) := rfl
        rw [← e]
        cases hg : gapL (d :: l.drop (i + 1 + 1)) with
        | none => rfl
        | some q => obtain ⟨a, b⟩ := q; simp; omega
    · rw [if_neg (by rw [decide_eq_true_eq]; omega), hd, List.drop_eq_nil_of_le (show l.length ≤ i + 1 by omega)]
      rfl
theorem gap_ok (l : List UInt8) (hl : l.length < 1000000) : crawlwayref09_gap (bs l) = some (match gapL l with | some (a, _) => (a.length : Int) | none => -1) := by
  unfold crawlwayref09_gap
  have h := gap_loop l hl l.length 0 (by omega) (by omega)
  rw [show ((0 : Nat) : Int) = 0 from rfl, List.drop_zero] at h
  rw [h, bindM_some]
  cases gapL l with
  | none => rfl
  | some q => obtain ⟨a, b⟩ := q; simp
theorem parts_other {c : UInt8} (hc : c ≠ 58) (r : List UInt8) : parts 58 (c :: r) = (c :: (parts 58 r).headD []) :: (parts 58 r).tail := by rw [parts, if_neg hc]
theorem spl_gap : ∀ (l : List UInt8), spl (parts 58 l) = (gapL l).map fun q => (parts 58 q.1, parts 58 q.2)
  | [] => rfl
  | c :: r => by
    have ih := spl_gap r
    have hne := parts_ne 58 r
    unfold gapL
    by_cases hc : c = 58
    · subst hc
      rw [parts_colon, spl]
      by_cases hr : ∃ r2, r = 58 :: r2
      · rw [if_pos ((parts_head r).2 hr), if_pos ((isCC_iff _).2 (by obtain ⟨r2, h⟩ := hr; exact ⟨r2, by rw [h]⟩))]
        obtain ⟨r2, rfl⟩ := hr
        rw [parts_colon]; rfl
      · rw [if_neg (fun h => hr ((parts_head r).1 h)), if_neg (fun h => hr (by obtain ⟨r2, h⟩ := (isCC_iff _).1 h; exact ⟨r2, (List.cons.inj h).2⟩)), ih]
        cases gapL r with
        | none => rfl
        | some q => simp [parts_colon]
    · rw [parts_other hc]
      have hcc : ¬ isCC (c :: r) = true := fun h => by obtain ⟨r2, h⟩ := (isCC_iff _).1 h; exact hc (List.cons.inj h).1
      rw [if_neg hcc]
      cases hp : parts 58 r with
      | nil => exact absurd hp hne
      | cons h t =>
        rw [hp] at ih
        show spl ((c :: h) :: t) = _
        rw [spl] at ih ⊢
        have key : ∀ (q : Option (List UInt8 × List UInt8)), (∀ z, q = some z → ∃ h' t', parts 58 z.1 = h' :: t') →
            ((q.map fun q => (c :: q.1, q.2)).map fun q => (parts 58 q.1, parts 58 q.2)) = (q.map fun q => (parts 58 q.1, parts 58 q.2)).map fun x => ((c :: x.1.headD []) :: x.1.tail, x.2) := by
          intro q _
          cases q with
          | none => rfl
          | some z => simp [parts_other hc]
        rw [key _ (fun z _ => by
          have := parts_ne 58 z.1
          cases hz : parts 58 z.1 with
          | nil => exact absurd hz this
          | cons a b => exact ⟨a, b, rfl⟩), ← ih]
        by_cases hcond : t.head? = some [] ∧ 2 ≤ t.length
        · rw [if_pos hcond, if_pos hcond]; rfl
        · rw [if_neg hcond, if_neg hcond]
          cases spl t with
          | none => rfl
          | some z => rfl

/-! ### lists of groups -/
theorem lget_map {α β : Type} [Inhabited β] (f : α → β) (ps : List α) (i : Nat) (p : α) (h : ps[i]? = some p) : lget (ps.map f) (i : Int) = f p := by
  unfold lget
  rw [Int.toNat_natCast, List.getD_eq_getElem?_getD, List.getElem?_map, h]; rfl
theorem list_loop (last : Bool) (ps : List (List UInt8)) (hps : ps.length < 1000000) (hsz : ∀ p ∈ ps, p.length < 1000000) : ∀ (k i : Nat) (acc : List Nat), ps.length - i = k → i ≤ ps.length → acc.length ≤ 2 * i →
    crawlwayref09_list.l0 last (ps.map bs) (ns acc) (i : Int) = some (match lst last (ps.drop i) with | some x => .nx (ns (acc ++ x)) | none => .ret ([], false)) := by
  intro k
  induction k with
  | zero =>
    intro i acc hk hi ha
    rw [crawlwayref09_list.l0.eq_def, if_neg (by rw [decide_eq_true_eq]; simp; omega), List.drop_eq_nil_of_le (by omega)]
    simp [lst]
  | succ k ih =>
    intro i acc hk hi ha
    have w : wr .i64 ((i : Int) + 1) = ((i + 1 : Nat) : Int) := by rw [wr_i64 (by omega) (by omega)]; omega
    obtain ⟨p, hp, hd⟩ := drop_get ps i (by omega)
    have hpm := hsz p (List.mem_of_getElem? hp)
    have hlen : ((ps.map bs).length : Int) = (ps.length : Int) := by simp
    have w2 : wr .i64 ((ps.length : Int) - 1) = (ps.length : Int) - 1 := wr_i64 (by omega) (by omega)
    rw [crawlwayref09_list.l0.eq_def, hlen, if_pos (decide_eq_true (by omega)), if_pos (by omega), lget_map bs ps i p hp, Hex.refRead_eq, bindM_some, hd, lst]
    cases hr : Hex.read (bs p) with
    | some n =>
      show (if decide ((n : Int) ≥ 0) = true then _ else _) = _
      rw [if_pos (decide_eq_true (by omega)), if_pos (by rw [ns_len]; omega), w]
      have h2 := ih (i + 1) (acc ++ [n]) (by omega) (by omega) (by simp; omega)
      rw [ns_app] at h2
      show crawlwayref09_list.l0 last (ps.map bs) (ns acc ++ [(n : Int)]) _ = _
      have e : ns [n] = [(n : Int)] := rfl
      rw [← e, h2]
      simp only
      cases lst last (ps.drop (i + 1)) with
      | none => rfl
      | some x => simp [ns_app, e]
    | none =>
      show (if decide ((-1 : Int) ≥ 0) = true then _ else _) = _
      rw [if_neg (by decide), if_pos (by omega), quad_parse_ref p hpm, bindM_some]
      simp only
      by_cases h0 : (quadP p).2 = 0
      · obtain ⟨m, hm, hq, _⟩ := quadP_back h0
        have hb : ((viOf (quadP p)).2 != 0) = false := by rw [hq]; rfl
        rw [hb, if_neg Bool.false_ne_true]
        cases last with
        | false =>
          rw [if_pos (by rfl), if_neg (by simp)]
        | true =>
          rw [if_neg (by decide), w2]
          by_cases hl : i + 1 < ps.length
          · rw [if_pos (decide_eq_true (by omega)), if_neg]
            rintro ⟨_, _, h⟩
            have := congrArg List.length h
            simp at this; omega
          · have hdn : ps.drop (i + 1) = [] := List.drop_eq_nil_of_le (by omega)
            rw [if_neg (by rw [decide_eq_true_eq]; omega), if_pos (by rw [ns_len]; omega), if_pos ⟨h0, rfl, hdn⟩, w]
            match m, hm with
            | [a, b, c, d], hm =>
              have la := a.toNat_lt
              have lb := b.toNat_lt
              have lc := c.toNat_lt
              have ld := d.toNat_lt
              rw [hq]
              have e0 : vget (v4 [a, b, c, d]) 0 = (a.toNat : Int) := vget_v4 hm 0 a rfl
              have e1 : vget (v4 [a, b, c, d]) 1 = (b.toNat : Int) := vget_v4 hm 1 b rfl
              have e2 : vget (v4 [a, b, c, d]) 2 = (c.toNat : Int) := vget_v4 hm 2 c rfl
              have e3 : vget (v4 [a, b, c, d]) 3 = (d.toNat : Int) := vget_v4 hm 3 d rfl
              have eq : q2 (v4 [a, b, c, d]) = [256 * a.toNat + b.toNat, 256 * c.toNat + d.toNat] := by unfold q2; rw [e0, e1, e2, e3]; rfl
              have g1 : ∀ x y : Nat, x < 256 → y < 256 → wr .i64 (wr .i64 (256 * wr .i64 (x : Int)) + wr .i64 (y : Int)) = ((256 * x + y : Nat) : Int) := by
                intro x y hx hy
                rw [wr_i64 (x := (x : Int)) (by omega) (by omega), wr_i64 (x := (y : Int)) (by omega) (by omega), wr_i64 (x := 256 * (x : Int)) (by omega) (by omega), wr_i64 (by omega) (by omega)]; omega
              show crawlwayref09_list.l0 true (ps.map bs) (ns acc ++ [wr .i64 (wr .i64 (256 * wr .i64 (vget (v4 [a, b, c, d]) 0)) + wr .i64 (vget (v4 [a, b, c, d]) 1)), wr .i64 (wr .i64 (256 * wr .i64 (vget (v4 [a, b, c, d]) 2)) + wr .i64 (vget (v4 [a, b, c, d]) 3))]) _ = some (Ctl.nx (ns (acc ++ q2 (v4 [a, b, c, d]))))
              rw [e0, e1, e2, e3, g1 _ _ la lb, g1 _ _ lc ld, eq, crawlwayref09_list.l0.eq_def, hlen, if_neg (by rw [decide_eq_true_eq]; omega), ns_app]; rfl
      · have hb : ((viOf (quadP p)).2 != 0) = true := by rw [bne_iff_ne]; show (((quadP p).2 : Nat) : Int) ≠ 0; omega
        rw [hb, if_pos rfl, if_neg (fun h => h0 h.1)]
def liOf (o : Option (List Nat)) : List Int × Bool := match o with
  | some x => (ns x, true)
  | none => ([], false)
theorem list_ok (l : List UInt8) (last : Bool) (hl : l.length < 100000) : crawlwayref09_list (bs l) last = some (liOf (lstE last (parts 58 l))) := by
  unfold crawlwayref09_list lstE
  by_cases h0 : l = []
  · subst h0
    rw [if_pos ((seq_nil []).2 rfl), if_pos (show parts 58 [] = [[]] from rfl)]; rfl
  · rw [if_neg (fun e => h0 ((seq_nil l).1 e)), if_neg (fun e => h0 ((parts_nil_iff l).1 e))]
    have h58 : ((58 : UInt8).toNat : Int) = 58 := rfl
    have hp := parts_ref 58 l (by omega)
    rw [h58] at hp
    rw [hp, bindM_some]
    have := list_loop last (parts 58 l) (by have := parts_len 58 l; omega) (fun p hpm => by have := part_short 58 l p hpm; omega) (parts 58 l).length 0 [] (by omega) (by omega) (by simp)
    rw [show ns [] = ([] : List Int) from rfl, show ((0 : Nat) : Int) = 0 from rfl, List.drop_zero] at this
    rw [this, bindM_some]
    cases lst last (parts 58 l) with
    | none => rfl
    | some x => rfl
/-- The two loops of Parse that write bytes are alike. -/
def Bytes (L : List Int) (R : Int → Vector Int 16 → Option (Vector Int 16)) : Prop := ∀ i o, R i o = if (decide (i < 8)) = true then (if (0 : Int) ≤ i ∧ i < (L.length : Int) then if (0 : Int) ≤ wr .i64 (2 * i) ∧ wr .i64 (2 * i) < 16 then if (0 : Int) ≤ i ∧ i < (L.length : Int) then if (0 : Int) ≤ wr .i64 ((wr .i64 (2 * i)) + 1) ∧ wr .i64 ((wr .i64 (2 * i)) + 1) < 16 then R (wr .i64 (i + 1)) (vset (vset o (wr .i64 (2 * i)) (wr .u8 (wr .i64 (Int.tdiv (lget L i) 256)))) (wr .i64 ((wr .i64 (2 * i)) + 1)) (wr .u8 (Int.tmod (lget L i) 256))) else none else none else none else none) else (some o)
theorem ref_bytes {R : Int → Vector Int 16 → Option (Vector Int 16)} {G : List Nat} (hR : Bytes (ns G) R) (h8 : G.length = 8) (hG : ∀ n ∈ G, n < 65536) : ∀ (k i : Nat), i + k = 8 → R (i : Int) (v16 (un (G.take i) ++ List.replicate (16 - 2 * i) 0)) = some (v16 (un G)) := by
  intro k
  induction k with
  | zero =>
    intro i hi
    obtain rfl : i = 8 := by omega
    rw [hR, if_neg (by decide), List.take_of_length_le (by omega)]
    simp
  | succ k ih =>
    intro i hi
    have hlt : i < 8 := by omega
    obtain ⟨n, hn⟩ : ∃ n, G[i]? = some n := ⟨_, List.getElem?_eq_getElem (by omega)⟩
    have hn6 := hG n (List.mem_of_getElem? hn)
    have w1 : wr .i64 (2 * (i : Int)) = ((2 * i : Nat) : Int) := by rw [wr_i64 (by omega) (by omega)]; omega
    have w2 : wr .i64 (((2 * i : Nat) : Int) + 1) = ((2 * i + 1 : Nat) : Int) := by rw [wr_i64 (by omega) (by omega)]; omega
    have w3 : wr .i64 ((i : Int) + 1) = ((i + 1 : Nat) : Int) := by rw [wr_i64 (by omega) (by omega)]; omega
    have hv : lget (ns G) (i : Int) = (n : Int) := by unfold lget; rw [Int.toNat_natCast]; exact ns_get G i n hn
    have hl : ((ns G).length : Int) = 8 := by rw [ns_len, h8]; rfl
    have d1 : Int.tdiv (n : Int) 256 = ((n / 256 : Nat) : Int) := by rw [Int.tdiv_eq_ediv_of_nonneg (by omega)]; omega
    have d2 : Int.tmod (n : Int) 256 = ((n % 256 : Nat) : Int) := by rw [Int.tmod_eq_emod_of_nonneg (by omega)]; omega
    rw [hR, if_pos (decide_eq_true (by omega)), hl, if_pos (by omega), w1, w2, if_pos (by omega), if_pos (by omega), if_pos (by omega), w3, hv, d1, d2, put2 G h8 i n hlt hn hn6]
    · exact ih (i + 1) (by omega)
    · rw [wr_i64 (by omega) (by omega), wr_u8 (by omega) (by omega)]
    · rw [wr_u8 (by omega) (by omega)]
theorem bytes0 (L : List Int) (b : Bool) : Bytes L fun i o => crawlwayref09_Parse.l0 (L, b) i o := fun i o => by
  show crawlwayref09_Parse.l0 (L, b) i o = _
  rw [crawlwayref09_Parse.l0.eq_def]
theorem bytes3 (q y : List Int) (b : Bool) : Bytes (q ++ y) fun i o => crawlwayref09_Parse.l3 (y, b) q i o := fun i o => by
  show crawlwayref09_Parse.l3 (y, b) q i o = _
  rw [crawlwayref09_Parse.l3.eq_def]
theorem lst_len (last : Bool) : ∀ (ps : List (List UInt8)) (x : List Nat), lst last ps = some x → x.length ≤ ps.length + 1
  | [], x, h => by cases h; simp
  | p :: r, x, h => by
    rw [lst] at h
    cases hr : Hex.read (bs p) with
    | some m =>
      rw [hr] at h
      obtain ⟨y, hy, rfl⟩ := Option.map_eq_some_iff.1 h
      have := lst_len last r y hy
      simp; omega
    | none =>
      rw [hr] at h
      simp only at h
      split at h
      · cases h; simp [q2]
      · cases h
theorem lstE_len {last : Bool} {ps : List (List UInt8)} {x : List Nat} (h : lstE last ps = some x) : x.length ≤ ps.length + 1 := by
  unfold lstE at h
  split at h
  · cases h; simp
  · exact lst_len last ps x h
theorem copy_loop (G : List Nat) (hG : G.length < 1000000) (b : Bool) : ∀ (k i : Nat), G.length - i = k → i ≤ G.length → crawlwayref09_Parse.l1 (ns G, b) (ns (G.take i)) (i : Int) = some (ns G) := by
  intro k
  induction k with
  | zero =>
    intro i hk hi
    rw [crawlwayref09_Parse.l1.eq_def]
    show (if decide ((i : Int) < ((ns G).length : Int)) = true then _ else _) = _
    rw [ns_len, if_neg (by rw [decide_eq_true_eq]; omega), List.take_of_length_le (by omega)]
  | succ k ih =>
    intro i hk hi
    obtain ⟨n, hn⟩ : ∃ n, G[i]? = some n := ⟨_, List.getElem?_eq_getElem (by omega)⟩
    have w : wr .i64 ((i : Int) + 1) = ((i + 1 : Nat) : Int) := by rw [wr_i64 (by omega) (by omega)]; omega
    have hv : lget (ns G) (i : Int) = (n : Int) := by unfold lget; rw [Int.toNat_natCast]; exact ns_get G i n hn
    have h2 := ih (i + 1) (by omega) (by omega)
    rw [List.take_add_one, hn, ns_app] at h2
    rw [crawlwayref09_Parse.l1.eq_def]
    show (if decide ((i : Int) < ((ns G).length : Int)) = true then (if (0 : Int) ≤ (i : Int) ∧ (i : Int) < ((ns G).length : Int) then if (ns (G.take i)).length.succ * 8 ≤ _ then crawlwayref09_Parse.l1 (ns G, b) (ns (G.take i) ++ [lget (ns G) (i : Int)]) (wr .i64 ((i : Int) + 1)) else none else none) else _) = _
    rw [ns_len, ns_len, if_pos (decide_eq_true (by omega)), if_pos (by omega), if_pos (by rw [List.length_take]; omega), hv, w]
    exact h2
theorem zero_loop (y : List Int) (b : Bool) (hy : y.length ≤ 8) : ∀ (k : Nat) (G : List Nat), 8 - (G.length + y.length) = k → G.length ≤ 8 → crawlwayref09_Parse.l2 (y, b) (ns G) = some (ns (G ++ List.replicate (8 - (G.length + y.length)) 0)) := by
  intro k
  induction k with
  | zero =>
    intro G hk hG
    rw [crawlwayref09_Parse.l2.eq_def]
    show (if decide (wr .i64 (((ns G).length : Int) + (y.length : Int)) < 8) = true then _ else _) = _
    rw [ns_len, wr_i64 (by omega) (by omega), if_neg (by rw [decide_eq_true_eq]; omega), hk]
    simp
  | succ k ih =>
    intro G hk hG
    have h2 := ih (G ++ [0]) (by simp; omega) (by simp; omega)
    rw [ns_app] at h2
    rw [crawlwayref09_Parse.l2.eq_def]
    show (if decide (wr .i64 (((ns G).length : Int) + (y.length : Int)) < 8) = true then (if (ns G).length.succ * 8 ≤ _ then crawlwayref09_Parse.l2 (y, b) (ns G ++ [0]) else none) else _) = _
    rw [ns_len, wr_i64 (by omega) (by omega), if_pos (decide_eq_true (by omega)), if_pos (by omega)]
    show crawlwayref09_Parse.l2 (y, b) (ns G ++ ns [0]) = _
    rw [h2, List.append_assoc, hk]
    simp only [List.length_append, List.length_cons, List.length_nil]
    rw [show 8 - (G.length + (0 + 1) + y.length) = k by omega, List.replicate_succ]
    rfl
theorem ref_parse (l : List UInt8) (hb : l.length < 100000) : crawlwayref09_Parse (bs l) = some (parseV l, (parseL l).isSome) := by
  unfold crawlwayref09_Parse parseV
  have hgap := gap_ok l (by omega)
  have hspl := spl_gap l
  cases hg : gapL l with
  | none =>
    rw [hg] at hspl
    have hspl' : spl (parts 58 l) = none := hspl
    have hgap' : crawlwayref09_gap (bs l) = some (-1) := by rw [hgap, hg]
    rw [hgap', bindM_some]
    show (if decide ((-1 : Int) < 0) = true then _ else _) = _
    rw [if_pos (by decide), list_ok l true hb, bindM_some]
    have e : lstE true (parts 58 l) = some [] ∧ l = [] ∨ lstE true (parts 58 l) = lst true (parts 58 l) ∧ l ≠ [] := by
      unfold lstE
      by_cases h0 : l = []
      · subst h0; exact .inl ⟨rfl, rfl⟩
      · exact .inr ⟨if_neg (fun e => h0 ((parts_nil_iff l).1 e)), h0⟩
    rcases e with ⟨e, h0⟩ | ⟨e, h0⟩
    · subst h0
      rw [e]
      have e2 : parseL [] = none := rfl
      rw [e2]
      show (if (!true) = true then _ else (if ((0 : Int) != 8) = true then _ else _)) = _
      rw [if_neg (by decide), if_pos (by decide), v16_zero]; rfl
    · rw [e]
      have e2 : parseL l = (lst true (parts 58 l)).bind fun x => if x.length = 8 then some x else none := by unfold parseL; rw [hspl']
      have hok : ∀ {G : List Nat}, parseL l = some G → G.length = 8 ∧ ∀ n ∈ G, n < 65536 := fun h => parseL_ok h
      rw [e2] at hok ⊢
      cases hl : lst true (parts 58 l) with
      | none =>
        show (if (!false) = true then _ else _) = _
        rw [if_pos (show (!false) = true from rfl), v16_zero]; rfl
      | some x =>
        rw [hl] at hok
        show (if (!true) = true then _ else (if (((ns x).length : Int) != 8) = true then _ else _)) = _
        rw [if_neg (by decide), ns_len]
        simp only [Option.bind_some] at hok ⊢
        by_cases h8 : x.length = 8
        · have hne : ((x.length : Int) != 8) = false := by rw [h8]; rfl
          rw [if_pos h8] at hok ⊢
          have hlt := (hok rfl).2
          rw [hne, if_neg Bool.false_ne_true, v16_zero]
          have := ref_bytes (bytes0 (ns x) true) h8 hlt 8 0 rfl
          rw [show 16 - 2 * 0 = 16 from rfl, List.take_zero, show un [] = [] from rfl, List.nil_append, show ((0 : Nat) : Int) = 0 from rfl] at this
          show (crawlwayref09_Parse.l0 (ns x, true) 0 (v16 (List.replicate 16 0)) >>= fun q10 => _) = _
          rw [this]; rfl
        · have hne : ((x.length : Int) != 8) = true := by rw [bne_iff_ne]; omega
          rw [hne, if_pos rfl, if_neg h8, v16_zero]; rfl
  | some q =>
    obtain ⟨a, b⟩ := q
    rw [hg] at hspl
    have hspl' : spl (parts 58 l) = some (parts 58 a, parts 58 b) := hspl
    have hl := gapL_eq hg
    have hlen : l.length = a.length + (b.length + 2) := by rw [hl]; simp
    have hgap' : crawlwayref09_gap (bs l) = some (a.length : Int) := by rw [hgap, hg]
    rw [hgap', bindM_some]
    have w2 : wr .i64 ((a.length : Int) + 2) = ((a.length + 2 : Nat) : Int) := by rw [wr_i64 (by omega) (by omega)]; omega
    have x1 : (bs l).extract (Int.toNat 0) (Int.toNat (a.length : Int)) = bs a := by
      rw [Int.toNat_natCast, bs_extract, hl, List.take_left' rfl]; rfl
    have x2 : (bs l).extract (Int.toNat ((a.length + 2 : Nat) : Int)) (Int.toNat ((bs l).size : Int)) = bs b := by
      rw [Int.toNat_natCast, Int.toNat_natCast, bs_extract, bs_size, List.take_of_length_le (Nat.le_refl _), hl, List.drop_append, List.drop_eq_nil_of_le (by omega), show a.length + 2 - a.length = 2 by omega]; rfl
    have hsz : (bs l).size = l.length := bs_size l
    rw [if_neg (by rw [decide_eq_true_eq]; omega), if_pos (by rw [hsz]; omega), x1, list_ok a false (by omega), bindM_some, w2, if_pos (by rw [hsz]; omega), x2, list_ok b true (by omega), bindM_some]
    have e2 : parseL l = (lstE false (parts 58 a)).bind fun x => (lstE true (parts 58 b)).bind fun y => if x.length + y.length ≤ 7 then some (x ++ (List.replicate (8 - x.length - y.length) 0 ++ y)) else none := by unfold parseL; rw [hspl']
    have hok : ∀ {G : List Nat}, parseL l = some G → G.length = 8 ∧ ∀ n ∈ G, n < 65536 := fun h => parseL_ok h
    rw [e2] at hok ⊢
    cases hx : lstE false (parts 58 a) with
    | none =>
      show (if (!false) = true then _ else _) = _
      rw [if_pos (show (!false) = true from rfl), v16_zero]; rfl
    | some x =>
      rw [hx] at hok
      cases hy : lstE true (parts 58 b) with
      | none =>
        show (if (!true) = true then _ else (if (!false) = true then _ else _)) = _
        rw [if_neg (by decide), if_pos (show (!false) = true from rfl), v16_zero]; rfl
      | some y =>
        rw [hy] at hok
        simp only [Option.bind_some] at hok ⊢
        have hxl : x.length < 1000000 := by have := lstE_len hx; have := parts_len 58 a; omega
        have hyl : y.length < 1000000 := by have := lstE_len hy; have := parts_len 58 b; omega
        show (if (!true) = true then _ else (if (!true) = true then _ else (if decide (wr .i64 (((ns x).length : Int) + ((ns y).length : Int)) > 7) = true then _ else _))) = _
        rw [if_neg (by decide), if_neg (by decide), ns_len, ns_len, wr_i64 (by omega) (by omega)]
        by_cases h7 : x.length + y.length ≤ 7
        · rw [if_neg (by rw [decide_eq_true_eq]; omega)]
          rw [if_pos h7] at hok ⊢
          obtain ⟨h8, hlt⟩ := hok rfl
          have c1 := copy_loop x hxl true x.length 0 (by omega) (by omega)
          rw [List.take_zero, show ns [] = ([] : List Int) from rfl, show ((0 : Nat) : Int) = 0 from rfl] at c1
          show (crawlwayref09_Parse.l1 (ns x, true) [] 0 >>= fun q37 => crawlwayref09_Parse.l2 (ns y, true) q37 >>= fun q55 => _) = _
          rw [c1, bindM_some, zero_loop (ns y) true (by rw [ns_len]; omega) _ x rfl (by omega), bindM_some]
          rw [show liOf (some y) = (ns y, true) from rfl, ns_len, ns_len, if_pos (by simp; omega), v16_zero]
          have b3 := bytes3 (ns (x ++ List.replicate (8 - (x.length + y.length)) 0)) (ns y) true
          have eG : ns (x ++ List.replicate (8 - (x.length + y.length)) 0) ++ ns y = ns (x ++ (List.replicate (8 - x.length - y.length) 0 ++ y)) := by
            rw [← ns_app, List.append_assoc, Nat.sub_sub]
          rw [eG] at b3
          have := ref_bytes b3 h8 hlt 8 0 rfl
          rw [show 16 - 2 * 0 = 16 from rfl, List.take_zero, show un [] = [] from rfl, List.nil_append, show ((0 : Nat) : Int) = 0 from rfl] at this
          rw [this]; rfl
        · rw [if_pos (decide_eq_true (by omega)), if_neg h7, v16_zero]; rfl
end Go.Proofs.YtecolkjlpklaaaaDoor.Col
