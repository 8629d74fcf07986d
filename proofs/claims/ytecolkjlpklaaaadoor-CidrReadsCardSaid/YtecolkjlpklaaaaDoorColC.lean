/- What the program's reader of groups does (colon.Parse): 'Col.parseL'. -/
import Derived.Test.YtecolkjlpklaaaaDoorColS
set_option linter.unusedVariables false
set_option linter.unusedSimpArgs false
namespace Go.Proofs.YtecolkjlpklaaaaDoor.Col
open E Go.RowKit

/-! ### groups in an array -/
def ns (G : List Nat) : List Int := G.map fun n : Nat => (n : Int)
theorem ns_len (G : List Nat) : (ns G).length = G.length := by simp [ns]
def gv (G : List Nat) : Vector Int 8 := lvec 8 (ns (G ++ List.replicate (8 - G.length) 0))
theorem gv_toList {G : List Nat} (h : G.length ≤ 8) : (gv G).toList = ns (G ++ List.replicate (8 - G.length) 0) := by
  have hl : (ns (G ++ List.replicate (8 - G.length) 0)).length = 8 := by rw [ns_len]; simp; omega
  unfold gv
  rw [lvec_toList 8 _ (by omega), List.take_of_length_le (by omega)]
theorem gv_of {v : Vector Int 8} {G : List Nat} (h : v.toList = ns G) : v = gv G := by
  have hl : G.length = 8 := by have := congrArg List.length h; rw [ns_len] at this; simpa using this.symm
  apply Vector.toList_inj.1
  rw [gv_toList (by omega), h, hl]; simp
theorem gv_set {G : List Nat} (h : G.length < 8) (n : Nat) : vset (gv G) (G.length : Int) (n : Int) = gv (G ++ [n]) := by
  apply Vector.toList_inj.1
  rw [vset_toList, gv_toList (by omega), gv_toList (by simp; omega), Int.toNat_natCast]
  unfold ns
  rw [← List.map_set, List.set_append_right _ _ (Nat.le_refl _), Nat.sub_self, show 8 - G.length = (8 - (G.length + 1)) + 1 by omega, List.replicate_succ]
  simp
theorem gv_zero : (Vector.replicate 8 (0 : Int) : Vector Int 8) = gv [] := by
  apply Vector.toList_inj.1; rw [gv_toList (by simp)]; rfl
theorem ns_get (G : List Nat) (i : Nat) (n : Nat) (h : G[i]? = some n) : (ns G).getD i default = (n : Int) := by
  unfold ns; rw [List.getD_eq_getElem?_getD, List.getElem?_map, h]; rfl
theorem gv_get {G : List Nat} (h8 : G.length = 8) (i : Nat) (n : Nat) (h : G[i]? = some n) : vget (gv G) (i : Int) = (n : Int) := by
  unfold vget
  rw [gv_toList (by omega), h8, Int.toNat_natCast, show 8 - 8 = 0 from rfl, List.replicate_zero, List.append_nil]
  exact ns_get G i n h

/-! ### the reader -/
def rd (acc : List Nat) (gp : Int) : S_colon_reader := { f_g := gv acc, f_n := (acc.length : Int), f_gap := gp }
def Res (r : Option (Bool × S_colon_reader)) (o : Option (List Nat × Int)) : Prop := match o with
  | some (G, gp) => r = some (true, rd G gp)
  | none => ∃ s', r = some (false, s')
def addG (acc l : List Nat) (gp : Int) : Option (List Nat × Int) := if acc.length + l.length ≤ 8 then some (acc ++ l, gp) else none
theorem put_full {acc : List Nat} (h : acc.length = 8) (gp : Int) (x : Int) : colon_reader_put (rd acc gp) x = some (false, rd acc gp) := by
  unfold colon_reader_put
  have e : ((rd acc gp).f_n == 8) = true := by show ((acc.length : Int) == 8) = true; rw [h]; rfl
  rw [e, if_pos rfl]
theorem put_ok {acc : List Nat} (h : acc.length < 8) (gp : Int) (n : Nat) : colon_reader_put (rd acc gp) (n : Int) = some (true, rd (acc ++ [n]) gp) := by
  unfold colon_reader_put
  have e : ((rd acc gp).f_n == 8) = false := by
    show ((acc.length : Int) == 8) = false
    rw [beq_eq_false_iff_ne]; omega
  have hb : (0 : Int) ≤ (rd acc gp).f_n ∧ (rd acc gp).f_n < 8 := by show (0 : Int) ≤ (acc.length : Int) ∧ (acc.length : Int) < 8; omega
  rw [e, if_neg Bool.false_ne_true, if_pos hb]
  refine congrArg some (congrArg (Prod.mk true) ?_)
  show S_colon_reader.mk (vset (gv acc) (acc.length : Int) (n : Int)) (wr .i64 ((acc.length : Int) + 1)) gp = S_colon_reader.mk (gv (acc ++ [n])) ((acc ++ [n]).length : Int) gp
  rw [gv_set h, wr_i64 (by omega) (by omega)]
  congr 1
  simp
theorem or16 (a b : Nat) (ha : a < 256) (hb : b < 256) : ior .u16 (ishl .u16 (wr .u16 (a : Int)) 8) (wr .u16 (b : Int)) = ((256 * a + b : Nat) : Int) := by
  rw [wr_u16 (by omega) (by omega), wr_u16 (by omega) (by omega), show (8 : Int) = ((8 : Nat) : Int) from rfl, ishl_nat .u16 rfl a 8 (by decide)]
  have e : (a * 2 ^ 8) % 2 ^ IntKind.u16.bits = a * 256 := by show (a * 256) % 65536 = _; omega
  rw [e, ior_nat .u16 rfl _ _ (by show _ < 65536; omega) (by show _ < 65536; omega)]
  have h2 := Nat.two_pow_add_eq_or_of_lt (i := 8) (b := b) (by simpa using hb) a
  have e3 : 2 ^ 8 * a = a * 256 := by omega
  rw [e3] at h2
  rw [← h2, Nat.mul_comm a 256]
theorem tail_ok {acc : List Nat} (h : acc.length ≤ 8) (gp : Int) (p : List UInt8) (hp : p.length < 1000000) : Res (colon_reader_tail (rd acc gp) (bs p)) ((lst true [p]).bind fun x => addG acc x gp) := by
  unfold colon_reader_tail
  rw [Hex.read_eq, bindM_some]
  unfold lst
  cases hr : Hex.read (bs p) with
  | some n =>
    show Res (if ((0 : Int) == 0) = true then _ else _) (((lst true []).map (n :: ·)).bind _)
    rw [if_pos (by rfl)]
    show Res _ (addG acc [n] gp)
    unfold addG
    by_cases h8 : acc.length = 8
    · rw [put_full h8, if_neg (by simp; omega)]
      exact ⟨_, rfl⟩
    · rw [put_ok (by omega), if_pos (by simp; omega)]
      rfl
  | none =>
    show Res (if ((5 : Int) == 0) = true then _ else _) _
    rw [if_neg (by decide), quad_parse p hp, bindM_some]
    by_cases h0 : (quadP p).2 = 0
    · obtain ⟨m, hm, hq, _⟩ := quadP_back h0
      simp only [h0, and_self, if_pos, Option.bind_some]
      match m, hm with
      | [a, b, c, d], hm =>
        have ha := a.toNat_lt
        have hb := b.toNat_lt
        have hc := c.toNat_lt
        have hd := d.toNat_lt
        rw [hq]
        have e0 : vget (v4 [a, b, c, d]) 0 = (a.toNat : Int) := vget_v4 hm 0 a rfl
        have e1 : vget (v4 [a, b, c, d]) 1 = (b.toNat : Int) := vget_v4 hm 1 b rfl
        have e2 : vget (v4 [a, b, c, d]) 2 = (c.toNat : Int) := vget_v4 hm 2 c rfl
        have e3 : vget (v4 [a, b, c, d]) 3 = (d.toNat : Int) := vget_v4 hm 3 d rfl
        have eq : q2 (v4 [a, b, c, d]) = [256 * a.toNat + b.toNat, 256 * c.toNat + d.toNat] := by unfold q2; rw [e0, e1, e2, e3]; rfl
        show Res (if ((0 : Int) == 0) = true then (colon_reader_put (rd acc gp) (ior .u16 (ishl .u16 (wr .u16 (vget (v4 [a, b, c, d]) 0)) 8) (wr .u16 (vget (v4 [a, b, c, d]) 1))) >>= fun t7 => if t7.1 = true then (colon_reader_put t7.2 (ior .u16 (ishl .u16 (wr .u16 (vget (v4 [a, b, c, d]) 2)) 8) (wr .u16 (vget (v4 [a, b, c, d]) 3))) >>= fun t9 => some (t9.1, t9.2)) else (some (false, t7.2))) else _) (addG acc (q2 (v4 [a, b, c, d])) gp)
        rw [if_pos (by rfl), e0, e1, e2, e3, or16 _ _ ha hb, or16 _ _ hc hd, eq]
        unfold addG
        by_cases h8 : acc.length = 8
        · rw [put_full h8, bindM_some, if_neg Bool.false_ne_true, if_neg (by simp; omega)]
          exact ⟨_, rfl⟩
        · rw [put_ok (by omega), bindM_some, if_pos rfl]
          by_cases h7 : acc.length = 7
          · rw [put_full (by simp; omega), bindM_some, if_neg (by simp; omega)]
            exact ⟨_, rfl⟩
          · rw [put_ok (by simp; omega), bindM_some, if_pos (by simp; omega)]
            show _ = some (true, rd (acc ++ [_, _]) gp)
            rw [List.append_assoc]; rfl
    · have hb : ((viOf (quadP p)).2 == 0) = false := by rw [beq_eq_false_iff_ne]; show (((quadP p).2 : Nat) : Int) ≠ 0; omega
      rw [hb, if_neg Bool.false_ne_true]
      simp only [h0, false_and, if_false, Option.bind_none]
      exact ⟨_, rfl⟩
def isC : List UInt8 → Bool
  | x :: _ => x == 58
  | [] => false
def isCC : List UInt8 → Bool
  | x :: y :: _ => x == 58 && y == 58
  | _ => false
theorem isC_iff (r : List UInt8) : isC r = true ↔ ∃ r2, r = 58 :: r2 := by
  cases r with
  | nil => simp [isC]
  | cons x r => simp [isC]
theorem isCC_iff (r : List UInt8) : isCC r = true ↔ ∃ r2, r = 58 :: 58 :: r2 := by
  match r with
  | [] => simp [isCC]
  | [x] => simp [isCC]
  | x :: y :: r => simp [isCC]
theorem pre1 (r : List UInt8) : strings_HasPrefix (bs r) (⟨#[58]⟩ : ByteArray) = some (isC r) := by
  unfold strings_HasPrefix stringslite_HasPrefix
  cases r with
  | nil => rw [if_neg (by decide)]; rfl
  | cons x r =>
    have hsz : (bs (x :: r)).size = r.length + 1 := bs_size _
    have h1 : ((⟨#[58]⟩ : ByteArray).size : Int) = 1 := rfl
    rw [h1, hsz, if_pos (decide_eq_true (by omega)), if_pos (by omega), bindM_some]
    refine congrArg some ?_
    show seq ((bs (x :: r)).extract 0 1) (bs [58]) = _
    rw [bs_extract]
    by_cases hx : x = 58
    · subst hx
      exact seq_self _
    · have hf : isC (x :: r) = false := by simp [isC, hx]
      rw [hf]
      cases hc : seq (bs ((List.take 1 (x :: r)).drop 0)) (bs [58]) with
      | false => rfl
      | true =>
        have := bs_inj ((seq_iff _ _).1 hc)
        simp at this
        exact absurd this hx
theorem pre2 (r : List UInt8) : strings_HasPrefix (bs r) (⟨#[58, 58]⟩ : ByteArray) = some (isCC r) := by
  unfold strings_HasPrefix stringslite_HasPrefix
  match r with
  | [] => rw [if_neg (by decide)]; rfl
  | [x] =>
    have hsz : (bs [x]).size = 1 := bs_size _
    have h1 : ((⟨#[58, 58]⟩ : ByteArray).size : Int) = 2 := rfl
    rw [h1, hsz, if_neg (by decide)]; rfl
  | x :: y :: r =>
    have hsz : (bs (x :: y :: r)).size = r.length + 2 := bs_size _
    have h1 : ((⟨#[58, 58]⟩ : ByteArray).size : Int) = 2 := rfl
    rw [h1, hsz, if_pos (decide_eq_true (by omega)), if_pos (by omega), bindM_some]
    refine congrArg some ?_
    show seq ((bs (x :: y :: r)).extract 0 2) (bs [58, 58]) = _
    rw [bs_extract]
    by_cases hx : x = 58 ∧ y = 58
    · obtain ⟨rfl, rfl⟩ := hx
      exact seq_self _
    · have hf : isCC (x :: y :: r) = false := by
        cases hc : isCC (x :: y :: r) with
        | false => rfl
        | true => simp [isCC] at hc; exact absurd hc hx
      rw [hf]
      cases hc : seq (bs ((List.take 2 (x :: y :: r)).drop 0)) (bs [58, 58]) with
      | false => rfl
      | true =>
        have := bs_inj ((seq_iff _ _).1 hc)
        simp at this
        exact absurd this hx
/-- The two loops of (*reader).read are alike. -/
def Loop (R : ByteArray → S_colon_reader → Option (Bool × S_colon_reader)) : Prop := ∀ s st, R s st = (lines_Cut s 58 >>= fun t8 => if (!t8.2.2) = true then (colon_reader_tail st t8.1 >>= fun t10 => some (t10.1, t10.2)) else (hexes_ReadGroup t8.1 >>= fun t11 => if (t11.2 != 0) = true then (some (false, st)) else (colon_reader_put st t11.1 >>= fun t13 => if (!t13.1) = true then (some (false, t13.2)) else (strings_HasPrefix t8.2.1 (⟨#[58]⟩ : ByteArray) >>= fun t15 => if (!t15) = true then (R t8.2.1 t13.2) else (if (decide (t13.2.f_gap ≥ 0)) = true then (some (false, t13.2)) else (if (0 : Int) ≤ 1 ∧ 1 ≤ (t8.2.1.size : Int) ∧ (t8.2.1.size : Int) ≤ (t8.2.1.size : Int) then if (seq (t8.2.1.extract (Int.toNat 1) (Int.toNat (t8.2.1.size : Int))) (⟨#[]⟩ : ByteArray)) = true then (some (true, { t13.2 with f_gap := t13.2.f_n })) else (R (t8.2.1.extract (Int.toNat 1) (Int.toNat (t8.2.1.size : Int))) ({ t13.2 with f_gap := t13.2.f_n })) else none))))))
theorem loop0 : Loop colon_reader_read.l0 := fun s st => colon_reader_read.l0.eq_def s st
theorem loop1 : Loop colon_reader_read.l1 := fun s st => colon_reader_read.l1.eq_def s st
theorem seq_nil (l : List UInt8) : seq (bs l) (⟨#[]⟩ : ByteArray) = true ↔ l = [] := by
  rw [seq_iff]
  exact ⟨fun h => bs_inj (k := []) h, fun h => by rw [h]; rfl⟩
theorem res_pair {r : Option (Bool × S_colon_reader)} {o : Option (List Nat × Int)} (h : Res r o) : Res (r >>= fun t => some (t.1, t.2)) o := by
  unfold Res at *
  cases o with
  | none => obtain ⟨s', h⟩ := h; rw [h]; exact ⟨s', rfl⟩
  | some q => obtain ⟨G, gp⟩ := q; simp only at h ⊢; rw [h]; rfl
theorem res_id {r : Option (Bool × S_colon_reader)} {o : Option (List Nat × Int)} (h : Res r o) : Res (r >>= fun t => some t) o := by
  cases r <;> exact h
/-- A round of the loop: a text with a colon in it. -/
theorem round {R : ByteArray → S_colon_reader → Option (Bool × S_colon_reader)} (hR : Loop R) {acc : List Nat} (gp : Int) (p r : List UInt8) (hp : ∀ x ∈ p, x ≠ 58) (hl : p.length + r.length < 1000000) :
    (Hex.read (bs p) = none ∨ acc.length = 8 → ∃ s', R (bs (p ++ 58 :: r)) (rd acc gp) = some (false, s')) ∧
    (∀ n, Hex.read (bs p) = some n → acc.length < 8 → (∀ r2, r ≠ 58 :: r2) → R (bs (p ++ 58 :: r)) (rd acc gp) = R (bs r) (rd (acc ++ [n]) gp)) ∧
    (∀ n r2, Hex.read (bs p) = some n → acc.length < 8 → r = 58 :: r2 → 0 ≤ gp → ∃ s', R (bs (p ++ 58 :: r)) (rd acc gp) = some (false, s')) ∧
    (∀ n r2, Hex.read (bs p) = some n → acc.length < 8 → r = 58 :: r2 → gp < 0 → R (bs (p ++ 58 :: r)) (rd acc gp) = if r2 = [] then some (true, rd (acc ++ [n]) ((acc ++ [n]).length : Int)) else R (bs r2) (rd (acc ++ [n]) ((acc ++ [n]).length : Int))) := by
  have h58 : ((58 : UInt8).toNat : Int) = 58 := rfl
  have hcut := cut_some p r 58 hp hl
  rw [h58] at hcut
  have h1 : ∀ (r2 : List UInt8), r = 58 :: r2 → (bs r).extract (Int.toNat 1) (Int.toNat ((bs r).size : Int)) = bs r2 := by
    intro r2 e
    rw [Int.toNat_natCast, bs_extract, bs_size, List.take_of_length_le (Nat.le_refl _), e]; rfl
  have h2 : ∀ (r2 : List UInt8), r = 58 :: r2 → (0 : Int) ≤ 1 ∧ 1 ≤ ((bs r).size : Int) ∧ ((bs r).size : Int) ≤ ((bs r).size : Int) := by
    intro r2 e
    rw [bs_size, e, List.length_cons]; omega
  refine ⟨fun h => ?_, fun n hn h8 hr => ?_, fun n r2 hn h8 hr hg => ?_, fun n r2 hn h8 hr hg => ?_⟩
  · rw [hR, hcut, bindM_some]
    show ∃ s', (if (!true) = true then _ else _) = _
    rw [if_neg (by decide), Hex.read_eq, bindM_some]
    cases hq : Hex.read (bs p) with
    | none =>
      show ∃ s', (if ((5 : Int) != 0) = true then _ else _) = _
      rw [if_pos (by decide)]
      exact ⟨_, rfl⟩
    | some n =>
      show ∃ s', (if ((0 : Int) != 0) = true then _ else _) = _
      have h8 : acc.length = 8 := by rcases h with h | h; rw [h] at hq; cases hq; exact h
      rw [if_neg (by decide), put_full h8, bindM_some]
      exact ⟨_, rfl⟩
  · rw [hR, hcut, bindM_some]
    show (if (!true) = true then _ else _) = _
    rw [if_neg (by decide), Hex.read_eq, bindM_some, hn]
    show (if ((0 : Int) != 0) = true then _ else _) = _
    rw [if_neg (by decide), put_ok h8, bindM_some]
    show (if (!true) = true then _ else _) = _
    have hf : isC r = false := by
      cases hc : isC r with
      | false => rfl
      | true => obtain ⟨r2, h⟩ := (isC_iff r).1 hc; exact absurd h (hr r2)
    rw [if_neg (by decide), pre1, bindM_some, hf]
    rfl
  · rw [hR, hcut, bindM_some]
    show ∃ s', (if (!true) = true then _ else _) = _
    rw [if_neg (by decide), Hex.read_eq, bindM_some, hn]
    show ∃ s', (if ((0 : Int) != 0) = true then _ else _) = _
    rw [if_neg (by decide), put_ok h8, bindM_some]
    show ∃ s', (if (!true) = true then _ else _) = _
    rw [if_neg (by decide), pre1, bindM_some, (isC_iff r).2 ⟨r2, hr⟩]
    show ∃ s', (if (!true) = true then _ else (if decide (gp ≥ 0) = true then _ else _)) = _
    rw [if_neg (by decide), if_pos (decide_eq_true hg)]
    exact ⟨_, rfl⟩
  · rw [hR, hcut, bindM_some]
    show (if (!true) = true then _ else _) = _
    rw [if_neg (by decide), Hex.read_eq, bindM_some, hn]
    show (if ((0 : Int) != 0) = true then _ else _) = _
    rw [if_neg (by decide), put_ok h8, bindM_some]
    show (if (!true) = true then _ else _) = _
    rw [if_neg (by decide), pre1, bindM_some, (isC_iff r).2 ⟨r2, hr⟩]
    show (if (!true) = true then _ else (if decide (gp ≥ 0) = true then _ else (if _ then (if seq ((bs r).extract (Int.toNat 1) (Int.toNat ((bs r).size : Int))) _ = true then _ else _) else _))) = _
    rw [if_neg (by decide), if_neg (by rw [decide_eq_true_eq]; omega), if_pos (h2 r2 hr), h1 r2 hr]
    by_cases h0 : r2 = []
    · subst h0
      rw [if_pos rfl, if_pos ((seq_nil []).2 rfl)]; rfl
    · rw [if_neg h0, if_neg]; rfl
      intro e
      exact h0 ((seq_nil r2).1 e)
/-- The loop behind a gap. -/
theorem run_gap {R : ByteArray → S_colon_reader → Option (Bool × S_colon_reader)} (hR : Loop R) (gp : Int) (hg : 0 ≤ gp) : ∀ (k : Nat) (l : List UInt8) (acc : List Nat), l.length ≤ k → l.length < 1000000 → acc.length ≤ 8 →
    Res (R (bs l) (rd acc gp)) ((lst true (parts 58 l)).bind fun x => addG acc x gp) := by
  intro k
  induction k with
  | zero =>
    intro l acc hk hb h8
    obtain rfl : l = [] := List.eq_nil_of_length_eq_zero (by omega)
    have hc := cut_none [] 58 (fun x h => by cases h)
    rw [show ((58 : UInt8).toNat : Int) = 58 from rfl] at hc
    rw [hR, hc, bindM_some]
    exact res_pair (tail_ok h8 gp [] (by simp))
  | succ k ih =>
    intro l acc hk hb h8
    rcases split_at 58 l with h | ⟨p, r, rfl, h⟩
    · have hc := cut_none l 58 h
      rw [show ((58 : UInt8).toNat : Int) = 58 from rfl] at hc
      rw [hR, hc, bindM_some, parts_none _ _ h]
      exact res_pair (tail_ok h8 gp l hb)
    · have hlen : (p ++ 58 :: r).length = p.length + (r.length + 1) := by simp
      obtain ⟨c1, c2, c3, _⟩ := round hR (acc := acc) gp p r h (by omega)
      have hne := parts_ne 58 r
      rw [parts_cons 58 r p h]
      cases hr : Hex.read (bs p) with
      | none =>
        have e : lst true (p :: parts 58 r) = none := by
          unfold lst
          rw [hr]
          simp [hne]
        rw [e]; exact c1 (.inl hr)
      | some n =>
        have e : lst true (p :: parts 58 r) = (lst true (parts 58 r)).map (n :: ·) := by
          rw [lst, hr]
        rw [e]
        have hk2 : ∀ (o : Option (List Nat)), ((o.map (n :: ·)).bind fun x => addG acc x gp) = if acc.length = 8 then none else o.bind fun x => addG (acc ++ [n]) x gp := by
          intro o
          cases o with
          | none => simp
          | some x =>
            simp only [Option.map_some, Option.bind_some]
            unfold addG
            by_cases ha : acc.length = 8
            · rw [if_pos ha, if_neg (by simp; omega)]
            · rw [if_neg ha]
              by_cases hb : acc.length + (n :: x).length ≤ 8
              · rw [if_pos hb, if_pos (by simp at hb ⊢; omega)]; simp
              · rw [if_neg hb, if_neg (by simp at hb ⊢; omega)]
        rw [hk2]
        by_cases ha : acc.length = 8
        · rw [if_pos ha]; exact c1 (.inr ha)
        · rw [if_neg ha]
          by_cases hrc : ∃ r2, r = 58 :: r2
          · obtain ⟨r2, hr2⟩ := hrc
            have e3 : lst true (parts 58 r) = none := by rw [hr2, parts_colon]; exact lst_nil _ _ (.inr trivial)
            rw [e3]
            exact c3 n r2 hr (by omega) hr2 hg
          · rw [c2 n hr (by omega) fun r2 e => hrc ⟨r2, e⟩]
            exact ih r (acc ++ [n]) (by omega) (by omega) (by simp; omega)
def after (acc : List Nat) (ps : List (List UInt8)) : Option (List Nat × Int) := match spl ps with
  | none => (lst true ps).bind fun x => addG acc x (-1)
  | some (a, b) => (lst false a).bind fun x => (lstE true b).bind fun y => if acc.length + x.length + y.length ≤ 8 then some (acc ++ x ++ y, ((acc.length + x.length : Nat) : Int)) else none
theorem spl_head {p : List UInt8} {ps : List (List UInt8)} {a b : List (List UInt8)} (h : spl (p :: ps) = some (a, b)) : ∃ r, a = p :: r := by
  rw [spl] at h
  split at h
  · cases h; exact ⟨[], rfl⟩
  · cases hs : spl ps with
    | none => rw [hs] at h; cases h
    | some q => rw [hs] at h; cases h; exact ⟨q.1, rfl⟩
theorem after_none {acc : List Nat} {p : List UInt8} {ps : List (List UInt8)} (hne : ps ≠ []) (h : Hex.read (bs p) = none) : after acc (p :: ps) = none := by
  unfold after
  cases hs : spl (p :: ps) with
  | none =>
    have e : lst true (p :: ps) = none := by
      unfold lst
      rw [h]; simp [hne]
    simp only [e]; rfl
  | some q =>
    obtain ⟨a, b⟩ := q
    obtain ⟨r, rfl⟩ := spl_head hs
    have e : lst false (p :: r) = none := by
      unfold lst
      rw [h]; simp
    simp only [e]; rfl
theorem after_some {acc : List Nat} {p : List UInt8} {ps : List (List UInt8)} {n : Nat} (h : Hex.read (bs p) = some n) (hc : ¬ (ps.head? = some [] ∧ 2 ≤ ps.length)) : after acc (p :: ps) = if acc.length = 8 then none else after (acc ++ [n]) ps := by
  have e0 : spl (p :: ps) = (spl ps).map fun q => (p :: q.1, q.2) := by rw [spl, if_neg hc]
  have el : ∀ b t, lst b (p :: t) = (lst b t).map (n :: ·) := fun b t => by rw [lst, h]
  unfold after
  rw [e0]
  cases hs : spl ps with
  | none =>
    simp only [Option.map_none, el]
    cases hl : lst true ps with
    | none => simp
    | some x =>
      simp only [Option.map_some, Option.bind_some]
      unfold addG
      by_cases ha : acc.length = 8
      · rw [if_pos ha, if_neg (by simp; omega)]
      · rw [if_neg ha]
        by_cases hb : acc.length + (n :: x).length ≤ 8
        · rw [if_pos hb, if_pos (by simp at hb ⊢; omega)]; simp
        · rw [if_neg hb, if_neg (by simp at hb ⊢; omega)]
  | some q =>
    obtain ⟨a, b⟩ := q
    simp only [Option.map_some, el]
    cases hl : lst false a with
    | none => simp
    | some x =>
      simp only [Option.map_some, Option.bind_some]
      cases hl2 : lstE true b with
      | none => simp
      | some y =>
        simp only [Option.bind_some]
        by_cases ha : acc.length = 8
        · rw [if_pos ha, if_neg (by simp; omega)]
        · rw [if_neg ha]
          by_cases hb : acc.length + (n :: x).length + y.length ≤ 8
          · rw [if_pos hb, if_pos (by simp at hb ⊢; omega)]
            simp only [List.append_assoc, List.cons_append, List.nil_append, List.length_cons, List.length_append, List.length_nil]
            refine congrArg some (congrArg (Prod.mk _) ?_)
            omega
          · rw [if_neg hb, if_neg (by simp at hb ⊢; omega)]
theorem after_gap {acc : List Nat} (h8 : acc.length ≤ 8) {p : List UInt8} {r2 : List UInt8} {n : Nat} (h : Hex.read (bs p) = some n) : after acc (p :: [] :: parts 58 r2) = if acc.length = 8 then none else if r2 = [] then some (acc ++ [n], ((acc ++ [n]).length : Int)) else (lst true (parts 58 r2)).bind fun y => addG (acc ++ [n]) y ((acc ++ [n]).length : Int) := by
  have hne := parts_ne 58 r2
  have e0 : spl (p :: [] :: parts 58 r2) = some ([p], parts 58 r2) := by
    rw [spl, if_pos]; rfl
    refine ⟨rfl, ?_⟩
    cases hp : parts 58 r2 with
    | nil => exact absurd hp hne
    | cons a b => simp
  have el : lst false [p] = some [n] := by rw [lst, h]; rfl
  unfold after
  simp only [e0, el, Option.bind_some]
  unfold lstE
  by_cases h0 : r2 = []
  · subst h0
    have e : parts 58 [] = [[]] := rfl
    simp only [e, if_true, Option.bind_some]
    by_cases ha : acc.length = 8
    · rw [if_pos ha, if_neg (by simp; omega)]
    · rw [if_neg ha]
      rw [if_pos (by simp; omega)]; simp
  · rw [if_neg (fun e => h0 ((parts_nil_iff r2).1 e)), if_neg h0]
    cases hl : lst true (parts 58 r2) with
    | none => simp
    | some y =>
      simp only [Option.bind_some]
      unfold addG
      by_cases ha : acc.length = 8
      · rw [if_pos ha, if_neg (by simp; omega)]
      · rw [if_neg ha]
        by_cases hb : acc.length + [n].length + y.length ≤ 8
        · rw [if_pos hb, if_pos (by simp at hb ⊢; omega)]; simp
        · rw [if_neg hb, if_neg (by simp at hb ⊢; omega)]
/-- The loop ahead of a gap. -/
theorem run_all {R : ByteArray → S_colon_reader → Option (Bool × S_colon_reader)} (hR : Loop R) : ∀ (k : Nat) (l : List UInt8) (acc : List Nat), l.length ≤ k → l.length < 1000000 → acc.length ≤ 8 →
    Res (R (bs l) (rd acc (-1))) (after acc (parts 58 l)) := by
  intro k
  induction k with
  | zero =>
    intro l acc hk hb h8
    obtain rfl : l = [] := List.eq_nil_of_length_eq_zero (by omega)
    have hc := cut_none [] 58 (fun x h => by cases h)
    rw [show ((58 : UInt8).toNat : Int) = 58 from rfl] at hc
    rw [hR, hc, bindM_some]
    exact res_pair (tail_ok h8 (-1) [] (by simp))
  | succ k ih =>
    intro l acc hk hb h8
    rcases split_at 58 l with h | ⟨p, r, rfl, h⟩
    · have hc := cut_none l 58 h
      rw [show ((58 : UInt8).toNat : Int) = 58 from rfl] at hc
      rw [hR, hc, bindM_some, parts_none _ _ h]
      exact res_pair (tail_ok h8 (-1) l hb)
    · have hlen : (p ++ 58 :: r).length = p.length + (r.length + 1) := by simp
      obtain ⟨c1, c2, _, c4⟩ := round hR (acc := acc) (-1) p r h (by omega)
      have hne := parts_ne 58 r
      rw [parts_cons 58 r p h]
      cases hr : Hex.read (bs p) with
      | none => rw [after_none hne hr]; exact c1 (.inl hr)
      | some n =>
        by_cases hrc : ∃ r2, r = 58 :: r2
        · obtain ⟨r2, hr2⟩ := hrc
          subst hr2
          rw [parts_colon, after_gap h8 hr]
          by_cases ha : acc.length = 8
          · rw [if_pos ha]; exact c1 (.inr ha)
          · rw [if_neg ha, c4 n r2 hr (by omega) rfl (by omega)]
            by_cases h0 : r2 = []
            · rw [if_pos h0, if_pos h0]; rfl
            · rw [if_neg h0, if_neg h0]
              exact run_gap hR _ (by omega) r2.length r2 (acc ++ [n]) (Nat.le_refl _) (by simp only [List.length_append, List.length_cons] at hb; omega) (by simp; omega)
        · rw [after_some hr (fun hc => hrc ((parts_head r).1 hc))]
          by_cases ha : acc.length = 8
          · rw [if_pos ha]; exact c1 (.inr ha)
          · rw [if_neg ha, c2 n hr (by omega) fun r2 e => hrc ⟨r2, e⟩]
            exact ih r (acc ++ [n]) (by omega) (by omega) (by simp; omega)
/-! ### the whole -/
def readL (l : List UInt8) : Option (List Nat × Int) := if isCC l = true then (if l.drop 2 = [] then some ([], 0) else (lst true (parts 58 (l.drop 2))).bind fun x => addG [] x 0) else after [] (parts 58 l)
theorem read_ok (l : List UInt8) (hb : l.length < 1000000) : Res (colon_reader_read (rd [] (-1)) (bs l)) (readL l) := by
  unfold colon_reader_read readL
  rw [pre2, bindM_some]
  by_cases hc : isCC l = true
  · obtain ⟨r, rfl⟩ := (isCC_iff l).1 hc
    have hg : (0 : Int) ≤ 2 ∧ 2 ≤ ((bs (58 :: 58 :: r)).size : Int) ∧ ((bs (58 :: 58 :: r)).size : Int) ≤ ((bs (58 :: 58 :: r)).size : Int) := by
      rw [bs_size, List.length_cons, List.length_cons]; omega
    have hx : (bs (58 :: 58 :: r)).extract (Int.toNat 2) (Int.toNat ((bs (58 :: 58 :: r)).size : Int)) = bs r := by
      rw [Int.toNat_natCast, bs_extract, bs_size, List.take_of_length_le (Nat.le_refl _)]; rfl
    rw [if_pos hc, if_pos hc, if_pos hg, hx]
    show Res (if seq (bs r) (⟨#[]⟩ : ByteArray) = true then _ else _) (if r = [] then _ else _)
    by_cases h0 : r = []
    · subst h0
      rw [if_pos rfl, if_pos ((seq_nil []).2 rfl)]; rfl
    · rw [if_neg h0, if_neg (fun e => h0 ((seq_nil r).1 e))]
      exact res_id (run_gap loop0 0 (by omega) r.length r [] (Nat.le_refl _) (by simp only [List.length_cons] at hb; omega) (by simp))
  · rw [if_neg hc, if_neg hc]
    exact res_id (run_all loop1 l.length l [] (Nat.le_refl _) hb (by simp))
def fin (q : List Nat × Int) : Option (List Nat) := if q.2 < 0 then (if q.1.length = 8 then some q.1 else none) else if q.1.length = 8 then none else some (q.1.take q.2.toNat ++ (List.replicate (8 - q.1.length) 0 ++ q.1.drop q.2.toNat))
theorem addG_some {acc l : List Nat} {gp : Int} {q : List Nat × Int} (h : addG acc l gp = some q) : q.1.length ≤ 8 ∧ q.2 = gp := by
  unfold addG at h
  split at h
  · cases h; simp; omega
  · cases h
theorem readL_ok {l : List UInt8} {q : List Nat × Int} (h : readL l = some q) : q.1.length ≤ 8 ∧ q.2 ≤ q.1.length := by
  unfold readL at h
  split at h
  · split at h
    · cases h; simp
    · obtain ⟨x, _, h⟩ := Option.bind_eq_some_iff.1 h
      have := addG_some h
      omega
  · unfold after at h
    split at h
    · obtain ⟨x, _, h⟩ := Option.bind_eq_some_iff.1 h
      have := addG_some h
      omega
    · obtain ⟨x, _, h⟩ := Option.bind_eq_some_iff.1 h
      obtain ⟨y, _, h⟩ := Option.bind_eq_some_iff.1 h
      split at h
      · cases h; simp at *; omega
      · cases h
theorem spl_ne : ∀ {ps : List (List UInt8)} {a b : List (List UInt8)}, spl ps = some (a, b) → a ≠ []
  | [], _, _, h => by cases h
  | p :: r, a, b, h => by
    obtain ⟨t, rfl⟩ := spl_head h
    simp
theorem spl_colons {l : List UInt8} {b : List (List UInt8)} (h : spl (parts 58 l) = some ([[]], b)) : isCC l = true := by
  have hne := parts_ne 58 l
  cases hp : parts 58 l with
  | nil => exact absurd hp hne
  | cons p r =>
    rw [hp, spl] at h
    split at h
    · next hc =>
      simp only [Option.some.injEq, Prod.mk.injEq, List.cons.injEq, and_true] at h
      obtain ⟨rfl, _⟩ := h
      obtain ⟨l2, rfl⟩ := (parts_head l).1 ⟨by rw [hp]; rfl, by rw [hp]; simp; omega⟩
      rw [parts_colon] at hp
      obtain rfl := (List.cons.inj hp).2
      obtain ⟨l3, rfl⟩ := (parts_head l2).1 hc
      rfl
    · cases hs : spl r with
      | none => rw [hs] at h; cases h
      | some q =>
        rw [hs] at h
        simp only [Option.map_some, Option.some.injEq, Prod.mk.injEq, List.cons.injEq] at h
        obtain ⟨a, b'⟩ := q
        exact absurd h.1.2 (spl_ne hs)
theorem parse_read (l : List UInt8) : parseL l = (readL l).bind fin := by
  unfold readL
  by_cases hc : isCC l = true
  · obtain ⟨r, rfl⟩ := (isCC_iff l).1 hc
    rw [if_pos hc]
    have hne := parts_ne 58 r
    have e0 : spl (parts 58 (58 :: 58 :: r)) = some ([[]], parts 58 r) := by
      rw [parts_colon, parts_colon, spl, if_pos]; rfl
      refine ⟨rfl, ?_⟩
      cases hp : parts 58 r with
      | nil => exact absurd hp hne
      | cons a b => simp
    have e1 : lstE false [[]] = some [] := rfl
    unfold parseL
    simp only [e0, e1, Option.bind_some]
    show _ = (if r = [] then _ else (lst true (parts 58 r)).bind _ : Option (List Nat × Int)).bind fin
    by_cases h0 : r = []
    · subst h0; rfl
    · rw [if_neg h0]
      unfold lstE
      rw [if_neg (fun e => h0 ((parts_nil_iff r).1 e))]
      cases hl : lst true (parts 58 r) with
      | none => rfl
      | some y =>
        simp only [Option.bind_some]
        unfold addG
        by_cases h7 : y.length ≤ 7
        · rw [if_pos (by simp; omega), if_pos (by simp; omega)]
          show _ = fin (y, 0)
          unfold fin
          simp only [Int.lt_irrefl, if_false]
          rw [if_neg (by omega)]
          simp
        · rw [if_neg (by simp; omega)]
          by_cases h8 : y.length = 8
          · rw [if_pos (by simp; omega)]
            show _ = fin (y, 0)
            unfold fin
            simp only [Int.lt_irrefl, if_false]
            rw [if_pos h8]
          · rw [if_neg (by simp; omega)]; rfl
  · rw [if_neg hc]
    unfold parseL after
    cases hs : spl (parts 58 l) with
    | none =>
      simp only
      cases hl : lst true (parts 58 l) with
      | none => rfl
      | some x =>
        simp only [Option.bind_some]
        unfold addG
        by_cases h8 : x.length = 8
        · rw [if_pos h8, if_pos (by simp; omega)]
          show _ = fin (x, -1)
          unfold fin
          rw [if_pos (by show (-1 : Int) < 0; omega), if_pos h8]
        · rw [if_neg h8]
          by_cases h9 : x.length ≤ 8
          · rw [if_pos (by simp; omega)]
            show _ = fin (x, -1)
            unfold fin
            rw [if_pos (by show (-1 : Int) < 0; omega), if_neg h8]
          · rw [if_neg (by simp; omega)]; rfl
    | some q =>
      obtain ⟨a, b⟩ := q
      simp only
      have ea : lstE false a = lst false a := by
        unfold lstE
        rw [if_neg]
        intro e; subst e
        exact hc (spl_colons hs)
      rw [ea]
      cases hl : lst false a with
      | none => rfl
      | some x =>
        simp only [Option.bind_some]
        cases hl2 : lstE true b with
        | none => rfl
        | some y =>
          simp only [Option.bind_some, List.nil_append, List.length_nil, Nat.zero_add]
          by_cases h8 : x.length + y.length ≤ 8
          · rw [if_pos h8]
            show _ = fin (x ++ y, ((x.length : Nat) : Int))
            unfold fin
            simp only [Int.toNat_natCast, List.take_left', List.drop_left', List.length_append]
            rw [if_neg (show ¬ ((x.length : Nat) : Int) < 0 by omega)]
            by_cases h7 : x.length + y.length ≤ 7
            · rw [if_pos h7, if_neg (by omega), Nat.sub_sub]
            · rw [if_neg h7, if_pos (by omega)]
          · rw [if_neg h8, if_neg (by omega)]; rfl
/-! ### spread out -/
theorem ns_take (G : List Nat) (k : Nat) : (ns G).take k = ns (G.take k) := by unfold ns; rw [List.map_take]
theorem ns_drop (G : List Nat) (k : Nat) : (ns G).drop k = ns (G.drop k) := by unfold ns; rw [List.map_drop]
theorem ns_app (G H : List Nat) : ns (G ++ H) = ns G ++ ns H := by unfold ns; rw [List.map_append]
theorem spread_ok {G : List Nat} {gp : Int} (h8 : G.length ≤ 8) (hg : gp ≤ G.length) (hg1 : -1 ≤ gp) : ∃ v, colon_reader_spread (rd G gp) = some (v, (fin (G, gp)).isSome, rd G gp) ∧ ∀ K, fin (G, gp) = some K → v = gv K ∧ K.length = 8 := by
  unfold colon_reader_spread fin
  show ∃ v, (if decide (gp < 0) = true then some (gv G, ((G.length : Int) == 8), rd G gp) else if ((G.length : Int) == 8) = true then some (gv G, false, rd G gp) else _) = _ ∧ _
  by_cases hn : gp < 0
  · rw [if_pos (decide_eq_true hn)]
    simp only [hn, if_true]
    by_cases h : G.length = 8
    · rw [if_pos h]
      exact ⟨gv G, by rw [h]; rfl, fun K hK => by cases hK; exact ⟨rfl, h⟩⟩
    · rw [if_neg h]
      have e : ((G.length : Int) == 8) = false := by rw [beq_eq_false_iff_ne]; omega
      exact ⟨gv G, by rw [e]; rfl, fun K hK => by cases hK⟩
  · rw [if_neg (by rw [decide_eq_true_eq]; exact hn)]
    simp only [hn, if_false]
    by_cases h : G.length = 8
    · rw [if_pos h]
      have e : ((G.length : Int) == 8) = true := by rw [h]; rfl
      exact ⟨gv G, by rw [e]; rfl, fun K hK => by cases hK⟩
    · rw [if_neg h]
      have e : ((G.length : Int) == 8) = false := by rw [beq_eq_false_iff_ne]; omega
      rw [e, if_neg Bool.false_ne_true]
      obtain ⟨g, rfl⟩ := Int.eq_ofNat_of_zero_le (show 0 ≤ gp by omega)
      have hgl : g ≤ G.length := by omega
      have w1 : wr .i64 (8 - (G.length : Int)) = ((8 - G.length : Nat) : Int) := by rw [wr_i64 (by omega) (by omega)]; omega
      have w2 : wr .i64 (((8 - G.length : Nat) : Int) + (g : Int)) = ((8 - G.length + g : Nat) : Int) := by rw [wr_i64 (by omega) (by omega)]; omega
      show ∃ v, (if (0 : Int) ≤ 0 ∧ (0 : Int) ≤ (g : Int) ∧ (g : Int) ≤ 8 then if (0 : Int) ≤ wr .i64 (wr .i64 (8 - (G.length : Int)) + (g : Int)) ∧ wr .i64 (wr .i64 (8 - (G.length : Int)) + (g : Int)) ≤ 8 ∧ (8 : Int) ≤ 8 then if (0 : Int) ≤ (g : Int) ∧ (g : Int) ≤ (G.length : Int) ∧ (G.length : Int) ≤ 8 then some (vcopy (vcopy (Vector.replicate 8 (0 : Int) : Vector Int 8) (Int.toNat 0) (List.take (Int.toNat (8 - 0)) (lsub (Vector.toList (gv G)) 0 (g : Int)))) (Int.toNat (wr .i64 (wr .i64 (8 - (G.length : Int)) + (g : Int)))) (List.take (Int.toNat (8 - wr .i64 (wr .i64 (8 - (G.length : Int)) + (g : Int)))) (lsub (Vector.toList (gv G)) (g : Int) (G.length : Int))), true, rd G (g : Int)) else none else none else none) = _ ∧ _
      rw [w1, w2, if_pos (by omega), if_pos (by omega), if_pos (by omega)]
      have t1 : List.take (Int.toNat (8 - 0)) (lsub (Vector.toList (gv G)) 0 (g : Int)) = ns (G.take g) := by
        unfold lsub
        rw [gv_toList h8, Int.toNat_natCast, ns_take, List.take_append_of_le_length hgl]
        show List.take 8 (ns (G.take g)) = _
        exact List.take_of_length_le (by rw [ns_len, List.length_take]; omega)
      have t2 : List.take (Int.toNat (8 - ((8 - G.length + g : Nat) : Int))) (lsub (Vector.toList (gv G)) (g : Int) (G.length : Int)) = ns (G.drop g) := by
        unfold lsub
        rw [gv_toList h8, Int.toNat_natCast, Int.toNat_natCast, ns_take, List.take_left' rfl, ns_drop]
        exact List.take_of_length_le (by rw [ns_len, List.length_drop]; omega)
      rw [t1, t2, Int.toNat_natCast]
      refine ⟨_, rfl, fun K hK => ?_⟩
      cases hK
      have hz : (Vector.replicate 8 (0 : Int) : Vector Int 8).toList = ns (List.replicate 8 0) := by simp [ns]
      have c1 : (vcopy (Vector.replicate 8 (0 : Int) : Vector Int 8) (Int.toNat 0) (ns (G.take g))).toList = ns (G.take g ++ List.replicate (8 - g) 0) := by
        rw [vcopy_toList _ _ _ (by rw [ns_len, List.length_take]; show 0 + _ ≤ 8; omega), hz, ns_len, List.length_take, Nat.min_eq_left hgl, ns_drop, ns_app]
        show [] ++ ns (G.take g) ++ ns ((List.replicate 8 0).drop (0 + g)) = _
        rw [List.nil_append, List.drop_replicate, Nat.zero_add]
      constructor
      · apply gv_of
        rw [vcopy_toList _ _ _ (by rw [ns_len, List.length_drop]; omega), c1, ns_len, List.length_drop, ns_take, ns_drop, ← ns_app, ← ns_app]
        congr 1
        have hA : (G.take g).length = g := by rw [List.length_take]; omega
        have e5 : (G.take g ++ List.replicate (8 - g) 0).drop (8 - G.length + g + (G.length - g)) = [] := List.drop_eq_nil_of_le (by simp; omega)
        rw [e5, List.append_nil, List.take_append, List.take_of_length_le (by omega), hA, List.take_replicate]
        rw [show min (8 - G.length + g - g) (8 - g) = 8 - G.length by omega, Int.toNat_natCast, List.append_assoc]
      · simp; omega
/-! ### bytes -/
def v16 (m : List UInt8) : Vector Int 16 := lvec 16 (ob m)
theorem v16_toList {m : List UInt8} (h : m.length = 16) : (v16 m).toList = ob m := by
  unfold v16
  rw [lvec_toList 16 _ (by rw [ob_length]; omega), List.take_of_length_le (by rw [ob_length]; omega)]
theorem v16_of {v : Vector Int 16} {m : List UInt8} (h : v.toList = ob m) : v = v16 m := by
  have hl : m.length = 16 := by have := congrArg List.length h; rw [ob_length] at this; simpa using this.symm
  apply Vector.toList_inj.1
  rw [v16_toList hl, h]
theorem v16_zero : (Vector.replicate 16 (0 : Int) : Vector Int 16) = v16 (List.replicate 16 0) := v16_of rfl
theorem v16_set {m : List UInt8} (h : m.length = 16) (i : Nat) (c : UInt8) : vset (v16 m) (i : Int) (c.toNat : Int) = v16 (m.set i c) := by
  apply Vector.toList_inj.1
  rw [vset_toList, v16_toList h, v16_toList (by simpa using h), Int.toNat_natCast]
  unfold ob
  rw [List.map_set]
theorem v16_get {m : List UInt8} (h : m.length = 16) (i : Nat) (c : UInt8) (hc : m[i]? = some c) : vget (v16 m) (i : Int) = (c.toNat : Int) := by
  unfold vget
  rw [v16_toList h, Int.toNat_natCast, List.getD_eq_getElem?_getD]
  unfold ob
  rw [List.getElem?_map, hc]; rfl
theorem v16_inj {l k : List UInt8} (hl : l.length = 16) (hk : k.length = 16) (h : v16 l = v16 k) : l = k := by
  have := congrArg Vector.toList h
  rw [v16_toList hl, v16_toList hk] at this
  exact ob_inj this
theorem set2 (A : List UInt8) (k : Nat) (x y : UInt8) : ((A ++ List.replicate (k + 2) 0).set A.length x).set (A.length + 1) y = A ++ (x :: y :: List.replicate k 0) := by
  rw [List.set_append_right _ _ (Nat.le_refl _), Nat.sub_self, List.replicate_succ, List.replicate_succ, List.set_cons_zero, List.set_append_right _ _ (by omega), show A.length + 1 - A.length = 1 by omega]
  rfl
theorem un_step (G : List Nat) (i n : Nat) (h : G[i]? = some n) : un (G.take (i + 1)) = un (G.take i) ++ [UInt8.ofNat (n / 256), UInt8.ofNat (n % 256)] := by
  rw [List.take_add_one, h, un_app]; rfl
theorem put2 (G : List Nat) (h8 : G.length = 8) (i n : Nat) (hi : i < 8) (h : G[i]? = some n) (hn : n < 65536) (x y : Int) (hx : x = ((n / 256 : Nat) : Int)) (hy : y = ((n % 256 : Nat) : Int)) :
    vset (vset (v16 (un (G.take i) ++ List.replicate (16 - 2 * i) 0)) ((2 * i : Nat) : Int) x) ((2 * i + 1 : Nat) : Int) y = v16 (un (G.take (i + 1)) ++ List.replicate (16 - 2 * (i + 1)) 0) := by
  have hA : (un (G.take i)).length = 2 * i := by rw [un_len, List.length_take]; omega
  have e1 : ((UInt8.ofNat (n / 256)).toNat : Int) = ((n / 256 : Nat) : Int) := by rw [UInt8.toNat_ofNat', Nat.mod_eq_of_lt (by omega)]
  have e2 : ((UInt8.ofNat (n % 256)).toNat : Int) = ((n % 256 : Nat) : Int) := by rw [UInt8.toNat_ofNat', Nat.mod_eq_of_lt (by omega)]
  subst hx hy
  rw [← e1, ← e2, v16_set (by simp [hA]; omega), v16_set (by simp [hA]; omega), un_step G i n h, show 16 - 2 * i = (16 - 2 * (i + 1)) + 2 by omega]
  have := set2 (un (G.take i)) (16 - 2 * (i + 1)) (UInt8.ofNat (n / 256)) (UInt8.ofNat (n % 256))
  rw [hA] at this
  rw [this, List.append_assoc]; rfl
theorem bytes_loop {G : List Nat} (h8 : G.length = 8) (hG : ∀ n ∈ G, n < 65536) (b : Bool) (st : S_colon_reader) : ∀ (k i : Nat), i + k = 8 → colon_Parse.l0 (gv G, b, st) (i : Int) (v16 (un (G.take i) ++ List.replicate (16 - 2 * i) 0)) = some (v16 (un G)) := by
  intro k
  induction k with
  | zero =>
    intro i hi
    obtain rfl : i = 8 := by omega
    rw [colon_Parse.l0.eq_def, if_neg (by decide), List.take_of_length_le (by omega)]
    simp
  | succ k ih =>
    intro i hi
    have hlt : i < 8 := by omega
    obtain ⟨n, hn⟩ : ∃ n, G[i]? = some n := ⟨_, List.getElem?_eq_getElem (by omega)⟩
    have hn6 := hG n (List.mem_of_getElem? hn)
    have w1 : wr .i64 (2 * (i : Int)) = ((2 * i : Nat) : Int) := by rw [wr_i64 (by omega) (by omega)]; omega
    have w2 : wr .i64 (((2 * i : Nat) : Int) + 1) = ((2 * i + 1 : Nat) : Int) := by rw [wr_i64 (by omega) (by omega)]; omega
    have w3 : wr .i64 ((i : Int) + 1) = ((i + 1 : Nat) : Int) := by rw [wr_i64 (by omega) (by omega)]; omega
    have hv : vget (gv G) (i : Int) = (n : Int) := gv_get h8 i n hn
    rw [colon_Parse.l0.eq_def, if_pos (decide_eq_true (by omega)), if_pos (by omega), w1, w2, if_pos (by omega), if_pos (by omega), w3]
    show colon_Parse.l0 (gv G, b, st) _ (vset (vset _ _ (wr .u8 (ishr .u16 (vget (gv G) (i : Int)) 8))) _ (wr .u8 (vget (gv G) (i : Int)))) = _
    rw [hv, put2 G h8 i n hlt hn hn6]
    · exact ih (i + 1) (by omega)
    · rw [show (8 : Int) = ((8 : Nat) : Int) from rfl, ishr_nat .u16 n 8 (by decide), wr_u8 (by omega) (by show ((n / 256 : Nat) : Int) < 256; omega)]
    · rw [wr_u8_mod]; omega
theorem lst_lt (last : Bool) : ∀ (ps : List (List UInt8)) (x : List Nat), lst last ps = some x → ∀ n ∈ x, n < 65536
  | [], x, h, n, hn => by cases h; cases hn
  | p :: r, x, h, n, hn => by
    rw [lst] at h
    cases hr : Hex.read (bs p) with
    | some m =>
      rw [hr] at h
      obtain ⟨y, hy, rfl⟩ := Option.map_eq_some_iff.1 h
      rcases List.mem_cons.1 hn with rfl | hn
      · exact Hex.read_lt _ _ hr
      · exact lst_lt last r y hy n hn
    | none =>
      rw [hr] at h
      simp only at h
      split at h
      · next hq =>
        cases h
        obtain ⟨m, hm, hq2, _⟩ := quadP_back hq.1
        match m, hm with
        | [a, b, c, d], hm =>
          have ha := a.toNat_lt
          have hb := b.toNat_lt
          have hc := c.toNat_lt
          have hd := d.toNat_lt
          have e0 : vget (v4 [a, b, c, d]) 0 = (a.toNat : Int) := vget_v4 hm 0 a rfl
          have e1 : vget (v4 [a, b, c, d]) 1 = (b.toNat : Int) := vget_v4 hm 1 b rfl
          have e2 : vget (v4 [a, b, c, d]) 2 = (c.toNat : Int) := vget_v4 hm 2 c rfl
          have e3 : vget (v4 [a, b, c, d]) 3 = (d.toNat : Int) := vget_v4 hm 3 d rfl
          rw [hq2] at hn
          unfold q2 at hn
          simp only [e0, e1, e2, e3, Int.toNat_natCast, List.mem_cons, List.not_mem_nil, or_false] at hn
          omega
      · cases h
theorem lstE_lt {last : Bool} {ps : List (List UInt8)} {x : List Nat} (h : lstE last ps = some x) : ∀ n ∈ x, n < 65536 := by
  unfold lstE at h
  split at h
  · cases h; intro n hn; cases hn
  · exact lst_lt last ps x h
theorem parseL_ok {l : List UInt8} {G : List Nat} (h : parseL l = some G) : G.length = 8 ∧ ∀ n ∈ G, n < 65536 := by
  unfold parseL at h
  split at h
  · obtain ⟨x, hx, h⟩ := Option.bind_eq_some_iff.1 h
    split at h
    · next h8 => cases h; exact ⟨h8, lst_lt _ _ _ hx⟩
    · cases h
  · obtain ⟨x, hx, h⟩ := Option.bind_eq_some_iff.1 h
    obtain ⟨y, hy, h⟩ := Option.bind_eq_some_iff.1 h
    split at h
    · cases h
      refine ⟨by simp; omega, fun n hn => ?_⟩
      rcases List.mem_append.1 hn with hn | hn
      · exact lstE_lt hx n hn
      · rcases List.mem_append.1 hn with hn | hn
        · have := List.eq_of_mem_replicate hn; omega
        · exact lstE_lt hy n hn
    · cases h
def parseV (l : List UInt8) : Vector Int 16 := v16 (match parseL l with | some G => un G | none => List.replicate 16 0)
theorem colon_parse (l : List UInt8) (hb : l.length < 1000000) : colon_Parse (bs l) = some (parseV l, if (parseL l).isSome then 0 else 5) := by
  unfold colon_Parse parseV
  have h0 : ({ ({ f_g := (Vector.replicate 8 (0 : Int) : (Vector Int 8)), f_n := (0 : Int), f_gap := (0 : Int) } : S_colon_reader) with f_gap := (-1) } : S_colon_reader) = rd [] (-1) := by
    show S_colon_reader.mk _ _ _ = S_colon_reader.mk _ _ _
    rw [gv_zero]; rfl
  rw [h0, parse_read]
  have hr := read_ok l hb
  cases hq : readL l with
  | none =>
    rw [hq] at hr
    obtain ⟨s', hr⟩ := hr
    rw [hr, bindM_some]
    show (if (!false) = true then _ else _) = _
    rw [if_pos (show (!false) = true from rfl), v16_zero]; rfl
  | some q =>
    obtain ⟨G, gp⟩ := q
    rw [hq] at hr
    have hr' : colon_reader_read (rd [] (-1)) (bs l) = some (true, rd G gp) := hr
    rw [hr', bindM_some]
    show (if (!true) = true then _ else _) = _
    obtain ⟨h8, hg⟩ := readL_ok hq
    have hg1 : -1 ≤ gp := by
      unfold readL at hq
      split at hq
      · split at hq
        · cases hq; omega
        · obtain ⟨x, _, hq⟩ := Option.bind_eq_some_iff.1 hq
          have := (addG_some hq).2
          simp only at this; omega
      · unfold after at hq
        split at hq
        · obtain ⟨x, _, hq⟩ := Option.bind_eq_some_iff.1 hq
          have := (addG_some hq).2
          simp only at this; omega
        · obtain ⟨x, _, hq⟩ := Option.bind_eq_some_iff.1 hq
          obtain ⟨y, _, hq⟩ := Option.bind_eq_some_iff.1 hq
          split at hq
          · cases hq; omega
          · cases hq
    obtain ⟨v, hv, hK⟩ := spread_ok h8 hg hg1
    rw [if_neg (by decide)]
    show (colon_reader_spread (rd G gp) >>= fun t5 => _) = _
    rw [hv, bindM_some]
    show (if (!(fin (G, gp)).isSome) = true then _ else _) = some (v16 (match fin (G, gp) with | some K => un K | none => List.replicate 16 0), if (fin (G, gp)).isSome = true then 0 else 5)
    cases hf : fin (G, gp) with
    | none =>
      rw [if_pos (show (!(none : Option (List Nat)).isSome) = true from rfl), v16_zero]; rfl
    | some K =>
      obtain ⟨hv2, hK8⟩ := hK K hf
      have hlt : ∀ n ∈ K, n < 65536 := (parseL_ok (l := l) (G := K) (by rw [parse_read, hq]; exact hf)).2
      rw [if_neg (show ¬ (!(some K).isSome) = true from Bool.false_ne_true), v16_zero, hv2]
      have := bytes_loop hK8 hlt true (rd G gp) 8 0 rfl
      rw [show 16 - 2 * 0 = 16 from rfl, List.take_zero, show un [] = [] from rfl, List.nil_append, show ((0 : Nat) : Int) = 0 from rfl] at this
      show (colon_Parse.l0 (gv K, true, rd G gp) 0 (v16 (List.replicate 16 0)) >>= fun q9 => _) = _
      rw [this]; rfl
end Go.Proofs.YtecolkjlpklaaaaDoor.Col
