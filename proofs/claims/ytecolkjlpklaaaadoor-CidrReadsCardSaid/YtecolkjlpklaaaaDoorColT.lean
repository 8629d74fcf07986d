/- The texts of sixteen bytes (colon.Text; the document's Text): 'Col.textL'. -/
import Derived.Test.YtecolkjlpklaaaaDoorColC
set_option linter.unusedVariables false
set_option linter.unusedSimpArgs false
namespace Go.Proofs.YtecolkjlpklaaaaDoor.Col
open E Go.RowKit

theorem gr_get : ∀ (l : List UInt8) (i : Nat) (a b : UInt8), l[2 * i]? = some a → l[2 * i + 1]? = some b → (gr l)[i]? = some (256 * a.toNat + b.toNat)
  | x :: y :: r, 0, a, b, ha, hb => by simp at ha hb; subst ha hb; rfl
  | x :: y :: r, i + 1, a, b, ha, hb => by
    have e1 : 2 * (i + 1) = 2 * i + 1 + 1 := by omega
    have e2 : 2 * (i + 1) + 1 = 2 * i + 1 + 1 + 1 := by omega
    rw [e1] at ha
    rw [e2] at hb
    simp only [List.getElem?_cons_succ] at ha hb
    exact gr_get r i a b ha hb
  | [x], i, a, b, ha, hb => by
    cases i with
    | zero => simp at hb
    | succ i => have : 2 * (i + 1) = (2 * i + 1) + 1 := by omega
                rw [this] at ha; simp at ha
  | [], i, a, b, ha, hb => by simp at ha
theorem ofBig2 (a b : UInt8) : endian_OfBig (ob [a, b]) = some (((256 * a.toNat + b.toNat : Nat) : Int), 0) := by
  have ha := a.toNat_lt
  have hb := b.toNat_lt
  have e1 : ior .u64 (ishl .u64 0 8) (wr .u64 (a.toNat : Int)) = (a.toNat : Int) := by
    rw [wr_u64 (by omega) (by omega), show (8 : Int) = ((8 : Nat) : Int) from rfl, show (0 : Int) = ((0 : Nat) : Int) from rfl, ishl_nat .u64 rfl 0 8 (by decide), ior_nat .u64 rfl _ _ (by decide) (by show _ < 18446744073709551616; omega)]
    simp
  have e2 : ior .u64 (ishl .u64 (a.toNat : Int) 8) (wr .u64 (b.toNat : Int)) = ((256 * a.toNat + b.toNat : Nat) : Int) := by
    rw [wr_u64 (by omega) (by omega), show (8 : Int) = ((8 : Nat) : Int) from rfl, ishl_nat .u64 rfl a.toNat 8 (by decide)]
    have e : (a.toNat * 2 ^ 8) % 2 ^ IntKind.u64.bits = a.toNat * 256 := by show (a.toNat * 256) % 18446744073709551616 = _; omega
    rw [e, ior_nat .u64 rfl _ _ (by show _ < 18446744073709551616; omega) (by show _ < 18446744073709551616; omega)]
    have h2 := Nat.two_pow_add_eq_or_of_lt (i := 8) (b := b.toNat) (by simpa using hb) a.toNat
    have e3 : 2 ^ 8 * a.toNat = a.toNat * 256 := by omega
    rw [e3] at h2
    rw [← h2, Nat.mul_comm a.toNat 256]
  have l0 : lget (ob [a, b]) 0 = (a.toNat : Int) := rfl
  have l1 : lget (ob [a, b]) 1 = (b.toNat : Int) := rfl
  have hl : ((ob [a, b]).length : Int) = 2 := rfl
  unfold endian_OfBig endian_sized
  rw [hl, if_pos (by decide), bindM_some]
  show (if (!true) = true then _ else _) = _
  rw [if_neg (by decide), endian_OfBig.l0.eq_def, hl, if_pos (by decide), if_pos (by decide), l0, e1, show wr .i64 (0 + 1) = 1 from rfl, endian_OfBig.l0.eq_def, hl, if_pos (by decide), if_pos (by decide), l1, e2, show wr .i64 (1 + 1) = 2 from rfl, endian_OfBig.l0.eq_def, hl, if_neg (by decide), bindM_some]
theorem groups_loop {m : List UInt8} (hm : m.length = 16) : ∀ (k i : Nat), i + k = 8 → colon_groups.l0 (v16 m) (i : Int) (gv ((gr m).take i)) = some (gv (gr m)) := by
  have hg : (gr m).length = 8 := by rw [gr_len, hm]
  intro k
  induction k with
  | zero =>
    intro i hi
    obtain rfl : i = 8 := by omega
    rw [colon_groups.l0.eq_def, if_neg (by decide), List.take_of_length_le (by omega)]
  | succ k ih =>
    intro i hi
    have w1 : wr .i64 (2 * (i : Int)) = ((2 * i : Nat) : Int) := by rw [wr_i64 (by omega) (by omega)]; omega
    have w2 : wr .i64 (((2 * i : Nat) : Int) + 2) = ((2 * i + 2 : Nat) : Int) := by rw [wr_i64 (by omega) (by omega)]; omega
    have w3 : wr .i64 ((i : Int) + 1) = ((i + 1 : Nat) : Int) := by rw [wr_i64 (by omega) (by omega)]; omega
    obtain ⟨a, ha⟩ : ∃ a, m[2 * i]? = some a := ⟨_, List.getElem?_eq_getElem (by omega)⟩
    obtain ⟨b, hb⟩ : ∃ b, m[2 * i + 1]? = some b := ⟨_, List.getElem?_eq_getElem (by omega)⟩
    have hn := gr_get m i a b ha hb
    have la := a.toNat_lt
    have lb := b.toNat_lt
    have hs : lsub (Vector.toList (v16 m)) ((2 * i : Nat) : Int) ((2 * i + 2 : Nat) : Int) = ob [a, b] := by
      unfold lsub
      rw [v16_toList hm, Int.toNat_natCast, Int.toNat_natCast]
      unfold ob
      rw [← List.map_take, ← List.map_drop]
      congr 1
      rw [List.take_add_one, List.take_add_one, ha, hb]
      have hl : (m.take (2 * i)).length = 2 * i := by rw [List.length_take]; omega
      simp only [Option.toList]
      rw [List.append_assoc, List.drop_left' hl]; rfl
    have hi8 : ((gr m).take i).length = i := by rw [List.length_take]; omega
    rw [colon_groups.l0.eq_def, if_pos (decide_eq_true (by omega)), w1, w2, if_pos (by omega), hs, ofBig2, bindM_some, if_pos (by omega), w3]
    show colon_groups.l0 (v16 m) _ (vset (gv ((gr m).take i)) (i : Int) (wr .u16 ((256 * a.toNat + b.toNat : Nat) : Int))) = _
    rw [wr_u16 (by omega) (by omega)]
    have h2 := gv_set (G := (gr m).take i) (by omega) (256 * a.toNat + b.toNat)
    rw [hi8] at h2
    have h3 := ih (i + 1) (by omega)
    rw [List.take_add_one, hn] at h3
    rw [h2]; exact h3
theorem groups_ok {m : List UInt8} (hm : m.length = 16) : colon_groups (v16 m) = some (gv (gr m)) := by
  unfold colon_groups
  have := groups_loop hm 8 0 rfl
  rw [List.take_zero, ← gv_zero, show ((0 : Nat) : Int) = 0 from rfl] at this
  rw [this, bindM_some]
/-! ### the longest run -/
theorem zp_get {G : List Nat} {i n : Nat} (h : G[i]? = some n) : (zp G)[i]? = some (n == 0) := by unfold zp; rw [List.getElem?_map, h]; rfl
def ii (q : Nat × Nat) : Int × Int := ((q.1 : Int), (q.2 : Int))
theorem int_zero (n : Nat) : ((n : Int) != 0) = !(n == 0) := by
  by_cases h : n = 0
  · subst h; rfl
  · have h2 : (n == 0) = false := by simp [h]
    rw [h2]
    have : ((n : Int) != 0) = true := by rw [bne_iff_ne]; omega
    rw [this]; rfl
theorem longest_loop {G : List Nat} (h8 : G.length = 8) : ∀ (k i p z now : Nat), i + k = 8 → p ≤ 8 → z ≤ 8 → now ≤ i → colon_longest.l0 (gv G) (p : Int) (z : Int) (now : Int) (i : Int) = some (ii (lgC ((zp G).drop i) i p z now)) := by
  intro k
  induction k with
  | zero =>
    intro i p z now hi hp hz hn
    obtain rfl : i = 8 := by omega
    rw [colon_longest.l0.eq_def, if_neg (by decide), List.drop_eq_nil_of_le (by rw [zp_len]; omega)]; rfl
  | succ k ih =>
    intro i p z now hi hp hz hn
    obtain ⟨n, hn'⟩ : ∃ n, G[i]? = some n := ⟨_, List.getElem?_eq_getElem (by omega)⟩
    obtain ⟨c, hc, hd⟩ := drop_get (zp G) i (by rw [zp_len]; omega)
    rw [zp_get hn'] at hc
    cases hc
    have w1 : wr .i64 ((i : Int) + 1) = ((i + 1 : Nat) : Int) := by rw [wr_i64 (by omega) (by omega)]; omega
    have w2 : wr .i64 ((now : Int) + 1) = ((now + 1 : Nat) : Int) := by rw [wr_i64 (by omega) (by omega)]; omega
    have w3 : wr .i64 (((i + 1 : Nat) : Int) - ((now + 1 : Nat) : Int)) = ((i + 1 - (now + 1) : Nat) : Int) := by rw [wr_i64 (by omega) (by omega)]; omega
    rw [colon_longest.l0.eq_def, if_pos (decide_eq_true (by omega)), if_pos (by omega), gv_get h8 i n hn', int_zero, w1, w2, w3, hd, lgC]
    cases hb : (n == 0) with
    | false =>
      rw [if_pos (show (!false) = true from rfl), if_pos (show false = false from rfl)]
      exact ih (i + 1) p z 0 (by omega) hp hz (by omega)
    | true =>
      rw [if_neg (show ¬ (!true) = true by decide), if_neg (show ¬ true = false by decide)]
      by_cases hg : now + 1 > z
      · rw [if_pos (decide_eq_true (by omega)), if_pos hg]
        exact ih (i + 1) _ _ _ (by omega) (by omega) (by omega) (by omega)
      · rw [if_neg (by rw [decide_eq_true_eq]; omega), if_neg hg]
        exact ih (i + 1) _ _ _ (by omega) hp hz (by omega)
theorem longest_ok {G : List Nat} (h8 : G.length = 8) : colon_longest (gv G) = some (ii (lg (zp G))) := by
  unfold colon_longest
  have := longest_loop h8 8 0 0 0 0 rfl (by omega) (by omega) (by omega)
  rw [List.drop_zero, lg_code (by rw [zp_len, h8])] at this
  rw [show (0 : Int) = ((0 : Nat) : Int) from rfl, this, bindM_some]
/-! ### rows -/
theorem row_loop (A : List Nat) (hA : ∀ n ∈ A, n < 65536) (hl : A.length ≤ 8) : ∀ (k i : Nat), A.length - i = k → i ≤ A.length → colon_row.l0 (ns A) ((A.take i).map Hex.grp) (i : Int) = some (A.map Hex.grp) := by
  intro k
  induction k with
  | zero =>
    intro i hk hi
    rw [colon_row.l0.eq_def, ns_len, if_neg (by rw [decide_eq_true_eq]; omega), List.take_of_length_le (by omega)]
  | succ k ih =>
    intro i hk hi
    obtain ⟨n, hn⟩ : ∃ n, A[i]? = some n := ⟨_, List.getElem?_eq_getElem (by omega)⟩
    have w : wr .i64 ((i : Int) + 1) = ((i + 1 : Nat) : Int) := by rw [wr_i64 (by omega) (by omega)]; omega
    have hv : lget (ns A) (i : Int) = (n : Int) := by unfold lget; rw [Int.toNat_natCast]; exact ns_get A i n hn
    have h2 := ih (i + 1) (by omega) (by omega)
    rw [List.take_add_one, hn, List.map_append] at h2
    rw [colon_row.l0.eq_def, ns_len, if_pos (decide_eq_true (by omega)), if_pos (by omega), hv, Hex.group_eq n (hA n (List.mem_of_getElem? hn)), bindM_some, if_pos (by rw [List.length_map, List.length_take]; omega), w]
    exact h2
theorem row_join : ∀ (A : List Nat), [58].intercalate (A.map g1) = rowL A
  | [] => rfl
  | [n] => by simp [List.intercalate, rowL]
  | n :: m :: r => by
    have := row_join (m :: r)
    simp only [List.intercalate, List.map_cons, List.intersperse, List.flatten_cons, rowL] at this ⊢
    rw [this]; rfl
theorem bjoin_row (A : List Nat) : bjoin (A.map Hex.grp) (⟨#[58]⟩ : ByteArray) = bs (rowL A) := by
  apply mk_inj
  rw [bs_list, ← row_join]
  unfold bjoin Lib.join
  simp only [List.map_map]
  rfl
theorem row_ok (A : List Nat) (hA : ∀ n ∈ A, n < 65536) (hl : A.length ≤ 8) : colon_row (ns A) = some (bs (rowL A)) := by
  unfold colon_row
  have h := row_loop A hA hl A.length 0 (by omega) (by omega)
  rw [List.take_zero, List.map_nil, show ((0 : Nat) : Int) = 0 from rfl] at h
  have hs := rowL_len A hA
  rw [h, bindM_some, if_pos (by rw [List.length_map]; omega), bjoin_row, if_pos (by rw [bs_size]; omega)]
theorem bs_app (l k : List UInt8) : bs l ++ bs k = bs (l ++ k) := by apply mk_inj; rw [append_list, bs_list, bs_list, bs_list]
theorem text_ok {m : List UInt8} (hm : m.length = 16) : colon_Text (v16 m) = some (bs (textL (gr m))) := by
  have hg : (gr m).length = 8 := by rw [gr_len, hm]
  have hlt := gr_lt m
  have hf := lg_fits (z := zp (gr m)) (by rw [zp_len, hg])
  have hgl : (gv (gr m)).toList = ns (gr m) := by rw [gv_toList (by omega), hg]; simp
  unfold colon_Text
  rw [groups_ok hm, bindM_some, longest_ok hg, bindM_some, hgl]
  unfold textL
  generalize lg (zp (gr m)) = q at hf
  obtain ⟨p, z⟩ := q
  simp only at hf
  show (if decide ((z : Int) < 2) = true then _ else (if (0 : Int) ≤ 0 ∧ (0 : Int) ≤ (p : Int) ∧ (p : Int) ≤ 8 then colon_row (lsub (ns (gr m)) 0 (p : Int)) >>= fun t8 => if t8.size + (⟨#[58, 58]⟩ : ByteArray).size ≤ 140737488355328 then if (0 : Int) ≤ wr .i64 ((p : Int) + (z : Int)) ∧ wr .i64 ((p : Int) + (z : Int)) ≤ 8 ∧ (8 : Int) ≤ 8 then colon_row (lsub (ns (gr m)) (wr .i64 ((p : Int) + (z : Int))) 8) >>= fun t11 => if (t8 ++ (⟨#[58, 58]⟩ : ByteArray)).size + t11.size ≤ 140737488355328 then some ((t8 ++ (⟨#[58, 58]⟩ : ByteArray)) ++ t11) else none else none else none else none)) = some (bs (if z < 2 then rowL (gr m) else rowL ((gr m).take p) ++ 58 :: 58 :: rowL ((gr m).drop (p + z))))
  by_cases h2 : z < 2
  · rw [if_pos (decide_eq_true (by omega)), if_pos h2, row_ok _ hlt (by omega)]; rfl
  · have w : wr .i64 ((p : Int) + (z : Int)) = ((p + z : Nat) : Int) := by rw [wr_i64 (by omega) (by omega)]; omega
    have s1 : lsub (ns (gr m)) 0 (p : Int) = ns ((gr m).take p) := by unfold lsub; rw [Int.toNat_natCast, ns_take]; rfl
    have s2 : lsub (ns (gr m)) ((p + z : Nat) : Int) 8 = ns ((gr m).drop (p + z)) := by
      unfold lsub; rw [Int.toNat_natCast, show Int.toNat 8 = 8 from rfl, List.take_of_length_le (by rw [ns_len]; omega), ns_drop]
    have hA : ∀ n ∈ (gr m).take p, n < 65536 := fun n hn => hlt n (List.mem_of_mem_take hn)
    have hB : ∀ n ∈ (gr m).drop (p + z), n < 65536 := fun n hn => hlt n (List.mem_of_mem_drop hn)
    have lA := rowL_len _ hA
    have lB := rowL_len _ hB
    rw [List.length_take] at lA
    rw [List.length_drop] at lB
    have h58 : (⟨#[58, 58]⟩ : ByteArray) = bs [58, 58] := rfl
    rw [if_neg (by rw [decide_eq_true_eq]; omega), if_pos (by omega), s1, row_ok _ hA (by rw [List.length_take]; omega), bindM_some, h58, if_pos (by rw [bs_size, bs_size]; simp only [List.length_cons, List.length_nil]; omega), w, if_pos (by omega), s2, row_ok _ hB (by rw [List.length_drop]; omega), bindM_some, bs_app, if_pos (by rw [bs_size, bs_size]; simp only [List.length_append, List.length_cons, List.length_nil]; omega), bs_app, if_neg h2]
    rw [List.append_assoc]; rfl
end Go.Proofs.YtecolkjlpklaaaaDoor.Col
