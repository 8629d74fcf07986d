/- Sixteen bytes as a text (chapter 09): groups, the longest run of groups 0, the text, and what a text says. No function of the program. -/
import Derived.Test.YtecolkjlpklaaaaDoorQuad
import Derived.Test.YtecolkjlpklaaaaDoorHexC
set_option linter.unusedVariables false
set_option linter.unusedSimpArgs false
namespace Go.Proofs.YtecolkjlpklaaaaDoor.Col
open E Go.RowKit

/-! ### groups -/
def un : List Nat → List UInt8
  | [] => []
  | n :: r => UInt8.ofNat (n / 256) :: UInt8.ofNat (n % 256) :: un r
def gr : List UInt8 → List Nat
  | a :: b :: r => (256 * a.toNat + b.toNat) :: gr r
  | [_] => []
  | [] => []
theorem u8_of (b : UInt8) (n : Nat) (h : n = b.toNat) : UInt8.ofNat n = b := by subst h; exact UInt8.ofNat_toNat
theorem un_gr : ∀ (l : List UInt8), l.length % 2 = 0 → un (gr l) = l
  | [], _ => rfl
  | [_], h => by simp at h
  | a :: b :: r, h => by
    have ha := a.toNat_lt
    have hb := b.toNat_lt
    rw [gr, un, un_gr r (by simp at h; omega), u8_of a _ (by omega), u8_of b _ (by omega)]
theorem gr_un : ∀ (G : List Nat), (∀ n ∈ G, n < 65536) → gr (un G) = G
  | [], _ => rfl
  | n :: G, h => by
    have hn := h n (List.mem_cons_self ..)
    rw [un, gr, gr_un G fun m hm => h m (List.mem_cons_of_mem _ hm), UInt8.toNat_ofNat', UInt8.toNat_ofNat']
    congr 1
    have : 2 ^ 8 = 256 := rfl
    omega
theorem gr_lt : ∀ (l : List UInt8), ∀ n ∈ gr l, n < 65536
  | [], n, h => by cases h
  | [_], n, h => by cases h
  | a :: b :: r, n, h => by
    rcases List.mem_cons.1 h with rfl | h
    · have ha := a.toNat_lt
      have hb := b.toNat_lt
      omega
    · exact gr_lt r n h
theorem gr_len : ∀ (l : List UInt8), (gr l).length = l.length / 2
  | [] => rfl
  | [_] => by simp [gr]
  | a :: b :: r => by simp only [gr, List.length_cons, gr_len r]; omega
theorem un_len : ∀ (G : List Nat), (un G).length = 2 * G.length
  | [] => rfl
  | n :: G => by simp only [un, List.length_cons, un_len G]; omega
theorem un_app : ∀ (A B : List Nat), un (A ++ B) = un A ++ un B
  | [], _ => rfl
  | n :: A, B => by simp [un, un_app A B]

/-! ### the longest run -/
def runz : List Bool → Nat
  | true :: r => runz r + 1
  | _ => 0
def lgC : List Bool → Nat → Nat → Nat → Nat → Nat × Nat
  | [], _, p, z, _ => (p, z)
  | b :: r, i, p, z, now => if b = false then lgC r (i + 1) p z 0 else if now + 1 > z then lgC r (i + 1) (i + 1 - (now + 1)) (now + 1) (now + 1) else lgC r (i + 1) p z (now + 1)
def lgR : List Bool → Nat → Nat → Nat → Nat × Nat
  | [], _, p, z => (p, z)
  | b :: r, i, p, z => if runz (b :: r) > z then lgR r (i + 1) i (runz (b :: r)) else lgR r (i + 1) p z
theorem lg_same8 : ∀ a b c d e f g h : Bool, lgC [a, b, c, d, e, f, g, h] 0 0 0 0 = lgR [a, b, c, d, e, f, g, h] 0 0 0 := by decide +kernel
theorem lg_fits8 : ∀ a b c d e f g h : Bool, (lgR [a, b, c, d, e, f, g, h] 0 0 0).1 + (lgR [a, b, c, d, e, f, g, h] 0 0 0).2 ≤ 8 := by decide +kernel
theorem lg_zero8 : ∀ a b c d e f g h : Bool, ([a, b, c, d, e, f, g, h].drop (lgR [a, b, c, d, e, f, g, h] 0 0 0).1).take (lgR [a, b, c, d, e, f, g, h] 0 0 0).2 = List.replicate (lgR [a, b, c, d, e, f, g, h] 0 0 0).2 true := by decide +kernel
theorem lg_max8 : ∀ a b c d e f g h : Bool, ∀ i : Fin 8, runz ([a, b, c, d, e, f, g, h].drop i.1) ≤ (lgR [a, b, c, d, e, f, g, h] 0 0 0).2 := by decide +kernel
theorem eight {α : Type} {z : List α} (h : z.length = 8) : ∃ a b c d e f g k, z = [a, b, c, d, e, f, g, k] := by
  match z, h with
  | [a, b, c, d, e, f, g, k], _ => exact ⟨a, b, c, d, e, f, g, k, rfl⟩
def lg (z : List Bool) : Nat × Nat := lgR z 0 0 0
theorem lg_code {z : List Bool} (h : z.length = 8) : lgC z 0 0 0 0 = lg z := by
  obtain ⟨a, b, c, d, e, f, g, k, rfl⟩ := eight h; exact lg_same8 ..
theorem lg_fits {z : List Bool} (h : z.length = 8) : (lg z).1 + (lg z).2 ≤ 8 := by
  obtain ⟨a, b, c, d, e, f, g, k, rfl⟩ := eight h; exact lg_fits8 ..
theorem lg_zero {z : List Bool} (h : z.length = 8) : (z.drop (lg z).1).take (lg z).2 = List.replicate (lg z).2 true := by
  obtain ⟨a, b, c, d, e, f, g, k, rfl⟩ := eight h; exact lg_zero8 ..
theorem lg_max {z : List Bool} (h : z.length = 8) (i : Nat) (hi : i < 8) : runz (z.drop i) ≤ (lg z).2 := by
  obtain ⟨a, b, c, d, e, f, g, k, rfl⟩ := eight h; exact lg_max8 _ _ _ _ _ _ _ _ ⟨i, hi⟩

/-! ### the text -/
def g1 (n : Nat) : List UInt8 := (Hex.grp n).data.toList
def rowL : List Nat → List UInt8
  | [] => []
  | [n] => g1 n
  | n :: m :: r => g1 n ++ 58 :: rowL (m :: r)
def zp (G : List Nat) : List Bool := G.map fun n => n == 0
def textL (G : List Nat) : List UInt8 := if (lg (zp G)).2 < 2 then rowL G else rowL (G.take (lg (zp G)).1) ++ 58 :: 58 :: rowL (G.drop ((lg (zp G)).1 + (lg (zp G)).2))
theorem zp_len (G : List Nat) : (zp G).length = G.length := by simp [zp]
theorem dg_hex : ∀ n : Fin 16, 48 ≤ (Hex.dg n.1).toNat ∧ Hex.dg n.1 ≠ 58 ∧ Hex.dg n.1 ≠ 46 := by decide +kernel
theorem g1_chars (n : Nat) : ∀ x ∈ g1 n, x ≠ 58 ∧ x ≠ 46 := by
  induction n using Nat.strongRecOn with
  | _ n ih =>
    intro x hx
    unfold g1 Hex.grp at hx
    split at hx
    · next h =>
      simp only [Hex.dig, List.mem_singleton] at hx
      subst hx
      exact (dg_hex ⟨n, h⟩).2
    · next h =>
      rw [append_list] at hx
      rcases List.mem_append.1 hx with hx | hx
      · exact ih _ (show n / 16 < n by omega) x hx
      · simp only [Hex.dig, List.mem_singleton] at hx
        subst hx
        exact (dg_hex ⟨n % 16, by omega⟩).2
theorem g1_len (n : Nat) (h : n < 65536) : 1 ≤ (g1 n).length ∧ (g1 n).length ≤ 4 := by
  have := Hex.grp_size n
  unfold g1
  rw [size_toList]
  exact ⟨this.1, this.2 3 (by simpa using h)⟩
theorem g1_ne (n : Nat) : g1 n ≠ [] := by
  have := (Hex.grp_size n).1
  intro e
  have h2 : (g1 n).length = 0 := by rw [e]; rfl
  unfold g1 at h2
  rw [size_toList] at h2
  omega
theorem rowL_len : ∀ (G : List Nat), (∀ n ∈ G, n < 65536) → (rowL G).length ≤ 5 * G.length
  | [], _ => Nat.zero_le _
  | [n], h => by
    have := (g1_len n (h n (List.mem_cons_self ..))).2
    simp only [rowL, List.length_cons, List.length_nil]; omega
  | n :: m :: r, h => by
    have h1 := (g1_len n (h n (List.mem_cons_self ..))).2
    have h2 := rowL_len (m :: r) fun k hk => h k (List.mem_cons_of_mem _ hk)
    simp only [rowL, List.length_append, List.length_cons] at h2 ⊢; omega
theorem textL_len (G : List Nat) (h : ∀ n ∈ G, n < 65536) (h8 : G.length = 8) : (textL G).length ≤ 42 := by
  unfold textL
  split
  · have := rowL_len G h; omega
  · have h1 := rowL_len (G.take (lg (zp G)).1) fun n hn => h n (List.mem_of_mem_take hn)
    have h2 := rowL_len (G.drop ((lg (zp G)).1 + (lg (zp G)).2)) fun n hn => h n (List.mem_of_mem_drop hn)
    have hf := lg_fits (z := zp G) (by rw [zp_len, h8])
    simp only [List.length_append, List.length_cons, List.length_take, List.length_drop] at h1 h2 ⊢; omega

/-! ### what a text says -/
def spl : List (List UInt8) → Option (List (List UInt8) × List (List UInt8))
  | [] => none
  | p :: r => if r.head? = some [] ∧ 2 ≤ r.length then some ([p], r.tail) else (spl r).map fun q => (p :: q.1, q.2)
def q2 (v : Vector Int 4) : List Nat := [256 * (vget v 0).toNat + (vget v 1).toNat, 256 * (vget v 2).toNat + (vget v 3).toNat]
def lst (last : Bool) : List (List UInt8) → Option (List Nat)
  | [] => some []
  | p :: r => match Hex.read (bs p) with
    | some n => (lst last r).map (n :: ·)
    | none => if (quadP p).2 = 0 ∧ last = true ∧ r = [] then some (q2 (quadP p).1) else none
def lstE (last : Bool) (ps : List (List UInt8)) : Option (List Nat) := if ps = [[]] then some [] else lst last ps
def parseL (l : List UInt8) : Option (List Nat) := match spl (parts 58 l) with
  | none => (lst true (parts 58 l)).bind fun x => if x.length = 8 then some x else none
  | some (a, b) => (lstE false a).bind fun x => (lstE true b).bind fun y => if x.length + y.length ≤ 7 then some (x ++ (List.replicate (8 - x.length - y.length) 0 ++ y)) else none
theorem parts_colon (r : List UInt8) : parts 58 (58 :: r) = [] :: parts 58 r := by rw [parts, if_pos rfl]
theorem parts_head (r : List UInt8) : ((parts 58 r).head? = some [] ∧ 2 ≤ (parts 58 r).length) ↔ ∃ r2, r = 58 :: r2 := by
  cases r with
  | nil => simp [parts]
  | cons x r =>
    by_cases hx : x = 58
    · subst hx
      rw [parts_colon]
      have := parts_ne 58 r
      cases hp : parts 58 r with
      | nil => exact absurd hp this
      | cons a b => simp
    · rw [parts, if_neg hx]
      simp [hx]
theorem read_nil : Hex.read (bs []) = none := rfl
theorem quad_nil : (quadP []).2 = 5 := rfl
theorem lst_nil (last : Bool) (r : List (List UInt8)) (h : r ≠ [] ∨ True) : lst last ([] :: r) = none := by
  unfold lst
  rw [read_nil, quad_nil]
  simp
theorem parts_nil_iff (l : List UInt8) : parts 58 l = [[]] ↔ l = [] := by
  constructor
  · intro h
    cases l with
    | nil => rfl
    | cons x r =>
      have hne := parts_ne 58 r
      by_cases hx : x = 58
      · subst hx
        rw [parts_colon] at h
        cases h2 : parts 58 r with
        | nil => exact absurd h2 hne
        | cons a b => rw [h2] at h; simp at h
      · rw [parts, if_neg hx] at h; simp at h
  · intro h; subst h; rfl
/-! ### there and back -/
theorem lst_grp (last : Bool) : ∀ (G : List Nat), (∀ n ∈ G, n < 65536) → lst last (G.map g1) = some G
  | [], _ => rfl
  | n :: G, h => by
    rw [List.map_cons, lst]
    have hb : bs (g1 n) = Hex.grp n := (eq_bs _).symm
    rw [hb, Hex.read_grp n (h n (List.mem_cons_self ..))]
    show (lst last (G.map g1)).map _ = _
    rw [lst_grp last G fun m hm => h m (List.mem_cons_of_mem _ hm)]; rfl
theorem parts_row : ∀ (G : List Nat), G ≠ [] → parts 58 (rowL G) = G.map g1
  | [], h => absurd rfl h
  | [n], _ => parts_none _ _ fun x hx => (g1_chars n x hx).1
  | n :: m :: r, _ => by
    rw [rowL, parts_cons _ _ _ fun x hx => (g1_chars n x hx).1, parts_row (m :: r) (by simp)]; rfl
theorem parts_row_app : ∀ (G : List Nat) (r : List UInt8), parts 58 (rowL G ++ 58 :: r) = (if G = [] then [[]] else G.map g1) ++ parts 58 r
  | [], r => parts_colon r
  | [n], r => by rw [rowL, parts_cons _ _ _ fun x hx => (g1_chars n x hx).1]; rfl
  | n :: m :: s, r => by
    rw [rowL, List.append_assoc]
    show parts 58 (g1 n ++ 58 :: (rowL (m :: s) ++ 58 :: r)) = _
    rw [parts_cons _ _ _ fun x hx => (g1_chars n x hx).1, parts_row_app (m :: s) r]; rfl
theorem spl_full : ∀ (G : List Nat), spl (G.map g1) = none
  | [] => rfl
  | n :: G => by
    rw [List.map_cons, spl, if_neg, spl_full G]; rfl
    rintro ⟨h, _⟩
    cases G with
    | nil => cases h
    | cons m r => simp at h; exact g1_ne m h
theorem spl_app : ∀ (A : List (List UInt8)) (B : List (List UInt8)), A ≠ [] → (∀ p ∈ A.tail, p ≠ []) → B ≠ [] → spl (A ++ [] :: B) = some (A, B)
  | [], _, h, _, _ => absurd rfl h
  | [p], B, _, _, hB => by
    show spl (p :: [] :: B) = _
    rw [spl, if_pos]; rfl
    refine ⟨rfl, ?_⟩
    cases B with
    | nil => exact absurd rfl hB
    | cons x y => simp
  | p :: q :: A, B, _, h, hB => by
    show spl (p :: ((q :: A) ++ [] :: B)) = _
    rw [spl, if_neg, spl_app (q :: A) B (by simp) (fun x hx => h x (List.mem_cons_of_mem _ hx)) hB]; rfl
    rintro ⟨h1, _⟩
    simp at h1
    exact h q (List.mem_cons_self ..) h1
theorem zeros_of {G : List Nat} {p z : Nat} (h : ((zp G).drop p).take z = List.replicate z true) : (G.drop p).take z = List.replicate z 0 := by
  unfold zp at h
  rw [← List.map_drop, ← List.map_take] at h
  generalize (G.drop p).take z = D at h
  have hl : D.length = z := by have := congrArg List.length h; simpa using this
  apply List.eq_replicate_iff.2
  refine ⟨hl, fun n hn => ?_⟩
  have : (n == 0) ∈ List.replicate z true := by rw [← h]; exact List.mem_map.2 ⟨n, hn, rfl⟩
  have := List.eq_of_mem_replicate this
  simpa using this
theorem split3 {α : Type} (G : List α) (p z : Nat) : G = G.take p ++ ((G.drop p).take z ++ G.drop (p + z)) := by
  rw [← List.drop_drop, List.take_append_drop, List.take_append_drop]
theorem lstE_row (last : Bool) (G : List Nat) (h : ∀ n ∈ G, n < 65536) : lstE last (if G = [] then [[]] else G.map g1) = some G := by
  unfold lstE
  cases G with
  | nil => rfl
  | cons n r =>
    have e1 : (if n :: r = [] then ([[]] : List (List UInt8)) else (n :: r).map g1) = (n :: r).map g1 := if_neg (by simp)
    rw [e1, if_neg, lst_grp last _ h]
    intro e
    rw [List.map_cons] at e
    exact g1_ne n (List.cons.inj e).1
theorem parse_text (G : List Nat) (h : ∀ n ∈ G, n < 65536) (h8 : G.length = 8) : parseL (textL G) = some G := by
  unfold textL
  split
  · unfold parseL
    have hne : G ≠ [] := by intro e; subst e; simp at h8
    rw [parts_row G hne, spl_full, lst_grp true G h]
    show (if G.length = 8 then some G else none) = _
    rw [if_pos h8]
  · next h2 =>
    have hz := lg_zero (z := zp G) (by rw [zp_len, h8])
    have hf := lg_fits (z := zp G) (by rw [zp_len, h8])
    generalize hq : lg (zp G) = q at h2 hz hf
    obtain ⟨p, z⟩ := q
    simp only at h2 hz hf ⊢
    have hzz := zeros_of hz
    have hG := split3 G p z
    have hA : ∀ n ∈ G.take p, n < 65536 := fun n hn => h n (List.mem_of_mem_take hn)
    have hB : ∀ n ∈ G.drop (p + z), n < 65536 := fun n hn => h n (List.mem_of_mem_drop hn)
    have hAl : (G.take p).length = p := by rw [List.length_take]; omega
    have hBl : (G.drop (p + z)).length = 8 - (p + z) := by rw [List.length_drop, h8]
    rw [hzz] at hG
    generalize G.take p = A at *
    generalize G.drop (p + z) = B at *
    unfold parseL
    rw [parts_row_app A, parts_colon]
    have e2 : parts 58 (rowL B) = if B = [] then [[]] else B.map g1 := by
      cases B with
      | nil => rfl
      | cons n r => rw [if_neg (by simp), parts_row _ (by simp)]
    rw [e2, spl_app _ _ (by split <;> simp_all) (by
      intro x hx
      split at hx
      · cases hx
      · rw [← List.map_tail] at hx
        obtain ⟨n, _, rfl⟩ := List.mem_map.1 hx
        exact g1_ne n) (by split <;> simp_all)]
    show (lstE false (if A = [] then [[]] else A.map g1)).bind _ = _
    rw [lstE_row false A hA]
    show (lstE true (if B = [] then [[]] else B.map g1)).bind _ = _
    rw [lstE_row true B hB]
    show (if A.length + B.length ≤ 7 then _ else none) = _
    rw [if_pos (by omega), show 8 - A.length - B.length = z by omega, ← hG]
end Go.Proofs.YtecolkjlpklaaaaDoor.Col
