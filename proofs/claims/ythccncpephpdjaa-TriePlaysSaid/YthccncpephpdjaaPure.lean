/- Small facts on numbers, bytes and texts as the printed functions write them. -/
import Derived.Test.YthccncpephpdjaaB
set_option linter.unusedVariables false
set_option linter.unusedSimpArgs false
namespace Go.Proofs.Ythccncpephpdjaa.E
open Go.RowKit

theorem wr_i64 {x : Int} (h : -9223372036854775808 ≤ x) (h' : x < 9223372036854775808) : wr .i64 x = x := by
  unfold wr IntKind.wrap
  simp [IntKind.bits, IntKind.signed]
  split <;> omega
theorem wr_u8 {x : Int} (h : 0 ≤ x) (h' : x < 256) : wr .u8 x = x := by
  unfold wr IntKind.wrap; simp only [IntKind.bits, IntKind.signed, Bool.false_and, Bool.false_eq_true, if_false]; omega
theorem wr_u16 {x : Int} (h : 0 ≤ x) (h' : x < 65536) : wr .u16 x = x := by
  unfold wr IntKind.wrap; simp only [IntKind.bits, IntKind.signed, Bool.false_and, Bool.false_eq_true, if_false]; omega
theorem wr_u32 {x : Int} (h : 0 ≤ x) (h' : x < 4294967296) : wr .u32 x = x := by
  unfold wr IntKind.wrap; simp only [IntKind.bits, IntKind.signed, Bool.false_and, Bool.false_eq_true, if_false]; omega
theorem wr_u64 {x : Int} (h : 0 ≤ x) (h' : x < 18446744073709551616) : wr .u64 x = x := by
  unfold wr IntKind.wrap; simp only [IntKind.bits, IntKind.signed, Bool.false_and, Bool.false_eq_true, if_false]; omega
theorem wr_u8_mod (x : Int) : wr .u8 x = x % 256 := by
  unfold wr IntKind.wrap; simp only [IntKind.bits, IntKind.signed, Bool.false_and, Bool.false_eq_true, if_false]; omega
theorem wr_u16_mod (x : Int) : wr .u16 x = x % 65536 := by
  unfold wr IntKind.wrap; simp only [IntKind.bits, IntKind.signed, Bool.false_and, Bool.false_eq_true, if_false]; omega
theorem wr_u32_mod (x : Int) : wr .u32 x = x % 4294967296 := by
  unfold wr IntKind.wrap; simp only [IntKind.bits, IntKind.signed, Bool.false_and, Bool.false_eq_true, if_false]; omega
theorem wr_u64_mod (x : Int) : wr .u64 x = x % 18446744073709551616 := by
  unfold wr IntKind.wrap; simp only [IntKind.bits, IntKind.signed, Bool.false_and, Bool.false_eq_true, if_false]; omega
theorem toNat_ofInt (b : Nat) (x : Nat) (h : x < 2 ^ b) : (BitVec.ofInt b (x : Int)).toNat = x := by
  rw [BitVec.toNat_ofInt]
  rw [Int.emod_eq_of_lt (by omega) (by exact_mod_cast h)]
  simp
theorem iand_nat (k : IntKind) (hk : k.signed = false) (x y : Nat) (hx : x < 2 ^ k.bits) (hy : y < 2 ^ k.bits) : iand k x y = ((x &&& y : Nat) : Int) := by
  unfold iand
  rw [BitVec.toNat_and, toNat_ofInt _ _ hx, toNat_ofInt _ _ hy]
  unfold IntKind.wrap
  have h1 : x &&& y < 2 ^ k.bits := Nat.lt_of_le_of_lt Nat.and_le_left hx
  rw [Int.emod_eq_of_lt (by omega) (by exact_mod_cast h1)]
  simp [hk]
theorem ior_nat (k : IntKind) (hk : k.signed = false) (x y : Nat) (hx : x < 2 ^ k.bits) (hy : y < 2 ^ k.bits) : ior k x y = ((x ||| y : Nat) : Int) := by
  unfold ior
  rw [BitVec.toNat_or, toNat_ofInt _ _ hx, toNat_ofInt _ _ hy]
  unfold IntKind.wrap
  have h1 : x ||| y < 2 ^ k.bits := Nat.or_lt_two_pow hx hy
  rw [Int.emod_eq_of_lt (by omega) (by exact_mod_cast h1)]
  simp [hk]
theorem ixor_nat (k : IntKind) (hk : k.signed = false) (x y : Nat) (hx : x < 2 ^ k.bits) (hy : y < 2 ^ k.bits) : ixor k x y = ((x ^^^ y : Nat) : Int) := by
  unfold ixor
  rw [BitVec.toNat_xor, toNat_ofInt _ _ hx, toNat_ofInt _ _ hy]
  unfold IntKind.wrap
  have h1 : x ^^^ y < 2 ^ k.bits := Nat.xor_lt_two_pow hx hy
  rw [Int.emod_eq_of_lt (by omega) (by exact_mod_cast h1)]
  simp [hk]
theorem ishr_nat (k : IntKind) (x n : Nat) (hn : n ≤ k.bits) : ishr k x n = ((x / 2 ^ n : Nat) : Int) := by
  unfold ishr
  rw [Int.toNat_natCast, Nat.min_eq_left hn, Int.fdiv_eq_ediv_of_nonneg _ (by exact_mod_cast Nat.zero_le _)]
  exact_mod_cast rfl
theorem ishl_nat (k : IntKind) (hk : k.signed = false) (x n : Nat) (hn : n ≤ k.bits) : ishl k x n = (((x * 2 ^ n) % 2 ^ k.bits : Nat) : Int) := by
  unfold ishl IntKind.wrap
  rw [Int.toNat_natCast, Nat.min_eq_left hn]
  simp [hk]
theorem ba_get (s : ByteArray) (i : Nat) (h : i < s.size) : s.data.toList[i]? = some (s[i]) := by
  rw [List.getElem?_eq_getElem (by simpa using h)]; rfl
theorem bt_nat (s : ByteArray) (i : Nat) : bt s i = ((s.data.toList[i]?).getD 0).toNat := by
  unfold bt
  rw [Int.toNat_natCast]
  have : s[i]? = s.data.toList[i]? := by
    by_cases h : i < s.size
    · rw [ba_get s i h, getElem?_pos s i h]
    · rw [getElem?_neg s i h, List.getElem?_eq_none (by simpa using h)]
  rw [this]
theorem bt_range (s : ByteArray) (i : Int) : 0 ≤ bt s i ∧ bt s i < 256 := by
  unfold bt
  have := ((s[i.toNat]?).getD 0).toNat_lt
  omega
theorem seq_iff (x y : ByteArray) : seq x y = true ↔ x = y := by
  unfold seq
  rw [beq_iff_eq]
  constructor
  · intro h
    have hx : ∀ z : ByteArray, z.toList = z.data.toList := fun z => ByteArray.toList_eq z
    rw [hx, hx] at h
    cases x; cases y; simp_all
  · rintro rfl; rfl
theorem seq_self (x : ByteArray) : seq x x = true := (seq_iff x x).2 rfl
theorem bindM_some {α β : Type} (x : α) (f : α → Option β) : ((some x : Option α) >>= f) = f x := rfl
/-- A row that came in as the guide's shell tells it. -/
def IsRow (k : IntKind) (w : World) (a : Option Addr) (len cap : Nat) (zs : List Int) : Prop :=
  (a = none ∧ len = 0 ∧ cap = 0 ∧ zs = []) ∨
  ∃ x, a = some x ∧ len ≤ cap ∧ cap ≤ maxLen ∧ zs.length = cap ∧ (∀ i, i < zs.length → w.cell? (x.add i) = some (.int k (zs.getD i 0))) ∧ ∀ n ∈ zs, (Lit.int k n).wf = true
theorem all_int (k : IntKind) (xs : List Int) : (cInt k).all xs = xs.map (Value.int k) := by
  induction xs with
  | nil => rfl
  | cons x xs ih => rw [Cd.all_cons, ih]; rfl
theorem IsRow.row {k : IntKind} {w : World} {a : Option Addr} {len cap : Nat} {zs : List Int} (h : IsRow k w a len cap zs) :
    ∃ xs : List Int, xs.length = len ∧ Row (cInt k) w a cap xs ∧ ∀ n ∈ xs, (Lit.int k n).wf = true := by
  rcases h with ⟨rfl, rfl, rfl, rfl⟩ | ⟨x, rfl, hl, hm, hz, hc, hw⟩
  · exact ⟨[], rfl, Row.nil .., by simp⟩
  · refine ⟨zs.take len, by simp; omega, ⟨by simp; omega, ?_⟩, fun n hn => hw n (List.mem_of_mem_take hn)⟩
    by_cases h0 : len = 0
    · left; subst h0; simp
    · right
      have hx := hc 0 (by omega)
      have hspot : x.spot = none := by
        have e0 : x.add 0 = x := by simp [Addr.add]
        rw [e0] at hx
        unfold World.cell? at hx
        split at hx
        · split at hx
          · cases hx
          · next hs => simpa using hs
        · cases hx
      refine ⟨x.block, x.off, by cases x; simp_all, fun j u hu => ?_⟩
      rw [all_int, List.getElem?_map] at hu
      cases hq : (zs.take len)[j]? with
      | none => rw [hq] at hu; cases hu
      | some z =>
        rw [hq] at hu; cases hu
        rw [List.getElem?_take] at hq
        split at hq
        · have hj : j < zs.length := (List.getElem?_eq_some_iff.1 hq).1
          have := hc j hj
          rw [List.getD_eq_getElem?_getD, hq] at this
          cases x
          simp only at hspot; subst hspot
          rwa [Addr.add_lit] at this
        · cases hq
theorem wf_u8 {n : Int} (h : (Lit.int .u8 n).wf = true) : 0 ≤ n ∧ n < 256 := by
  simp [Lit.wf, IntKind.min, IntKind.max, IntKind.bits, IntKind.signed] at h; omega
/-- Bytes as the printed functions have them. -/
def ob (l : List UInt8) : List Int := l.map fun b => (b.toNat : Int)
theorem ob_length (l : List UInt8) : (ob l).length = l.length := by simp [ob]
theorem ob_append (l k : List UInt8) : ob (l ++ k) = ob l ++ ob k := by simp [ob]
theorem ob_inj {l k : List UInt8} (h : ob l = ob k) : l = k := by
  induction l generalizing k with
  | nil => cases k with
    | nil => rfl
    | cons b k => simp [ob] at h
  | cons a l ih => cases k with
    | nil => simp [ob] at h
    | cons b k =>
      simp only [ob, List.map_cons, List.cons.injEq] at h
      have h1 : a = b := UInt8.toNat_inj.1 (by omega)
      rw [h1, ih h.2]
theorem exists_ob (xs : List Int) (h : ∀ n ∈ xs, (Lit.int .u8 n).wf = true) : ∃ l, xs = ob l := by
  induction xs with
  | nil => exact ⟨[], rfl⟩
  | cons n xs ih =>
    obtain ⟨l, hl⟩ := ih fun m hm => h m (List.mem_cons_of_mem _ hm)
    obtain ⟨h0, h1⟩ := wf_u8 (h n (List.mem_cons_self ..))
    refine ⟨UInt8.ofNat n.toNat :: l, ?_⟩
    rw [hl]
    simp only [ob, List.map_cons, UInt8.toNat_ofNat']
    congr 1
    omega
theorem lget_ob (l : List UInt8) (i : Nat) (b : UInt8) (h : l[i]? = some b) : lget (ob l) i = b.toNat := by
  unfold lget ob
  rw [Int.toNat_natCast, List.getD_eq_getElem?_getD, List.getElem?_map, h]
  rfl
theorem drop_get {α : Type} (l : List α) (i : Nat) (h : i < l.length) : ∃ c, l[i]? = some c ∧ l.drop i = c :: l.drop (i + 1) :=
  ⟨l[i], List.getElem?_eq_getElem h, List.drop_eq_getElem_cons h⟩
end Go.Proofs.Ythccncpephpdjaa.E
