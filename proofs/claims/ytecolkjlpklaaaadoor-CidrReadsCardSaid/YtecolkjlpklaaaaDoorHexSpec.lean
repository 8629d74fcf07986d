/- What the functions of layer 5 come to, in plain Lean: digits of sixteen. -/
import Derived.Lib.Bytealg
set_option linter.unusedVariables false
set_option linter.unusedSimpArgs false
namespace Go.Proofs.YtecolkjlpklaaaaDoor.Hex
open Go.Lib (indexByte)

def dgs : ByteArray := ByteArray.mk #[48, 49, 50, 51, 52, 53, 54, 55, 56, 57, 97, 98, 99, 100, 101, 102]
def dgl : List UInt8 := [48, 49, 50, 51, 52, 53, 54, 55, 56, 57, 97, 98, 99, 100, 101, 102]
/-- The digit of a number below 16. -/
def dg (n : Nat) : UInt8 := dgl.getD n 0
def dig (n : Nat) : ByteArray := ByteArray.mk #[dg n]
theorem dig_eq : ∀ n : Fin 16, dgs.extract n.1 (n.1 + 1) = dig n.1 := by decide +kernel
theorem dig_extract (n : Nat) (h : n < 16) : dgs.extract n (n + 1) = dig n := dig_eq ⟨n, h⟩
theorem dgs_get (n : Nat) (h : n < 16) : dgs[n]? = some (dg n) := by
  have : ∀ n : Fin 16, dgs[n.1]? = some (dg n.1) := by decide +kernel
  exact this ⟨n, h⟩

/-- The reference's Value from place i on. -/
def vf (c : Nat) (great : Bool) : Nat → Nat → Int
  | 0, _ => -1
  | f + 1, i => if (dg i).toNat = c ∨ great = true ∧ i > 9 ∧ (dg i).toNat = (c + 32) % 256 then (i : Int) else vf c great f (i + 1)
def val (c : Nat) (great : Bool) : Int := vf c great 16 0
def small (c : Nat) : Nat := if 65 ≤ c ∧ c ≤ 70 then c ||| 32 else c
def idx (c : Nat) : Int := indexByte dgl c.toUInt8
theorem idx_val : ∀ c : Fin 256, idx c.1 = val c.1 false := by decide +kernel
theorem idx_small : ∀ c : Fin 256, idx (small c.1) = val c.1 true := by decide +kernel
theorem val_lt : ∀ c : Fin 256, ∀ g : Bool, -1 ≤ val c.1 g ∧ val c.1 g < 16 := by decide +kernel
theorem small_lt : ∀ c : Fin 256, small c.1 < 256 := by decide +kernel
theorem val_dg : ∀ n : Fin 16, ∀ g : Bool, val (dg n.1).toNat g = n.1 := by decide +kernel
theorem dg_val : ∀ c : Fin 256, val c.1 false ≥ 0 → (dg (val c.1 false).toNat).toNat = c.1 := by decide +kernel

/-- A number's text. -/
def grp (n : Nat) : ByteArray := if n < 16 then dig n else grp (n / 16) ++ dig (n % 16)
def gl (n : Nat) (o : ByteArray) : ByteArray := if n < 16 then dig n ++ o else gl (n / 16) (dig (n % 16) ++ o)
theorem gl_eq (n : Nat) : ∀ o, gl n o = grp n ++ o := by
  induction n using Nat.strongRecOn with
  | _ n ih =>
    intro o
    unfold gl grp
    split
    · rfl
    · rw [ih _ (by omega), ByteArray.append_assoc]

/-- A text's number. -/
def rd (l : List UInt8) : Nat → Option Nat := l.foldr (fun c k n => if val c.toNat true < 0 then none else k (16 * n + (val c.toNat true).toNat)) some
theorem rd_nil (n : Nat) : rd [] n = some n := rfl
theorem rd_cons (c : UInt8) (l : List UInt8) (n : Nat) : rd (c :: l) n = if val c.toNat true < 0 then none else rd l (16 * n + (val c.toNat true).toNat) := rfl
def read (s : ByteArray) : Option Nat := if s.size < 1 ∨ s.size > 4 then none else rd s.data.toList 0
theorem rd_lt (l : List UInt8) : ∀ n m, rd l n = some m → m < (n + 1) * 16 ^ l.length := by
  induction l with
  | nil => intro n m h; simp [rd_nil] at h; simp; omega
  | cons c l ih =>
    intro n m h
    rw [rd_cons] at h
    split at h
    · cases h
    · have hv : val c.toNat true < 16 := (val_lt ⟨c.toNat, c.toNat_lt⟩ true).2
      have := ih _ _ h
      simp only [List.length_cons, Nat.pow_succ]
      have h2 : (val c.toNat true).toNat < 16 := by omega
      calc m < (16 * n + (val c.toNat true).toNat + 1) * 16 ^ l.length := this
        _ ≤ (16 * n + 16) * 16 ^ l.length := Nat.mul_le_mul_right _ (by omega)
        _ = _ := by rw [show 16 * n + 16 = (n + 1) * 16 by omega, Nat.mul_assoc, Nat.mul_comm 16]
theorem rd_append (l k : List UInt8) (n : Nat) : rd (l ++ k) n = (rd l n).bind (rd k) := by
  induction l generalizing n with
  | nil => simp [rd_nil]
  | cons c l ih =>
    simp only [List.cons_append, rd_cons]
    split
    · rfl
    · exact ih _
theorem rd_grp (n : Nat) : rd (grp n).data.toList 0 = some n := by
  induction n using Nat.strongRecOn with
  | _ n ih =>
    unfold grp
    split
    · next h =>
      have := val_dg ⟨n, h⟩ true
      simp only at this
      simp only [dig, rd_cons, rd_nil, this]
      simp
    · next h =>
      have hv := val_dg ⟨n % 16, by omega⟩ true
      simp only at hv
      simp only [ByteArray.data_append, Array.toList_append, rd_append, ih _ (show n / 16 < n by omega), dig, Option.bind_some, rd_cons, rd_nil, hv]
      rw [if_neg (by omega)]
      congr 1
      omega
theorem grp_size (n : Nat) : 1 ≤ (grp n).size ∧ ∀ k, n < 16 ^ (k + 1) → (grp n).size ≤ k + 1 := by
  induction n using Nat.strongRecOn with
  | _ n ih =>
    unfold grp
    split
    · exact ⟨by simp [dig, ByteArray.size], fun k _ => by simp [dig, ByteArray.size]⟩
    · next h =>
      have ih' := ih _ (show n / 16 < n by omega)
      rw [ByteArray.size_append]
      have hd : (dig (n % 16)).size = 1 := rfl
      refine ⟨by omega, fun k hk => ?_⟩
      cases k with
      | zero => simp at hk; omega
      | succ k =>
        have := ih'.2 k (by rw [Nat.pow_succ] at hk; omega)
        omega
theorem read_grp (n : Nat) (h : n < 65536) : read (grp n) = some n := by
  unfold read
  rw [if_neg (by have h1 := grp_size n; have := h1.2 3 (by simpa using h); omega)]
  exact rd_grp n
end Go.Proofs.YtecolkjlpklaaaaDoor.Hex
