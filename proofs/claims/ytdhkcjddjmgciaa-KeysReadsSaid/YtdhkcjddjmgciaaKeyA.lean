/- Layer 7: keys as arrays of bytes; the chapter's example. -/
import Derived.Test.YtdhkcjddjmgciaaG3
import Derived.Test.YtdhkcjddjmgciaaSixL
set_option linter.unusedVariables false
set_option linter.unusedSimpArgs false
namespace Go.Proofs.Ytdhkcjddjmgciaa.Key
open E Go.RowKit
open Hex (str str_size str_append str_push str_toList str_inj)

/-! ### arrays of bytes -/
theorem vget_lget {m : Nat} (v : Vector Int m) (i : Int) : vget v i = lget v.toList i := rfl
theorem vget_nat {m : Nat} (v : Vector Int m) (i : Nat) (h : i < m) : vget v (i : Int) = v[i] := by
  unfold vget; rw [Int.toNat_natCast]; simp [List.getD_eq_getElem?_getD, h]
theorem vget_set {m : Nat} (v : Vector Int m) (i j : Nat) (z : Int) (hi : i < m) (hj : j < m) : vget (vset v (i : Int) z) (j : Int) = if i = j then z else vget v (j : Int) := by
  rw [vget_nat _ j hj, vget_nat _ j hj]
  unfold vset
  simp only [Int.toNat_natCast]
  rw [Vector.getElem_setIfInBounds]
theorem vset_self {m : Nat} (v : Vector Int m) (i : Nat) (z : Int) (hi : i < m) (h : vget v (i : Int) = z) : vset v (i : Int) z = v := by
  rw [vget_nat v i hi] at h
  apply Vector.ext
  intro j hj
  unfold vset
  simp only [Int.toNat_natCast]
  rw [Vector.getElem_setIfInBounds]
  split
  · next e => subst e; exact h.symm
  · rfl
def IsB {m : Nat} (v : Vector Int m) : Prop := ∀ n ∈ v.toList, (Lit.int .u8 n).wf = true
theorem IsB.ob {m : Nat} {v : Vector Int m} (h : IsB v) : ∃ l : List UInt8, v.toList = ob l ∧ l.length = m := by
  obtain ⟨l, hl⟩ := exists_ob v.toList h
  refine ⟨l, hl, ?_⟩
  have := congrArg List.length hl
  rw [ob_length, Vector.length_toList] at this
  exact this.symm
theorem IsB.get {m : Nat} {v : Vector Int m} (h : IsB v) (i : Nat) (hi : i < m) : ∃ b : Fin 256, vget v (i : Int) = (b.1 : Int) := by
  have := wf_u8 (h (v[i]) (by simp))
  rw [vget_nat v i hi]
  exact ⟨⟨v[i].toNat, by omega⟩, by simp only; omega⟩
theorem unb_ob (l : List UInt8) : unb (ob l) = l := by
  unfold unb ob
  rw [List.map_map]
  conv => rhs; rw [← List.map_id l]
  apply List.map_congr_left
  intro b _
  simp [Function.comp]
theorem vec_inj {m : Nat} {v u : Vector Int m} : v.toList = u.toList ↔ v = u := Vector.toList_inj

/-! ### the example -/
theorem text_zero : keys_Text (Vector.replicate 32 (0 : Int) : Vector Int 32) = some (str (List.replicate 43 65 ++ [61])) := by
  unfold keys_Text
  have e1 : (Vector.replicate 32 (0 : Int) : Vector Int 32).toList = ob (List.replicate 32 0) := by rw [Vector.toList_replicate]; rfl
  have e2 : Six.encP (List.replicate 32 0) = List.replicate 43 65 ++ [61] := by
    rw [Six.encP_enc, Six.enc_map]
    simp only [List.replicate, Six.encV3, Six.encV2, Six.encV_nil]
    decide +kernel
  rw [e1, Six.encode_eq _ (by simp), e2, bindM_some]
theorem alive_eq : crawlwaylaw07_alive = some true := by
  unfold crawlwaylaw07_alive
  have e1 : ∃ l : List UInt8, (vset (Vector.replicate 32 (0 : Int) : Vector Int 32) 0 1).toList = ob l ∧ l.length = 32 := ⟨1 :: List.replicate 31 0, by decide +kernel, by simp⟩
  obtain ⟨l, hl, hl32⟩ := e1
  have e2 : keys_Hex (vset (Vector.replicate 32 (0 : Int) : Vector Int 32) 0 1) = some (str (Hex.encL l)) := by
    unfold keys_Hex; rw [hl, Hex.encode_eq _ (by omega), bindM_some]
  have e3 : ((str (Hex.encL l)).size : Int) = 64 := by rw [str_size, Hex.encL_length]; omega
  have e4 : ((str (List.replicate 43 65 ++ [61])).size : Int) = 44 := by rw [str_size]; simp
  have e5 : bt (str (List.replicate 43 65 ++ [61])) 43 = 61 := by decide +kernel
  have e6 : bt (str (List.replicate 43 65 ++ [61])) 42 = 65 := by decide +kernel
  have e7 : keys_Zero (Vector.replicate 32 (0 : Int) : Vector Int 32) = some true := by
    unfold keys_Zero; rw [decide_eq_true rfl]
  rw [text_zero, bindM_some, e4, e5, e6, e2, e7]
  simp only [bindM_some, e3, BEq.rfl, ↓reduceIte]
  rfl
end Go.Proofs.Ytdhkcjddjmgciaa.Key
