/- Chapter 32 in plain words: requests that are the same. -/
import Derived.Test.YthccncpephpdjaaChg
import Derived.Test.YthccncpephpdjaaG6
set_option linter.unusedVariables false
set_option linter.unusedSimpArgs false
namespace Go.Proofs.Ythccncpephpdjaa.Chg
open E Go.RowKit

theorem eq_code (l m : List S_api_Prefix) (hl : l.length < 100000) : slices_Equal_api_Prefix l m = some (decide (l = m)) := by
  unfold slices_Equal_api_Prefix
  by_cases h : l.length = m.length
  · have := same0 (l := l) (m := m) hl h (g := fun x y => some (decide (x = y))) (ψ := fun x y => decide (x = y)) (fun x _ y _ => rfl) (fun x y => decide_eq_true_iff) (L := slices_Equal_api_Prefix.l0 l m) (fun i => slices_Equal_api_Prefix.l0.eq_def l m i)
    rw [if_neg (by simp [h]), this, bindM_some]
    cases decide (l = m) <;> rfl
  · rw [if_pos (by simp; omega), decide_eq_false (fun e => h (by rw [e]))]
theorem eq_ref (l m : List S_api_Prefix) (hl : l.length < 100000) : crawlwayref11_Same l m = some (decide (l = m)) := by
  unfold crawlwayref11_Same
  by_cases h : l.length = m.length
  · have := same0 (l := l) (m := m) hl h (g := fun x y => some (decide (x = y))) (ψ := fun x y => decide (x = y)) (fun x _ y _ => rfl) (fun x y => decide_eq_true_iff) (L := crawlwayref11_Same.l0 l m) (fun i => crawlwayref11_Same.l0.eq_def l m i)
    rw [if_neg (by simp [h]), this, bindM_some]
    cases decide (l = m) <;> rfl
  · rw [if_pos (by simp; omega), decide_eq_false (fun e => h (by rw [e]))]
theorem six_inj : ∀ a b c d e f a' b' c' d' e' f' : Bool, decide ((vset (vset (vset (vset (vset (vset (Vector.replicate 6 false : (Vector Bool 6)) 0 a) 1 b) 2 c) 3 d) 4 e) 5 f) = (vset (vset (vset (vset (vset (vset (Vector.replicate 6 false : (Vector Bool 6)) 0 a') 1 b') 2 c') 3 d') 4 e') 5 f')) = ((a == a') && (b == b') && (c == c') && (d == d') && (e == e') && (f == f')) := by
  have key : ∀ a b c d e f : Bool, (vset (vset (vset (vset (vset (vset (Vector.replicate 6 false : (Vector Bool 6)) 0 a) 1 b) 2 c) 3 d) 4 e) 5 f) = #v[a, b, c, d, e, f] := fun a b c d e f => rfl
  intro a b c d e f a' b' c' d' e' f'
  rw [key, key, Bool.eq_iff_iff]
  simp [and_assoc]
theorem four_inj : ∀ a b c d a' b' c' d' : Bool, decide ((vset (vset (vset (vset (Vector.replicate 4 false : (Vector Bool 4)) 0 a) 1 b) 2 c) 3 d) = (vset (vset (vset (vset (Vector.replicate 4 false : (Vector Bool 4)) 0 a') 1 b') 2 c') 3 d')) = ((a == a') && (b == b') && (c == c') && (d == d')) := by
  have key : ∀ a b c d : Bool, (vset (vset (vset (vset (Vector.replicate 4 false : (Vector Bool 4)) 0 a) 1 b) 2 c) 3 d) = #v[a, b, c, d] := fun a b c d => rfl
  intro a b c d a' b' c' d'
  rw [key, key, Bool.eq_iff_iff]
  simp [and_assoc]
def peerE (a b : S_api_PeerChange) : Bool := decide (a.f_Key = b.f_Key) && (a.f_Remove == b.f_Remove) && (a.f_Update == b.f_Update) && (a.f_HasPsk == b.f_HasPsk) && decide (a.f_Psk = b.f_Psk) && (a.f_HasEnd == b.f_HasEnd) && decide (a.f_End = b.f_End) && (a.f_HasKeep == b.f_HasKeep) && (a.f_Keep == b.f_Keep) && (a.f_Replace == b.f_Replace) && decide (a.f_Allowed = b.f_Allowed)
theorem peerE_iff (a b : S_api_PeerChange) : peerE a b = true ↔ a = b := by
  cases a; cases b
  simp [peerE, and_assoc]
theorem alike_code (a b : S_api_PeerChange) (hl : a.f_Allowed.length < 100000) : change_alike a b = some (peerE a b) := by
  unfold change_alike change_alike_1 peerE
  rw [eq_code _ _ hl]
  simp only [bindM_some, six_inj]
  generalize decide (a.f_Key = b.f_Key) = k
  generalize decide (a.f_Psk = b.f_Psk) = p
  generalize decide (a.f_End = b.f_End) = e
  generalize (a.f_Keep == b.f_Keep) = n
  generalize decide (a.f_Allowed = b.f_Allowed) = al
  generalize (a.f_Remove == b.f_Remove) = b1
  generalize (a.f_Update == b.f_Update) = b2
  generalize (a.f_HasPsk == b.f_HasPsk) = b3
  generalize (a.f_HasEnd == b.f_HasEnd) = b4
  generalize (a.f_HasKeep == b.f_HasKeep) = b5
  generalize (a.f_Replace == b.f_Replace) = b6
  clear hl
  revert k p e n al b1 b2 b3 b4 b5 b6
  decide +kernel
theorem alike_ref (a b : S_api_PeerChange) (hl : a.f_Allowed.length < 100000) : crawlwayref32_SamePeer a b = some (peerE a b) := by
  unfold crawlwayref32_SamePeer peerE
  rw [eq_ref _ _ hl]
  simp only [bindM_some]
  generalize decide (a.f_Key = b.f_Key) = k
  generalize decide (a.f_Psk = b.f_Psk) = p
  generalize decide (a.f_End = b.f_End) = e
  generalize (a.f_Keep == b.f_Keep) = n
  generalize decide (a.f_Allowed = b.f_Allowed) = al
  generalize (a.f_Remove == b.f_Remove) = b1
  generalize (a.f_Update == b.f_Update) = b2
  generalize (a.f_HasPsk == b.f_HasPsk) = b3
  generalize (a.f_HasEnd == b.f_HasEnd) = b4
  generalize (a.f_HasKeep == b.f_HasKeep) = b5
  generalize (a.f_Replace == b.f_Replace) = b6
  clear hl
  revert k p e n al b1 b2 b3 b4 b5 b6
  decide +kernel
theorem peers_code (l m : List S_api_PeerChange) (hl : l.length < 100000) (h : ∀ p ∈ l, p.f_Allowed.length < 100000) : slices_EqualFunc_api_PeerChange__change_alike l m = some (decide (l = m)) := by
  unfold slices_EqualFunc_api_PeerChange__change_alike
  by_cases hlm : l.length = m.length
  · have := same0 (l := l) (m := m) hl hlm (g := change_alike) (ψ := peerE) (fun x hx y _ => alike_code x y (h x hx)) peerE_iff (L := slices_EqualFunc_api_PeerChange__change_alike.l0 l m) (fun i => slices_EqualFunc_api_PeerChange__change_alike.l0.eq_def l m i)
    rw [if_neg (by simp [hlm]), this, bindM_some]
    cases decide (l = m) <;> rfl
  · rw [if_pos (by simp; omega), decide_eq_false (fun e => hlm (by rw [e]))]
def reqE (a b : S_api_Request) : Bool := (a.f_HasPrivate == b.f_HasPrivate) && decide (a.f_Private = b.f_Private) && (a.f_HasPort == b.f_HasPort) && (a.f_Port == b.f_Port) && (a.f_HasMark == b.f_HasMark) && (a.f_Mark == b.f_Mark) && (a.f_Replace == b.f_Replace) && decide (a.f_Peers = b.f_Peers)
theorem reqE_self (a : S_api_Request) : reqE a a = true := by simp [reqE]
theorem same_code (a b : S_api_Request) (hs : small a) : change_Same a b = some (reqE a b) := by
  unfold change_Same change_Same_1 reqE
  rw [peers_code _ _ (by have := hs.1; omega) (fun p hp => by have := hs.2 p hp; omega)]
  simp only [bindM_some, four_inj]
  generalize decide (a.f_Private = b.f_Private) = k
  generalize (a.f_Port == b.f_Port) = p
  generalize (a.f_Mark == b.f_Mark) = e
  generalize decide (a.f_Peers = b.f_Peers) = al
  generalize (a.f_HasPrivate == b.f_HasPrivate) = b1
  generalize (a.f_HasPort == b.f_HasPort) = b2
  generalize (a.f_HasMark == b.f_HasMark) = b3
  generalize (a.f_Replace == b.f_Replace) = b4
  clear hs
  revert k p e al b1 b2 b3 b4
  decide +kernel
theorem same_ref (a b : S_api_Request) (hs : small a) : crawlwayref32_Same a b = some (reqE a b) := by
  have e1 : (a.f_HasPrivate != b.f_HasPrivate) = !(a.f_HasPrivate == b.f_HasPrivate) := rfl
  have e2 : (a.f_HasPort != b.f_HasPort) = !(a.f_HasPort == b.f_HasPort) := rfl
  have e3 : (a.f_Port != b.f_Port) = !(a.f_Port == b.f_Port) := rfl
  have e4 : (a.f_HasMark != b.f_HasMark) = !(a.f_HasMark == b.f_HasMark) := rfl
  have e5 : (a.f_Mark != b.f_Mark) = !(a.f_Mark == b.f_Mark) := rfl
  have e6 : (a.f_Replace != b.f_Replace) = !(a.f_Replace == b.f_Replace) := rfl
  have tail : ∀ k p e c b1 b2 b3 b4 : Bool, (if (!b1) = true then some false else if (!k) = true then some false else if (!b2) = true then some false else if (!p) = true then some false else if (!b3) = true then some false else if (!e) = true then some false else if (!b4) = true then some false else some c) = some (b1 && k && b2 && p && b3 && e && b4 && c) := by decide +kernel
  unfold crawlwayref32_Same reqE
  rw [← tail, e1, e2, e3, e4, e5, e6]
  congr 7
  by_cases hlm : a.f_Peers.length = b.f_Peers.length
  · have := same0 (l := a.f_Peers) (m := b.f_Peers) (by have := hs.1; omega) hlm (g := crawlwayref32_SamePeer) (ψ := peerE) (fun x hx y _ => alike_ref x y (by have := hs.2 x hx; omega)) peerE_iff (L := crawlwayref32_Same.l0 a b) (fun i => crawlwayref32_Same.l0.eq_def a b i)
    rw [if_neg (by simp [hlm]), this, bindM_some]
    cases decide (a.f_Peers = b.f_Peers) <;> rfl
  · rw [if_pos (by simp; omega), decide_eq_false (fun e => hlm (by rw [e]))]
theorem ChangeSame_pure (a0 : S_api_Request) (w0 : ok_api_Request a0) (a1 : S_api_Request) (w1 : ok_api_Request a1) : crawlwaylaw32_ChangeSame a0 a1 = some true := by
  unfold crawlwaylaw32_ChangeSame
  rcases large a0 with h | ⟨h, hs⟩
  · rw [h, bindM_some, if_pos rfl, alive32, bindM_some]
  · rw [h, bindM_some, if_neg Bool.false_ne_true]
    rcases large a1 with h' | ⟨h', hs'⟩
    · rw [h', bindM_some, if_pos rfl, alive32, bindM_some]
    · rw [h', bindM_some, if_neg Bool.false_ne_true, same_code _ _ hs, bindM_some, same_ref _ _ hs, bindM_some, if_pos (beq_self_eq_true _), same_code _ _ hs, bindM_some, reqE_self, if_pos rfl, alive32, bindM_some]
end Go.Proofs.Ythccncpephpdjaa.Chg
