/- Chapter 32 in plain words: which requests may be, and which are the same. -/
import Derived.Test.YthccncpephpdjaaCidA
import Derived.Test.YthccncpephpdjaaG5
set_option linter.unusedVariables false
set_option linter.unusedSimpArgs false
namespace Go.Proofs.Ythccncpephpdjaa.Chg
open E Go.RowKit
open Adr Cid

theorem wr_i (i : Nat) (h : i < 1000000) : wr .i64 ((i : Int) + 1) = ((i + 1 : Nat) : Int) := by rw [wr_i64 (by omega) (by omega)]; omega
theorem lget_at {α : Type} [Inhabited α] (l : List α) (i : Nat) (h : i < l.length) : lget l (i : Int) = l[i] := by
  unfold lget
  rw [Int.toNat_natCast, List.getD_eq_getElem?_getD, List.getElem?_eq_getElem h]; rfl
theorem drop_at {α : Type} [Inhabited α] (l : List α) (i : Nat) (h : i < l.length) : l.drop i = lget l (i : Int) :: l.drop (i + 1) := by
  rw [lget_at l i h]; exact List.drop_eq_getElem_cons h
theorem lget_mem {α : Type} [Inhabited α] (l : List α) (i : Nat) (h : i < l.length) : lget l (i : Int) ∈ l := by
  rw [lget_at l i h]; exact List.getElem_mem h
section
variable {α : Type} [Inhabited α] {l : List α} {φ : α → Bool} {f : α → Option Bool}
theorem loop_idx (hl : l.length < 100000) (hf : ∀ x ∈ l, f x = some (φ x)) {L : Int → Option (Ctl Int Unit)}
    (hL : ∀ i : Int, L i = if (decide (i < (l.length : Int))) = true then (if (0 : Int) ≤ i ∧ i < (l.length : Int) then f (lget l i) >>= fun t => if t = true then (some (.ret i)) else L (wr .i64 (i + 1)) else none) else some (.nx ())) :
    ∀ (k i : Nat), i + k = l.length → if (l.drop i).any φ = true then ∃ j : Nat, L (i : Int) = some (.ret (j : Int)) else L (i : Int) = some (.nx ())
  | 0, i, h => by
    rw [List.drop_eq_nil_of_le (by omega), List.any_nil, if_neg Bool.false_ne_true, hL, decide_eq_false (by omega), if_neg Bool.false_ne_true]
  | k + 1, i, h => by
    have ih := loop_idx hl hf hL k (i + 1) (by omega)
    rw [drop_at l i (by omega), List.any_cons]
    have e : L (i : Int) = if φ (lget l (i : Int)) = true then (some (.ret (i : Int))) else L (((i + 1 : Nat) : Int)) := by
      rw [hL, decide_eq_true (by omega : (i : Int) < (l.length : Int)), if_pos rfl, if_pos (by omega), hf _ (lget_mem l i (by omega)), bindM_some, wr_i i (by omega)]
    cases hφ : φ (lget l (i : Int))
    · rw [hφ, if_neg Bool.false_ne_true] at e
      rw [Bool.false_or, e]; exact ih
    · rw [hφ, if_pos rfl] at e
      rw [Bool.true_or, if_pos rfl]
      exact ⟨i, e⟩
theorem loop_all (hl : l.length < 100000) (hf : ∀ x ∈ l, f x = some (φ x)) {L : Int → Option (Ctl Bool Unit)}
    (hL : ∀ i : Int, L i = if (decide (i < (l.length : Int))) = true then (if (0 : Int) ≤ i ∧ i < (l.length : Int) then f (lget l i) >>= fun t => if (!t) = true then (some (.ret false)) else L (wr .i64 (i + 1)) else none) else some (.nx ())) :
    ∀ (k i : Nat), i + k = l.length → L (i : Int) = some (if (l.drop i).all φ = true then .nx () else .ret false)
  | 0, i, h => by
    rw [List.drop_eq_nil_of_le (by omega), List.all_nil, if_pos rfl, hL, decide_eq_false (by omega), if_neg Bool.false_ne_true]
  | k + 1, i, h => by
    have ih := loop_all hl hf hL k (i + 1) (by omega)
    rw [drop_at l i (by omega), List.all_cons, hL, decide_eq_true (by omega : (i : Int) < (l.length : Int)), if_pos rfl, if_pos (by omega), hf _ (lget_mem l i (by omega)), bindM_some, wr_i i (by omega)]
    cases hφ : φ (lget l (i : Int))
    · rfl
    · rw [Bool.true_and, ← ih]; rfl
theorem all0 (hl : l.length < 100000) (hf : ∀ x ∈ l, f x = some (φ x)) {L : Int → Option (Ctl Bool Unit)}
    (hL : ∀ i : Int, L i = if (decide (i < (l.length : Int))) = true then (if (0 : Int) ≤ i ∧ i < (l.length : Int) then f (lget l i) >>= fun t => if (!t) = true then (some (.ret false)) else L (wr .i64 (i + 1)) else none) else some (.nx ())) :
    L 0 = some (if l.all φ = true then .nx () else .ret false) := loop_all hl hf hL l.length 0 (by omega)
theorem loop_same (hl : l.length < 100000) {m : List α} (hlm : l.length = m.length) {g : α → α → Option Bool} {ψ : α → α → Bool} (hg : ∀ x ∈ l, ∀ y ∈ m, g x y = some (ψ x y)) (hψ : ∀ x y, ψ x y = true ↔ x = y) {L : Int → Option (Ctl Bool Unit)}
    (hL : ∀ i : Int, L i = if (decide (i < (l.length : Int))) = true then (if (0 : Int) ≤ i ∧ i < (l.length : Int) then if (0 : Int) ≤ i ∧ i < (m.length : Int) then g (lget l i) (lget m i) >>= fun t => if (!t) = true then (some (.ret false)) else L (wr .i64 (i + 1)) else none else none) else some (.nx ())) :
    ∀ (k i : Nat), i + k = l.length → ∃ b : Bool, (b = true ↔ l.drop i = m.drop i) ∧ L (i : Int) = some (if b = true then .nx () else .ret false)
  | 0, i, h => ⟨true, by rw [List.drop_eq_nil_of_le (by omega), List.drop_eq_nil_of_le (by omega)]; simp, by
    rw [if_pos rfl, hL, decide_eq_false (by omega), if_neg Bool.false_ne_true]⟩
  | k + 1, i, h => by
    obtain ⟨b, hb, ih⟩ := loop_same hl hlm hg hψ hL k (i + 1) (by omega)
    have e : L (i : Int) = if (!ψ (lget l (i : Int)) (lget m (i : Int))) = true then (some (.ret false)) else L (((i + 1 : Nat) : Int)) := by
      rw [hL, decide_eq_true (by omega : (i : Int) < (l.length : Int)), if_pos rfl, if_pos (by omega), if_pos (by omega), hg _ (lget_mem l i (by omega)) _ (lget_mem m i (by omega)), bindM_some, wr_i i (by omega)]
    rw [drop_at l i (by omega), drop_at m i (by omega), List.cons.injEq]
    have hq := hψ (lget l (i : Int)) (lget m (i : Int))
    cases hφ : ψ (lget l (i : Int)) (lget m (i : Int))
    · rw [hφ] at e hq
      exact ⟨false, by simp only [Bool.false_eq_true, false_iff]; exact fun c => Bool.false_ne_true (hq.2 c.1), e⟩
    · rw [hφ] at e hq
      exact ⟨b, by rw [hb]; exact ⟨fun c => ⟨hq.1 rfl, c⟩, fun c => c.2⟩, e.trans ih⟩
theorem same0 [DecidableEq α] (hl : l.length < 100000) {m : List α} (hlm : l.length = m.length) {g : α → α → Option Bool} {ψ : α → α → Bool} (hg : ∀ x ∈ l, ∀ y ∈ m, g x y = some (ψ x y)) (hψ : ∀ x y, ψ x y = true ↔ x = y) {L : Int → Option (Ctl Bool Unit)}
    (hL : ∀ i : Int, L i = if (decide (i < (l.length : Int))) = true then (if (0 : Int) ≤ i ∧ i < (l.length : Int) then if (0 : Int) ≤ i ∧ i < (m.length : Int) then g (lget l i) (lget m i) >>= fun t => if (!t) = true then (some (.ret false)) else L (wr .i64 (i + 1)) else none else none) else some (.nx ())) :
    L 0 = some (if decide (l = m) = true then .nx () else .ret false) := by
  obtain ⟨b, hb, e⟩ := loop_same hl hlm hg hψ hL l.length 0 (by omega)
  rw [List.drop_zero, List.drop_zero] at hb
  have : b = decide (l = m) := by rw [Bool.eq_iff_iff, hb, decide_eq_true_eq]
  rw [← this]; exact e
end
/-! ### parts -/
def rP (p : S_api_Prefix) : Bool := (cidr_Right p).getD false
theorem right_code (p : S_api_Prefix) (h : ok_api_Prefix p) : cidr_Right p = some (rP p) := by
  obtain ⟨V, l, b, rfl, hl, _⟩ := exists_mkP p h
  unfold rP
  rw [cright_code hl]; rfl
theorem right_ref (p : S_api_Prefix) (h : ok_api_Prefix p) : crawlwayref11_Right p = some (rP p) := by
  obtain ⟨V, l, b, rfl, hl, _⟩ := exists_mkP p h
  unfold rP
  rw [cright_code hl, cright_ref hl]; rfl
def eR (e : S_api_Endpoint) : Bool := (hostport_Right e).getD false
theorem end_both (e : S_api_Endpoint) (h : ok_api_Endpoint e) : hostport_Right e = some (eR e) ∧ crawlwayref12_Right e = some (eR e) := by
  obtain ⟨V, l, hA, hl, _⟩ := exists_mkA e.f_A h.1
  have h1 : ∃ b, hostport_Right e = some b ∧ crawlwayref12_Right e = some b := by
    unfold hostport_Right crawlwayref12_Right
    rw [hA, Adr.right_code hl, Adr.right_ref hl, bindM_some]
    cases rightL V l
    · exact ⟨_, rfl, rfl⟩
    · rw [if_pos rfl]
      split
      · exact ⟨_, rfl, rfl⟩
      · exact ⟨_, rfl, rfl⟩
  obtain ⟨b, e1, e2⟩ := h1
  unfold eR
  rw [e1, e2]; exact ⟨rfl, rfl⟩
theorem has_bad (l : List S_api_Prefix) (hl : l.length < 100000) (h : ∀ x ∈ l, ok_api_Prefix x) : slices_ContainsFunc_api_Prefix__change_RightPeer_1 l = some (!l.all rP) := by
  have key := loop_idx (φ := fun x => !rP x) (f := change_RightPeer_1) hl (fun x hx => by unfold change_RightPeer_1; rw [right_code x (h x hx)]; rfl) (L := slices_IndexFunc_api_Prefix__change_RightPeer_1.l0 l) (fun i => slices_IndexFunc_api_Prefix__change_RightPeer_1.l0.eq_def l i) l.length 0 (by omega)
  rw [List.drop_zero, show ((0 : Nat) : Int) = 0 from rfl] at key
  have e : l.any (fun x => !rP x) = !l.all rP := by
    clear key h hl
    induction l with
    | nil => rfl
    | cons x r ih => rw [List.any_cons, List.all_cons, Bool.not_and, ih]
  unfold slices_ContainsFunc_api_Prefix__change_RightPeer_1 slices_IndexFunc_api_Prefix__change_RightPeer_1
  rw [e] at key
  cases hq : l.all rP
  · rw [hq, Bool.not_false, if_pos rfl] at key
    obtain ⟨j, hj⟩ := key
    rw [hj, bindM_some]
    show some (decide ((j : Int) ≥ 0)) = _
    rw [decide_eq_true (by omega)]; rfl
  · rw [hq, Bool.not_true, if_neg Bool.false_ne_true] at key
    rw [key, bindM_some]; rfl

/-! ### peers -/
def zK : Vector Int 32 := Vector.replicate 32 (0 : Int)
def zE : S_api_Endpoint := { f_A := ({ f_V := (0 : Int), f_B := (Vector.replicate 16 (0 : Int) : (Vector Int 16)) } : S_api_Addr), f_Port := (0 : Int) }
def peerB (k hp pz he ez er lo hi hk kz lg al : Bool) : Bool := !k && (hp || pz) && (he || ez) && (!he || er) && !lo && !hi && (hk || kz) && !lg && al
def peerR (x : S_api_PeerChange) : Bool := peerB (decide (x.f_Key = zK)) x.f_HasPsk (decide (x.f_Psk = zK)) x.f_HasEnd (decide (x.f_End = zE)) (eR x.f_End) (decide (x.f_Keep < 0)) (decide (x.f_Keep > 65535)) x.f_HasKeep (x.f_Keep == 0) (decide ((x.f_Allowed.length : Int) > 64)) (x.f_Allowed.all rP)
theorem peer_code (x : S_api_PeerChange) (hl : x.f_Allowed.length < 100000) (h : ok_api_PeerChange x) : change_RightPeer x = some (peerR x) := by
  obtain ⟨h0, h1, h2, h3, h4, h5, h6, h7, h8, h9, h10⟩ := h
  have hc := has_bad x.f_Allowed hl h10
  have hE := (end_both x.f_End h6).1
  have e1 : decide (x.f_Keep ≥ 0) = !decide (x.f_Keep < 0) := by rw [← decide_not]; congr 1; simp
  have e2 : decide (x.f_Keep ≤ 65535) = !decide (x.f_Keep > 65535) := by rw [← decide_not]; congr 1; simp
  have e3 : decide ((x.f_Allowed.length : Int) ≤ 64) = !decide ((x.f_Allowed.length : Int) > 64) := by rw [← decide_not]; congr 1; simp
  unfold change_RightPeer change_only_api_Key change_only_api_Endpoint change_short change_only_int peerR
  rw [hE, hc, e1, e2, e3]
  show _ = some (peerB _ _ _ _ _ _ _ _ _ _ _ _)
  rw [show (Vector.replicate 32 (0 : Int) : Vector Int 32) = zK from rfl, show ({ f_A := ({ f_V := (0 : Int), f_B := (Vector.replicate 16 (0 : Int) : (Vector Int 16)) } : S_api_Addr), f_Port := (0 : Int) } : S_api_Endpoint) = zE from rfl]
  generalize decide (x.f_Key = zK) = k
  generalize decide (x.f_Psk = zK) = pz
  generalize decide (x.f_End = zE) = ez
  generalize eR x.f_End = er
  generalize decide (x.f_Keep < 0) = lo
  generalize decide (x.f_Keep > 65535) = hi
  generalize (x.f_Keep == 0) = kz
  generalize decide ((x.f_Allowed.length : Int) > 64) = lg
  generalize x.f_Allowed.all rP = al
  generalize x.f_HasPsk = hp
  generalize x.f_HasEnd = he
  generalize x.f_HasKeep = hk
  clear hc hE e1 e2 e3 h0 h1 h2 h3 h4 h5 h6 h7 h8 h9 h10 hl
  revert k pz ez er lo hi kz lg al hp he hk
  decide +kernel
theorem peer_ref (x : S_api_PeerChange) (hl : x.f_Allowed.length < 100000) (h : ok_api_PeerChange x) : crawlwayref32_RightPeer x = some (peerR x) := by
  obtain ⟨h0, h1, h2, h3, h4, h5, h6, h7, h8, h9, h10⟩ := h
  have hE := (end_both x.f_End h6).2
  have hf : ∀ y ∈ x.f_Allowed, crawlwayref11_Right y = some (rP y) := fun y hy => right_ref y (h10 y hy)
  have l0 := all0 hl hf (L := crawlwayref32_RightPeer.l0 x) (fun i => crawlwayref32_RightPeer.l0.eq_def x i)
  have l1 := all0 hl hf (L := crawlwayref32_RightPeer.l1 x) (fun i => crawlwayref32_RightPeer.l1.eq_def x i)
  have l2 := all0 hl hf (L := crawlwayref32_RightPeer.l2 x) (fun i => crawlwayref32_RightPeer.l2.eq_def x i)
  have l3 := all0 hl hf (L := crawlwayref32_RightPeer.l3 x) (fun i => crawlwayref32_RightPeer.l3.eq_def x i)
  have l4 := all0 hl hf (L := crawlwayref32_RightPeer.l4 x) (fun i => crawlwayref32_RightPeer.l4.eq_def x i)
  have l5 := all0 hl hf (L := crawlwayref32_RightPeer.l5 x) (fun i => crawlwayref32_RightPeer.l5.eq_def x i)
  have l6 := all0 hl hf (L := crawlwayref32_RightPeer.l6 x) (fun i => crawlwayref32_RightPeer.l6.eq_def x i)
  have l7 := all0 hl hf (L := crawlwayref32_RightPeer.l7 x) (fun i => crawlwayref32_RightPeer.l7.eq_def x i)
  have l8 := all0 hl hf (L := crawlwayref32_RightPeer.l8 x) (fun i => crawlwayref32_RightPeer.l8.eq_def x i)
  have l9 := all0 hl hf (L := crawlwayref32_RightPeer.l9 x) (fun i => crawlwayref32_RightPeer.l9.eq_def x i)
  have l10 := all0 hl hf (L := crawlwayref32_RightPeer.l10 x) (fun i => crawlwayref32_RightPeer.l10.eq_def x i)
  have l11 := all0 hl hf (L := crawlwayref32_RightPeer.l11 x) (fun i => crawlwayref32_RightPeer.l11.eq_def x i)
  have l12 := all0 hl hf (L := crawlwayref32_RightPeer.l12 x) (fun i => crawlwayref32_RightPeer.l12.eq_def x i)
  have l13 := all0 hl hf (L := crawlwayref32_RightPeer.l13 x) (fun i => crawlwayref32_RightPeer.l13.eq_def x i)
  have l14 := all0 hl hf (L := crawlwayref32_RightPeer.l14 x) (fun i => crawlwayref32_RightPeer.l14.eq_def x i)
  have l15 := all0 hl hf (L := crawlwayref32_RightPeer.l15 x) (fun i => crawlwayref32_RightPeer.l15.eq_def x i)
  unfold crawlwayref32_RightPeer peerR
  rw [hE, l0, l1, l2, l3, l4, l5, l6, l7, l8, l9, l10, l11, l12, l13, l14, l15]
  show _ = some (peerB _ _ _ _ _ _ _ _ _ _ _ _)
  rw [show (Vector.replicate 32 (0 : Int) : Vector Int 32) = zK from rfl, show ({ f_A := ({ f_V := (0 : Int), f_B := (Vector.replicate 16 (0 : Int) : (Vector Int 16)) } : S_api_Addr), f_Port := (0 : Int) } : S_api_Endpoint) = zE from rfl]
  have e4 : (x.f_Keep != 0) = !(x.f_Keep == 0) := rfl
  rw [e4]
  generalize decide (x.f_Key = zK) = k
  generalize decide (x.f_Psk = zK) = pz
  generalize decide (x.f_End = zE) = ez
  generalize eR x.f_End = er
  generalize decide (x.f_Keep < 0) = lo
  generalize decide (x.f_Keep > 65535) = hi
  generalize (x.f_Keep == 0) = kz
  generalize decide ((x.f_Allowed.length : Int) > 64) = lg
  generalize x.f_Allowed.all rP = al
  generalize x.f_HasPsk = hp
  generalize x.f_HasEnd = he
  generalize x.f_HasKeep = hk
  clear hE hf h0 h1 h2 h3 h4 h5 h6 h7 h8 h9 h10 e4 l0 l1 l2 l3 l4 l5 l6 l7 l8 l9 l10 l11 l12 l13 l14 l15 hl
  revert k pz ez er lo hi kz lg al hp he hk
  decide +kernel
/-! ### requests -/
def small (x : S_api_Request) : Prop := x.f_Peers.length ≤ 80 ∧ ∀ p ∈ x.f_Peers, p.f_Allowed.length ≤ 80
theorem large_loop (x : S_api_Request) (hl : x.f_Peers.length ≤ 80) : ∀ (k i : Nat), i + k = x.f_Peers.length → crawlwayref32_Large.l0 x (i : Int) = some (if (x.f_Peers.drop i).any (fun p => decide (80 < p.f_Allowed.length)) = true then .ret true else .nx ())
  | 0, i, h => by
    rw [crawlwayref32_Large.l0.eq_def, decide_eq_false (by omega), if_neg Bool.false_ne_true, List.drop_eq_nil_of_le (by omega)]; rfl
  | k + 1, i, h => by
    have ih := large_loop x hl k (i + 1) (by omega)
    rw [crawlwayref32_Large.l0.eq_def, decide_eq_true (by omega : (i : Int) < (x.f_Peers.length : Int)), if_pos rfl, if_pos (by omega), wr_i i (by omega), ih, drop_at _ i (by omega), List.any_cons]
    by_cases hq : 80 < (lget x.f_Peers (i : Int)).f_Allowed.length
    · rw [if_pos (decide_eq_true (by omega)), decide_eq_true hq, Bool.true_or, if_pos rfl]
    · rw [if_neg (by rw [decide_eq_true_eq]; omega), decide_eq_false hq, Bool.false_or]
theorem large (x : S_api_Request) : (crawlwayref32_Large x = some true) ∨ (crawlwayref32_Large x = some false ∧ small x) := by
  unfold crawlwayref32_Large
  by_cases h : x.f_Peers.length ≤ 80
  · rw [if_neg (by rw [decide_eq_true_eq]; omega)]
    have := large_loop x h x.f_Peers.length 0 (by omega)
    rw [List.drop_zero, show ((0 : Nat) : Int) = 0 from rfl] at this
    rw [this, bindM_some]
    cases hq : x.f_Peers.any (fun p => decide (80 < p.f_Allowed.length))
    · right
      refine ⟨rfl, h, fun p hp => ?_⟩
      rw [List.any_eq_false] at hq
      have := hq p hp
      simp at this; omega
    · left; rfl
  · left
    rw [if_pos (decide_eq_true (by omega))]
def reqB (hv vz lo hi ho pz hm mz lg al : Bool) : Bool := (hv || vz) && !lo && !hi && (ho || pz) && (hm || mz) && !lg && al
def reqR (x : S_api_Request) : Bool := reqB x.f_HasPrivate (decide (x.f_Private = zK)) (decide (x.f_Port < 0)) (decide (x.f_Port > 65535)) x.f_HasPort (x.f_Port == 0) x.f_HasMark (x.f_Mark == 0) (decide ((x.f_Peers.length : Int) > 64)) (x.f_Peers.all peerR)
theorem has_badp (l : List S_api_PeerChange) (hl : l.length < 100000) (h : ∀ x ∈ l, change_RightPeer x = some (peerR x)) : slices_ContainsFunc_api_PeerChange__change_Right_1 l = some (!l.all peerR) := by
  have key := loop_idx (φ := fun x => !peerR x) (f := change_Right_1) hl (fun x hx => by unfold change_Right_1; rw [h x hx]; rfl) (L := slices_IndexFunc_api_PeerChange__change_Right_1.l0 l) (fun i => slices_IndexFunc_api_PeerChange__change_Right_1.l0.eq_def l i) l.length 0 (by omega)
  rw [List.drop_zero, show ((0 : Nat) : Int) = 0 from rfl] at key
  have e : l.any (fun x => !peerR x) = !l.all peerR := by
    clear key h hl
    induction l with
    | nil => rfl
    | cons x r ih => rw [List.any_cons, List.all_cons, Bool.not_and, ih]
  unfold slices_ContainsFunc_api_PeerChange__change_Right_1 slices_IndexFunc_api_PeerChange__change_Right_1
  rw [e] at key
  cases hq : l.all peerR
  · rw [hq, Bool.not_false, if_pos rfl] at key
    obtain ⟨j, hj⟩ := key
    rw [hj, bindM_some]
    show some (decide ((j : Int) ≥ 0)) = _
    rw [decide_eq_true (by omega)]; rfl
  · rw [hq, Bool.not_true, if_neg Bool.false_ne_true] at key
    rw [key, bindM_some]; rfl
theorem req_code (x : S_api_Request) (hl : x.f_Peers.length < 100000) (h : ∀ p ∈ x.f_Peers, change_RightPeer p = some (peerR p)) : change_Right x = some (reqR x) := by
  have hc := has_badp x.f_Peers hl h
  have e1 : decide (x.f_Port ≥ 0) = !decide (x.f_Port < 0) := by rw [← decide_not]; congr 1; simp
  have e2 : decide (x.f_Port ≤ 65535) = !decide (x.f_Port > 65535) := by rw [← decide_not]; congr 1; simp
  unfold change_Right change_only_api_Key change_only_int change_only_uint32 change_short reqR
  rw [hc, e1, e2]
  show _ = some (reqB _ _ _ _ _ _ _ _ _ _)
  rw [show (Vector.replicate 32 (0 : Int) : Vector Int 32) = zK from rfl]
  generalize decide (x.f_Private = zK) = vz
  generalize decide (x.f_Port < 0) = lo
  generalize decide (x.f_Port > 65535) = hi
  generalize (x.f_Port == 0) = pz
  generalize (x.f_Mark == 0) = mz
  generalize decide ((x.f_Peers.length : Int) > 64) = lg
  generalize x.f_Peers.all peerR = al
  generalize x.f_HasPrivate = hv
  generalize x.f_HasPort = ho
  generalize x.f_HasMark = hm
  clear hc e1 e2 h hl
  revert vz lo hi pz mz lg al hv ho hm
  decide +kernel
theorem req_ref (x : S_api_Request) (hl : x.f_Peers.length < 100000) (h : ∀ p ∈ x.f_Peers, crawlwayref32_RightPeer p = some (peerR p)) : crawlwayref32_Right x = some (reqR x) := by
  have l0 := all0 hl h (L := crawlwayref32_Right.l0 x) (fun i => crawlwayref32_Right.l0.eq_def x i)
  have l1 := all0 hl h (L := crawlwayref32_Right.l1 x) (fun i => crawlwayref32_Right.l1.eq_def x i)
  have l2 := all0 hl h (L := crawlwayref32_Right.l2 x) (fun i => crawlwayref32_Right.l2.eq_def x i)
  have l3 := all0 hl h (L := crawlwayref32_Right.l3 x) (fun i => crawlwayref32_Right.l3.eq_def x i)
  have l4 := all0 hl h (L := crawlwayref32_Right.l4 x) (fun i => crawlwayref32_Right.l4.eq_def x i)
  have l5 := all0 hl h (L := crawlwayref32_Right.l5 x) (fun i => crawlwayref32_Right.l5.eq_def x i)
  have l6 := all0 hl h (L := crawlwayref32_Right.l6 x) (fun i => crawlwayref32_Right.l6.eq_def x i)
  have l7 := all0 hl h (L := crawlwayref32_Right.l7 x) (fun i => crawlwayref32_Right.l7.eq_def x i)
  unfold crawlwayref32_Right reqR
  rw [l0, l1, l2, l3, l4, l5, l6, l7]
  show _ = some (reqB _ _ _ _ _ _ _ _ _ _)
  rw [show (Vector.replicate 32 (0 : Int) : Vector Int 32) = zK from rfl]
  have e4 : (x.f_Port != 0) = !(x.f_Port == 0) := rfl
  have e5 : (x.f_Mark != 0) = !(x.f_Mark == 0) := rfl
  rw [e4, e5]
  generalize decide (x.f_Private = zK) = vz
  generalize decide (x.f_Port < 0) = lo
  generalize decide (x.f_Port > 65535) = hi
  generalize (x.f_Port == 0) = pz
  generalize (x.f_Mark == 0) = mz
  generalize decide ((x.f_Peers.length : Int) > 64) = lg
  generalize x.f_Peers.all peerR = al
  generalize x.f_HasPrivate = hv
  generalize x.f_HasPort = ho
  generalize x.f_HasMark = hm
  clear e4 e5 l0 l1 l2 l3 l4 l5 l6 l7 h hl
  revert vz lo hi pz mz lg al hv ho hm
  decide +kernel
/-! ### the chapter's example -/
def zP : S_api_PeerChange := { f_Key := (Vector.replicate 32 (0 : Int) : (Vector Int 32)), f_Remove := false, f_Update := false, f_HasPsk := false, f_Psk := (Vector.replicate 32 (0 : Int) : (Vector Int 32)), f_HasEnd := false, f_End := ({ f_A := ({ f_V := (0 : Int), f_B := (Vector.replicate 16 (0 : Int) : (Vector Int 16)) } : S_api_Addr), f_Port := (0 : Int) } : S_api_Endpoint), f_HasKeep := false, f_Keep := (0 : Int), f_Replace := false, f_Allowed := ([] : List S_api_Prefix) }
def zR : S_api_Request := { f_HasPrivate := false, f_Private := (Vector.replicate 32 (0 : Int) : (Vector Int 32)), f_HasPort := false, f_Port := (0 : Int), f_HasMark := false, f_Mark := (0 : Int), f_Replace := false, f_Peers := ([] : List S_api_PeerChange) }
theorem ok_zK (v : Vector Int 32) (h : v = zK) : ∀ x ∈ v.toList, (fun n : Int => (Lit.int .u8 n).wf = true) x := by
  subst h; decide
theorem ok_one : ∀ x ∈ (vset zK 0 1).toList, (fun n : Int => (Lit.int .u8 n).wf = true) x := by decide
theorem ok_zE : ok_api_Endpoint zE := by
  refine ⟨⟨by decide, ?_⟩, by decide⟩
  show ∀ x ∈ (Vector.replicate 16 (0 : Int)).toList, (fun n : Int => (Lit.int .u8 n).wf = true) x
  decide
theorem ok_zP : ok_api_PeerChange zP := ⟨ok_zK _ rfl, trivial, trivial, trivial, ok_zK _ rfl, trivial, ok_zE, trivial, by decide, trivial, by intro x hx; cases hx⟩
theorem ok_kP : ok_api_PeerChange { zP with f_Key := vset zK 0 1 } := ⟨ok_one, trivial, trivial, trivial, ok_zK _ rfl, trivial, ok_zE, trivial, by decide, trivial, by intro x hx; cases hx⟩
theorem alive32 : crawlwaylaw32_alive = some true := by
  have h1 := req_code zR (by decide) (by intro p hp; cases hp)
  have h2 := req_code { zR with f_Peers := [zP] } (by decide) (by
    intro p hp
    rw [List.mem_singleton.1 hp]
    exact peer_code zP (by decide) ok_zP)
  have h3 := peer_code { zP with f_Key := vset zK 0 1 } (by decide) ok_kP
  have e1 : reqR zR = true := by decide +kernel
  have e2 : reqR { zR with f_Peers := [zP] } = false := by
    unfold reqR reqB
    have : peerR zP = false := by unfold peerR peerB; rw [decide_eq_true (show zP.f_Key = zK from rfl)]; rfl
    show (_ && ([zP].all peerR)) = false
    rw [List.all_cons, this, Bool.false_and, Bool.and_false]
  have e3 : peerR { zP with f_Key := vset zK 0 1 } = true := by
    unfold peerR peerB
    rw [decide_eq_false (show ¬ vset zK 0 1 = zK by decide), decide_eq_true (show zP.f_Psk = zK from rfl), decide_eq_true (show zP.f_End = zE from rfl)]
    rfl
  rw [e1] at h1
  rw [e2] at h2
  rw [e3] at h3
  unfold crawlwaylaw32_alive
  show (change_Right zR >>= fun t1 => if t1 = true then (change_Right { zR with f_Peers := [zP] } >>= fun t4 => if (!t4) = true then (change_RightPeer { zP with f_Key := vset zK 0 1 } >>= fun t6 => some t6) else (some false)) else (some false)) = _
  rw [h1, bindM_some, if_pos rfl, h2, bindM_some, if_pos (show (!false) = true from rfl), h3, bindM_some]
theorem right_loop (x : S_api_Request) (hl : x.f_Peers.length ≤ 80) (h1 : ∀ p ∈ x.f_Peers, change_RightPeer p = some (peerR p)) (h2 : ∀ p ∈ x.f_Peers, crawlwayref32_RightPeer p = some (peerR p)) : ∀ (k i : Nat), i + k = x.f_Peers.length → crawlwaylaw32_ChangeRight.l0 x (i : Int) = some (.nx ())
  | 0, i, h => by rw [crawlwaylaw32_ChangeRight.l0.eq_def, decide_eq_false (by omega), if_neg Bool.false_ne_true]
  | k + 1, i, h => by
    have hm := lget_mem x.f_Peers i (by omega)
    rw [crawlwaylaw32_ChangeRight.l0.eq_def, decide_eq_true (by omega : (i : Int) < (x.f_Peers.length : Int)), if_pos rfl, if_pos (by omega), h1 _ hm, bindM_some, h2 _ hm, bindM_some, if_neg (by simp), wr_i i (by omega)]
    exact right_loop x hl h1 h2 k (i + 1) (by omega)
theorem ChangeRight_pure (a0 : S_api_Request) (w0 : ok_api_Request a0) : crawlwaylaw32_ChangeRight a0 = some true := by
  unfold crawlwaylaw32_ChangeRight
  rcases large a0 with h | ⟨h, hs⟩
  · rw [h, bindM_some, if_pos rfl, alive32, bindM_some]
  · obtain ⟨_, _, _, _, _, _, _, hok⟩ := w0
    have h1 : ∀ p ∈ a0.f_Peers, change_RightPeer p = some (peerR p) := fun p hp => peer_code p (by have := hs.2 p hp; omega) (hok p hp)
    have h2 : ∀ p ∈ a0.f_Peers, crawlwayref32_RightPeer p = some (peerR p) := fun p hp => peer_ref p (by have := hs.2 p hp; omega) (hok p hp)
    have hl := right_loop a0 hs.1 h1 h2 a0.f_Peers.length 0 (by omega)
    rw [show ((0 : Nat) : Int) = 0 from rfl] at hl
    rw [h, bindM_some, if_neg Bool.false_ne_true, hl, bindM_some]
    dsimp only
    rw [req_code a0 (by have := hs.1; omega) h1, bindM_some, req_ref a0 (by have := hs.1; omega) h2, bindM_some, if_pos (beq_self_eq_true _), alive32, bindM_some]
end Go.Proofs.Ythccncpephpdjaa.Chg
