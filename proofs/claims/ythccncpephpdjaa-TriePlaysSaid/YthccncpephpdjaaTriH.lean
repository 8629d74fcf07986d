/- Trees in the list of things: what the functions of the trie make of them. -/
import Derived.Test.YthccncpephpdjaaTriT
import Derived.Test.YthccncpephpdjaaU3
set_option linter.unusedVariables false
set_option linter.unusedSimpArgs false
namespace Go.Proofs.Ythccncpephpdjaa.Tri
open E Go.RowKit
open Adr Cid

abbrev Nx := Vector (Option Nat) 2
def Rep (h : List HV) : T → Option Nat → List Nat → Prop
  | .nil, x, fp => x = none ∧ fp = []
  | .nd is o l r, x, fp => ∃ i nx f1 f2, x = some i ∧ h[i]? = some (.trie_node ⟨nx, is, o⟩) ∧ Rep h l (vget nx 0) f1 ∧ Rep h r (vget nx 1) f2 ∧ fp = i :: (f1 ++ f2) ∧ (i :: (f1 ++ f2)).Nodup
theorem Rep.frame {h h' : List HV} : ∀ {t : T} {x : Option Nat} {fp : List Nat}, Rep h t x fp → (∀ i ∈ fp, h'[i]? = h[i]?) → Rep h' t x fp
  | .nil, _, _, hr, _ => hr
  | .nd is o l r, x, fp, ⟨i, nx, f1, f2, hx, hi, hl, hr, hf, hn⟩, he => by
    subst hf
    refine ⟨i, nx, f1, f2, hx, (he i (List.mem_cons_self ..)).trans hi, hl.frame fun j hj => he j ?_, hr.frame fun j hj => he j ?_, rfl, hn⟩ <;> simp [hj]
theorem Rep.lt {h : List HV} : ∀ {t : T} {x : Option Nat} {fp : List Nat}, Rep h t x fp → ∀ i ∈ fp, i < h.length
  | .nil, _, _, ⟨_, hf⟩, i, hi => by subst hf; simp at hi
  | .nd is o l r, x, fp, ⟨i, nx, f1, f2, hx, hi, hl, hr, hf, hn⟩, j, hj => by
    subst hf
    rcases List.mem_cons.1 hj with rfl | hj
    · exact (List.getElem?_eq_some_iff.1 hi).1
    · rcases List.mem_append.1 hj with hj | hj
      · exact hl.lt j hj
      · exact hr.lt j hj
theorem Rep.nodup {h : List HV} : ∀ {t : T} {x : Option Nat} {fp : List Nat}, Rep h t x fp → fp.Nodup
  | .nil, _, _, ⟨_, hf⟩ => by subst hf; simp
  | .nd is o l r, x, fp, ⟨i, nx, f1, f2, hx, hi, hl, hr, hf, hn⟩ => by subst hf; exact hn
theorem Rep.none_iff {h : List HV} : ∀ {t : T} {x : Option Nat} {fp : List Nat}, Rep h t x fp → (x = none ↔ t = .nil)
  | .nil, _, _, ⟨hx, _⟩ => by simp [hx]
  | .nd is o l r, x, fp, ⟨i, nx, f1, f2, hx, _⟩ => by simp [hx]
theorem rep_nd {h : List HV} {is : Bool} {o : Int} {l r : T} {n : Nat} {nx : Nx} {f1 f2 : List Nat} (hi : h[n]? = some (.trie_node ⟨nx, is, o⟩)) (hl : Rep h l (vget nx 0) f1) (hr : Rep h r (vget nx 1) f2) (hn1 : n ∉ f1) (hn2 : n ∉ f2) (hd : ∀ a ∈ f1, ∀ b ∈ f2, a ≠ b) : Rep h (.nd is o l r) (some n) (n :: (f1 ++ f2)) :=
  ⟨n, nx, f1, f2, rfl, hi, hl, hr, rfl, by rw [List.nodup_cons, List.nodup_append]; exact ⟨by simp [hn1, hn2], hl.nodup, hr.nodup, hd⟩⟩
theorem rep_un {h : List HV} {is : Bool} {o : Int} {l r : T} {n : Nat} {fp : List Nat} (hr : Rep h (.nd is o l r) (some n) fp) : ∃ (nx : Nx) (f1 f2 : List Nat), h[n]? = some (.trie_node ⟨nx, is, o⟩) ∧ Rep h l (vget nx 0) f1 ∧ Rep h r (vget nx 1) f2 ∧ fp = n :: (f1 ++ f2) ∧ n ∉ f1 ∧ n ∉ f2 ∧ ∀ a ∈ f1, ∀ b ∈ f2, a ≠ b := by
  obtain ⟨i, nx, f1, f2, hx, hi, hl, hr, hf, hn⟩ := hr
  cases hx
  rw [List.nodup_cons, List.nodup_append] at hn
  exact ⟨nx, f1, f2, hi, hl, hr, hf, fun e => hn.1 (List.mem_append_left _ e), fun e => hn.1 (List.mem_append_right _ e), hn.2.2.2⟩
/-- From here along this path one comes there. -/
def Loc (h : List HV) : Option Nat → List Nat → Nat → Prop
  | x, [], n => x = some n
  | x, b :: p, n => ∃ i nd, x = some i ∧ h[i]? = some (.trie_node nd) ∧ Loc h (vget nd.f_next (b : Int)) p n
theorem vget2 (v : Nx) (i : Nat) (x : Option Nat) (hi : i < 2) : vget (vset v (i : Int) x) (i : Int) = x := by
  unfold vget
  rw [vset_toList, List.getD_eq_getElem?_getD, Int.toNat_natCast, List.getElem?_set_self (by simp; omega)]; rfl
theorem vget2' (v : Nx) (i j : Nat) (x : Option Nat) (hij : i ≠ j) : vget (vset v (i : Int) x) (j : Int) = vget v (j : Int) := by
  unfold vget
  rw [vset_toList, List.getD_eq_getElem?_getD, Int.toNat_natCast, Int.toNat_natCast, List.getElem?_set_ne hij, ← List.getD_eq_getElem?_getD]
theorem T.val_not_has : ∀ (t : T) (p : List Nat), t.has p = false → t.val p = none
  | .nil, _, _ => rfl
  | .nd .., [], h => by simp [T.has] at h
  | .nd is o l r, b :: p, h => by
    unfold T.has at h
    unfold T.val
    split at h
    · next e => rw [if_pos e]; exact T.val_not_has l p h
    · next e => rw [if_neg e]; exact T.val_not_has r p h
/-- A place in a tree, and what it is when another thing stands there. -/
theorem rep_loc {h : List HV} : ∀ {t : T} {x : Option Nat} {fp : List Nat} {p : List Nat} {n : Nat}, Rep h t x fp → (∀ b ∈ p, b < 2) → Loc h x p n →
    t.has p = true ∧ n ∈ fp ∧ ∃ nd, h[n]? = some (.trie_node nd) ∧ t.val p = (if nd.f_is = true then some nd.f_owner else none) ∧
      ∀ is o, Rep (h.set n (.trie_node { nd with f_is := is, f_owner := o })) (t.put p is o) x fp
  | .nil, x, fp, [], n, ⟨hx, _⟩, _, hL => by subst hx; cases hL
  | .nil, x, fp, b :: p, n, ⟨hx, _⟩, _, ⟨i, nd, hL, _⟩ => by subst hx; cases hL
  | .nd is o l r, x, fp, [], n, hR, _, hL => by
    cases hL
    obtain ⟨nx, f1, f2, hi, hl, hr, hf, n1, n2, hd⟩ := rep_un hR
    subst hf
    have hn : n < h.length := (List.getElem?_eq_some_iff.1 hi).1
    refine ⟨rfl, List.mem_cons_self .., _, hi, rfl, fun is' o' => ?_⟩
    refine rep_nd (nx := nx) (List.getElem?_set_self hn) (hl.frame fun j hj => ?_) (hr.frame fun j hj => ?_) n1 n2 hd
    · exact List.getElem?_set_ne (by intro e; subst e; exact n1 hj)
    · exact List.getElem?_set_ne (by intro e; subst e; exact n2 hj)
  | .nd is o l r, x, fp, b :: p, n, hR, hb, ⟨i, nd, hx, hi', hL⟩ => by
    subst hx
    obtain ⟨nx, f1, f2, hi, hl, hr, hf, n1, n2, hd⟩ := rep_un hR
    subst hf
    rw [hi] at hi'
    cases hi'
    have hb0 := hb b (List.mem_cons_self ..)
    have hb' : ∀ b ∈ p, b < 2 := fun c hc => hb c (List.mem_cons_of_mem _ hc)
    have hil : i < h.length := (List.getElem?_eq_some_iff.1 hi).1
    by_cases h0 : b = 0
    · subst h0
      obtain ⟨h1, h2, nd, h3, h4, h5⟩ := rep_loc hl hb' hL
      refine ⟨by simpa [T.has] using h1, by simp [h2], nd, h3, by simpa [T.val] using h4, fun is' o' => ?_⟩
      have hin : n ≠ i := by intro e; subst e; exact n1 h2
      simp only [T.put, if_pos]
      exact rep_nd ((List.getElem?_set_ne hin).trans hi) (h5 is' o') (hr.frame fun j hj => List.getElem?_set_ne (by intro e; subst e; exact hd _ h2 _ hj rfl)) n1 n2 hd
    · have : b = 1 := by omega
      subst this
      obtain ⟨h1, h2, nd, h3, h4, h5⟩ := rep_loc hr hb' hL
      refine ⟨by simpa [T.has] using h1, by simp [h2], nd, h3, by simpa [T.val] using h4, fun is' o' => ?_⟩
      have hin : n ≠ i := by intro e; subst e; exact n2 h2
      simp only [T.put, if_neg h0]
      exact rep_nd ((List.getElem?_set_ne hin).trans hi) (hl.frame fun j hj => List.getElem?_set_ne (by intro e; subst e; exact hd _ hj _ h2 rfl)) (h5 is' o') n1 n2 hd
/-! ### down a path -/
def bf (l : List UInt8) : Nat → Nat → List Nat
  | _, 0 => []
  | d, k + 1 => bit l d :: bf l (d + 1) k
theorem bf_lt (l : List UInt8) : ∀ (k d : Nat), ∀ b ∈ bf l d k, b < 2
  | 0, d, b, h => by simp [bf] at h
  | k + 1, d, b, h => by
    rcases List.mem_cons.1 h with rfl | h
    · exact bit_lt l d
    · exact bf_lt l k (d + 1) b h
theorem bf_len (l : List UInt8) : ∀ (k d : Nat), (bf l d k).length = k
  | 0, _ => rfl
  | k + 1, d => by simp [bf, bf_len l k (d + 1)]
theorem bf_get (l : List UInt8) : ∀ (k d i : Nat), i < k → (bf l d k).getD i 0 = bit l (d + i)
  | 0, _, _, h => by omega
  | k + 1, d, 0, _ => rfl
  | k + 1, d, i + 1, h => by
    show (bf l (d + 1) k).getD i 0 = _
    rw [bf_get l k (d + 1) i (by omega)]; congr 1; omega
def zn : S_trie_node := { f_next := (Vector.replicate 2 (none : Option Nat) : (Vector (Option Nat) 2)), f_is := false, f_owner := (0 : Int) }
theorem hvp_zn (h : List HV) : hvp hK h (.trie_node zn) = true := rfl
structure Grow (h h' : List HV) (fp fp' : List Nat) : Prop where
  len : h.length ≤ h'.length
  old : ∀ j, j < h.length → j ∉ fp → h'[j]? = h[j]?
  new : ∀ j ∈ fp', j ∈ fp ∨ h.length ≤ j
theorem ext_zn : ∀ (p : List Nat), T.ext .nil p = T.ext (.nd false 0 .nil .nil) p
  | [] => rfl
  | _ :: _ => rfl
theorem wr1 {d : Nat} (h : d ≤ 1000) : wr .i64 ((d : Int) + 1) = ((d + 1 : Nat) : Int) := by rw [wr_i64 (by omega) (by omega)]; rfl
theorem put_loop {V : Int} {l : List UInt8} (hl : l.length = 16) (hr : rightL V l = true) (b : Nat) (hb : b ≤ widthL V l) (tk : Nat) : ∀ (k d n : Nat) (t : T) (h : List HV) (fp : List Nat), d + k = b → tk < h.length → Rep h t (some n) fp →
    ∃ n' h' fp', trie_Trie_Put.l0 (some tk) (mkP (mkA V l) (b : Int)) (some n) (d : Int) h = some (some n', h') ∧ Rep h' (t.ext (bf l d k)) (some n) fp' ∧ Loc h' (some n) (bf l d k) n' ∧ Grow h h' fp fp'
  | 0, d, n, t, h, fp, hd, htk, hR => by
    refine ⟨n, h, fp, ?_, ?_, rfl, Nat.le_refl _, fun _ _ _ => rfl, fun _ hj => .inl hj⟩
    · rw [trie_Trie_Put.l0.eq_def, if_neg (by rw [decide_eq_true_eq]; show ¬ (d : Int) < (b : Int); omega)]
    · cases t with
      | nil => cases hR.1
      | nd => exact hR
  | k + 1, d, n, t, h, fp, hd, htk, hR => by
    have hw := width_le (V := V) (l := l)
    cases t with
    | nil => cases hR.1
    | nd is o tl tr =>
    obtain ⟨nx, f1, f2, hi, hL, hRr, hf, n1, n2, hdj⟩ := rep_un hR
    subst hf
    have hnl : n < h.length := (List.getElem?_eq_some_iff.1 hi).1
    have hc2 := bit_lt l d
    have hbit : addr_Bit (mkA V l) (d : Int) = some ((bit l d : Nat) : Int) := by
      rw [bit_code hl (by omega), if_pos (by omega), Int.toNat_natCast]
    have hg2 : (0 : Int) ≤ ((bit l d : Nat) : Int) ∧ ((bit l d : Nat) : Int) < 2 := by omega
    rw [trie_Trie_Put.l0.eq_def, if_pos (by rw [decide_eq_true_eq]; show (d : Int) < (b : Int); omega)]
    simp only [mkP, hbit, bindM_some, hn_trie_node_of hi, if_pos hg2]
    rw [wr1 (by omega)]
    have wdl := (hL.none_iff).1
    have wdr := (hRr.none_iff).1
    generalize hc : bit l d = c at *
    have ebf : bf l d (k + 1) = c :: bf l (d + 1) k := by simp [bf, hc]
    rw [ebf]
    by_cases hv : vget nx (c : Int) = none
    · -- a new place
      rw [if_pos (by rw [hv]; rfl), if_pos (by simp [vp, htk]), if_pos (by simp [vp, hnl]), if_pos (by simp [vp, hnl])]
      show ∃ n' h' fp', (if hvp hK h (.trie_node zn) = true then _ else none) = _ ∧ _
      rw [if_pos (hvp_zn h)]
      have hi1 : (h ++ [HV.trie_node zn])[n]? = some (.trie_node ⟨nx, is, o⟩) := by rw [List.getElem?_append_left hnl]; exact hi
      have e1 := hn_trie_node_of hi1
      unfold zn at e1
      simp only [e1, bindM_some, if_pos hg2]
      rw [if_pos (by simp [vp])]
      let h2 := (h ++ [HV.trie_node zn]).set n (.trie_node ⟨vset nx (c : Int) (some h.length), is, o⟩)
      have hi2 : h2[n]? = some (.trie_node ⟨vset nx (c : Int) (some h.length), is, o⟩) := by
        simp only [h2]; rw [List.getElem?_set_self (by simp; omega)]
      have e2 := hn_trie_node_of hi2
      simp only [h2] at e2
      unfold zn at e2
      simp only [e2, bindM_some, vget2 nx c _ hc2, if_pos hg2]
      have hl2 : h2.length = h.length + 1 := by simp [h2]
      have hm2 : h2[h.length]? = some (.trie_node zn) := by
        simp only [h2]; rw [List.getElem?_set_ne (by omega)]; simp
      have old2 : ∀ j, j < h.length → j ≠ n → h2[j]? = h[j]? := fun j hj hjn => by
        simp only [h2]; rw [List.getElem?_set_ne (by omega), List.getElem?_append_left hj]
      have hRm : Rep h2 (.nd false 0 .nil .nil) (some h.length) [h.length] := rep_nd (nx := zn.f_next) (f1 := []) (f2 := []) hm2 ⟨rfl, rfl⟩ ⟨rfl, rfl⟩ (by simp) (by simp) (by simp)
      obtain ⟨n', h', fp', c1, c2, c3, c4⟩ := put_loop hl hr b hb tk k (d + 1) h.length _ h2 _ (by omega) (by omega) hRm
      rw [← ext_zn] at c2
      have hn' : h'[n]? = some (.trie_node ⟨vset nx (c : Int) (some h.length), is, o⟩) := (c4.old n (by omega) (by simp; omega)).trans hi2
      have keep : ∀ j, j < h.length → j ≠ n → h'[j]? = h[j]? := fun j hj hjn => (c4.old j (by omega) (by simp; omega)).trans (old2 j hj hjn)
      have big : ∀ j ∈ fp', h.length ≤ j := fun j hj => by
        rcases c4.new j hj with e | e
        · simp at e; omega
        · omega
      have fr1 : ∀ j ∈ f1, h'[j]? = h[j]? := fun j hj => keep j (hL.lt j hj) (by intro e; subst e; exact n1 hj)
      have fr2 : ∀ j ∈ f2, h'[j]? = h[j]? := fun j hj => keep j (hRr.lt j hj) (by intro e; subst e; exact n2 hj)
      refine ⟨n', h', if c = 0 then n :: (fp' ++ f2) else n :: (f1 ++ fp'), c1, ?_, ⟨n, _, rfl, hn', by rw [vget2 nx c _ hc2]; exact c3⟩, by have := c4.len; omega, fun j hj hjf => keep j hj (by intro e; subst e; simp at hjf), fun j hj => ?_⟩
      · by_cases h0 : c = 0
        · subst h0
          have e0 : tl = .nil := wdl hv
          subst e0
          simp only [T.ext, if_pos]
          refine rep_nd hn' (by have := vget2 nx 0 (some h.length) (by omega); rw [show ((0 : Nat) : Int) = 0 from rfl] at this ⊢; rw [this]; exact c2) (by have := vget2' nx 0 1 (some h.length) (by omega); rw [show ((0 : Nat) : Int) = 0 from rfl, show ((1 : Nat) : Int) = 1 from rfl] at this; rw [show ((0 : Nat) : Int) = 0 from rfl, this]; exact hRr.frame fr2) (fun e => by have := big n e; omega) n2 (fun a ha c hc => by have := big a ha; have := hRr.lt c hc; omega)
        · have e1 : c = 1 := by omega
          subst e1
          have e0 : tr = .nil := wdr hv
          subst e0
          simp only [T.ext, if_neg h0]
          refine rep_nd hn' (by have := vget2' nx 1 0 (some h.length) (by omega); rw [show ((0 : Nat) : Int) = 0 from rfl, show ((1 : Nat) : Int) = 1 from rfl] at this; rw [show ((1 : Nat) : Int) = 1 from rfl, this]; exact hL.frame fr1) (by have := vget2 nx 1 (some h.length) (by omega); rw [show ((1 : Nat) : Int) = 1 from rfl] at this ⊢; rw [this]; exact c2) n1 (fun e => by have := big n e; omega) (fun a ha c hc => by have := big c hc; have := hL.lt a ha; omega)
      · split at hj <;> simp at hj ⊢
        · rcases hj with hj | hj | hj
          · exact .inl (.inl hj)
          · exact .inr (big j hj)
          · exact .inl (.inr (.inr hj))
        · rcases hj with hj | hj | hj
          · exact .inl (.inl hj)
          · exact .inl (.inr (.inl hj))
          · exact .inr (big j hj)
    · rw [if_neg (by intro e; exact hv (Option.isNone_iff_eq_none.1 e))]
      obtain ⟨m, hm⟩ := Option.ne_none_iff_exists'.1 hv
      rw [hm]
      by_cases h0 : c = 0
      · subst h0
        simp at hm
        rw [hm] at hL
        obtain ⟨n', h', fp', c1, c2, c3, c4⟩ := put_loop hl hr b hb tk k (d + 1) m tl h f1 (by omega) htk hL
        have hn' : h'[n]? = some (.trie_node ⟨nx, is, o⟩) := (c4.old n hnl n1).trans hi
        have fr2 : ∀ j ∈ f2, h'[j]? = h[j]? := fun j hj => c4.old j (hRr.lt j hj) fun e => hdj j e j hj rfl
        have ap : ∀ j ∈ fp', j ∈ f1 ∨ h.length ≤ j := c4.new
        refine ⟨n', h', n :: (fp' ++ f2), c1, ?_, ⟨n, _, rfl, hn', by simpa [hm] using c3⟩, c4.len, fun j hj hjf => c4.old j hj (by simp at hjf; exact hjf.2.1), fun j hj => ?_⟩
        · simp only [T.ext, if_pos]
          refine rep_nd hn' (by rw [hm]; exact c2) (hRr.frame fr2) (fun e => ?_) n2 (fun a ha c hc e => ?_)
          · rcases ap n e with e | e
            · exact n1 e
            · omega
          · subst e
            rcases ap a ha with e | e
            · exact hdj a e a hc rfl
            · have := hRr.lt a hc; omega
        · simp at hj ⊢
          rcases hj with hj | hj | hj
          · exact .inl (.inl hj)
          · exact (ap j hj).imp (fun e => .inr (.inl e)) id
          · exact .inl (.inr (.inr hj))
      · have e1 : c = 1 := by omega
        subst e1
        simp at hm
        rw [hm] at hRr
        obtain ⟨n', h', fp', c1, c2, c3, c4⟩ := put_loop hl hr b hb tk k (d + 1) m tr h f2 (by omega) htk hRr
        have hn' : h'[n]? = some (.trie_node ⟨nx, is, o⟩) := (c4.old n hnl n2).trans hi
        have fr1 : ∀ j ∈ f1, h'[j]? = h[j]? := fun j hj => c4.old j (hL.lt j hj) fun e => hdj j hj j e rfl
        have ap : ∀ j ∈ fp', j ∈ f2 ∨ h.length ≤ j := c4.new
        refine ⟨n', h', n :: (f1 ++ fp'), c1, ?_, ⟨n, _, rfl, hn', by simpa [hm] using c3⟩, c4.len, fun j hj hjf => c4.old j hj (by simp at hjf; exact hjf.2.2), fun j hj => ?_⟩
        · simp only [T.ext, if_neg h0]
          refine rep_nd hn' (hL.frame fr1) (by rw [hm]; exact c2) n1 (fun e => ?_) (fun a ha c hc e => ?_)
          · rcases ap n e with e | e
            · exact n2 e
            · omega
          · subst e
            rcases ap a hc with e | e
            · exact hdj a ha a e rfl
            · have := hL.lt a ha; omega
        · simp at hj ⊢
          rcases hj with hj | hj | hj
          · exact .inl (.inl hj)
          · exact .inl (.inr (.inl hj))
          · exact (ap j hj).imp (fun e => .inr (.inr e)) id
/-- Where a prefix lies, if it does. -/
theorem at_loop {V : Int} {l : List UInt8} (hl : l.length = 16) (b : Nat) (hb : b ≤ widthL V l) (h : List HV) : ∀ (k d : Nat) (t : T) (x : Option Nat) (fp : List Nat), d + k = b → Rep h t x fp →
    ∃ y, trie_Trie_at.l0 h (mkP (mkA V l) (b : Int)) x (d : Int) = some y ∧ (y = none → t.has (bf l d k) = false) ∧ ∀ n, y = some n → Loc h x (bf l d k) n
  | 0, d, t, x, fp, hd, hR => by
    refine ⟨x, ?_, fun e => ?_, fun n e => e⟩
    · rw [trie_Trie_at.l0.eq_def, if_neg (by rw [decide_eq_true_eq]; show ¬ (d : Int) < (b : Int); omega)]
    · rw [hR.none_iff.1 e]; rfl
  | k + 1, d, t, x, fp, hd, hR => by
    have hw := width_le (V := V) (l := l)
    rw [trie_Trie_at.l0.eq_def, if_pos (by rw [decide_eq_true_eq]; show (d : Int) < (b : Int); omega)]
    cases t with
    | nil =>
      obtain ⟨hx, _⟩ := hR
      subst hx
      exact ⟨none, rfl, fun _ => rfl, fun n e => by cases e⟩
    | nd is o tl tr =>
    obtain ⟨n, hx⟩ : ∃ n, x = some n := by obtain ⟨i, _, _, _, hx, _⟩ := hR; exact ⟨i, hx⟩
    subst hx
    obtain ⟨nx, f1, f2, hi, hL, hRr, hf, n1, n2, hdj⟩ := rep_un hR
    have hc2 := bit_lt l d
    have hbit : addr_Bit (mkA V l) (d : Int) = some ((bit l d : Nat) : Int) := by
      rw [bit_code hl (by omega), if_pos (by omega), Int.toNat_natCast]
    have hg2 : (0 : Int) ≤ ((bit l d : Nat) : Int) ∧ ((bit l d : Nat) : Int) < 2 := by omega
    rw [if_pos (show (!(Option.isNone (some n))) = true from rfl)]
    simp only [mkP, hbit, bindM_some, hn_trie_node_of hi, if_pos hg2]
    rw [wr1 (by omega)]
    generalize hc : bit l d = c at *
    have ebf : bf l d (k + 1) = c :: bf l (d + 1) k := by simp [bf, hc]
    rw [ebf]
    by_cases h0 : c = 0
    · subst h0
      obtain ⟨y, q1, q2, q3⟩ := at_loop hl b hb h k (d + 1) tl _ f1 (by omega) hL
      exact ⟨y, q1, fun e => by simpa [T.has] using q2 e, fun m e => ⟨n, _, rfl, hi, q3 m e⟩⟩
    · have e1 : c = 1 := by omega
      subst e1
      obtain ⟨y, q1, q2, q3⟩ := at_loop hl b hb h k (d + 1) tr _ f2 (by omega) hRr
      exact ⟨y, q1, fun e => by simpa [T.has] using q2 e, fun m e => ⟨n, _, rfl, hi, q3 m e⟩⟩
end Go.Proofs.Ythccncpephpdjaa.Tri
