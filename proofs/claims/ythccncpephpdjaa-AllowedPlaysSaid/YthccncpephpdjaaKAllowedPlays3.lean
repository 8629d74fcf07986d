/- Texts of this claim, those in one that belong together; printed by a program of this project. -/
import Derived.Test.YthccncpephpdjaaKAllowedPlays2
set_option linter.unusedVariables false
set_option linter.unusedSimpArgs false
namespace Go.Proofs.Ythccncpephpdjaa.Tri
open E Go.RowKit
open Adr Cid
theorem fin_true_len (e : Tr) : ∀ (X : List Tr), (fin e X true).length = (out e X).length
  | [] => rfl
  | x :: X => by
    unfold fin out
    rw [List.filter_cons]
    by_cases h : key x e
    · rw [if_pos h, if_neg (by simp [h]), fin_true_len e X]; rfl
    · rw [if_neg h, if_neg (by simp), if_pos (by simp [h]), List.length_cons, List.length_cons, fin_true_len e X]; rfl
theorem fin_false_len (e : Tr) : ∀ (X : List Tr), (fin e X false).length = (out e X).length + 1
  | [] => rfl
  | x :: X => by
    have h1 := fin_true_len e X
    have h2 := fin_false_len e X
    unfold out at h1 h2 ⊢
    by_cases h : key x e
    · simp [fin, h, h2]
    · by_cases hl : lessE e x = true
      · simp [fin, h, hl, h1]
      · simp [fin, h, hl, h2]
theorem out_none {e : Tr} : ∀ {X : List Tr}, (∀ x ∈ X, ¬ key x e) → out e X = X
  | [], _ => rfl
  | x :: X, h => by
    unfold out
    rw [List.filter_cons, if_pos (by simp [h x (List.mem_cons_self ..)])]
    congr 1
    exact out_none fun y hy => h y (List.mem_cons_of_mem _ hy)
theorem out_one {e : Tr} : ∀ {X : List Tr}, Srt X → (∃ x ∈ X, key x e) → (out e X).length + 1 = X.length
  | [], _, ⟨x, hx, _⟩ => by simp at hx
  | x :: X, hs, hx => by
    have hs' := List.pairwise_cons.1 hs
    unfold out
    rw [List.filter_cons]
    by_cases h : key x e
    · rw [if_neg (by simp [h])]
      have : out e X = X := out_none fun y hy hk => by
        have := hs'.1 y hy
        unfold lessE at this
        rw [if_pos (h.1.trans hk.1.symm), h.2, hk.2] at this
        simp at this
      show (out e X).length + 1 = _
      rw [this]; rfl
    · rw [if_pos (by simp [h]), List.length_cons, List.length_cons]
      obtain ⟨y, hy, hk⟩ := hx
      have : y ∈ X := by
        rcases List.mem_cons.1 hy with rfl | hy
        · exact absurd hk h
        · exact hy
      show (out e X).length + 1 + 1 = _
      rw [out_one hs'.2 ⟨y, this, hk⟩]
theorem key_path {t : T} {p : List Nat} {o : Int} {n : Nat} (hd : t.dok n) (hn : n ≤ 128) (hp : ∀ b ∈ p, b < 2) : (∃ x ∈ t.list zl 0, key x (adrG zl 0 p, p.length, o)) ↔ ∃ o', t.val p = some o' := by
  constructor
  · rintro ⟨x, hx, k1, k2⟩
    obtain ⟨q, h1, h2, h3, h4⟩ := (T.mem_list t zl 0 x).1 hx
    have hq := T.val_len t n q _ hd h2
    rw [h3] at k1
    rw [h4] at k2
    simp at k1 k2
    have e := adr_inj h1 hp (by omega) k2 k1
    subst e
    exact ⟨_, h2⟩
  · rintro ⟨o', h⟩
    exact ⟨(adrG zl 0 p, p.length, o'), (T.mem_list t zl 0 _).2 ⟨p, hp, h, rfl, by simp⟩, rfl, rfl⟩
structure J (h : List HV) (tk : Nat) (F : Int) (t : T) (fp : List Nat) : Prop where
  fam : F = 4 ∨ F = 6
  tr : ∃ root, h[tk]? = some (.trie_Trie ⟨some root, F, ((t.list zl 0).length : Int)⟩) ∧ Rep h t (some root) fp
  dok : t.dok (wid F)
structure Gr (h h' : List HV) (tk : Nat) (fp fp' : List Nat) : Prop where
  len : h.length ≤ h'.length
  old : ∀ j, j < h.length → j ≠ tk → j ∉ fp → h'[j]? = h[j]?
  new : ∀ j ∈ fp', j ∈ fp ∨ h.length ≤ j
theorem Gr.refl (h : List HV) (tk : Nat) (fp : List Nat) : Gr h h tk fp fp := ⟨Nat.le_refl _, fun _ _ _ _ => rfl, fun _ h => .inl h⟩
theorem Rep.isnode {h : List HV} : ∀ {t : T} {x : Option Nat} {fp : List Nat}, Rep h t x fp → ∀ i ∈ fp, ∃ nd, h[i]? = some (.trie_node nd)
  | .nil, _, _, ⟨_, hf⟩, i, hi => by subst hf; simp at hi
  | .nd is o l r, x, fp, ⟨i, nx, f1, f2, hx, hi, hl, hr, hf, hn⟩, j, hj => by
    subst hf
    rcases List.mem_cons.1 hj with rfl | hj
    · exact ⟨_, hi⟩
    · rcases List.mem_append.1 hj with hj | hj
      · exact hl.isnode j hj
      · exact hr.isnode j hj
variable {h : List HV} {tk : Nat} {F : Int} {t : T} {fp : List Nat}
theorem J.lt (hJ : J h tk F t fp) : tk < h.length := by
  obtain ⟨root, h1, _⟩ := hJ.tr
  exact (List.getElem?_eq_some_iff.1 h1).1
theorem J.apart (hJ : J h tk F t fp) : tk ∉ fp := fun e => by
  obtain ⟨root, h1, h2⟩ := hJ.tr
  obtain ⟨nd, h3⟩ := h2.isnode tk e
  rw [h1] at h3; cases h3
theorem J.fplt (hJ : J h tk F t fp) : ∀ i ∈ fp, i < h.length := by
  obtain ⟨root, h1, h2⟩ := hJ.tr
  exact h2.lt
/-- What has not been touched is as it was. -/
theorem J.frame {h' : List HV} (hJ : J h tk F t fp) (h1 : h'[tk]? = h[tk]?) (h2 : ∀ i ∈ fp, h'[i]? = h[i]?) : J h' tk F t fp := by
  obtain ⟨root, a, b⟩ := hJ.tr
  exact ⟨hJ.fam, ⟨root, h1.trans a, b.frame h2⟩, hJ.dok⟩
theorem hn_trie {z : S_trie_Trie} (e : h[tk]? = some (.trie_Trie z)) : hn_trie_Trie h (some tk) = some (tk, z) := hn_trie_Trie_of e
theorem new_code (h : List HV) (hF : F = 4 ∨ F = 6) : ∃ h', trie_New h F = some (some (h.length + 1), h') ∧ J h' (h.length + 1) F (.nd false 0 .nil .nil) [h.length] ∧ h'.length = h.length + 2 ∧ ∀ j, j < h.length → h'[j]? = h[j]? := by
  let h' := (h ++ [HV.trie_node zn]) ++ [HV.trie_Trie ⟨some h.length, F, 0⟩]
  have e : trie_New h F = some (some (h.length + 1), h') := by
    unfold trie_New
    have hv : hvp hK (h ++ [HV.trie_node zn]) (HV.trie_Trie ⟨some h.length, F, 0⟩) = true := by simp [hvp, hK, vp]
    have hz := hvp_zn h
    unfold zn at hv hz
    rcases hF with rfl | rfl
    · rw [if_neg (by simp), if_pos hz, if_pos hv]
      simp [h', zn]
    · rw [if_pos (by simp), if_neg (by simp), if_pos hz, if_pos hv]
      simp [h', zn]
  have hn : h'[h.length]? = some (.trie_node zn) := by simp [h']
  have ht : h'[h.length + 1]? = some (.trie_Trie ⟨some h.length, F, 0⟩) := by simp [h']
  refine ⟨h', e, ⟨hF, ⟨h.length, by simpa [T.list] using ht, rep_nd (nx := zn.f_next) (f1 := []) (f2 := []) hn ⟨rfl, rfl⟩ ⟨rfl, rfl⟩ (by simp) (by simp) (by simp)⟩, ?_⟩, by simp [h'], fun j hj => ?_⟩
  · cases wid F <;> simp [T.dok]
  · simp only [h']
    rw [List.append_assoc, List.getElem?_append_left hj]
variable {V b : Int} {l : List UInt8}
theorem check_code (hJ : J h tk F t fp) (hl : l.length = 16) : trie_Trie_check h (some tk) (mkP (mkA V l) b) = some (if rightP V l b = true ∧ V = F then 0 else 1) := by
  obtain ⟨root, h1, _⟩ := hJ.tr
  unfold trie_Trie_check
  rw [if_neg (by simp), cright_code hl, bindM_some, hn_trie h1, bindM_some]
  cases rightP V l b with
  | false => rfl
  | true =>
    rw [if_neg (by simp)]
    show (if (V != F) = true then some 1 else some 0) = _
    by_cases e : V = F
    · simp [e]
    · simp [e]
theorem check_yes (hJ : J h tk F t fp) (hl : l.length = 16) (hr : rightP F l b = true) : trie_Trie_check h (some tk) (mkP (mkA F l) b) = some 0 := by
  rw [check_code hJ hl, if_pos ⟨hr, rfl⟩]
theorem at_code (hJ : J h tk F t fp) (hl : l.length = 16) {n : Nat} (hr : rightP F l (n : Int) = true) (hn : n ≤ wid F) : ∃ y, trie_Trie_at h (some tk) (mkP (mkA F l) (n : Int)) = some y ∧ ((y = none ∧ t.val (bf l 0 n) = none) ∨
    ∃ m nd root, y = some m ∧ h[tk]? = some (.trie_Trie ⟨some root, F, ((t.list zl 0).length : Int)⟩) ∧ t.has (bf l 0 n) = true ∧ m ∈ fp ∧ h[m]? = some (.trie_node nd) ∧ t.val (bf l 0 n) = some nd.f_owner ∧ ∀ is o, Rep (h.set m (.trie_node { nd with f_is := is, f_owner := o })) (t.put (bf l 0 n) is o) (some root) fp) := by
  obtain ⟨root, h1, h2⟩ := hJ.tr
  obtain ⟨⟨hrl, _, hb⟩, _⟩ := rightP_iff.1 hr
  rw [wid_of hrl] at hb
  obtain ⟨y, q1, q2, q3⟩ := at_loop (V := F) hl n (by rw [wid_of hrl]; exact hn) h n 0 t _ fp (by omega) h2
  unfold trie_Trie_at
  rw [hn_trie h1, bindM_some]
  rw [show (0 : Int) = ((0 : Nat) : Int) from rfl, q1, bindM_some]
  cases y with
  | none => exact ⟨none, rfl, .inl ⟨rfl, T.val_not_has _ _ (q2 rfl)⟩⟩
  | some m =>
    obtain ⟨a1, a2, nd, a3, a4, a5⟩ := rep_loc h2 (bf_lt l n 0) (q3 m rfl)
    rw [if_neg (by simp), hn_trie_node_of a3, bindM_some]
    cases hi : nd.f_is with
    | false => rw [hi] at a4; exact ⟨none, by rw [if_pos (by rfl)], .inl ⟨rfl, a4⟩⟩
    | true => rw [hi] at a4; exact ⟨some m, by rw [if_neg (by simp)], .inr ⟨m, nd, root, rfl, h1, a1, a2, a3, a4, a5⟩⟩
theorem put_code (hJ : J h tk F t fp) (hc : (t.list zl 0).length ≤ 900) (hl : l.length = 16) {n : Nat} (hr : rightP F l (n : Int) = true) (hn : n ≤ wid F) (hp : adrG zl 0 (bf l 0 n) = l) (o : Int) :
    ∃ h' fp', trie_Trie_Put h (some tk) (mkP (mkA F l) (n : Int)) o = some (0, h') ∧ J h' tk F ((t.ext (bf l 0 n)).put (bf l 0 n) true o) fp' ∧ Gr h h' tk fp fp' := by
  obtain ⟨root, h1, h2⟩ := hJ.tr
  have hap := hJ.apart
  have htl := hJ.lt
  have hw := wid_le F
  obtain ⟨⟨hrl, _, hb⟩, _⟩ := rightP_iff.1 hr
  obtain ⟨m, h1', fp', q1, q2, q3, q4⟩ := put_loop (V := F) hl hrl n (by rw [wid_of hrl]; exact hn) tk n 0 root t h fp (by omega) htl h2
  have hbl := bf_lt l n 0
  have hlen := bf_len l n 0
  obtain ⟨a1, a2, nd, a3, a4, a5⟩ := rep_loc q2 hbl q3
  rw [T.val_ext] at a4
  have ht1 : h1'[tk]? = some (.trie_Trie ⟨some root, F, ((t.list zl 0).length : Int)⟩) := (q4.old tk htl hap).trans h1
  have htl1 : tk < h1'.length := (List.getElem?_eq_some_iff.1 ht1).1
  have hmt : m ≠ tk := fun e => by
    subst e
    rw [ht1] at a3; cases a3
  have hml : m < h1'.length := (List.getElem?_eq_some_iff.1 a3).1
  have hdk := T.dok_put _ _ (bf l 0 n) true o (T.dok_ext t (wid F) (bf l 0 n) hJ.dok (by rw [hlen]; exact hn))
  have hlist := list_put o hJ.dok hw hbl (by rw [hlen]; exact hn)
  have hkp := key_path (o := o) hJ.dok hw hbl
  unfold trie_Trie_Put
  rw [check_yes hJ hl hr, bindM_some, if_neg (by simp), hn_trie h1, bindM_some]
  rw [show (0 : Int) = ((0 : Nat) : Int) from rfl, q1, bindM_some, hn_trie_node_of a3, bindM_some]
  have gr : ∀ h2 : List HV, h2.length = h1'.length → (∀ j, j ≠ m → j ≠ tk → h2[j]? = h1'[j]?) → Gr h h2 tk fp fp' := fun h2 e1 e2 => ⟨by rw [e1]; exact q4.len, fun j hj hjt hjf => by
    have hjm : j ≠ m := fun e => by
      subst e
      rcases q4.new j a2 with e | e
      · exact hjf e
      · omega
    rw [e2 j hjm hjt]; exact q4.old j hj hjf, q4.new⟩
  cases hi : nd.f_is with
  | false =>
    rw [hi] at a4
    have hno : ∀ x ∈ t.list zl 0, ¬ key x (adrG zl 0 (bf l 0 n), (bf l 0 n).length, o) := fun x hx hk => by
      obtain ⟨o', e⟩ := hkp.1 ⟨x, hx, hk⟩
      rw [a4] at e; simp at e
    rw [if_pos (by rfl)]
    simp only [hn_trie ht1, bindM_some]
    have wm : wr .i64 (((t.list zl 0).length : Int) + 1) = (((t.list zl 0).length + 1 : Nat) : Int) := wr1 (by omega)
    rw [wm]
    let hA := h1'.set tk (.trie_Trie ⟨some root, F, (((t.list zl 0).length + 1 : Nat) : Int)⟩)
    have b1 : hA[m]? = some (.trie_node nd) := (List.getElem?_set_ne hmt.symm).trans a3
    have b2 : (hA.set m (.trie_node { nd with f_is := true }))[m]? = some (.trie_node { nd with f_is := true }) := List.getElem?_set_self (by simp [hA]; exact hml)
    have e1 := hn_trie_node_of b1
    have e2 := hn_trie_node_of b2
    simp only [hA] at e1 e2
    simp only [e1, bindM_some, e2, List.set_set]
    refine ⟨_, fp', rfl, ⟨hJ.fam, ⟨root, ?_, ?_⟩, hdk⟩, gr _ (by simp) fun j hjm hjt => by rw [List.getElem?_set_ne (Ne.symm hjm), List.getElem?_set_ne (Ne.symm hjt)]⟩
    · rw [List.getElem?_set_ne hmt, List.getElem?_set_self htl1, hlist, fin_false_len, out_none hno]
    · have := a5 true o
      refine this.frame fun j hj => ?_
      have hjt : j ≠ tk := fun e => by
        subst e
        rcases q4.new j hj with e | e
        · exact hap e
        · omega
      by_cases hjm : j = m
      · subst hjm; rw [List.getElem?_set_self (by simp; exact hml), List.getElem?_set_self hml]
      · rw [List.getElem?_set_ne (Ne.symm hjm), List.getElem?_set_ne (Ne.symm hjt), List.getElem?_set_ne (Ne.symm hjm)]
  | true =>
    rw [hi] at a4
    rw [if_neg (by simp)]
    have b2 : (h1'.set m (.trie_node { nd with f_is := true }))[m]? = some (.trie_node { nd with f_is := true }) := List.getElem?_set_self hml
    simp only [hn_trie_node_of b2, bindM_some, List.set_set]
    refine ⟨_, fp', rfl, ⟨hJ.fam, ⟨root, ?_, a5 true o⟩, hdk⟩, gr _ (by simp) fun j hjm hjt => by rw [List.getElem?_set_ne (Ne.symm hjm)]⟩
    rw [List.getElem?_set_ne hmt, ht1, hlist, fin_false_len, out_one (list_srt hJ.dok hw) (hkp.2 ⟨nd.f_owner, by rw [a4, if_pos rfl]⟩)]
theorem drop_code (hJ : J h tk F t fp) (hc : (t.list zl 0).length ≤ 900) (hl : l.length = 16) {n : Nat} (hr : rightP F l (n : Int) = true) (hn : n ≤ wid F) :
    (t.val (bf l 0 n) = none ∧ trie_Trie_Drop h (some tk) (mkP (mkA F l) (n : Int)) = some (8, h)) ∨
    (t.has (bf l 0 n) = true ∧ (∃ o, t.val (bf l 0 n) = some o) ∧ ∃ h' fp' u, trie_Trie_Drop h (some tk) (mkP (mkA F l) (n : Int)) = some (0, h') ∧ (∀ q, u.val q = (t.put (bf l 0 n) false 0).val q) ∧ J h' tk F u fp' ∧ Gr h h' tk fp fp') := by
  have hap := hJ.apart
  have htl := hJ.lt
  have hw := wid_le F
  have hbl := bf_lt l n 0
  have hlen := bf_len l n 0
  obtain ⟨y, q1, q2⟩ := at_code hJ hl hr hn
  unfold trie_Trie_Drop
  rw [check_yes hJ hl hr, bindM_some, if_neg (by simp), q1, bindM_some]
  rcases q2 with ⟨rfl, hv⟩ | ⟨m, nd, root, rfl, h1, hh, hm, a3, hv, a5⟩
  · left; exact ⟨hv, by rw [if_pos (by rfl)]⟩
  · right
    refine ⟨hh, ⟨_, hv⟩, ?_⟩
    have hml : m < h.length := (List.getElem?_eq_some_iff.1 a3).1
    have hmt : m ≠ tk := fun e => by subst e; exact hap hm
    rw [if_neg (by simp), hn_trie_node_of a3, bindM_some]
    have b2 : (h.set m (.trie_node { nd with f_is := false }))[m]? = some (.trie_node { nd with f_is := false }) := List.getElem?_set_self hml
    simp only [hn_trie_node_of b2, bindM_some, List.set_set]
    have b3 : (h.set m (.trie_node { nd with f_is := false, f_owner := 0 }))[tk]? = some (.trie_Trie ⟨some root, F, ((t.list zl 0).length : Int)⟩) := (List.getElem?_set_ne hmt).trans h1
    simp only [hn_trie b3, bindM_some]
    have hone := out_one (list_srt hJ.dok hw) ((key_path (o := 0) hJ.dok hw hbl).2 ⟨_, hv⟩)
    have wm : wr .i64 (((t.list zl 0).length : Int) - 1) = (((t.list zl 0).length - 1 : Nat) : Int) := by rw [wr_i64 (by omega) (by omega)]; omega
    rw [wm]
    let hB := (h.set m (.trie_node { nd with f_is := false, f_owner := 0 })).set tk (.trie_Trie ⟨some root, F, (((t.list zl 0).length - 1 : Nat) : Int)⟩)
    have b4 : hB[tk]? = some (.trie_Trie ⟨some root, F, (((t.list zl 0).length - 1 : Nat) : Int)⟩) := List.getElem?_set_self (by simp; exact htl)
    have e4 := hn_trie b4
    simp only [hB] at e4
    simp only [e4, bindM_some]
    have hRB : Rep hB (t.put (bf l 0 n) false 0) (some root) fp := (a5 false 0).frame fun j hj => by
      have hjt : j ≠ tk := fun e => by subst e; exact hap hj
      simp only [hB]
      exact List.getElem?_set_ne (Ne.symm hjt)
    have hdp := T.dok_put t (wid F) (bf l 0 n) false 0 hJ.dok
    obtain ⟨h', c1, c2, c3, fp', c4, is, o, tl, tr, et, c5⟩ := prune_go _ (wid F) 400 hB root fp hdp (by omega) hRB
    unfold trie_node_prune
    rw [c1, bindM_some]
    have hval : ∀ q, (T.nd is o tl.cut tr.cut).val q = (t.put (bf l 0 n) false 0).val q := fun q => by
      rw [et]
      cases q with
      | nil => rfl
      | cons c q => simp only [T.val, T.val_cut]
    have hdu : (T.nd is o tl.cut tr.cut).dok (wid F) := by
      rw [et] at hdp
      revert hdp
      cases wid F with
      | zero => rintro ⟨rfl, rfl⟩; exact ⟨rfl, rfl⟩
      | succ k => rintro ⟨a, b⟩; exact ⟨T.dok_cut _ _ a, T.dok_cut _ _ b⟩
    have hlist := list_drop (t := t) (p := bf l 0 n) 0 hJ.dok hw hbl (by rw [hlen]; exact hn) hh _ hval hdu
    refine ⟨h', fp', _, rfl, hval, ⟨hJ.fam, ⟨root, ?_, c5⟩, hdu⟩, by rw [c2]; simp [hB], fun j hj hjt hjf => ?_, fun j hj => .inl (c4 j hj)⟩
    · rw [c3 tk hap, b4, hlist]
      congr 3
      show (((t.list zl 0).length - 1 : Nat) : Int) = _
      congr 1
      omega
    · rw [c3 j hjf]
      have hjm : j ≠ m := fun e => by subst e; exact hjf hm
      simp only [hB]
      rw [List.getElem?_set_ne (Ne.symm hjt), List.getElem?_set_ne (Ne.symm hjm)]
theorem all_code (hJ : J h tk F t fp) (hc : (t.list zl 0).length ≤ 900) : trie_Trie_All h (some tk) = some ((t.list zl 0).map (toE F)) := by
  obtain ⟨root, h1, h2⟩ := hJ.tr
  have hw := wid_le F
  unfold trie_Trie_All
  rw [if_neg (by simp)]
  simp only [hn_trie h1, bindM_some]
  unfold trie_node_each__trie_Trie_All_1
  have e := each_go F t (wid F) 400 h _ fp zl 0 [] h2 hJ.dok (by omega) (by omega) zl_len (by simp; omega)
  have ez : ({ f_V := F, f_B := (Vector.replicate 16 (0 : Int) : Vector Int 16) } : S_api_Addr) = mkA F zl := by rw [zero_vb]; rfl
  rw [ez, show (0 : Int) = ((0 : Nat) : Int) from rfl, e]
  simp
end Go.Proofs.Ythccncpephpdjaa.Tri
namespace Go.Proofs.Ythccncpephpdjaa.Tri
open E Go.RowKit
open Adr Cid
variable {h : List HV} {tk : Nat} {F : Int} {t : T} {fp : List Nat}
theorem has_iff (hF : F = 4 ∨ F = 6) (hd : t.dok (wid F)) {a : List UInt8} (ha : a.length = 16) (hr : rightL F a = true) {x : Tr} (hx : x ∈ t.list zl 0) : hasT F x F a = true ↔ x.1 = mfull a (x.2.1 : Int) ∧ x.2.1 ≤ wid F ∧ t.val (bf a 0 x.2.1) = some x.2.2 := by
  have hw := wid_le F
  obtain ⟨p, h1, h2, h3, h4⟩ := (T.mem_list t zl 0 x).1 hx
  have hpl := T.val_len t _ p _ hd h2
  have h5 : x.2.1 = p.length := by omega
  have hrp := right_path hF h1 hpl
  unfold hasT hasP
  rw [h5, h3, hrp, hr, decide_eq_true rfl]
  simp only [Bool.true_and, decide_eq_true_eq]
  constructor
  · intro e
    refine ⟨e.symm, hpl, ?_⟩
    rw [← adr_mfull ha (by omega)] at e
    have := adr_inj (bf_lt a _ 0) h1 (by rw [bf_len]; omega) (bf_len ..) e
    rw [this]; exact h2
  · exact fun ⟨e, _⟩ => e.symm
theorem find_code (hJ : J h tk F t fp) (hc : (t.list zl 0).length ≤ 900) {V : Int} {a : List UInt8} (ha : a.length = 16) : ∃ e is, trie_Trie_Find h (some tk) (mkA V a) = some (e, is) ∧ crawlwayref25_Find ((t.list zl 0).map (toE F)) (mkA V a) = some (e, is) ∧ (is = true → V = F) := by
  obtain ⟨root, h1, h2⟩ := hJ.tr
  have hw := wid_le F
  rw [find_ref ha (list_len16 t) (by omega)]
  unfold trie_Trie_Find
  rw [if_neg (by simp), right_code ha, bindM_some]
  by_cases hr : rightL V a = true ∧ V = F
  · obtain ⟨hr, rfl⟩ := hr
    rw [hr, if_neg (by simp)]
    simp only [hn_trie h1, bindM_some]
    have e0 : ((mkA V a).f_V != V) = false := by show (V != V) = false; simp
    rw [e0, if_neg (by simp)]
    have hfl := find_loop ha hr h (wid V) 0 t _ fp false zE (by rw [wid_of hr]; omega) h2
    unfold zE at hfl
    rw [show (0 : Int) = ((0 : Nat) : Int) from rfl] at hfl ⊢
    rw [hfl, bindM_some]
    obtain ⟨d1, d2⟩ := deep_spec t (bf a 0 (wid V)) 0
    have hbl := bf_len a (wid V) 0
    cases hdp : t.deep (bf a 0 (wid V)) 0 with
    | none =>
      have hno : ∀ x ∈ t.list zl 0, hasT V x V a = false := fun x hx => by
        cases hh : hasT V x V a with
        | false => rfl
        | true =>
          obtain ⟨_, a2, a3⟩ := (has_iff hJ.fam hJ.dok ha hr hx).1 hh
          have := d1 hdp x.2.1 (by omega)
          rw [bf_take a _ _ _ a2, a3] at this; cases this
      rw [fold_none _ _ hno]
      exact ⟨_, _, rfl, rfl, fun e => by cases e⟩
    | some z =>
      obtain ⟨j, o⟩ := z
      obtain ⟨m, m1, m2, m3, m4⟩ := d2 j o hdp
      have hj : j = m := by omega
      subst hj
      rw [hbl] at m1
      rw [bf_take a _ _ _ m1] at m3
      have hx0 : (adrG zl 0 (bf a 0 j), j, o) ∈ t.list zl 0 := (T.mem_list t zl 0 _).2 ⟨bf a 0 j, bf_lt a j 0, m3, rfl, by simp [bf_len]⟩
      have hh0 := (has_iff hJ.fam hJ.dok ha hr hx0).2 ⟨adr_mfull ha (by omega), m1, m3⟩
      obtain ⟨f1, f2, f3, f4⟩ := fold_some (F := V) (V := V) (a := a) (t.list zl 0) (false, zE) (.inr ⟨_, hx0, hh0⟩)
      rcases f2 with ⟨f2, _⟩ | ⟨y, hy, hyh, f2⟩
      · cases f2
      · obtain ⟨b1, b2, b3⟩ := (has_iff hJ.fam hJ.dok ha hr hy).1 hyh
        have hle := f4 _ hx0 hh0
        rw [f2] at hle
        have hle' : j ≤ y.2.1 := by
          have : ((j : Nat) : Int) ≤ (y.2.1 : Int) := hle
          omega
        have hje : y.2.1 = j := by
          rcases Nat.lt_or_ge j y.2.1 with hlt | hge
          · have := m4 y.2.1 hlt (by rw [hbl]; exact b2)
            rw [bf_take a _ _ _ b2, b3] at this; cases this
          · omega
        refine ⟨_, _, rfl, ?_, fun _ => trivial⟩
        rw [f2, f1]
        rw [hje, m3] at b3
        rw [hje] at b1
        show some (toE V y, true) = _
        unfold toE
        rw [b1, hje, ← Option.some.inj b3]; rfl
  · have hno : ∀ x ∈ t.list zl 0, hasT F x V a = false := fun x hx => by
      unfold hasT hasP
      by_cases hV : V = F
      · have : rightL V a = false := by cases q : rightL V a with | false => rfl | true => exact absurd ⟨q, hV⟩ hr
        rw [this]; simp
      · rw [decide_eq_false hV]; simp
    rw [fold_none _ _ hno]
    refine ⟨zE, false, ?_, rfl, fun e => by cases e⟩
    cases q : rightL V a with
    | false => rfl
    | true =>
      rw [if_neg (by simp), hn_trie h1, bindM_some, if_pos (by
        show (V != F) = true
        simp
        exact fun e => hr ⟨q, e⟩)]
      rfl
def l1 : List UInt8 := [10, 0, 0, 0, 0, 0, 0, 0, 0, 0, 0, 0, 0, 0, 0, 0]
def l2 : List UInt8 := [10, 1, 0, 0, 0, 0, 0, 0, 0, 0, 0, 0, 0, 0, 0, 0]
theorem v1 : vset (Vector.replicate 16 (0 : Int) : (Vector Int 16)) 0 10 = vb l1 := by decide +kernel
theorem v2 : vset (vset (Vector.replicate 16 (0 : Int) : (Vector Int 16)) 0 10) 1 1 = vb l2 := by decide +kernel
end Go.Proofs.Ythccncpephpdjaa.Tri
namespace Go.Proofs.Ythccncpephpdjaa.Alw
open E Go.RowKit
open Adr Cid Tri
abbrev G := Int × Tr
def toG (g : G) : S_api_Entry := toE g.1 g.2
def keyG (x y : G) : Prop := x.1 = y.1 ∧ key x.2 y.2
instance (x y : G) : Decidable (keyG x y) := inferInstanceAs (Decidable (_ ∧ _))
def lessG (x y : G) : Bool := if x.1 = y.1 then lessE x.2 y.2 else decide (x.1 < y.1)
def LnG (X : List G) : Prop := ∀ x ∈ X, x.2.1.length = 16
theorem toG_key {x y : G} (hx : x.2.1.length = 16) (hy : y.2.1.length = 16) : (toG x).f_P = (toG y).f_P ↔ keyG x y := by
  show mkP (mkA x.1 x.2.1) (x.2.2.1 : Int) = mkP (mkA y.1 y.2.1) (y.2.2.1 : Int) ↔ _
  rw [mkP_inj hx hy]
  exact ⟨fun ⟨⟨h0, h1⟩, h2⟩ => ⟨h0, h1, by omega⟩, fun ⟨h0, h1, h2⟩ => ⟨⟨h0, h1⟩, by omega⟩⟩
theorem lgetG {X : List G} {i : Nat} {x : G} (h : X[i]? = some x) : lget (X.map toG) (i : Int) = toG x := by
  unfold lget
  rw [List.getD_eq_getElem?_getD, Int.toNat_natCast, List.getElem?_map, h]; rfl
theorem lessG11 {x y : G} (hx : x.2.1.length = 16) (hy : y.2.1.length = 16) : crawlwayref11_Less (toG x).f_P (toG y).f_P = some (lessG x y) := by
  by_cases hF : x.1 = y.1
  · obtain ⟨F, x⟩ := x
    obtain ⟨F', y⟩ := y
    simp only at hF
    subst hF
    unfold lessG
    rw [if_pos rfl]
    exact less11 hx hy
  · unfold crawlwayref11_Less
    show (if (!decide (mkA x.1 x.2.1 = mkA y.1 y.2.1)) = true then (crawlwayref10_Less (mkA x.1 x.2.1) (mkA y.1 y.2.1) >>= fun t4 => some t4) else some (decide ((x.2.2.1 : Int) < (y.2.2.1 : Int)))) = _
    have e : ¬ mkA x.1 x.2.1 = mkA y.1 y.2.1 := fun e => hF ((mkA_inj hx hy).1 e).1
    unfold lessG
    rw [decide_eq_false e, if_neg hF, less_ref hx hy]
    simp [lessA, hF]
theorem dropG_cons {α : Type} {X : List α} {i : Nat} {x : α} (h : X[i]? = some x) : X.drop i = x :: X.drop (i + 1) := by
  obtain ⟨hi, e⟩ := List.getElem?_eq_some_iff.1 h
  rw [← e]; exact List.drop_eq_getElem_cons hi
def finG (e : G) : List G → Bool → List G
  | [], inn => if inn = true then [] else [e]
  | x :: X, inn => if keyG x e then finG e X inn else if inn = false ∧ lessG e x = true then e :: x :: finG e X true else x :: finG e X inn
theorem putG_loop {X : List G} {e : G} (hX : LnG X) (he : e.2.1.length = 16) (hn : X.length ≤ 1000) : ∀ (k i : Nat) (out : List S_api_Entry) (inn : Bool), i + k = X.length → out.length ≤ i + (if inn = true then 1 else 0) →
    ∃ out' inn', crawlwayref25_Put.l0 (X.map toG) (toG e) out inn (i : Int) = some (out', inn') ∧ out'.length ≤ 1001 ∧ (if inn' = true then out' else out' ++ [toG e]) = out ++ (finG e (X.drop i) inn).map toG
  | 0, i, out, inn, hi, ho => by
    refine ⟨out, inn, ?_, by split at ho <;> omega, ?_⟩
    · rw [crawlwayref25_Put.l0.eq_def, if_neg (by rw [decide_eq_true_eq]; simp; omega)]
    · rw [List.drop_eq_nil_of_le (by omega)]
      unfold finG
      cases inn <;> simp
  | k + 1, i, out, inn, hi, ho => by
    obtain ⟨x, hx⟩ : ∃ x, X[i]? = some x := ⟨_, List.getElem?_eq_getElem (by omega)⟩
    have hx16 := hX x (List.mem_of_getElem? hx)
    have hlen : ((X.map toG).length : Int) = (X.length : Int) := by simp
    have hg : (0 : Int) ≤ (i : Int) ∧ (i : Int) < ((X.map toG).length : Int) := by rw [hlen]; omega
    have ho2 : out.length ≤ 1001 := by split at ho <;> omega
    rw [crawlwayref25_Put.l0.eq_def, if_pos (by rw [decide_eq_true_eq]; exact hg.2), if_pos hg, lgetG hx, wr1 (by omega), dropG_cons hx]
    by_cases hk : keyG x e
    · rw [if_pos (decide_eq_true ((toG_key hx16 he).2 hk))]
      obtain ⟨o', i', q1, q2, q3⟩ := putG_loop hX he hn k (i + 1) out inn (by omega) (by split at ho <;> omega)
      exact ⟨o', i', q1, q2, by rw [q3, finG, if_pos hk]⟩
    · rw [if_neg (by rw [decide_eq_true_eq]; exact fun h => hk ((toG_key hx16 he).1 h))]
      cases inn with
      | true =>
        rw [if_neg (by simp), if_pos hg, if_pos (by omega)]
        obtain ⟨o', i', q1, q2, q3⟩ := putG_loop hX he hn k (i + 1) (out ++ [toG x]) true (by omega) (by simp at ho ⊢; omega)
        exact ⟨o', i', q1, q2, by rw [q3, finG, if_neg hk, if_neg (by simp)]; simp⟩
      | false =>
        have h0 : out.length ≤ i := by simpa using ho
        rw [if_pos (by simp), if_pos hg, lessG11 he hx16, bindM_some]
        cases hle : lessG e x with
        | true =>
          rw [if_pos rfl, if_pos (by omega), if_pos hg, if_pos (by simp; omega)]
          obtain ⟨o', i', q1, q2, q3⟩ := putG_loop hX he hn k (i + 1) ((out ++ [toG e]) ++ [toG x]) true (by omega) (by simp; omega)
          exact ⟨o', i', q1, q2, by rw [q3, finG, if_neg hk, if_pos ⟨rfl, hle⟩]; simp⟩
        | false =>
          rw [if_neg (by simp), if_pos hg, if_pos (by omega)]
          obtain ⟨o', i', q1, q2, q3⟩ := putG_loop hX he hn k (i + 1) (out ++ [toG x]) false (by omega) (by simp; omega)
          exact ⟨o', i', q1, q2, by rw [q3, finG, if_neg hk, if_neg (by simp [hle])]; simp⟩
theorem putG_ref {X : List G} {e : G} (hX : LnG X) (he : e.2.1.length = 16) (hn : X.length ≤ 1000) : crawlwayref25_Put (X.map toG) (toG e) = some ((finG e X false).map toG) := by
  obtain ⟨o', i', q1, q2, q3⟩ := putG_loop hX he hn X.length 0 [] false (by omega) (by simp)
  unfold crawlwayref25_Put
  rw [show (0 : Int) = ((0 : Nat) : Int) from rfl, q1, bindM_some]
  simp only [List.drop_zero, List.nil_append] at q3
  rw [← q3]
  cases i' with
  | true => simp
  | false => simp; omega
def both (A B : List Tr) : List G := A.map (fun x => (4, x)) ++ B.map (fun x => (6, x))
theorem both_len (A B : List Tr) : (both A B).length = A.length + B.length := by simp [both]
theorem both_map (A B : List Tr) : (both A B).map toG = A.map (toE 4) ++ B.map (toE 6) := by
  simp only [both, List.map_append, List.map_map]
  rfl
theorem both_ln {A B : List Tr} (hA : Ln A) (hB : Ln B) : LnG (both A B) := fun x hx => by
  unfold both at hx
  rcases List.mem_append.1 hx with hx | hx
  · obtain ⟨y, hy, rfl⟩ := List.mem_map.1 hx; exact hA y hy
  · obtain ⟨y, hy, rfl⟩ := List.mem_map.1 hx; exact hB y hy
theorem fin_4_in (e : Tr) : ∀ (B : List Tr), finG (4, e) (B.map fun x => ((6 : Int), x)) true = B.map fun x => (6, x)
  | [] => rfl
  | y :: B => by
    rw [List.map_cons, finG, if_neg (fun h => by have := h.1; simp at this), if_neg (by simp), fin_4_in e B]
theorem fin_4_6 (e : Tr) : ∀ (B : List Tr) (inn : Bool), finG (4, e) (B.map fun x => ((6 : Int), x)) inn = (if inn = true then [] else [((4 : Int), e)]) ++ B.map fun x => (6, x)
  | [], inn => by unfold finG; cases inn <;> rfl
  | y :: B, true => by rw [fin_4_in]; rfl
  | y :: B, false => by
    rw [List.map_cons, finG, if_neg (fun h => by have := h.1; simp at this), if_pos ⟨rfl, by unfold lessG; rw [if_neg (by simp)]; simp⟩, fin_4_in e B]; rfl
theorem fin_four (e : Tr) (B : List Tr) : ∀ (A : List Tr) (inn : Bool), finG (4, e) (both A B) inn = both (fin e A inn) B
  | [], inn => by
    unfold both fin
    rw [List.map_nil, List.nil_append, fin_4_6]
    cases inn <;> rfl
  | x :: A, inn => by
    have ih := fun b => fin_four e B A b
    unfold both at ih ⊢
    have hk : keyG ((4 : Int), x) (4, e) ↔ key x e := ⟨fun h => h.2, fun h => ⟨rfl, h⟩⟩
    have hle : lessG ((4 : Int), e) (4, x) = lessE e x := by unfold lessG; rw [if_pos rfl]
    rw [List.map_cons, List.cons_append, finG, fin, hle]
    by_cases h1 : key x e
    · rw [if_pos (hk.2 h1), if_pos h1]; exact ih inn
    · rw [if_neg (fun h => h1 (hk.1 h)), if_neg h1]
      by_cases h2 : inn = false ∧ lessE e x = true
      · rw [if_pos h2, if_pos h2, ih true]; rfl
      · rw [if_neg h2, if_neg h2, ih inn]; rfl
theorem fin_66 (e : Tr) : ∀ (B : List Tr) (inn : Bool), finG (6, e) (B.map fun x => ((6 : Int), x)) inn = (fin e B inn).map fun x => (6, x)
  | [], inn => by unfold finG fin; cases inn <;> rfl
  | x :: B, inn => by
    have hk : keyG ((6 : Int), x) (6, e) ↔ key x e := ⟨fun h => h.2, fun h => ⟨rfl, h⟩⟩
    have hle : lessG ((6 : Int), e) (6, x) = lessE e x := by unfold lessG; rw [if_pos rfl]
    rw [List.map_cons, finG, fin, hle]
    by_cases h1 : key x e
    · rw [if_pos (hk.2 h1), if_pos h1]; exact fin_66 e B inn
    · rw [if_neg (fun h => h1 (hk.1 h)), if_neg h1]
      by_cases h2 : inn = false ∧ lessE e x = true
      · rw [if_pos h2, if_pos h2, fin_66 e B true]; rfl
      · rw [if_neg h2, if_neg h2, fin_66 e B inn]; rfl
theorem fin_six (e : Tr) (B : List Tr) : ∀ (A : List Tr), finG (6, e) (both A B) false = both A (fin e B false)
  | [] => by unfold both; exact fin_66 e B false
  | x :: A => by
    have ih := fin_six e B A
    unfold both at ih ⊢
    rw [List.map_cons, List.cons_append, finG, if_neg (fun h => by have := h.1; simp at this), if_neg (fun h => by have := h.2; unfold lessG at this; rw [if_neg (by simp)] at this; simp at this), ih]; rfl
theorem lgetL {L : List S_api_Entry} {i : Nat} {x : S_api_Entry} (h : L[i]? = some x) : lget L (i : Int) = x := by
  unfold lget
  rw [List.getD_eq_getElem?_getD, Int.toNat_natCast, h]; rfl
theorem placeG_loop (L : List S_api_Entry) (p : S_api_Prefix) (hn : L.length ≤ 1000) : ∀ (k i : Nat), i + k = L.length → (∀ (j : Nat) (x : S_api_Entry), j < i → L[j]? = some x → x.f_P ≠ p) →
    (∃ (j : Nat) (x : S_api_Entry), L[j]? = some x ∧ x.f_P = p ∧ crawlwayref25_Place.l0 L p (i : Int) = some (.ret (j : Int))) ∨ ((∀ x ∈ L, x.f_P ≠ p) ∧ crawlwayref25_Place.l0 L p (i : Int) = some (.nx ()))
  | 0, i, hi, hp => by
    right
    refine ⟨fun x hx => ?_, ?_⟩
    · obtain ⟨j, hj⟩ := List.getElem?_of_mem hx
      exact hp j x (by have := (List.getElem?_eq_some_iff.1 hj).1; omega) hj
    · rw [crawlwayref25_Place.l0.eq_def, if_neg (by rw [decide_eq_true_eq]; omega)]
  | k + 1, i, hi, hp => by
    obtain ⟨x, hx⟩ : ∃ x, L[i]? = some x := ⟨_, List.getElem?_eq_getElem (by omega)⟩
    rw [crawlwayref25_Place.l0.eq_def, if_pos (by rw [decide_eq_true_eq]; omega), if_pos (by omega), lgetL hx, wr1 (by omega)]
    by_cases hk : x.f_P = p
    · left; exact ⟨i, x, hx, hk, by rw [if_pos (decide_eq_true hk)]⟩
    · rw [if_neg (by rw [decide_eq_true_eq]; exact hk)]
      exact placeG_loop L p hn k (i + 1) (by omega) fun j y hj hy => by
        by_cases e : j = i
        · subst e; rw [hx] at hy; cases hy; exact hk
        · exact hp j y (by omega) hy
theorem placeG (L : List S_api_Entry) (p : S_api_Prefix) (hn : L.length ≤ 1000) : ∃ z, crawlwayref25_Place L p = some z ∧ (z < 0 ↔ p ∉ L.map (·.f_P)) := by
  unfold crawlwayref25_Place
  rcases placeG_loop L p hn L.length 0 (by omega) (fun j x hj => by omega) with ⟨j, x, h1, h2, h3⟩ | ⟨h1, h2⟩
  · refine ⟨(j : Int), by rw [show (0 : Int) = ((0 : Nat) : Int) from rfl, h3]; rfl, ?_⟩
    constructor
    · intro h; omega
    · intro h; exact absurd (List.mem_map.2 ⟨x, List.mem_of_getElem? h1, h2⟩) h
  · refine ⟨-1, by rw [show (0 : Int) = ((0 : Nat) : Int) from rfl, h2]; rfl, ?_⟩
    constructor
    · intro _ h; obtain ⟨x, hx, e⟩ := List.mem_map.1 h; exact h1 x hx e
    · intro _; decide
theorem drop26_loop (L : List S_api_Entry) (o : Int) (hn : L.length ≤ 1000) : ∀ (k i : Nat) (out : List S_api_Entry), i + k = L.length → out.length ≤ i → crawlwayref26_Drop.l0 L o out (i : Int) = some (out ++ (L.drop i).filter fun x => x.f_Owner != o)
  | 0, i, out, hi, ho => by rw [crawlwayref26_Drop.l0.eq_def, if_neg (by rw [decide_eq_true_eq]; omega), List.drop_eq_nil_of_le (by omega)]; simp
  | k + 1, i, out, hi, ho => by
    obtain ⟨x, hx⟩ : ∃ x, L[i]? = some x := ⟨_, List.getElem?_eq_getElem (by omega)⟩
    rw [crawlwayref26_Drop.l0.eq_def, if_pos (by rw [decide_eq_true_eq]; omega), if_pos (by omega), lgetL hx, wr1 (by omega), dropG_cons hx, List.filter_cons]
    cases hc : (x.f_Owner != o) with
    | true =>
      rw [if_pos rfl, if_pos (by omega), if_pos (by omega), drop26_loop L o hn k (i + 1) _ (by omega) (by simp; omega), if_pos rfl]
      simp
    | false => rw [if_neg Bool.false_ne_true, drop26_loop L o hn k (i + 1) _ (by omega) (by omega), if_neg Bool.false_ne_true]
theorem drop26 (L : List S_api_Entry) (o : Int) (hn : L.length ≤ 1000) : crawlwayref26_Drop L o = some (L.filter fun x => x.f_Owner != o) := by
  unfold crawlwayref26_Drop
  rw [show (0 : Int) = ((0 : Nat) : Int) from rfl, drop26_loop L o hn L.length 0 [] (by omega) (by simp)]; rfl
theorem of26_loop (L : List S_api_Entry) (o : Int) (hn : L.length ≤ 1000) : ∀ (k i : Nat) (out : List S_api_Prefix), i + k = L.length → out.length ≤ i → crawlwayref26_Of.l0 L o out (i : Int) = some (out ++ ((L.drop i).filter fun x => x.f_Owner == o).map (·.f_P))
  | 0, i, out, hi, ho => by rw [crawlwayref26_Of.l0.eq_def, if_neg (by rw [decide_eq_true_eq]; omega), List.drop_eq_nil_of_le (by omega)]; simp
  | k + 1, i, out, hi, ho => by
    obtain ⟨x, hx⟩ : ∃ x, L[i]? = some x := ⟨_, List.getElem?_eq_getElem (by omega)⟩
    rw [crawlwayref26_Of.l0.eq_def, if_pos (by rw [decide_eq_true_eq]; omega), if_pos (by omega), lgetL hx, wr1 (by omega), dropG_cons hx, List.filter_cons]
    cases hc : (x.f_Owner == o) with
    | true =>
      rw [if_pos rfl, if_pos (by omega), if_pos (by omega), of26_loop L o hn k (i + 1) _ (by omega) (by simp; omega), if_pos rfl]
      simp
    | false => rw [if_neg Bool.false_ne_true, of26_loop L o hn k (i + 1) _ (by omega) (by omega), if_neg Bool.false_ne_true]
def ofL (L : List S_api_Entry) (o : Int) : List S_api_Prefix := (L.filter fun x => x.f_Owner == o).map (·.f_P)
theorem of26 (L : List S_api_Entry) (o : Int) (hn : L.length ≤ 1000) : crawlwayref26_Of L o = some (ofL L o) := by
  unfold crawlwayref26_Of
  rw [show (0 : Int) = ((0 : Nat) : Int) from rfl, of26_loop L o hn L.length 0 [] (by omega) (by simp)]; rfl
theorem same11_loop (L : List S_api_Prefix) (hn : L.length ≤ 1000) : ∀ (k i : Nat), i + k = L.length → crawlwayref11_Same.l0 L L (i : Int) = some (.nx ())
  | 0, i, hi => by rw [crawlwayref11_Same.l0.eq_def, if_neg (by rw [decide_eq_true_eq]; omega)]
  | k + 1, i, hi => by
    rw [crawlwayref11_Same.l0.eq_def, if_pos (by rw [decide_eq_true_eq]; omega), if_pos (by omega), if_pos (by omega), if_neg (by simp), wr1 (by omega)]
    exact same11_loop L hn k (i + 1) (by omega)
theorem same11 (L : List S_api_Prefix) (hn : L.length ≤ 1000) : crawlwayref11_Same L L = some true := by
  unfold crawlwayref11_Same
  rw [if_neg (by simp), show (0 : Int) = ((0 : Nat) : Int) from rfl, same11_loop L hn L.length 0 (by omega)]; rfl
def gstep (V : Int) (a : List UInt8) (st : Bool × S_api_Entry) (x : G) : Bool × S_api_Entry := fstep x.1 V a st x.2
theorem findG_loop {V : Int} {a : List UInt8} (ha : a.length = 16) {X : List G} (hX : LnG X) (hn : X.length ≤ 1000) : ∀ (k i : Nat) (is : Bool) (b : S_api_Entry), i + k = X.length →
    crawlwayref25_Find.l0 (X.map toG) (mkA V a) is (i : Int) b = some ((X.drop i).foldl (gstep V a) (is, b))
  | 0, i, is, b, hi => by
    rw [crawlwayref25_Find.l0.eq_def, if_neg (by rw [decide_eq_true_eq]; simp; omega), List.drop_eq_nil_of_le (by omega)]; rfl
  | k + 1, i, is, b, hi => by
    obtain ⟨x, hx⟩ : ∃ x, X[i]? = some x := ⟨_, List.getElem?_eq_getElem (by omega)⟩
    have hx16 := hX x (List.mem_of_getElem? hx)
    have hg : (0 : Int) ≤ (i : Int) ∧ (i : Int) < ((X.map toG).length : Int) := by simp; omega
    have hh : crawlwayref11_Has (toG x).f_P (mkA V a) = some (hasT x.1 x.2 V a) := has_ref hx16 ha
    rw [crawlwayref25_Find.l0.eq_def, if_pos (by rw [decide_eq_true_eq]; exact hg.2), if_pos hg, lgetG hx, hh, bindM_some, wr1 (by omega), dropG_cons hx, List.foldl_cons]
    have hb : (toG x).f_P.f_Bits = (x.2.2.1 : Int) := rfl
    have hs : gstep V a (is, b) x = if hasT x.1 x.2 V a = true then (if is = false ∨ (x.2.2.1 : Int) > b.f_P.f_Bits then (true, toG x) else (is, b)) else (is, b) := rfl
    rw [hs]
    cases hasT x.1 x.2 V a with
    | false =>
      rw [if_neg (by simp), if_neg (by simp)]
      exact findG_loop ha hX hn k (i + 1) is b (by omega)
    | true =>
      rw [if_pos rfl, if_pos rfl]
      cases is with
      | false =>
        rw [if_pos (by simp), if_pos hg, if_pos (.inl rfl)]
        exact findG_loop ha hX hn k (i + 1) true (toG x) (by omega)
      | true =>
        rw [if_neg (by simp), if_pos hg, hb]
        by_cases hc : (x.2.2.1 : Int) > b.f_P.f_Bits
        · rw [if_pos (decide_eq_true hc), if_pos hg, if_pos (.inr hc)]
          exact findG_loop ha hX hn k (i + 1) true (toG x) (by omega)
        · rw [if_neg (by rw [decide_eq_true_eq]; exact hc), if_neg (by simp; exact Int.not_lt.1 hc)]
          exact findG_loop ha hX hn k (i + 1) true b (by omega)
theorem has_fam {F V : Int} {x : Tr} {a : List UInt8} (h : V ≠ F) : hasT F x V a = false := by
  unfold hasT hasP
  rw [decide_eq_false h]
  simp
/-- Who is found, in the list of the address's own family alone. -/
theorem find_both {V : Int} {a : List UInt8} (ha : a.length = 16) {A B : List Tr} (hA : Ln A) (hB : Ln B) (hn : A.length + B.length ≤ 1000) :
    crawlwayref25_Find (A.map (toE 4) ++ B.map (toE 6)) (mkA V a) = if V = 4 then crawlwayref25_Find (A.map (toE 4)) (mkA V a) else crawlwayref25_Find (B.map (toE 6)) (mkA V a) := by
  have f4 := find_ref (F := 4) (V := V) ha hA (by omega)
  have f6 := find_ref (F := 6) (V := V) ha hB (by omega)
  have hf := findG_loop (V := V) ha (both_ln hA hB) (by rw [both_len]; omega) (both A B).length 0 false zE (by omega)
  rw [List.drop_zero] at hf
  have e : (both A B).foldl (gstep V a) (false, zE) = if V = 4 then A.foldl (fstep 4 V a) (false, zE) else B.foldl (fstep 6 V a) (false, zE) := by
    unfold both
    rw [List.foldl_append, List.foldl_map, List.foldl_map]
    show B.foldl (fstep 6 V a) (A.foldl (fstep 4 V a) (false, zE)) = _
    by_cases hV : V = 4
    · rw [if_pos hV, fold_none (F := 6) B _ fun x _ => has_fam (by omega)]
    · rw [if_neg hV, fold_none (F := 4) A _ fun x _ => has_fam hV]
  rw [e, both_map] at hf
  rw [f4, f6]
  unfold crawlwayref25_Find
  unfold zE at hf ⊢
  rw [show (0 : Int) = ((0 : Nat) : Int) from rfl] at hf ⊢
  rw [hf, bindM_some]
  by_cases hV : V = 4
  · rw [if_pos hV, if_pos hV]
  · rw [if_neg hV, if_neg hV]
def kp (F : Int) (x : Tr) : S_api_Prefix := (toE F x).f_P
theorem fin_true_out (e : Tr) : ∀ (X : List Tr), fin e X true = out e X
  | [] => rfl
  | x :: X => by
    unfold fin out
    rw [List.filter_cons]
    by_cases h : key x e
    · rw [if_pos h, if_neg (by simp [h]), fin_true_out e X]; rfl
    · rw [if_neg h, if_neg (by simp), if_pos (by simp [h]), fin_true_out e X]; rfl
theorem fin_perm (e : Tr) : ∀ (X : List Tr), (fin e X false).Perm (e :: out e X)
  | [] => by simp [fin, out]
  | x :: X => by
    unfold fin out
    rw [List.filter_cons]
    by_cases h : key x e
    · rw [if_pos h, if_neg (by simp [h])]; exact fin_perm e X
    · rw [if_neg h, if_pos (show (decide ¬ key x e) = true by simp [h])]
      split
      · rw [fin_true_out]; exact .refl _
      · exact ((fin_perm e X).cons x).trans (.swap ..)
theorem out_perm {F : Int} {e : Tr} (he : e.1.length = 16) : ∀ {X : List Tr}, Ln X → Srt X → (∃ x ∈ X, key x e) → (X.map (kp F)).Perm (kp F e :: (out e X).map (kp F))
  | [], _, _, h => by obtain ⟨x, hx, _⟩ := h; simp at hx
  | x :: X, hl, hs, h => by
    have hs' := List.pairwise_cons.1 hs
    have hl' : Ln X := fun y hy => hl y (List.mem_cons_of_mem _ hy)
    unfold out
    rw [List.filter_cons]
    by_cases hk : key x e
    · rw [if_neg (by simp [hk]), List.map_cons]
      have hx : kp F x = kp F e := (toE_key (hl x (List.mem_cons_self ..)) he).2 hk
      have ho : out e X = X := out_none fun y hy hky => by
        have := hs'.1 y hy
        unfold lessE at this
        rw [if_pos (hk.1.trans hky.1.symm), hk.2, hky.2] at this
        simp at this
      unfold out at ho
      rw [ho, hx]
    · rw [if_pos (by simp [hk]), List.map_cons, List.map_cons]
      have ih := out_perm (F := F) he hl' hs'.2 (by
        obtain ⟨y, hy, hky⟩ := h
        rcases List.mem_cons.1 hy with rfl | hy
        · exact absurd hky hk
        · exact ⟨y, hy, hky⟩)
      exact (ih.cons _).trans (.swap ..)
section
variable {κ μ : Type} [DecidableEq κ]
theorem mfind_key : ∀ (m : List (κ × μ)) (p : κ), (mfind m p).isSome = decide (p ∈ m.map Prod.fst)
  | [], p => by simp [mfind]
  | (a, b) :: r, p => by
    unfold mfind
    by_cases h : p = a
    · rw [if_pos h]; simp [h]
    · rw [if_neg h, mfind_key r p]; simp [h]
theorem mput_old : ∀ (m : List (κ × μ)) (p : κ) (v : μ), p ∈ m.map Prod.fst → (mput m p v).map Prod.fst = m.map Prod.fst
  | [], p, v, h => by simp at h
  | (a, b) :: r, p, v, h => by
    unfold mput
    by_cases e : p = a
    · rw [if_pos e]; simp [e]
    · rw [if_neg e, List.map_cons, List.map_cons, mput_old r p v (by simpa [e] using h)]
theorem mput_new : ∀ (m : List (κ × μ)) (p : κ) (v : μ), p ∉ m.map Prod.fst → (mput m p v).map Prod.fst = m.map Prod.fst ++ [p]
  | [], p, v, h => rfl
  | (a, b) :: r, p, v, h => by
    have e : p ≠ a := fun e => h (by simp [e])
    unfold mput
    rw [if_neg e, List.map_cons, List.map_cons, mput_new r p v (fun g => h (by simp [g]))]; rfl
theorem mdel_keys : ∀ (m : List (κ × μ)) (p : κ), (mdel m p).map Prod.fst = (m.map Prod.fst).erase p
  | [], p => rfl
  | (a, b) :: r, p => by
    unfold mdel
    by_cases e : p = a
    · rw [if_pos e, List.map_cons, e, List.erase_cons_head]
    · rw [if_neg e, List.map_cons, List.map_cons, List.erase_cons_tail (by simpa using fun h => e h.symm), mdel_keys r p]
end
end Go.Proofs.Ythccncpephpdjaa.Alw
namespace Go.Proofs.Ythccncpephpdjaa.Tri
open E Go.RowKit
open Adr Cid
/-- Two tries, with nothing in common. -/
structure J2 (h : List HV) (k4 k6 : Nat) (t u : T) (f4 f6 : List Nat) : Prop where
  a : J h k4 4 t f4
  b : J h k6 6 u f6
  k : k4 ≠ k6
  ka : k4 ∉ f6
  kb : k6 ∉ f4
  d : ∀ i ∈ f4, i ∉ f6
theorem J2.swap4 {h h' : List HV} {k4 k6 : Nat} {t u t' : T} {f4 f6 f4' : List Nat} (hJ : J2 h k4 k6 t u f4 f6) (h1 : J h' k4 4 t' f4') (g : Gr h h' k4 f4 f4') : J2 h' k4 k6 t' u f4' f6 := by
  have l6 := hJ.b.fplt
  have lk := hJ.b.lt
  refine ⟨h1, hJ.b.frame (g.old k6 lk (Ne.symm hJ.k) hJ.kb) fun i hi => g.old i (l6 i hi) (fun e => hJ.ka (e ▸ hi)) fun e => hJ.d i e hi, hJ.k, hJ.ka, fun e => ?_, fun i hi e => ?_⟩
  · rcases g.new k6 e with e | e
    · exact hJ.kb e
    · omega
  · rcases g.new i hi with e' | e'
    · exact hJ.d i e' e
    · have := l6 i e; omega
theorem J2.swap6 {h h' : List HV} {k4 k6 : Nat} {t u u' : T} {f4 f6 f6' : List Nat} (hJ : J2 h k4 k6 t u f4 f6) (h1 : J h' k6 6 u' f6') (g : Gr h h' k6 f6 f6') : J2 h' k4 k6 t u' f4 f6' := by
  have l4 := hJ.a.fplt
  have lk := hJ.a.lt
  refine ⟨hJ.a.frame (g.old k4 lk hJ.k hJ.ka) fun i hi => g.old i (l4 i hi) (fun e => hJ.kb (e ▸ hi)) fun e => hJ.d i hi e, h1, hJ.k, fun e => ?_, hJ.kb, fun i hi e => ?_⟩
  · rcases g.new k4 e with e | e
    · exact hJ.ka e
    · omega
  · rcases g.new i e with e' | e'
    · exact hJ.d i hi e'
    · have := l4 i hi; omega
end Go.Proofs.Ythccncpephpdjaa.Tri
namespace Go.Proofs.Ythccncpephpdjaa.Alw
open E Go.RowKit
open Adr Cid Tri
def LL (t u : Tri.T) : List S_api_Entry := (t.list zl 0).map (toE 4) ++ (u.list zl 0).map (toE 6)
def LK (t u : Tri.T) : List S_api_Prefix := (LL t u).map (·.f_P)
theorem LL_len (t u : Tri.T) : (LL t u).length = (t.list zl 0).length + (u.list zl 0).length := by simp [LL]
theorem LK_eq (t u : Tri.T) : LK t u = (t.list zl 0).map (kp 4) ++ (u.list zl 0).map (kp 6) := by
  simp only [LK, LL, List.map_append, List.map_map]; rfl
structure Tb (h : List HV) (tb : Nat) (t u : Tri.T) (fp : List Nat) : Prop where
  ex : ∃ im k4 k6 f4 f6 m, h[tb]? = some (.allowed_Table ⟨some im, some k4, some k6⟩) ∧ h[im]? = some (.M82 m) ∧ J2 h k4 k6 t u f4 f6 ∧ (m.map Prod.fst).Perm (LK t u) ∧ fp = im :: k4 :: k6 :: (f4 ++ f6)
structure GrT (h h' : List HV) (fp fp' : List Nat) : Prop where
  len : h.length ≤ h'.length
  old : ∀ j, j < h.length → j ∉ fp → h'[j]? = h[j]?
  new : ∀ j ∈ fp', j ∈ fp ∨ h.length ≤ j
theorem GrT.refl (h : List HV) (fp : List Nat) : GrT h h fp fp := ⟨Nat.le_refl _, fun _ _ _ => rfl, fun _ h => .inl h⟩
theorem GrT.trans {h h' h'' : List HV} {fp fp' fp'' : List Nat} (a : GrT h h' fp fp') (b : GrT h' h'' fp' fp'') : GrT h h'' fp fp'' := by
  refine ⟨Nat.le_trans a.len b.len, fun j hj hf => ?_, fun j hj => ?_⟩
  · have hl := a.len
    rw [b.old j (by omega) (fun e => ?_), a.old j hj hf]
    rcases a.new j e with e | e
    · exact hf e
    · omega
  · rcases b.new j hj with e | e
    · exact a.new j e
    · exact .inr (Nat.le_trans a.len e)
variable {h : List HV} {tb : Nat} {t u : Tri.T} {fp : List Nat}
theorem J2.isk4 {h : List HV} {k4 k6 : Nat} {t u : Tri.T} {f4 f6 : List Nat} (hJ : J2 h k4 k6 t u f4 f6) : (∃ z, h[k4]? = some (.trie_Trie z)) ∧ ∃ z, h[k6]? = some (.trie_Trie z) := by
  obtain ⟨r, a, _⟩ := hJ.a.tr
  obtain ⟨r', b, _⟩ := hJ.b.tr
  exact ⟨⟨_, a⟩, ⟨_, b⟩⟩
theorem J2.isnd {h : List HV} {k4 k6 : Nat} {t u : Tri.T} {f4 f6 : List Nat} (hJ : J2 h k4 k6 t u f4 f6) : (∀ i ∈ f4, ∃ z, h[i]? = some (.trie_node z)) ∧ ∀ i ∈ f6, ∃ z, h[i]? = some (.trie_node z) := by
  obtain ⟨r, _, a⟩ := hJ.a.tr
  obtain ⟨r', _, b⟩ := hJ.b.tr
  exact ⟨a.isnode, b.isnode⟩
theorem j2_frame {h h' : List HV} {k4 k6 : Nat} {t u : Tri.T} {f4 f6 : List Nat} (hJ : J2 h k4 k6 t u f4 f6) (e : ∀ j, j = k4 ∨ j = k6 ∨ j ∈ f4 ∨ j ∈ f6 → h'[j]? = h[j]?) : J2 h' k4 k6 t u f4 f6 :=
  ⟨hJ.a.frame (e _ (.inl rfl)) fun i hi => e i (.inr (.inr (.inl hi))), hJ.b.frame (e _ (.inr (.inl rfl))) fun i hi => e i (.inr (.inr (.inr hi))), hJ.k, hJ.ka, hJ.kb, hJ.d⟩
/-- What lies at a place is not among the tries' places, if it is of another kind. -/
theorem J2.off {h : List HV} {k4 k6 : Nat} {t u : Tri.T} {f4 f6 : List Nat} (hJ : J2 h k4 k6 t u f4 f6) {j : Nat} {v : HV} (hj : h[j]? = some v) (h1 : ∀ z, v ≠ .trie_Trie z) (h2 : ∀ z, v ≠ .trie_node z) : j ≠ k4 ∧ j ≠ k6 ∧ j ∉ f4 ∧ j ∉ f6 := by
  obtain ⟨⟨z, a⟩, ⟨z', b⟩⟩ := J2.isk4 hJ
  obtain ⟨c, d⟩ := J2.isnd hJ
  refine ⟨fun e => ?_, fun e => ?_, fun e => ?_, fun e => ?_⟩
  · subst e; rw [hj] at a; cases a; exact h1 _ rfl
  · subst e; rw [hj] at b; cases b; exact h1 _ rfl
  · obtain ⟨z, q⟩ := c j e; rw [hj] at q; cases q; exact h2 _ rfl
  · obtain ⟨z, q⟩ := d j e; rw [hj] at q; cases q; exact h2 _ rfl
theorem Tb.lt (hT : Tb h tb t u fp) : tb < h.length := by
  obtain ⟨im, k4, k6, f4, f6, m, h1, _⟩ := hT.ex
  exact (List.getElem?_eq_some_iff.1 h1).1
theorem Tb.fplt (hT : Tb h tb t u fp) : ∀ j ∈ fp, j < h.length := by
  obtain ⟨im, k4, k6, f4, f6, m, h1, h2, h3, h4, rfl⟩ := hT.ex
  intro j hj
  simp only [List.mem_cons, List.mem_append] at hj
  rcases hj with rfl | rfl | rfl | hj | hj
  · exact (List.getElem?_eq_some_iff.1 h2).1
  · exact h3.a.lt
  · exact h3.b.lt
  · exact h3.a.fplt j hj
  · exact h3.b.fplt j hj
theorem Tb.apart (hT : Tb h tb t u fp) : tb ∉ fp := by
  obtain ⟨im, k4, k6, f4, f6, m, h1, h2, h3, h4, rfl⟩ := hT.ex
  obtain ⟨a, b, c, d⟩ := J2.off h3 h1 (fun z => by simp) (fun z => by simp)
  intro e
  simp only [List.mem_cons, List.mem_append] at e
  rcases e with e | e | e | e | e
  · subst e; rw [h1] at h2; cases h2
  · exact a e
  · exact b e
  · exact c e
  · exact d e
theorem Tb.frame {h' : List HV} (hT : Tb h tb t u fp) (e : ∀ j, j = tb ∨ j ∈ fp → h'[j]? = h[j]?) : Tb h' tb t u fp := by
  obtain ⟨im, k4, k6, f4, f6, m, h1, h2, h3, h4, rfl⟩ := hT.ex
  refine ⟨im, k4, k6, f4, f6, m, (e _ (.inl rfl)).trans h1, (e _ (.inr (by simp))).trans h2, j2_frame h3 fun j hj => e j (.inr ?_), h4, rfl⟩
  simp only [List.mem_cons, List.mem_append]
  rcases hj with hj | hj | hj | hj
  · exact .inr (.inl hj)
  · exact .inr (.inr (.inl hj))
  · exact .inr (.inr (.inr (.inl hj)))
  · exact .inr (.inr (.inr (.inr hj)))
theorem made_code (hT : Tb h tb t u fp) : allowed_Table_made h (some tb) = some true := by
  obtain ⟨im, k4, k6, f4, f6, m, h1, h2, h3, h4, rfl⟩ := hT.ex
  unfold allowed_Table_made
  rw [if_pos (by rfl), hn_allowed_Table_of h1, bindM_some]; rfl
theorem own_at {im k4 k6 : Nat} (h1 : h[tb]? = some (.allowed_Table ⟨some im, some k4, some k6⟩)) (A : S_api_Addr) : allowed_Table_own h (some tb) A = some (if A.f_V = 4 then some k4 else some k6) := by
  unfold allowed_Table_own
  rw [hn_allowed_Table_of h1, bindM_some, bindM_some]
  by_cases e : A.f_V = 4
  · rw [if_pos (by simpa using e), if_pos e]
  · rw [if_neg (by simpa using e), if_neg e]
theorem len_codeT (hT : Tb h tb t u fp) : allowed_Table_Len h (some tb) = some ((LL t u).length : Int) := by
  have hm := made_code hT
  obtain ⟨im, k4, k6, f4, f6, m, h1, h2, h3, h4, rfl⟩ := hT.ex
  unfold allowed_Table_Len
  rw [hm, bindM_some, if_neg (by decide), hn_allowed_Table_of h1, bindM_some]
  show (hn_M82 h (some im) >>= _) = _
  rw [hn_M82_of h2, bindM_some]
  have := h4.length_eq
  simp only [List.length_map, LK] at this
  show some (m.length : Int) = _
  rw [this]
theorem grow_code (n : Nat) (h : n ≤ 1000000) : slices_Grow_api_Entry (n : Int) = some [] := by
  unfold slices_Grow_api_Entry
  rw [if_neg (by rw [decide_eq_true_eq]; omega)]
  have e : wr .i64 ((n : Int) - (wr .i64 ((0 : Int) - (([] : List S_api_Entry).length : Int)))) = (n : Int) := by
    rw [wr_i64 (x := (0 : Int) - (([] : List S_api_Entry).length : Int)) (by simp) (by simp), wr_i64 (by simp <;> omega) (by simp <;> omega)]; simp
  rw [e]
  by_cases h0 : (n : Int) > 0
  · rw [if_pos (decide_eq_true h0), if_pos ⟨by omega, by omega⟩]
  · rw [if_neg (by rw [decide_eq_true_eq]; exact h0)]
theorem concat_code (A B : List S_api_Entry) (hA : A.length ≤ 1000) (hB : B.length ≤ 1000) : slices_Concat_api_Entry [A, B] = some (A ++ B) := by
  have g0 : lget [A, B] 0 = A := rfl
  have g1 : lget [A, B] 1 = B := rfl
  have w0 : wr .i64 ((0 : Int) + (A.length : Int)) = (A.length : Int) := by rw [wr_i64 (by omega) (by omega)]; omega
  have w1 : wr .i64 ((A.length : Int) + (B.length : Int)) = ((A.length + B.length : Nat) : Int) := by rw [wr_i64 (by omega) (by omega)]; omega
  have w2 : wr .i64 ((0 : Int) + 1) = 1 := by rw [wr_i64 (by omega) (by omega)]; omega
  have w3 : wr .i64 ((1 : Int) + 1) = 2 := by rw [wr_i64 (by omega) (by omega)]; omega
  have n2 : (([A, B] : List (List S_api_Entry)).length : Int) = 2 := rfl
  have l0 : slices_Concat_api_Entry.l0 [A, B] 0 0 = some ((A.length + B.length : Nat) : Int) := by
    rw [slices_Concat_api_Entry.l0.eq_def, n2, if_pos (by decide), if_pos (by decide), g0, w0, if_neg (by rw [decide_eq_true_eq]; omega), w2, slices_Concat_api_Entry.l0.eq_def, n2, if_pos (by decide), if_pos (by decide), g1, w1, if_neg (by rw [decide_eq_true_eq]; omega), w3, slices_Concat_api_Entry.l0.eq_def, n2, if_neg (by decide)]
  have l1 : slices_Concat_api_Entry.l1 [A, B] [] 0 = some (A ++ B) := by
    rw [slices_Concat_api_Entry.l1.eq_def, n2, if_pos (by decide), if_pos (by decide), g0, if_pos (by simp; omega), w2, slices_Concat_api_Entry.l1.eq_def, n2, if_pos (by decide), if_pos (by decide), g1, if_pos (by simp; omega), w3, slices_Concat_api_Entry.l1.eq_def, n2, if_neg (by decide)]
    simp
  unfold slices_Concat_api_Entry
  rw [l0, bindM_some, grow_code _ (by omega), bindM_some, l1, bindM_some]
theorem all_codeT (hT : Tb h tb t u fp) (hc : (t.list zl 0).length + (u.list zl 0).length ≤ 900) : allowed_Table_All h (some tb) = some (LL t u) := by
  have hm := made_code hT
  obtain ⟨im, k4, k6, f4, f6, m, h1, h2, h3, h4, rfl⟩ := hT.ex
  unfold allowed_Table_All
  rw [hm, bindM_some, if_neg (by decide), hn_allowed_Table_of h1, bindM_some]
  show (trie_Trie_All h (some k4) >>= _) = _
  rw [all_code h3.a (by omega), bindM_some, bindM_some]
  show (trie_Trie_All h (some k6) >>= _) = _
  rw [all_code h3.b (by omega), bindM_some, concat_code _ _ (by simp; omega) (by simp; omega), bindM_some]; rfl
theorem ofT_loop (L : List S_api_Entry) (o : Int) (hn : L.length ≤ 1000) : ∀ (k i : Nat) (out : List S_api_Prefix), i + k = L.length → out.length ≤ i → allowed_Table_Of.l0 o L out (i : Int) = some (out ++ ((L.drop i).filter fun x => x.f_Owner == o).map (·.f_P))
  | 0, i, out, hi, ho => by rw [allowed_Table_Of.l0.eq_def, if_neg (by rw [decide_eq_true_eq]; omega), List.drop_eq_nil_of_le (by omega)]; simp
  | k + 1, i, out, hi, ho => by
    obtain ⟨x, hx⟩ : ∃ x, L[i]? = some x := ⟨_, List.getElem?_eq_getElem (by omega)⟩
    rw [allowed_Table_Of.l0.eq_def, if_pos (by rw [decide_eq_true_eq]; omega), if_pos (by omega), lgetL hx, wr1 (by omega), dropG_cons hx, List.filter_cons]
    cases hc : (x.f_Owner == o) with
    | true =>
      rw [if_pos rfl, if_pos (by omega), ofT_loop L o hn k (i + 1) _ (by omega) (by simp; omega), if_pos rfl]
      simp
    | false => rw [if_neg Bool.false_ne_true, ofT_loop L o hn k (i + 1) _ (by omega) (by omega), if_neg Bool.false_ne_true]
theorem of_codeT (hT : Tb h tb t u fp) (hc : (t.list zl 0).length + (u.list zl 0).length ≤ 900) (o : Int) : allowed_Table_Of h (some tb) o = some (ofL (LL t u) o) := by
  unfold allowed_Table_Of
  rw [all_codeT hT hc, bindM_some, show (0 : Int) = ((0 : Nat) : Int) from rfl, ofT_loop (LL t u) o (by rw [LL_len]; omega) (LL t u).length 0 [] (by omega) (by simp)]; rfl
theorem find_codeT (hT : Tb h tb t u fp) (hc : (t.list zl 0).length + (u.list zl 0).length ≤ 900) {V : Int} {a : List UInt8} (ha : a.length = 16) : ∃ (e : S_api_Entry) (is : Bool), allowed_Table_Find h (some tb) (mkA V a) = some (e.f_Owner, is) ∧ crawlwayref25_Find (LL t u) (mkA V a) = some (e, is) := by
  have hm := made_code hT
  obtain ⟨im, k4, k6, f4, f6, m, h1, h2, h3, h4, rfl⟩ := hT.ex
  unfold allowed_Table_Find
  rw [hm, bindM_some, if_neg (by decide), own_at h1, bindM_some]
  unfold LL
  rw [find_both ha (list_len16 t) (list_len16 u) (by omega)]
  show ∃ (e : S_api_Entry) (is : Bool), (trie_Trie_Find h (if V = 4 then some k4 else some k6) (mkA V a) >>= fun t5 => some (t5.1.f_Owner, t5.2)) = some (e.f_Owner, is) ∧ _
  by_cases hV : V = 4
  · obtain ⟨e, is, q1, q2, _⟩ := find_code (V := V) h3.a (by omega) ha
    rw [if_pos hV, if_pos hV]
    exact ⟨e, is, by rw [q1, bindM_some], q2⟩
  · obtain ⟨e, is, q1, q2, _⟩ := find_code (V := V) h3.b (by omega) ha
    rw [if_neg hV, if_neg hV]
    exact ⟨e, is, by rw [q1, bindM_some], q2⟩
theorem kp_fam {F F' : Int} {x y : Tr} (hx : x.1.length = 16) (hy : y.1.length = 16) (e : kp F x = kp F' y) : F = F' ∧ key x y := by
  have := (toG_key (x := (F, x)) (y := (F', y)) hx hy).1 e
  exact this
theorem mem_LK4 {x : Tr} (hx : x.1.length = 16) : kp 4 x ∈ LK t u ↔ ∃ y ∈ t.list zl 0, key y x := by
  rw [LK_eq, List.mem_append, List.mem_map, List.mem_map]
  constructor
  · rintro (⟨y, hy, e⟩ | ⟨y, hy, e⟩)
    · exact ⟨y, hy, (kp_fam (list_len16 t y hy) hx e).2⟩
    · have := (kp_fam (list_len16 u y hy) hx e).1; omega
  · rintro ⟨y, hy, e⟩
    exact .inl ⟨y, hy, (toE_key (list_len16 t y hy) hx).2 e⟩
theorem mem_LK6 {x : Tr} (hx : x.1.length = 16) : kp 6 x ∈ LK t u ↔ ∃ y ∈ u.list zl 0, key y x := by
  rw [LK_eq, List.mem_append, List.mem_map, List.mem_map]
  constructor
  · rintro (⟨y, hy, e⟩ | ⟨y, hy, e⟩)
    · have := (kp_fam (list_len16 t y hy) hx e).1; omega
    · exact ⟨y, hy, (kp_fam (list_len16 u y hy) hx e).2⟩
  · rintro ⟨y, hy, e⟩
    exact .inr ⟨y, hy, (toE_key (list_len16 u y hy) hx).2 e⟩
theorem fin_keys {F : Int} {x : Tr} (hx : x.1.length = 16) {X : List Tr} (hl : Ln X) (hs : Srt X) : ((fin x X false).map (kp F)).Perm (if (∃ y ∈ X, key y x) then X.map (kp F) else kp F x :: X.map (kp F)) := by
  have h1 := (fin_perm x X).map (kp F)
  rw [List.map_cons] at h1
  by_cases hk : ∃ y ∈ X, key y x
  · rw [if_pos hk]; exact h1.trans (out_perm hx hl hs hk).symm
  · rw [if_neg hk]
    rw [out_none fun y hy hky => hk ⟨y, hy, hky⟩] at h1
    exact h1
theorem mput_perm {m : List (S_api_Prefix × Int)} {P : S_api_Prefix} {o : Int} {K : List S_api_Prefix} (hm : (m.map Prod.fst).Perm K) : ((mput m P o).map Prod.fst).Perm (if P ∈ K then K else P :: K) := by
  by_cases hp : P ∈ K
  · rw [if_pos hp, mput_old m P o (hm.mem_iff.2 hp)]; exact hm
  · rw [if_neg hp, mput_new m P o (fun h => hp (hm.mem_iff.1 h))]
    exact (List.perm_append_singleton P _).trans (hm.cons P)
theorem srtT {h : List HV} {k : Nat} {F : Int} {t : Tri.T} {fp : List Nat} (hJ : J h k F t fp) : Srt (t.list zl 0) := list_srt hJ.dok (wid_le F)
/-- The lists behind a put. -/
def Put (F : Int) (x : Tr) (t u t' u' : Tri.T) : Prop := (F = 4 ∧ t'.list zl 0 = fin x (t.list zl 0) false ∧ u' = u) ∨ (F = 6 ∧ u'.list zl 0 = fin x (u.list zl 0) false ∧ t' = t)
theorem tput (hT : Tb h tb t u fp) (hn : (t.list zl 0).length + (u.list zl 0).length ≤ 64) {V b : Int} {l : List UInt8} (hl : l.length = 16) (o : Int) :
    (crawlwayref11_Right (mkP (mkA V l) b) = some false ∧ allowed_Table_Put h (some tb) (mkP (mkA V l) b) o = some (1, h)) ∨
    (crawlwayref11_Right (mkP (mkA V l) b) = some true ∧ (mkP (mkA V l) b) ∉ LK t u ∧ 64 ≤ (t.list zl 0).length + (u.list zl 0).length ∧ allowed_Table_Put h (some tb) (mkP (mkA V l) b) o = some (7, h)) ∨
    (crawlwayref11_Right (mkP (mkA V l) b) = some true ∧ ((mkP (mkA V l) b) ∈ LK t u ∨ (t.list zl 0).length + (u.list zl 0).length < 64) ∧ ∃ F x t' u' h' fp', x.1.length = 16 ∧ (mkP (mkA V l) b) = kp F x ∧ x.2.2 = o ∧ allowed_Table_Put h (some tb) (mkP (mkA V l) b) o = some (0, h') ∧ Tb h' tb t' u' fp' ∧ GrT h h' fp fp' ∧ Put F x t u t' u') := by
  have hm := made_code hT
  have hap := hT.apart
  obtain ⟨im, k4, k6, f4, f6, m, h1, h2, h3, h4, rfl⟩ := hT.ex
  obtain ⟨i1, i2, i3, i4⟩ := J2.off h3 h2 (fun z => by simp) (fun z => by simp)
  obtain ⟨b1, b2, b3, b4⟩ := J2.off h3 h1 (fun z => by simp) (fun z => by simp)
  have hti : tb ≠ im := fun e => by subst e; rw [h1] at h2; cases h2
  rw [cright_ref hl]
  have hml : m.length = (t.list zl 0).length + (u.list zl 0).length := by
    have := h4.length_eq
    simp only [List.length_map, LK] at this
    rw [this, LL_len]
  have pre : ∀ (G : S_api_Prefix → Option (Int × List HV)), (hn_allowed_Table h (some tb) >>= fun t13 => hn_M82 h t13.2.f_owners >>= fun t16 => G (mkP (mkA V l) b)) = G (mkP (mkA V l) b) := fun G => by
    rw [hn_allowed_Table_of h1, bindM_some]
    show (hn_M82 h (some im) >>= _) = _
    rw [hn_M82_of h2, bindM_some]
  unfold allowed_Table_Put
  rw [hm, bindM_some, if_neg (by decide), hn_allowed_Table_of h1, bindM_some]
  show (_ ∧ (hn_M82 h (some im) >>= _) = _) ∨ (_ ∧ _ ∧ _ ∧ (hn_M82 h (some im) >>= _) = _) ∨ (_ ∧ _ ∧ ∃ F x t' u' h' fp', _ ∧ _ ∧ _ ∧ (hn_M82 h (some im) >>= _) = _ ∧ _)
  rw [hn_M82_of h2, bindM_some, cright_code hl, bindM_some]
  cases hr : rightP V l b with
  | false =>
    left
    exact ⟨rfl, by rw [if_pos (by rfl)]⟩
  | true =>
    right
    rw [if_neg (by decide)]
    have hisk := mfind_key m (mkP (mkA V l) b)
    have hmem : mkP (mkA V l) b ∈ m.map Prod.fst ↔ mkP (mkA V l) b ∈ LK t u := h4.mem_iff
    -- what is done, if it is done
    have go : ∃ F x t' u' h' fp', x.1.length = 16 ∧ mkP (mkA V l) b = kp F x ∧ x.2.2 = o ∧ (allowed_Table_own (h.set im (.M82 (mput m (mkP (mkA V l) b) o))) (some tb) (mkA V l) >>= fun t26 => trie_Trie_Put (h.set im (.M82 (mput m (mkP (mkA V l) b) o))) t26 (mkP (mkA V l) b) o >>= fun t28 => some (t28.1, t28.2)) = some (0, h') ∧ Tb h' tb t' u' fp' ∧ GrT h h' (im :: k4 :: k6 :: (f4 ++ f6)) fp' ∧ Put F x t u t' u' := by
      let m' := mput m (mkP (mkA V l) b) o
      let hA := h.set im (.M82 m')
      have hA_other : ∀ j, j ≠ im → hA[j]? = h[j]? := fun j hj => List.getElem?_set_ne (Ne.symm hj)
      have him : im < h.length := (List.getElem?_eq_some_iff.1 h2).1
      have hA_im : hA[im]? = some (.M82 m') := List.getElem?_set_self him
      have hA_tb : hA[tb]? = some (.allowed_Table ⟨some im, some k4, some k6⟩) := (hA_other tb hti).trans h1
      have hlen : hA.length = h.length := by simp [hA]
      have hJA : J2 hA k4 k6 t u f4 f6 := j2_frame h3 fun j hj => hA_other j (by
        rintro rfl
        rcases hj with e | e | e | e
        · exact i1 e
        · exact i2 e
        · exact i3 e
        · exact i4 e)
      have hmp := mput_perm (P := mkP (mkA V l) b) (o := o) h4
      obtain ⟨n, rfl, hnw, hp⟩ := path_right hl hr
      have hbl := bf_lt l n 0
      have hbn := bf_len l n 0
      obtain ⟨⟨hrl, _, _⟩, _⟩ := rightP_iff.1 hr
      have hfam := right_cases hrl
      rw [own_at hA_tb, bindM_some]
      show ∃ F x t' u' h' fp', _ ∧ _ ∧ _ ∧ (trie_Trie_Put hA (if V = 4 then some k4 else some k6) (mkP (mkA V l) (n : Int)) o >>= _) = _ ∧ _
      rcases hfam with rfl | ⟨rfl, _⟩
      · obtain ⟨h', fp', q1, q2, q3⟩ := put_code hJA.b (by omega) hl hr hnw hp o
        have hlist := list_put o hJA.b.dok (wid_le 6) hbl (by rw [hbn]; exact hnw)
        rw [hp, hbn] at hlist
        have hJ' := hJA.swap6 q2 q3
        refine ⟨6, (l, n, o), t, _, h', im :: k4 :: k6 :: (f4 ++ fp'), hl, rfl, rfl, ?_, ⟨im, k4, k6, f4, fp', m', ?_, ?_, hJ', ?_, rfl⟩, ⟨by rw [← hlen]; exact q3.len, fun j hj hf => ?_, fun j hj => ?_⟩, .inr ⟨rfl, hlist, rfl⟩⟩
        · rw [if_neg (by decide), q1, bindM_some]
        · rw [q3.old tb (by rw [hlen]; exact (List.getElem?_eq_some_iff.1 h1).1) b2 b4]; exact hA_tb
        · rw [q3.old im (by rw [hlen]; exact him) i2 i4]; exact hA_im
        · refine hmp.trans ?_
          rw [LK_eq t ((u.ext (bf l 0 n)).put (bf l 0 n) true o), hlist]
          have hk := fin_keys (F := 6) (x := (l, n, o)) hl (list_len16 u) (srtT hJA.b)
          have hiff := mem_LK6 (t := t) (u := u) (x := (l, n, o)) hl
          have e0 : kp 6 (l, n, o) = mkP (mkA 6 l) (n : Int) := rfl
          rw [e0] at hiff hk
          by_cases hin : mkP (mkA 6 l) (n : Int) ∈ LK t u
          · rw [if_pos hin, LK_eq]
            rw [if_pos (hiff.1 hin)] at hk
            exact (hk.symm.append_left _)
          · rw [if_neg hin, LK_eq]
            rw [if_neg (fun g => hin (hiff.2 g))] at hk
            exact (List.perm_middle.symm.trans (hk.symm.append_left _))
        · simp only [List.mem_cons, List.mem_append, not_or] at hf
          rw [q3.old j (by rw [hlen]; exact hj) hf.2.2.1 hf.2.2.2.2, hA_other j hf.1]
        · simp only [List.mem_cons, List.mem_append] at hj ⊢
          rcases hj with e | e | e | e | e
          · exact .inl (.inl e)
          · exact .inl (.inr (.inl e))
          · exact .inl (.inr (.inr (.inl e)))
          · exact .inl (.inr (.inr (.inr (.inl e))))
          · rcases q3.new j e with e | e
            · exact .inl (.inr (.inr (.inr (.inr e))))
            · right; rw [← hlen]; exact e
      · obtain ⟨h', fp', q1, q2, q3⟩ := put_code hJA.a (by omega) hl hr hnw hp o
        have hlist := list_put o hJA.a.dok (wid_le 4) hbl (by rw [hbn]; exact hnw)
        rw [hp, hbn] at hlist
        have hJ' := hJA.swap4 q2 q3
        refine ⟨4, (l, n, o), _, u, h', im :: k4 :: k6 :: (fp' ++ f6), hl, rfl, rfl, ?_, ⟨im, k4, k6, fp', f6, m', ?_, ?_, hJ', ?_, rfl⟩, ⟨by rw [← hlen]; exact q3.len, fun j hj hf => ?_, fun j hj => ?_⟩, .inl ⟨rfl, hlist, rfl⟩⟩
        · rw [if_pos rfl, q1, bindM_some]
        · rw [q3.old tb (by rw [hlen]; exact (List.getElem?_eq_some_iff.1 h1).1) b1 b3]; exact hA_tb
        · rw [q3.old im (by rw [hlen]; exact him) i1 i3]; exact hA_im
        · refine hmp.trans ?_
          rw [LK_eq ((t.ext (bf l 0 n)).put (bf l 0 n) true o) u, hlist]
          have hk := fin_keys (F := 4) (x := (l, n, o)) hl (list_len16 t) (srtT hJA.a)
          have hiff := mem_LK4 (t := t) (u := u) (x := (l, n, o)) hl
          have e0 : kp 4 (l, n, o) = mkP (mkA 4 l) (n : Int) := rfl
          rw [e0] at hiff hk
          by_cases hin : mkP (mkA 4 l) (n : Int) ∈ LK t u
          · rw [if_pos hin, LK_eq]
            rw [if_pos (hiff.1 hin)] at hk
            exact (hk.symm.append_right _)
          · rw [if_neg hin, LK_eq]
            rw [if_neg (fun g => hin (hiff.2 g))] at hk
            exact (hk.symm.append_right _)
        · simp only [List.mem_cons, List.mem_append, not_or] at hf
          rw [q3.old j (by rw [hlen]; exact hj) hf.2.1 hf.2.2.2.1, hA_other j hf.1]
        · simp only [List.mem_cons, List.mem_append] at hj ⊢
          rcases hj with e | e | e | e | e
          · exact .inl (.inl e)
          · exact .inl (.inr (.inl e))
          · exact .inl (.inr (.inr (.inl e)))
          · rcases q3.new j e with e | e
            · exact .inl (.inr (.inr (.inr (.inl e))))
            · right; rw [← hlen]; exact e
          · exact .inl (.inr (.inr (.inr (.inr e))))
    by_cases hin : mkP (mkA V l) b ∈ LK t u
    · right
      rw [hisk, decide_eq_true (hmem.2 hin), if_neg (by decide)]
      refine ⟨rfl, .inl hin, ?_⟩
      obtain ⟨F, x, t', u', h', fp', z1, z2, z3, z4, z5⟩ := go
      refine ⟨F, x, t', u', h', fp', z1, z2, z3, ?_, z5⟩
      rw [bindM_some]
      show (hn_M82 h (some im) >>= _) = _
      rw [hn_M82_of h2, bindM_some]
      exact z4
    · rw [hisk, decide_eq_false (fun g => hin (hmem.1 g)), if_pos (by rfl), bindM_some]
      show (_ ∧ _ ∧ _ ∧ (hn_M82 h (some im) >>= _) = _) ∨ (_ ∧ _ ∧ ∃ F x t' u' h' fp', _ ∧ _ ∧ _ ∧ (hn_M82 h (some im) >>= _) = _ ∧ _)
      rw [hn_M82_of h2, bindM_some]
      by_cases h64 : 64 ≤ (t.list zl 0).length + (u.list zl 0).length
      · left
        rw [if_pos (by rw [decide_eq_true_eq, hml]; omega)]
        exact ⟨rfl, hin, h64, rfl⟩
      · right
        rw [if_neg (by rw [decide_eq_true_eq, hml]; omega), bindM_some]
        refine ⟨rfl, .inr (by omega), ?_⟩
        obtain ⟨F, x, t', u', h', fp', z1, z2, z3, z4, z5⟩ := go
        refine ⟨F, x, t', u', h', fp', z1, z2, z3, ?_, z5⟩
        show (hn_M82 h (some im) >>= _) = _
        rw [hn_M82_of h2, bindM_some]
        exact z4
end Go.Proofs.Ythccncpephpdjaa.Alw
namespace Go.Proofs.Ythccncpephpdjaa.Alw
open E Go.RowKit
open Adr Cid Tri
variable {h : List HV} {tb : Nat} {t u : Tri.T} {fp : List Nat}
def kpG (g : G) : S_api_Prefix := kp g.1 g.2
def In (t u : Tri.T) (g : G) : Prop := (g.1 = 4 ∧ g.2 ∈ t.list zl 0) ∨ (g.1 = 6 ∧ g.2 ∈ u.list zl 0)
def offG (g : G) (F : Int) (X : List Tr) : List Tr := X.filter fun x => decide (¬ keyG (F, x) g)
theorem off_same (e : Tr) (F : Int) (X : List Tr) : offG (F, e) F X = out e X := by
  unfold offG out
  apply List.filter_congr
  intro x _
  simp [keyG]
theorem off_other {F F' : Int} (h : F ≠ F') (e : Tr) (X : List Tr) : offG (F', e) F X = X := by
  unfold offG
  rw [List.filter_eq_self]
  intro x _
  simp [keyG, h]
theorem erase_perm {m : List (S_api_Prefix × Int)} {P : S_api_Prefix} {K K' : List S_api_Prefix} (hm : (m.map Prod.fst).Perm K) (hK : K.Perm (P :: K')) : ((mdel m P).map Prod.fst).Perm K' := by
  rw [mdel_keys]
  have := (hm.trans hK).erase P
  rwa [List.erase_cons_head] at this
theorem entry_right {F : Int} (hF : F = 4 ∨ F = 6) {t : Tri.T} (hd : t.dok (wid F)) {x : Tr} (hx : x ∈ t.list zl 0) : ∃ p, (∀ b ∈ p, b < 2) ∧ p.length ≤ wid F ∧ t.val p = some x.2.2 ∧ x.1 = adrG zl 0 p ∧ x.2.1 = p.length ∧ x.1.length = 16 ∧ rightP F x.1 (x.2.1 : Int) = true ∧ bf x.1 0 x.2.1 = p := by
  obtain ⟨p, h1, h2, h3, h4⟩ := (Tri.T.mem_list t zl 0 x).1 hx
  have hl := Tri.T.val_len t _ p _ hd h2
  have hw := wid_le F
  have h5 : x.2.1 = p.length := by omega
  refine ⟨p, h1, hl, h2, h3, h5, list_len16 t x hx, ?_, ?_⟩
  · rw [h3, h5]; exact right_path hF h1 hl
  · rw [h3, h5]; exact bf_of h1 (by omega)
theorem tdel (hT : Tb h tb t u fp) (hn : (t.list zl 0).length + (u.list zl 0).length ≤ 900) {g : G} (hg : In t u g) :
    ∃ h' t' u' fp', (∀ (K : List HV → Option (List HV)), (allowed_Table_own h (some tb) ((kpG g).f_A) >>= fun t13 => trie_Trie_Drop h t13 (kpG g) >>= fun t14 => hn_allowed_Table t14.2 (some tb) >>= fun t16 => hn_M82 t14.2 t16.2.f_owners >>= fun t19 => K (List.set t14.2 t19.1 (HV.M82 (mdel t19.2 (kpG g))))) = K h') ∧ Tb h' tb t' u' fp' ∧ GrT h h' fp fp' ∧ t'.list zl 0 = offG g 4 (t.list zl 0) ∧ u'.list zl 0 = offG g 6 (u.list zl 0) := by
  have hap := hT.apart
  obtain ⟨im, k4, k6, f4, f6, m, h1, h2, h3, h4, rfl⟩ := hT.ex
  obtain ⟨i1, i2, i3, i4⟩ := J2.off h3 h2 (fun z => by simp) (fun z => by simp)
  obtain ⟨b1, b2, b3, b4⟩ := J2.off h3 h1 (fun z => by simp) (fun z => by simp)
  have hti : tb ≠ im := fun e => by subst e; rw [h1] at h2; cases h2
  have him : im < h.length := (List.getElem?_eq_some_iff.1 h2).1
  have htb : tb < h.length := (List.getElem?_eq_some_iff.1 h1).1
  obtain ⟨F, x⟩ := g
  rcases hg with ⟨rfl, hx⟩ | ⟨rfl, hx⟩
  · obtain ⟨p, p1, p2, p3, p4, p5, p6, p7, p8⟩ := entry_right h3.a.fam h3.a.dok hx
    rcases drop_code h3.a (by omega) p6 p7 (by omega) with ⟨hv, _⟩ | ⟨hh, _, hB, fp', w, q1, q2, q3, q4⟩
    · rw [p8, p3] at hv; cases hv
    · have hlist := list_drop (t := t) (p := bf x.1 0 x.2.1) x.2.2 h3.a.dok (wid_le 4) (bf_lt _ _ _) (by rw [p8]; exact p2) hh w q2 q3.dok
      rw [p8, ← p4, ← p5] at hlist
      have hJ' := h3.swap4 q3 q4
      have e1 : hB[tb]? = some (.allowed_Table ⟨some im, some k4, some k6⟩) := (q4.old tb htb b1 b3).trans h1
      have e2 : hB[im]? = some (.M82 m) := (q4.old im him i1 i3).trans h2
      have hap2 := J2.off hJ' e2 (fun z => by simp) (fun z => by simp)
      have hlB : im < hB.length := (List.getElem?_eq_some_iff.1 e2).1
      refine ⟨hB.set im (.M82 (mdel m (kp 4 x))), w, u, im :: k4 :: k6 :: (fp' ++ f6), fun K => ?_, ⟨im, k4, k6, fp', f6, mdel m (kp 4 x), ?_, ?_, ?_, ?_, rfl⟩, ⟨?_, fun j hj hf => ?_, fun j hj => ?_⟩, ?_, ?_⟩
      · rw [own_at h1, bindM_some]
        show (trie_Trie_Drop h (if (4 : Int) = 4 then some k4 else some k6) (mkP (mkA 4 x.1) (x.2.1 : Int)) >>= _) = _
        rw [if_pos rfl, q1, bindM_some]
        show (hn_allowed_Table hB (some tb) >>= _) = _
        rw [hn_allowed_Table_of e1, bindM_some]
        show (hn_M82 hB (some im) >>= _) = _
        rw [hn_M82_of e2, bindM_some]; rfl
      · exact (List.getElem?_set_ne (Ne.symm hti)).trans e1
      · exact List.getElem?_set_self hlB
      · exact j2_frame hJ' fun j hj => List.getElem?_set_ne (by
          rintro rfl
          rcases hj with e | e | e | e
          · exact hap2.1 e
          · exact hap2.2.1 e
          · exact hap2.2.2.1 e
          · exact hap2.2.2.2 e)
      · refine erase_perm h4 ?_
        rw [LK_eq, LK_eq, hlist]
        exact (out_perm (F := 4) p6 (list_len16 t) (srtT h3.a) ⟨x, hx, rfl, rfl⟩).append_right _
      · rw [List.length_set]; exact q4.len
      · simp only [List.mem_cons, List.mem_append, not_or] at hf
        rw [List.getElem?_set_ne (Ne.symm hf.1)]; exact q4.old j hj hf.2.1 hf.2.2.2.1
      · simp only [List.mem_cons, List.mem_append] at hj ⊢
        rcases hj with e | e | e | e | e
        · exact .inl (.inl e)
        · exact .inl (.inr (.inl e))
        · exact .inl (.inr (.inr (.inl e)))
        · rcases q4.new j e with e | e
          · exact .inl (.inr (.inr (.inr (.inl e))))
          · exact .inr e
        · exact .inl (.inr (.inr (.inr (.inr e))))
      · rw [off_same]; exact hlist
      · rw [off_other (by decide)]
  · obtain ⟨p, p1, p2, p3, p4, p5, p6, p7, p8⟩ := entry_right h3.b.fam h3.b.dok hx
    rcases drop_code h3.b (by omega) p6 p7 (by omega) with ⟨hv, _⟩ | ⟨hh, _, hB, fp', w, q1, q2, q3, q4⟩
    · rw [p8, p3] at hv; cases hv
    · have hlist := list_drop (t := u) (p := bf x.1 0 x.2.1) x.2.2 h3.b.dok (wid_le 6) (bf_lt _ _ _) (by rw [p8]; exact p2) hh w q2 q3.dok
      rw [p8, ← p4, ← p5] at hlist
      have hJ' := h3.swap6 q3 q4
      have e1 : hB[tb]? = some (.allowed_Table ⟨some im, some k4, some k6⟩) := (q4.old tb htb b2 b4).trans h1
      have e2 : hB[im]? = some (.M82 m) := (q4.old im him i2 i4).trans h2
      have hap2 := J2.off hJ' e2 (fun z => by simp) (fun z => by simp)
      have hlB : im < hB.length := (List.getElem?_eq_some_iff.1 e2).1
      refine ⟨hB.set im (.M82 (mdel m (kp 6 x))), t, w, im :: k4 :: k6 :: (f4 ++ fp'), fun K => ?_, ⟨im, k4, k6, f4, fp', mdel m (kp 6 x), ?_, ?_, ?_, ?_, rfl⟩, ⟨?_, fun j hj hf => ?_, fun j hj => ?_⟩, ?_, ?_⟩
      · rw [own_at h1, bindM_some]
        show (trie_Trie_Drop h (if (6 : Int) = 4 then some k4 else some k6) (mkP (mkA 6 x.1) (x.2.1 : Int)) >>= _) = _
        rw [if_neg (by decide), q1, bindM_some]
        show (hn_allowed_Table hB (some tb) >>= _) = _
        rw [hn_allowed_Table_of e1, bindM_some]
        show (hn_M82 hB (some im) >>= _) = _
        rw [hn_M82_of e2, bindM_some]; rfl
      · exact (List.getElem?_set_ne (Ne.symm hti)).trans e1
      · exact List.getElem?_set_self hlB
      · exact j2_frame hJ' fun j hj => List.getElem?_set_ne (by
          rintro rfl
          rcases hj with e | e | e | e
          · exact hap2.1 e
          · exact hap2.2.1 e
          · exact hap2.2.2.1 e
          · exact hap2.2.2.2 e)
      · refine erase_perm h4 ?_
        rw [LK_eq, LK_eq, hlist]
        exact ((out_perm (F := 6) p6 (list_len16 u) (srtT h3.b) ⟨x, hx, rfl, rfl⟩).append_left _).trans List.perm_middle
      · rw [List.length_set]; exact q4.len
      · simp only [List.mem_cons, List.mem_append, not_or] at hf
        rw [List.getElem?_set_ne (Ne.symm hf.1)]; exact q4.old j hj hf.2.2.1 hf.2.2.2.2
      · simp only [List.mem_cons, List.mem_append] at hj ⊢
        rcases hj with e | e | e | e | e
        · exact .inl (.inl e)
        · exact .inl (.inr (.inl e))
        · exact .inl (.inr (.inr (.inl e)))
        · exact .inl (.inr (.inr (.inr (.inl e))))
        · rcases q4.new j e with e | e
          · exact .inl (.inr (.inr (.inr (.inr e))))
          · exact .inr e
      · rw [off_other (by decide)]
      · rw [off_same]; exact hlist
theorem keyG_symm {a b : G} (h : keyG a b) : keyG b a := ⟨h.1.symm, h.2.1.symm, h.2.2.symm⟩
def offs (D : List G) (F : Int) (X : List Tr) : List Tr := X.filter fun x => D.all fun g => decide (¬ keyG (F, x) g)
theorem offs_cons (g : G) (D : List G) (F : Int) (X : List Tr) : offs D F (offG g F X) = offs (g :: D) F X := by
  unfold offs offG
  rw [List.filter_filter]
  apply List.filter_congr
  intro x _
  rw [List.all_cons, Bool.and_comm]
theorem lgetP {L : List S_api_Prefix} {i : Nat} {x : S_api_Prefix} (h : L[i]? = some x) : lget L (i : Int) = x := by
  unfold lget
  rw [List.getD_eq_getElem?_getD, Int.toNat_natCast, h]; rfl
theorem dropT_loop (ps : List S_api_Prefix) (hps : ps.length ≤ 1000) : ∀ (D : List G) (i : Nat) (h : List HV) (t u : Tri.T) (fp : List Nat), Tb h tb t u fp → (t.list zl 0).length + (u.list zl 0).length ≤ 900 → i ≤ ps.length → ps.drop i = D.map kpG → D.Pairwise (fun a b => ¬ keyG a b) → (∀ g ∈ D, In t u g) →
    ∃ h' t' u' fp', allowed_Table_Drop.l0 (some tb) ps (i : Int) h = some h' ∧ Tb h' tb t' u' fp' ∧ GrT h h' fp fp' ∧ t'.list zl 0 = offs D 4 (t.list zl 0) ∧ u'.list zl 0 = offs D 6 (u.list zl 0)
  | [], i, h, t, u, fp, hT, hc, hi, hd, _, _ => by
    have hl : i = ps.length := by
      have := congrArg List.length hd
      simp at this; omega
    refine ⟨h, t, u, fp, ?_, hT, GrT.refl .., ?_, ?_⟩
    · rw [allowed_Table_Drop.l0.eq_def, if_neg (by rw [decide_eq_true_eq]; omega)]
    · unfold offs; exact (List.filter_eq_self.2 fun _ _ => rfl).symm
    · unfold offs; exact (List.filter_eq_self.2 fun _ _ => rfl).symm
  | g :: D, i, h, t, u, fp, hT, hc, hi, hd, hp, hm => by
    have hx : ps[i]? = some (kpG g) := by
      have := congrArg (fun l : List S_api_Prefix => l[0]?) hd
      simpa using this
    have hil : i < ps.length := (List.getElem?_eq_some_iff.1 hx).1
    obtain ⟨h1, t1, u1, fp1, q1, q2, q3, q4, q5⟩ := tdel hT hc (hm g (List.mem_cons_self ..))
    have hp' := List.pairwise_cons.1 hp
    have hc1 : (t1.list zl 0).length + (u1.list zl 0).length ≤ 900 := by
      have a := List.length_filter_le (fun x => decide (¬ keyG (4, x) g)) (t.list zl 0)
      have b := List.length_filter_le (fun x => decide (¬ keyG (6, x) g)) (u.list zl 0)
      rw [q4, q5]; unfold offG; omega
    obtain ⟨h', t', u', fp', z1, z2, z3, z4, z5⟩ := dropT_loop ps hps D (i + 1) h1 t1 u1 fp1 q2 hc1 (by omega) (by rw [← List.drop_drop, hd]; rfl) hp'.2 fun g' hg' => by
      have hno : ¬ keyG g' g := fun e => hp'.1 g' hg' (keyG_symm e)
      rcases hm g' (List.mem_cons_of_mem _ hg') with ⟨a, b⟩ | ⟨a, b⟩
      · left
        refine ⟨a, ?_⟩
        rw [q4]
        obtain ⟨F', y⟩ := g'
        simp only at a; subst a
        exact List.mem_filter.2 ⟨b, by simpa using hno⟩
      · right
        refine ⟨a, ?_⟩
        rw [q5]
        obtain ⟨F', y⟩ := g'
        simp only at a; subst a
        exact List.mem_filter.2 ⟨b, by simpa using hno⟩
    refine ⟨h', t', u', fp', ?_, z2, q3.trans z3, ?_, ?_⟩
    · rw [allowed_Table_Drop.l0.eq_def, if_pos (by rw [decide_eq_true_eq]; omega), if_pos (by omega), lgetP hx, wr1 (by omega)]
      exact (q1 _).trans z1
    · rw [z4, q4, offs_cons]
    · rw [z5, q5, offs_cons]
theorem srt_key {X : List Tr} (hs : Srt X) {x y : Tr} (hx : x ∈ X) (hy : y ∈ X) (hk : key x y) : x = y := by
  induction X with
  | nil => simp at hx
  | cons z X ih =>
    have hs' := List.pairwise_cons.1 hs
    have no : ∀ {a b : Tr}, key a b → lessE a b = true → False := fun {a b} hk hl => by
      unfold lessE at hl
      rw [if_pos hk.1, hk.2] at hl
      simp at hl
    rcases List.mem_cons.1 hx with e | hx2
    · rcases List.mem_cons.1 hy with e' | hy2
      · rw [e, e']
      · subst e; exact (no hk (hs'.1 y hy2)).elim
    · rcases List.mem_cons.1 hy with e' | hy2
      · subst e'; exact (no ⟨hk.1.symm, hk.2.symm⟩ (hs'.1 x hx2)).elim
      · exact ih hs'.2 hx2 hy2
theorem both_mem {A B : List Tr} {g : G} : g ∈ both A B ↔ (g.1 = 4 ∧ g.2 ∈ A) ∨ (g.1 = 6 ∧ g.2 ∈ B) := by
  unfold both
  rw [List.mem_append, List.mem_map, List.mem_map]
  constructor
  · rintro (⟨x, hx, rfl⟩ | ⟨x, hx, rfl⟩)
    · exact .inl ⟨rfl, hx⟩
    · exact .inr ⟨rfl, hx⟩
  · obtain ⟨F, x⟩ := g
    rintro (⟨a, b⟩ | ⟨a, b⟩)
    · simp only at a; subst a; exact .inl ⟨x, b, rfl⟩
    · simp only at a; subst a; exact .inr ⟨x, b, rfl⟩
theorem both_pair {A B : List Tr} (hA : Srt A) (hB : Srt B) : (both A B).Pairwise (fun a b => ¬ keyG a b) := by
  have no : ∀ {a b : Tr}, lessE a b = true → ¬ key a b := fun {a b} hl hk => by
    unfold lessE at hl
    rw [if_pos hk.1, hk.2] at hl
    simp at hl
  unfold both
  rw [List.pairwise_append]
  refine ⟨?_, ?_, ?_⟩
  · rw [List.pairwise_map]; exact hA.imp fun {a b} hl (hk : keyG _ _) => no hl hk.2
  · rw [List.pairwise_map]; exact hB.imp fun {a b} hl (hk : keyG _ _) => no hl hk.2
  · intro a ha b hb hk
    obtain ⟨x, _, rfl⟩ := List.mem_map.1 ha
    obtain ⟨y, _, rfl⟩ := List.mem_map.1 hb
    have : (4 : Int) = 6 := hk.1
    omega
def ownr (o : Int) (g : G) : Bool := g.2.2.2 == o
theorem ofL_both (A B : List Tr) (o : Int) : ofL (A.map (toE 4) ++ B.map (toE 6)) o = ((both A B).filter (ownr o)).map kpG := by
  unfold ofL
  rw [← both_map, List.filter_map, List.map_map]; rfl
theorem offs_all {X A B : List Tr} {F : Int} {o : Int} (hX : Srt X) (h1 : ∀ x ∈ X, (F, x) ∈ both A B) (h2 : ∀ g ∈ both A B, g.1 = F → g.2 ∈ X) : offs ((both A B).filter (ownr o)) F X = X.filter fun x => x.2.2 != o := by
  unfold offs
  apply List.filter_congr
  intro x hx
  rw [Bool.eq_iff_iff, List.all_eq_true]
  simp only [decide_eq_true_eq, bne_iff_ne, ne_eq]
  constructor
  · intro hall e
    exact hall (F, x) (List.mem_filter.2 ⟨h1 x hx, by unfold ownr; simp [e]⟩) ⟨rfl, rfl, rfl⟩
  · intro hne g hg hk
    obtain ⟨hg1, hg2⟩ := List.mem_filter.1 hg
    have hgF : g.1 = F := hk.1.symm
    have := srt_key hX hx (h2 g hg1 hgF) hk.2
    unfold ownr at hg2
    rw [← this] at hg2
    exact hne (by simpa using hg2)
theorem drop_codeT (hT : Tb h tb t u fp) (hc : (t.list zl 0).length + (u.list zl 0).length ≤ 900) (o : Int) :
    ∃ h' t' u' fp', allowed_Table_Drop h (some tb) o = some (((ofL (LL t u) o).length : Int), h') ∧ Tb h' tb t' u' fp' ∧ GrT h h' fp fp' ∧ LL t' u' = (LL t u).filter (fun x => x.f_Owner != o) := by
  have hof := of_codeT hT hc o
  have hs4 : Srt (t.list zl 0) := by obtain ⟨_, _, _, _, _, _, _, _, a, _⟩ := hT.ex; exact srtT a.a
  have hs6 : Srt (u.list zl 0) := by obtain ⟨_, _, _, _, _, _, _, _, a, _⟩ := hT.ex; exact srtT a.b
  have hlen : (ofL (LL t u) o).length ≤ 1000 := by
    unfold ofL
    have := List.length_filter_le (fun x : S_api_Entry => x.f_Owner == o) (LL t u)
    rw [List.length_map]
    rw [LL_len] at this; omega
  have hD : ofL (LL t u) o = ((both (t.list zl 0) (u.list zl 0)).filter (ownr o)).map kpG := by unfold LL; exact ofL_both _ _ o
  obtain ⟨h', t', u', fp', z1, z2, z3, z4, z5⟩ := dropT_loop (tb := tb) (ofL (LL t u) o) hlen _ 0 h t u fp hT hc (by omega) (by rw [List.drop_zero]; exact hD) ((both_pair hs4 hs6).filter _) fun g hg => both_mem.1 (List.mem_filter.1 hg).1
  refine ⟨h', t', u', fp', ?_, z2, z3, ?_⟩
  · unfold allowed_Table_Drop
    rw [hof, bindM_some, show (0 : Int) = ((0 : Nat) : Int) from rfl, z1, bindM_some]
  · rw [offs_all hs4 (fun x hx => both_mem.2 (.inl ⟨rfl, hx⟩)) (fun g hg e => by rcases both_mem.1 hg with ⟨_, b⟩ | ⟨a, _⟩; exact b; omega)] at z4
    rw [offs_all hs6 (fun x hx => both_mem.2 (.inr ⟨rfl, hx⟩)) (fun g hg e => by rcases both_mem.1 hg with ⟨a, _⟩ | ⟨_, b⟩; omega; exact b)] at z5
    unfold LL
    rw [z4, z5, List.filter_append, List.filter_map, List.filter_map]; rfl
abbrev nl : Tri.T := .nd false 0 .nil .nil
theorem nl_list : nl.list zl 0 = [] := rfl
theorem new_codeT (h : List HV) : ∃ h' tb fp, allowed_New h = some (some tb, h') ∧ Tb h' tb nl nl fp ∧ h.length ≤ h'.length ∧ h.length ≤ tb ∧ (∀ j ∈ fp, h.length ≤ j) ∧ ∀ j, j < h.length → h'[j]? = h[j]? := by
  let hA := h ++ [HV.M82 []]
  obtain ⟨h1, e1, j1, n1, o1⟩ := new_code (F := 4) hA (.inl rfl)
  obtain ⟨h2, e2, j2, n2, o2⟩ := new_code (F := 6) h1 (.inr rfl)
  have nA : hA.length = h.length + 1 := by simp [hA]
  let z : S_allowed_Table := ⟨some h.length, some (hA.length + 1), some (h1.length + 1)⟩
  let h' := h2 ++ [HV.allowed_Table z]
  have eA : hA[h.length]? = some (.M82 []) := by simp [hA]
  have em : h2[h.length]? = some (.M82 []) := by rw [o2 _ (by omega), o1 _ (by omega)]; exact eA
  have hv : hvp hK h2 (HV.allowed_Table z) = true := by
    simp [hvp, hK, vp, z]; omega
  have hJ : J2 h2 (hA.length + 1) (h1.length + 1) nl nl [hA.length] [h1.length] :=
    ⟨j1.frame (o2 _ (by omega)) fun i hi => o2 i (by simp at hi; omega), j2, by omega, by simp; omega, by simp; omega, by simp; omega⟩
  have hlen' : h'.length = h2.length + 1 := by simp [h']
  have old : ∀ j, j < h2.length → h'[j]? = h2[j]? := fun j hj => List.getElem?_append_left hj
  refine ⟨h', h2.length, h.length :: (hA.length + 1) :: (h1.length + 1) :: ([hA.length] ++ [h1.length]), ?_, ⟨h.length, hA.length + 1, h1.length + 1, [hA.length], [h1.length], [], ?_, ?_, ?_, ?_, rfl⟩, by omega, by omega, ?_, fun j hj => ?_⟩
  · unfold allowed_New
    show (trie_New hA 4 >>= _) = _
    rw [e1, bindM_some]
    show (if vp hA.length (some h.length) = true then (trie_New h1 6 >>= _) else none) = _
    rw [if_pos (by simp [vp]; omega), e2, bindM_some]
    show (if vp h1.length (some h.length) = true then (if vp h1.length (some (hA.length + 1)) = true then (if hvp hK h2 (HV.allowed_Table z) = true then some (some h2.length, h') else none) else none) else none) = _
    rw [if_pos (by simp [vp]; omega), if_pos (by simp [vp]; omega), if_pos hv]
  · simp [h', z]
  · rw [old _ (by omega)]; exact em
  · exact j2_frame hJ fun j hj => old j (by simp at hj; omega)
  · exact .refl _
  · intro j hj
    simp at hj
    omega
  · rw [old j (by omega), o2 j (by omega), o1 j (by omega)]
    exact List.getElem?_append_left hj
theorem put_lists {F : Int} {x : Tr} {t' u' : Tri.T} (hx : x.1.length = 16) (hn : (t.list zl 0).length + (u.list zl 0).length ≤ 1000) (hp : Put F x t u t' u') : crawlwayref25_Put (LL t u) (toE F x) = some (LL t' u') := by
  have := putG_ref (X := both (t.list zl 0) (u.list zl 0)) (e := (F, x)) (both_ln (list_len16 t) (list_len16 u)) hx (by rw [both_len]; omega)
  rw [both_map] at this
  unfold LL
  refine this.trans (congrArg some ?_)
  rcases hp with ⟨rfl, a, rfl⟩ | ⟨rfl, a, rfl⟩
  · rw [fin_four, both_map, a]
  · rw [fin_six, both_map, a]
theorem put_len {F : Int} {x : Tr} {t' u' : Tri.T} (hp : Put F x t u t' u') : (t'.list zl 0).length + (u'.list zl 0).length ≤ (t.list zl 0).length + (u.list zl 0).length + 1 := by
  rcases hp with ⟨rfl, a, rfl⟩ | ⟨rfl, a, rfl⟩
  · have := fin_len x (t.list zl 0) false
    rw [a]; omega
  · have := fin_len x (u.list zl 0) false
    rw [a]; omega
theorem put_len_in {F : Int} {x : Tr} {t' u' : Tri.T} (hx : x.1.length = 16) (hs4 : Srt (t.list zl 0)) (hs6 : Srt (u.list zl 0)) (hp : Put F x t u t' u') (hin : kp F x ∈ LK t u) : (t'.list zl 0).length + (u'.list zl 0).length = (t.list zl 0).length + (u.list zl 0).length := by
  rcases hp with ⟨rfl, a, rfl⟩ | ⟨rfl, a, rfl⟩
  · rw [a, fin_false_len, out_one hs4 ((mem_LK4 hx).1 hin)]
  · rw [a, fin_false_len, out_one hs6 ((mem_LK6 hx).1 hin)]
theorem Tb.srt (hT : Tb h tb t u fp) : Srt (t.list zl 0) ∧ Srt (u.list zl 0) := by
  obtain ⟨_, _, _, _, _, _, _, _, a, _⟩ := hT.ex
  exact ⟨srtT a.a, srtT a.b⟩
theorem filt_add (o : Int) : ∀ (L : List S_api_Entry), (L.filter fun x => x.f_Owner == o).length + (L.filter fun x => x.f_Owner != o).length = L.length
  | [] => rfl
  | x :: L => by
    have ih := filt_add o L
    rw [List.filter_cons, List.filter_cons, List.length_cons]
    by_cases h : x.f_Owner = o
    · rw [if_pos (by simpa using h), if_neg (by simpa using h), List.length_cons]; omega
    · rw [if_neg (by simpa using h), if_pos (by simpa using h), List.length_cons]; omega
theorem step_codeT (hT : Tb h tb t u fp) (hn : (t.list zl 0).length + (u.list zl 0).length ≤ 64) (d : S_crawlwaylaw25_Deed) (wd : ok_crawlwaylaw25_Deed d) :
    ∃ t' u' h' fp', crawlwaylaw26_step h (some tb) (LL t u) d = some (LL t' u', true, h') ∧ Tb h' tb t' u' fp' ∧ GrT h h' fp fp' ∧ (t'.list zl 0).length + (u'.list zl 0).length ≤ 64 := by
  obtain ⟨K, P, o⟩ := d
  obtain ⟨_, wP, _⟩ := wd
  unfold crawlwaylaw26_step
  have hLL := LL_len t u
  by_cases hk : (K == 0) = true
  · rw [if_pos hk]
    obtain ⟨V, l, b, rfl, hl, _⟩ := exists_mkP P wP
    have hpl := placeG (LL t u) (mkP (mkA V l) b) (by omega)
    show ∃ t' u' h' fp', (crawlwayref26_Put (LL t u) { f_P := mkP (mkA V l) b, f_Owner := o } >>= fun t3 => allowed_Table_Put h (some tb) (mkP (mkA V l) b) o >>= _) = _ ∧ _
    unfold crawlwayref26_Put
    obtain ⟨z, hz, hzi⟩ := hpl
    rcases tput hT hn hl o with ⟨a, b1⟩ | ⟨a, b1, b2, b3⟩ | ⟨a, b1, F, x, t', u', h', fp', c1, c2, c3, c4, c5, c6, c7⟩
    · refine ⟨t, u, h, fp, ?_, hT, GrT.refl .., hn⟩
      rw [a, bindM_some, if_pos (by rfl), bindM_some, b1, bindM_some]; rfl
    · refine ⟨t, u, h, fp, ?_, hT, GrT.refl .., hn⟩
      rw [a, bindM_some, if_neg (by decide), hz, bindM_some, if_pos (decide_eq_true (hzi.2 b1)), if_pos (decide_eq_true (show ((LL t u).length : Int) ≥ 64 by omega)), bindM_some, b3, bindM_some]; rfl
    · have hE : ({ f_P := mkP (mkA V l) b, f_Owner := o } : S_api_Entry) = toE F x := by rw [c2, ← c3]; rfl
      have hput := put_lists c1 (by omega) c7
      have hs := hT.srt
      have hle : (t'.list zl 0).length + (u'.list zl 0).length ≤ 64 := by
        rcases b1 with b1 | b1
        · rw [put_len_in c1 hs.1 hs.2 c7 (c2 ▸ b1)]; exact hn
        · have := put_len c7; omega
      refine ⟨t', u', h', fp', ?_, c5, c6, hle⟩
      rw [a, bindM_some, if_neg (by decide), hz, bindM_some, hE, hput]
      by_cases hz0 : z < 0
      · rw [if_pos (decide_eq_true hz0)]
        have : ¬ (((LL t u).length : Int) ≥ 64) := by
          rcases b1 with b1 | b1
          · exact absurd b1 (hzi.1 hz0)
          · omega
        rw [if_neg (by rw [decide_eq_true_eq]; exact this), bindM_some, bindM_some, c4, bindM_some]; rfl
      · rw [if_neg (by rw [decide_eq_true_eq]; exact hz0), bindM_some, bindM_some, c4, bindM_some]; rfl
  · rw [if_neg hk]
    show ∃ t' u' h' fp', (crawlwayref26_Drop (LL t u) o >>= fun t10 => allowed_Table_Drop h (some tb) o >>= _) = _ ∧ _
    obtain ⟨h', t', u', fp', q1, q2, q3, q4⟩ := drop_codeT hT (by omega) o
    have hlen : (LL t' u').length ≤ (LL t u).length := by rw [q4]; exact List.length_filter_le ..
    rw [LL_len, LL_len] at hlen
    refine ⟨t', u', h', fp', ?_, q2, q3, by omega⟩
    rw [drop26 _ _ (by omega), bindM_some, q1, bindM_some, ← q4]
    have hsum : (ofL (LL t u) o).length + (LL t' u').length = (LL t u).length := by
      rw [q4]
      unfold ofL
      rw [List.length_map]
      exact filt_add o (LL t u)
    have hw : wr .i64 (((LL t u).length : Int) - ((LL t' u').length : Int)) = ((ofL (LL t u) o).length : Int) := by
      rw [wr_i64 (by omega) (by omega)]; omega
    show some (LL t' u', (((ofL (LL t u) o).length : Int) == wr .i64 (((LL t u).length : Int) - ((LL t' u').length : Int))), h') = _
    rw [hw, beq_self_eq_true]
end Go.Proofs.Ythccncpephpdjaa.Alw
namespace Go.Proofs.Ythccncpephpdjaa.Alw
open E Go.RowKit
open Adr Cid Tri
variable {h : List HV} {tb : Nat} {t u : Tri.T} {fp : List Nat}
def m1 : List UInt8 := [10, 0, 0, 0, 0, 0, 0, 0, 0, 0, 0, 0, 0, 0, 0, 0]
def m2 : List UInt8 := [10, 9, 9, 9, 0, 0, 0, 0, 0, 0, 0, 0, 0, 0, 0, 0]
theorem w1 : vset (Vector.replicate 16 (0 : Int) : (Vector Int 16)) 0 10 = vb m1 := by decide +kernel
theorem w2 : vset (vset (vset (vset (Vector.replicate 16 (0 : Int) : (Vector Int 16)) 0 10) 1 9) 2 9) 3 9 = vb m2 := by decide +kernel
/-- A put of a right prefix of four bytes, where there is room. -/
theorem tput4 (hT : Tb h tb t u fp) (hn : (t.list zl 0).length + (u.list zl 0).length ≤ 64) {l : List UInt8} {n : Nat} (hl : l.length = 16) (hr : rightP 4 l (n : Int) = true) (o : Int) (hroom : (∃ y ∈ t.list zl 0, key y (l, n, o)) ∨ (t.list zl 0).length + (u.list zl 0).length < 64) :
    ∃ t' h' fp', allowed_Table_Put h (some tb) (mkP (mkA 4 l) (n : Int)) o = some (0, h') ∧ Tb h' tb t' u fp' ∧ GrT h h' fp fp' ∧ t'.list zl 0 = fin (l, n, o) (t.list zl 0) false := by
  have hR : crawlwayref11_Right (mkP (mkA 4 l) (n : Int)) = some true := by rw [cright_ref hl, hr]
  have e0 : mkP (mkA 4 l) (n : Int) = kp 4 (l, n, o) := rfl
  have hiff := mem_LK4 (t := t) (u := u) (x := (l, n, o)) hl
  rcases tput hT hn hl o with ⟨a, _⟩ | ⟨_, b1, b2, _⟩ | ⟨_, _, F, x, t', u', h', fp', c1, c2, c3, c4, c5, c6, c7⟩
  · rw [hR] at a; cases a
  · rcases hroom with q | q
    · exact absurd (hiff.2 q) b1
    · omega
  · rw [e0] at c2
    obtain ⟨rfl, k1, k2⟩ := kp_fam hl c1 c2
    have hx : x = (l, n, o) := by
      obtain ⟨x1, x2, x3⟩ := x
      simp only at k1 k2 c3
      rw [← k1, ← k2, c3]
    subst hx
    rcases c7 with ⟨_, a, rfl⟩ | ⟨a, _⟩
    · exact ⟨t', h', fp', c4, c5, c6, a⟩
    · omega
theorem alive26 : crawlwaylaw26_alive = some true := by
  obtain ⟨h0, tb, f0, e0, T0, _, _, _, _⟩ := new_codeT ([] : List HV)
  obtain ⟨t1, h1, f1, e1, T1, _, l1⟩ := tput4 T0 (by rw [nl_list]; decide) (show m1.length = 16 from rfl) (n := 8) (by decide +kernel) 1 (.inr (by rw [nl_list]; decide))
  rw [nl_list] at l1
  have l1' : t1.list zl 0 = [(m1, 8, 1)] := l1
  obtain ⟨t2, h2, f2, e2, T2, _, l2⟩ := tput4 T1 (by rw [l1', nl_list]; decide) (show m1.length = 16 from rfl) (n := 8) (by decide +kernel) 2 (.inr (by rw [l1', nl_list]; decide))
  rw [l1'] at l2
  have l2' : t2.list zl 0 = [(m1, 8, 2)] := by rw [l2]; decide +kernel
  have hL : LL t2 nl = [toE 4 (m1, 8, 2)] := by unfold LL; rw [l2', nl_list]; rfl
  obtain ⟨e, is, f3, f4⟩ := find_codeT (V := 4) (a := m2) T2 (by rw [l2', nl_list]; decide) rfl
  have h3 := len_codeT T2
  have h4 := of_codeT T2 (by rw [l2', nl_list]; decide) 1
  rw [hL] at h3 h4 f4
  have hfr := find_ref (F := 4) (V := 4) (a := m2) (X := [(m1, 8, (2 : Int))]) rfl (by intro x hx; simp at hx; subst hx; rfl) (by decide)
  have e6 : [(m1, 8, (2 : Int))].foldl (fstep 4 4 m2) (false, Tri.zE) = (true, toE 4 (m1, 8, 2)) := by
    have a1 : hasT 4 (m1, 8, 2) 4 m2 = true := by decide +kernel
    have s1 : fstep 4 4 m2 (false, Tri.zE) (m1, 8, 2) = (true, toE 4 (m1, 8, 2)) := by
      unfold fstep
      rw [if_pos a1, if_pos (Or.inl rfl)]
    rw [List.foldl_cons, List.foldl_nil, s1]
  rw [e6] at hfr
  rw [show [toE 4 (m1, 8, 2)] = [(m1, 8, (2 : Int))].map (toE 4) from rfl, hfr] at f4
  cases f4
  have v0 : vp h0.length (some tb) = true := by simp only [vp, decide_eq_true_eq]; exact T0.lt
  have v1 : vp h1.length (some tb) = true := by simp only [vp, decide_eq_true_eq]; exact T1.lt
  unfold crawlwaylaw26_alive
  simp only [w1, w2]
  rw [e0, bindM_some, if_neg (by simp)]
  show (allowed_Table_Put h0 (some tb) (mkP (mkA 4 m1) ((8 : Nat) : Int)) 1 >>= _) = _
  rw [e1, bindM_some]
  show (if vp h0.length (some tb) = true then (allowed_Table_Put h1 (some tb) (mkP (mkA 4 m1) ((8 : Nat) : Int)) 2 >>= _) else none) = _
  rw [if_pos v0, e2, bindM_some]
  show (if vp h1.length (some tb) = true then (allowed_Table_Find h2 (some tb) (mkA 4 m2) >>= _) else none) = _
  rw [if_pos v1, f3, bindM_some]
  show (if true = true then (if ((2 : Int) == 2) = true then (allowed_Table_Len h2 (some tb) >>= fun t20 => if (t20 == 1) = true then (allowed_Table_Of h2 (some tb) 1 >>= fun t22 => some ((t22.length : Int) == 0)) else (some false)) else (some false)) else (some false)) = _
  rw [if_pos rfl, if_pos (by decide), h3, bindM_some, if_pos (by decide), h4, bindM_some]
  have : ofL [toE 4 (m1, 8, 2)] 1 = [] := by decide +kernel
  rw [this]; rfl
theorem alive_then26 : (crawlwaylaw26_alive >>= fun t => some t) = some true := by rw [alive26]; rfl
end Go.Proofs.Ythccncpephpdjaa.Alw
namespace Go.Proofs.Ythccncpephpdjaa.Alw
open E Go.RowKit
open Adr Cid Tri
theorem aplays_loop {xs : List S_crawlwaylaw25_Deed} (hx : ∀ x ∈ xs, ok_crawlwaylaw25_Deed x) (hn : xs.length ≤ 40) (o : Int) (tb : Nat) (h0 : List HV) : ∀ (k i : Nat) (h : List HV) (t u : Tri.T) (fp : List Nat), i + k = xs.length → Tb h tb t u fp → (t.list zl 0).length + (u.list zl 0).length ≤ 64 →
    ∃ h', crawlwaylaw26_AllowedPlays.l0 xs o (some tb, h0) (LL t u) (i : Int) h = some (.nx h')
  | 0, i, h, t, u, fp, hi, hT, hc => ⟨h, by rw [crawlwaylaw26_AllowedPlays.l0.eq_def, if_neg (by rw [decide_eq_true_eq]; omega)]⟩
  | k + 1, i, h, t, u, fp, hi, hT, hc => by
    obtain ⟨d, hd⟩ : ∃ d, xs[i]? = some d := ⟨_, List.getElem?_eq_getElem (by omega)⟩
    have hdm := List.mem_of_getElem? hd
    have hld : lget xs (i : Int) = d := by unfold lget; rw [List.getD_eq_getElem?_getD, Int.toNat_natCast, hd]; rfl
    obtain ⟨t', u', h', fp', q1, q2, q3, q4⟩ := step_codeT hT hc d (hx d hdm)
    have hg : (0 : Int) ≤ (i : Int) ∧ (i : Int) < (xs.length : Int) := by omega
    obtain ⟨h'', ih⟩ := aplays_loop hx hn o tb h0 k (i + 1) h' t' u' fp' (by omega) q2 (by omega)
    refine ⟨h'', ?_⟩
    have hvp : vp h.length (some tb) = true := by simp only [vp, decide_eq_true_eq]; exact hT.lt
    have hL := LL_len t' u'
    have hof : (ofL (LL t' u') o).length ≤ 1000 := by
      unfold ofL
      have := List.length_filter_le (fun x : S_api_Entry => x.f_Owner == o) (LL t' u')
      rw [List.length_map]; omega
    rw [crawlwaylaw26_AllowedPlays.l0.eq_def, if_pos (by rw [decide_eq_true_eq]; exact hg.2), if_pos hg, hld, q1, bindM_some, if_pos hvp, if_neg (by simp)]
    simp only [len_codeT q2, bindM_some]
    rw [if_neg (by simp)]
    simp only [all_codeT q2 (by omega), bindM_some, same_ref (LL t' u') (by omega)]
    rw [if_neg (by simp)]
    simp only [of_codeT q2 (by omega) o, bindM_some, of26 (LL t' u') o (by omega), same11 _ hof]
    rw [if_neg (by simp), wr1 (by omega), ih]
theorem AllowedPlays_pure (a0 : List S_crawlwaylaw25_Deed) (w0 : ∀ x ∈ a0, ok_crawlwaylaw25_Deed x) (a1 : Int) (w1 : (Lit.int .i64 a1).wf = true) : crawlwaylaw26_AllowedPlays a0 a1 = some true := by
  unfold crawlwaylaw26_AllowedPlays
  by_cases hn : (a0.length : Int) > 40
  · rw [if_pos (decide_eq_true hn), alive_then26]
  · rw [if_neg (by rw [decide_eq_true_eq]; exact hn)]
    obtain ⟨h0, tb, f0, e0, T0, _⟩ := new_codeT ([] : List HV)
    obtain ⟨h', e1⟩ := aplays_loop w0 (by omega) a1 tb h0 a0.length 0 h0 nl nl f0 (by omega) T0 (by rw [nl_list]; decide)
    rw [e0, bindM_some, if_neg (by simp)]
    have e2 : LL nl nl = [] := rfl
    rw [e2] at e1
    rw [show (0 : Int) = ((0 : Nat) : Int) from rfl]
    show (crawlwaylaw26_AllowedPlays.l0 a0 a1 (some tb, h0) [] ((0 : Nat) : Int) h0 >>= _) = _
    rw [e1, bindM_some]
    exact alive_then26
end Go.Proofs.Ythccncpephpdjaa.Alw
