/- A trie and the document's list of what is in it: whatever is done, they go together. -/
import Derived.Test.YthccncpephpdjaaTriR
set_option linter.unusedVariables false
set_option linter.unusedSimpArgs false
namespace Go.Proofs.Ythccncpephpdjaa.Tri
open E Go.RowKit
open Adr Cid

/-! ### how many -/
theorem fin_true_len (e : Tr) : ∀ (X : List Tr), (fin e X true).length = (out e X).length
  | [] => rfl
  | x :: X => by
    unfold fin out
    rw [List.filter_cons]
    by_cases h : key x e
    · rw [if_pos h, if_neg (by simp [h]), fin_true_len e X]; rfl
    · rw [if_neg h, if_neg (by simp), if_pos (by simp [h]), List.length_cons, List.length_cons, fin_true_len e X]; rfl
theorem fin_false_len (e : Tr) : ∀ (X : List Tr), (fin e X false).length = (out e X).length + 1
  | [] => rfl
  | x :: X => by
    have h1 := fin_true_len e X
    have h2 := fin_false_len e X
    unfold out at h1 h2 ⊢
    by_cases h : key x e
    · simp [fin, h, h2]
    · by_cases hl : lessE e x = true
      · simp [fin, h, hl, h1]
      · simp [fin, h, hl, h2]
theorem out_none {e : Tr} : ∀ {X : List Tr}, (∀ x ∈ X, ¬ key x e) → out e X = X
  | [], _ => rfl
  | x :: X, h => by
    unfold out
    rw [List.filter_cons, if_pos (by simp [h x (List.mem_cons_self ..)])]
    congr 1
    exact out_none fun y hy => h y (List.mem_cons_of_mem _ hy)
theorem out_one {e : Tr} : ∀ {X : List Tr}, Srt X → (∃ x ∈ X, key x e) → (out e X).length + 1 = X.length
  | [], _, ⟨x, hx, _⟩ => by simp at hx
  | x :: X, hs, hx => by
    have hs' := List.pairwise_cons.1 hs
    unfold out
    rw [List.filter_cons]
    by_cases h : key x e
    · rw [if_neg (by simp [h])]
      have : out e X = X := out_none fun y hy hk => by
        have := hs'.1 y hy
        unfold lessE at this
        rw [if_pos (h.1.trans hk.1.symm), h.2, hk.2] at this
        simp at this
      show (out e X).length + 1 = _
      rw [this]; rfl
    · rw [if_pos (by simp [h]), List.length_cons, List.length_cons]
      obtain ⟨y, hy, hk⟩ := hx
      have : y ∈ X := by
        rcases List.mem_cons.1 hy with rfl | hy
        · exact absurd hk h
        · exact hy
      show (out e X).length + 1 + 1 = _
      rw [out_one hs'.2 ⟨y, this, hk⟩]
theorem key_path {t : T} {p : List Nat} {o : Int} {n : Nat} (hd : t.dok n) (hn : n ≤ 128) (hp : ∀ b ∈ p, b < 2) : (∃ x ∈ t.list zl 0, key x (adrG zl 0 p, p.length, o)) ↔ ∃ o', t.val p = some o' := by
  constructor
  · rintro ⟨x, hx, k1, k2⟩
    obtain ⟨q, h1, h2, h3, h4⟩ := (T.mem_list t zl 0 x).1 hx
    have hq := T.val_len t n q _ hd h2
    rw [h3] at k1
    rw [h4] at k2
    simp at k1 k2
    have e := adr_inj h1 hp (by omega) k2 k1
    subst e
    exact ⟨_, h2⟩
  · rintro ⟨o', h⟩
    exact ⟨(adrG zl 0 p, p.length, o'), (T.mem_list t zl 0 _).2 ⟨p, hp, h, rfl, by simp⟩, rfl, rfl⟩
/-! ### a trie -/
structure J (h : List HV) (tk : Nat) (F : Int) (t : T) (fp : List Nat) : Prop where
  fam : F = 4 ∨ F = 6
  tr : ∃ root, h[tk]? = some (.trie_Trie ⟨some root, F, ((t.list zl 0).length : Int)⟩) ∧ Rep h t (some root) fp
  dok : t.dok (wid F)
structure Gr (h h' : List HV) (tk : Nat) (fp fp' : List Nat) : Prop where
  len : h.length ≤ h'.length
  old : ∀ j, j < h.length → j ≠ tk → j ∉ fp → h'[j]? = h[j]?
  new : ∀ j ∈ fp', j ∈ fp ∨ h.length ≤ j
theorem Gr.refl (h : List HV) (tk : Nat) (fp : List Nat) : Gr h h tk fp fp := ⟨Nat.le_refl _, fun _ _ _ _ => rfl, fun _ h => .inl h⟩
theorem Rep.isnode {h : List HV} : ∀ {t : T} {x : Option Nat} {fp : List Nat}, Rep h t x fp → ∀ i ∈ fp, ∃ nd, h[i]? = some (.trie_node nd)
  | .nil, _, _, ⟨_, hf⟩, i, hi => by subst hf; simp at hi
  | .nd is o l r, x, fp, ⟨i, nx, f1, f2, hx, hi, hl, hr, hf, hn⟩, j, hj => by
    subst hf
    rcases List.mem_cons.1 hj with rfl | hj
    · exact ⟨_, hi⟩
    · rcases List.mem_append.1 hj with hj | hj
      · exact hl.isnode j hj
      · exact hr.isnode j hj
variable {h : List HV} {tk : Nat} {F : Int} {t : T} {fp : List Nat}
theorem J.lt (hJ : J h tk F t fp) : tk < h.length := by
  obtain ⟨root, h1, _⟩ := hJ.tr
  exact (List.getElem?_eq_some_iff.1 h1).1
theorem J.apart (hJ : J h tk F t fp) : tk ∉ fp := fun e => by
  obtain ⟨root, h1, h2⟩ := hJ.tr
  obtain ⟨nd, h3⟩ := h2.isnode tk e
  rw [h1] at h3; cases h3
theorem J.fplt (hJ : J h tk F t fp) : ∀ i ∈ fp, i < h.length := by
  obtain ⟨root, h1, h2⟩ := hJ.tr
  exact h2.lt
/-- What has not been touched is as it was. -/
theorem J.frame {h' : List HV} (hJ : J h tk F t fp) (h1 : h'[tk]? = h[tk]?) (h2 : ∀ i ∈ fp, h'[i]? = h[i]?) : J h' tk F t fp := by
  obtain ⟨root, a, b⟩ := hJ.tr
  exact ⟨hJ.fam, ⟨root, h1.trans a, b.frame h2⟩, hJ.dok⟩
theorem hn_trie {z : S_trie_Trie} (e : h[tk]? = some (.trie_Trie z)) : hn_trie_Trie h (some tk) = some (tk, z) := hn_trie_Trie_of e
theorem new_code (h : List HV) (hF : F = 4 ∨ F = 6) : ∃ h', trie_New h F = some (some (h.length + 1), h') ∧ J h' (h.length + 1) F (.nd false 0 .nil .nil) [h.length] ∧ h'.length = h.length + 2 ∧ ∀ j, j < h.length → h'[j]? = h[j]? := by
  let h' := (h ++ [HV.trie_node zn]) ++ [HV.trie_Trie ⟨some h.length, F, 0⟩]
  have e : trie_New h F = some (some (h.length + 1), h') := by
    unfold trie_New
    have hv : hvp hK (h ++ [HV.trie_node zn]) (HV.trie_Trie ⟨some h.length, F, 0⟩) = true := by simp [hvp, hK, vp]
    have hz := hvp_zn h
    unfold zn at hv hz
    rcases hF with rfl | rfl
    · rw [if_neg (by simp), if_pos hz, if_pos hv]
      simp [h', zn]
    · rw [if_pos (by simp), if_neg (by simp), if_pos hz, if_pos hv]
      simp [h', zn]
  have hn : h'[h.length]? = some (.trie_node zn) := by simp [h']
  have ht : h'[h.length + 1]? = some (.trie_Trie ⟨some h.length, F, 0⟩) := by simp [h']
  refine ⟨h', e, ⟨hF, ⟨h.length, by simpa [T.list] using ht, rep_nd (nx := zn.f_next) (f1 := []) (f2 := []) hn ⟨rfl, rfl⟩ ⟨rfl, rfl⟩ (by simp) (by simp) (by simp)⟩, ?_⟩, by simp [h'], fun j hj => ?_⟩
  · cases wid F <;> simp [T.dok]
  · simp only [h']
    rw [List.append_assoc, List.getElem?_append_left hj]
theorem new_none (h : List HV) (hF : ¬ (F = 4 ∨ F = 6)) : trie_New h F = some (none, h) := by
  unfold trie_New
  rw [if_pos (by simp; exact fun e => hF (.inl e)), if_pos (by simp; exact fun e => hF (.inr e))]
/-! ### a prefix that may be one of the trie's, or not -/
variable {V b : Int} {l : List UInt8}
theorem check_code (hJ : J h tk F t fp) (hl : l.length = 16) : trie_Trie_check h (some tk) (mkP (mkA V l) b) = some (if rightP V l b = true ∧ V = F then 0 else 1) := by
  obtain ⟨root, h1, _⟩ := hJ.tr
  unfold trie_Trie_check
  rw [if_neg (by simp), cright_code hl, bindM_some, hn_trie h1, bindM_some]
  cases rightP V l b with
  | false => rfl
  | true =>
    rw [if_neg (by simp)]
    show (if (V != F) = true then some 1 else some 0) = _
    by_cases e : V = F
    · simp [e]
    · simp [e]
theorem check_yes (hJ : J h tk F t fp) (hl : l.length = 16) (hr : rightP F l b = true) : trie_Trie_check h (some tk) (mkP (mkA F l) b) = some 0 := by
  rw [check_code hJ hl, if_pos ⟨hr, rfl⟩]
theorem check_no (hJ : J h tk F t fp) (hl : l.length = 16) (hr : ¬ (rightP V l b = true ∧ V = F)) : trie_Trie_check h (some tk) (mkP (mkA V l) b) = some 1 := by
  rw [check_code hJ hl, if_neg hr]
theorem refRight_code (hl : l.length = 16) : crawlwayref25_Right F (mkP (mkA V l) b) = some (decide (rightP V l b = true ∧ V = F)) := by
  unfold crawlwayref25_Right
  rw [cright_ref hl, bindM_some]
  cases rightP V l b with
  | false => rfl
  | true =>
    rw [if_pos rfl]
    show some (V == F) = _
    by_cases e : V = F <;> simp [e]
theorem at_code (hJ : J h tk F t fp) (hl : l.length = 16) {n : Nat} (hr : rightP F l (n : Int) = true) (hn : n ≤ wid F) : ∃ y, trie_Trie_at h (some tk) (mkP (mkA F l) (n : Int)) = some y ∧ ((y = none ∧ t.val (bf l 0 n) = none) ∨
    ∃ m nd root, y = some m ∧ h[tk]? = some (.trie_Trie ⟨some root, F, ((t.list zl 0).length : Int)⟩) ∧ t.has (bf l 0 n) = true ∧ m ∈ fp ∧ h[m]? = some (.trie_node nd) ∧ t.val (bf l 0 n) = some nd.f_owner ∧ ∀ is o, Rep (h.set m (.trie_node { nd with f_is := is, f_owner := o })) (t.put (bf l 0 n) is o) (some root) fp) := by
  obtain ⟨root, h1, h2⟩ := hJ.tr
  obtain ⟨⟨hrl, _, hb⟩, _⟩ := rightP_iff.1 hr
  rw [wid_of hrl] at hb
  obtain ⟨y, q1, q2, q3⟩ := at_loop (V := F) hl n (by rw [wid_of hrl]; exact hn) h n 0 t _ fp (by omega) h2
  unfold trie_Trie_at
  rw [hn_trie h1, bindM_some]
  rw [show (0 : Int) = ((0 : Nat) : Int) from rfl, q1, bindM_some]
  cases y with
  | none => exact ⟨none, rfl, .inl ⟨rfl, T.val_not_has _ _ (q2 rfl)⟩⟩
  | some m =>
    obtain ⟨a1, a2, nd, a3, a4, a5⟩ := rep_loc h2 (bf_lt l n 0) (q3 m rfl)
    rw [if_neg (by simp), hn_trie_node_of a3, bindM_some]
    cases hi : nd.f_is with
    | false => rw [hi] at a4; exact ⟨none, by rw [if_pos (by rfl)], .inl ⟨rfl, a4⟩⟩
    | true => rw [hi] at a4; exact ⟨some m, by rw [if_neg (by simp)], .inr ⟨m, nd, root, rfl, h1, a1, a2, a3, a4, a5⟩⟩
theorem put_code (hJ : J h tk F t fp) (hc : (t.list zl 0).length ≤ 900) (hl : l.length = 16) {n : Nat} (hr : rightP F l (n : Int) = true) (hn : n ≤ wid F) (hp : adrG zl 0 (bf l 0 n) = l) (o : Int) :
    ∃ h' fp', trie_Trie_Put h (some tk) (mkP (mkA F l) (n : Int)) o = some (0, h') ∧ J h' tk F ((t.ext (bf l 0 n)).put (bf l 0 n) true o) fp' ∧ Gr h h' tk fp fp' := by
  obtain ⟨root, h1, h2⟩ := hJ.tr
  have hap := hJ.apart
  have htl := hJ.lt
  have hw := wid_le F
  obtain ⟨⟨hrl, _, hb⟩, _⟩ := rightP_iff.1 hr
  obtain ⟨m, h1', fp', q1, q2, q3, q4⟩ := put_loop (V := F) hl hrl n (by rw [wid_of hrl]; exact hn) tk n 0 root t h fp (by omega) htl h2
  have hbl := bf_lt l n 0
  have hlen := bf_len l n 0
  obtain ⟨a1, a2, nd, a3, a4, a5⟩ := rep_loc q2 hbl q3
  rw [T.val_ext] at a4
  have ht1 : h1'[tk]? = some (.trie_Trie ⟨some root, F, ((t.list zl 0).length : Int)⟩) := (q4.old tk htl hap).trans h1
  have htl1 : tk < h1'.length := (List.getElem?_eq_some_iff.1 ht1).1
  have hmt : m ≠ tk := fun e => by
    subst e
    rw [ht1] at a3; cases a3
  have hml : m < h1'.length := (List.getElem?_eq_some_iff.1 a3).1
  have hdk := T.dok_put _ _ (bf l 0 n) true o (T.dok_ext t (wid F) (bf l 0 n) hJ.dok (by rw [hlen]; exact hn))
  have hlist := list_put o hJ.dok hw hbl (by rw [hlen]; exact hn)
  have hkp := key_path (o := o) hJ.dok hw hbl
  unfold trie_Trie_Put
  rw [check_yes hJ hl hr, bindM_some, if_neg (by simp), hn_trie h1, bindM_some]
  rw [show (0 : Int) = ((0 : Nat) : Int) from rfl, q1, bindM_some, hn_trie_node_of a3, bindM_some]
  have gr : ∀ h2 : List HV, h2.length = h1'.length → (∀ j, j ≠ m → j ≠ tk → h2[j]? = h1'[j]?) → Gr h h2 tk fp fp' := fun h2 e1 e2 => ⟨by rw [e1]; exact q4.len, fun j hj hjt hjf => by
    have hjm : j ≠ m := fun e => by
      subst e
      rcases q4.new j a2 with e | e
      · exact hjf e
      · omega
    rw [e2 j hjm hjt]; exact q4.old j hj hjf, q4.new⟩
  cases hi : nd.f_is with
  | false =>
    rw [hi] at a4
    have hno : ∀ x ∈ t.list zl 0, ¬ key x (adrG zl 0 (bf l 0 n), (bf l 0 n).length, o) := fun x hx hk => by
      obtain ⟨o', e⟩ := hkp.1 ⟨x, hx, hk⟩
      rw [a4] at e; simp at e
    rw [if_pos (by rfl)]
    simp only [hn_trie ht1, bindM_some]
    have wm : wr .i64 (((t.list zl 0).length : Int) + 1) = (((t.list zl 0).length + 1 : Nat) : Int) := wr1 (by omega)
    rw [wm]
    let hA := h1'.set tk (.trie_Trie ⟨some root, F, (((t.list zl 0).length + 1 : Nat) : Int)⟩)
    have b1 : hA[m]? = some (.trie_node nd) := (List.getElem?_set_ne hmt.symm).trans a3
    have b2 : (hA.set m (.trie_node { nd with f_is := true }))[m]? = some (.trie_node { nd with f_is := true }) := List.getElem?_set_self (by simp [hA]; exact hml)
    have e1 := hn_trie_node_of b1
    have e2 := hn_trie_node_of b2
    simp only [hA] at e1 e2
    simp only [e1, bindM_some, e2, List.set_set]
    refine ⟨_, fp', rfl, ⟨hJ.fam, ⟨root, ?_, ?_⟩, hdk⟩, gr _ (by simp) fun j hjm hjt => by rw [List.getElem?_set_ne (Ne.symm hjm), List.getElem?_set_ne (Ne.symm hjt)]⟩
    · rw [List.getElem?_set_ne hmt, List.getElem?_set_self htl1, hlist, fin_false_len, out_none hno]
    · have := a5 true o
      refine this.frame fun j hj => ?_
      have hjt : j ≠ tk := fun e => by
        subst e
        rcases q4.new j hj with e | e
        · exact hap e
        · omega
      by_cases hjm : j = m
      · subst hjm; rw [List.getElem?_set_self (by simp; exact hml), List.getElem?_set_self hml]
      · rw [List.getElem?_set_ne (Ne.symm hjm), List.getElem?_set_ne (Ne.symm hjt), List.getElem?_set_ne (Ne.symm hjm)]
  | true =>
    rw [hi] at a4
    rw [if_neg (by simp)]
    have b2 : (h1'.set m (.trie_node { nd with f_is := true }))[m]? = some (.trie_node { nd with f_is := true }) := List.getElem?_set_self hml
    simp only [hn_trie_node_of b2, bindM_some, List.set_set]
    refine ⟨_, fp', rfl, ⟨hJ.fam, ⟨root, ?_, a5 true o⟩, hdk⟩, gr _ (by simp) fun j hjm hjt => by rw [List.getElem?_set_ne (Ne.symm hjm)]⟩
    rw [List.getElem?_set_ne hmt, ht1, hlist, fin_false_len, out_one (list_srt hJ.dok hw) (hkp.2 ⟨nd.f_owner, by rw [a4, if_pos rfl]⟩)]
theorem drop_code (hJ : J h tk F t fp) (hc : (t.list zl 0).length ≤ 900) (hl : l.length = 16) {n : Nat} (hr : rightP F l (n : Int) = true) (hn : n ≤ wid F) :
    (t.val (bf l 0 n) = none ∧ trie_Trie_Drop h (some tk) (mkP (mkA F l) (n : Int)) = some (8, h)) ∨
    (t.has (bf l 0 n) = true ∧ (∃ o, t.val (bf l 0 n) = some o) ∧ ∃ h' fp' u, trie_Trie_Drop h (some tk) (mkP (mkA F l) (n : Int)) = some (0, h') ∧ (∀ q, u.val q = (t.put (bf l 0 n) false 0).val q) ∧ J h' tk F u fp' ∧ Gr h h' tk fp fp') := by
  have hap := hJ.apart
  have htl := hJ.lt
  have hw := wid_le F
  have hbl := bf_lt l n 0
  have hlen := bf_len l n 0
  obtain ⟨y, q1, q2⟩ := at_code hJ hl hr hn
  unfold trie_Trie_Drop
  rw [check_yes hJ hl hr, bindM_some, if_neg (by simp), q1, bindM_some]
  rcases q2 with ⟨rfl, hv⟩ | ⟨m, nd, root, rfl, h1, hh, hm, a3, hv, a5⟩
  · left; exact ⟨hv, by rw [if_pos (by rfl)]⟩
  · right
    refine ⟨hh, ⟨_, hv⟩, ?_⟩
    have hml : m < h.length := (List.getElem?_eq_some_iff.1 a3).1
    have hmt : m ≠ tk := fun e => by subst e; exact hap hm
    rw [if_neg (by simp), hn_trie_node_of a3, bindM_some]
    have b2 : (h.set m (.trie_node { nd with f_is := false }))[m]? = some (.trie_node { nd with f_is := false }) := List.getElem?_set_self hml
    simp only [hn_trie_node_of b2, bindM_some, List.set_set]
    have b3 : (h.set m (.trie_node { nd with f_is := false, f_owner := 0 }))[tk]? = some (.trie_Trie ⟨some root, F, ((t.list zl 0).length : Int)⟩) := (List.getElem?_set_ne hmt).trans h1
    simp only [hn_trie b3, bindM_some]
    have hone := out_one (list_srt hJ.dok hw) ((key_path (o := 0) hJ.dok hw hbl).2 ⟨_, hv⟩)
    have wm : wr .i64 (((t.list zl 0).length : Int) - 1) = (((t.list zl 0).length - 1 : Nat) : Int) := by rw [wr_i64 (by omega) (by omega)]; omega
    rw [wm]
    let hB := (h.set m (.trie_node { nd with f_is := false, f_owner := 0 })).set tk (.trie_Trie ⟨some root, F, (((t.list zl 0).length - 1 : Nat) : Int)⟩)
    have b4 : hB[tk]? = some (.trie_Trie ⟨some root, F, (((t.list zl 0).length - 1 : Nat) : Int)⟩) := List.getElem?_set_self (by simp; exact htl)
    have e4 := hn_trie b4
    simp only [hB] at e4
    simp only [e4, bindM_some]
    have hRB : Rep hB (t.put (bf l 0 n) false 0) (some root) fp := (a5 false 0).frame fun j hj => by
      have hjt : j ≠ tk := fun e => by subst e; exact hap hj
      simp only [hB]
      exact List.getElem?_set_ne (Ne.symm hjt)
    have hdp := T.dok_put t (wid F) (bf l 0 n) false 0 hJ.dok
    obtain ⟨h', c1, c2, c3, fp', c4, is, o, tl, tr, et, c5⟩ := prune_go _ (wid F) 400 hB root fp hdp (by omega) hRB
    unfold trie_node_prune
    rw [c1, bindM_some]
    have hval : ∀ q, (T.nd is o tl.cut tr.cut).val q = (t.put (bf l 0 n) false 0).val q := fun q => by
      rw [et]
      cases q with
      | nil => rfl
      | cons c q => simp only [T.val, T.val_cut]
    have hdu : (T.nd is o tl.cut tr.cut).dok (wid F) := by
      rw [et] at hdp
      revert hdp
      cases wid F with
      | zero => rintro ⟨rfl, rfl⟩; exact ⟨rfl, rfl⟩
      | succ k => rintro ⟨a, b⟩; exact ⟨T.dok_cut _ _ a, T.dok_cut _ _ b⟩
    have hlist := list_drop (t := t) (p := bf l 0 n) 0 hJ.dok hw hbl (by rw [hlen]; exact hn) hh _ hval hdu
    refine ⟨h', fp', _, rfl, hval, ⟨hJ.fam, ⟨root, ?_, c5⟩, hdu⟩, by rw [c2]; simp [hB], fun j hj hjt hjf => ?_, fun j hj => .inl (c4 j hj)⟩
    · rw [c3 tk hap, b4, hlist]
      congr 3
      show (((t.list zl 0).length - 1 : Nat) : Int) = _
      congr 1
      omega
    · rw [c3 j hjf]
      have hjm : j ≠ m := fun e => by subst e; exact hjf hm
      simp only [hB]
      rw [List.getElem?_set_ne (Ne.symm hjt), List.getElem?_set_ne (Ne.symm hjm)]
theorem get_code (hJ : J h tk F t fp) (hl : l.length = 16) {n : Nat} (hr : rightP F l (n : Int) = true) (hn : n ≤ wid F) : trie_Trie_Get h (some tk) (mkP (mkA F l) (n : Int)) = some (match t.val (bf l 0 n) with | some o => (o, true) | none => (0, false)) := by
  obtain ⟨y, q1, q2⟩ := at_code hJ hl hr hn
  unfold trie_Trie_Get
  rw [check_yes hJ hl hr, bindM_some, if_neg (by simp), q1, bindM_some]
  rcases q2 with ⟨rfl, hv⟩ | ⟨m, nd, root, rfl, h1, hh, hm, a3, hv, a5⟩
  · rw [if_pos (by rfl), hv]
  · rw [if_neg (by simp), hn_trie_node_of a3, bindM_some, hv]
theorem get_wrong (hJ : J h tk F t fp) (hl : l.length = 16) (hr : ¬ (rightP V l b = true ∧ V = F)) : trie_Trie_Get h (some tk) (mkP (mkA V l) b) = some (0, false) := by
  unfold trie_Trie_Get
  rw [check_no hJ hl hr, bindM_some, if_pos (by simp)]
theorem all_code (hJ : J h tk F t fp) (hc : (t.list zl 0).length ≤ 900) : trie_Trie_All h (some tk) = some ((t.list zl 0).map (toE F)) := by
  obtain ⟨root, h1, h2⟩ := hJ.tr
  have hw := wid_le F
  unfold trie_Trie_All
  rw [if_neg (by simp)]
  simp only [hn_trie h1, bindM_some]
  unfold trie_node_each__trie_Trie_All_1
  have e := each_go F t (wid F) 400 h _ fp zl 0 [] h2 hJ.dok (by omega) (by omega) zl_len (by simp; omega)
  have ez : ({ f_V := F, f_B := (Vector.replicate 16 (0 : Int) : Vector Int 16) } : S_api_Addr) = mkA F zl := by rw [zero_vb]; rfl
  rw [ez, show (0 : Int) = ((0 : Nat) : Int) from rfl, e]
  simp
theorem len_code (hJ : J h tk F t fp) : trie_Trie_Len h (some tk) = some ((t.list zl 0).length : Int) := by
  obtain ⟨root, h1, h2⟩ := hJ.tr
  unfold trie_Trie_Len
  rw [if_neg (by simp), hn_trie h1, bindM_some]
/-! ### a deed -/
theorem step_code (hJ : J h tk F t fp) (hc : (t.list zl 0).length ≤ 900) (d : S_crawlwaylaw25_Deed) (wd : ok_crawlwaylaw25_Deed d) :
    ∃ u h' fp', crawlwaylaw25_step h (some tk) F ((t.list zl 0).map (toE F)) d = some ((u.list zl 0).map (toE F), true, h') ∧ J h' tk F u fp' ∧ Gr h h' tk fp fp' ∧ (u.list zl 0).length ≤ (t.list zl 0).length + 1 := by
  obtain ⟨K, P, o⟩ := d
  obtain ⟨_, wP, _⟩ := wd
  obtain ⟨V, l, b, rfl, hl, _⟩ := exists_mkP P wP
  have hw := wid_le F
  unfold crawlwaylaw25_step
  simp only [refRight_code hl, bindM_some]
  by_cases hr : rightP V l b = true ∧ V = F
  · rw [decide_eq_true hr]
    obtain ⟨hr, rfl⟩ := hr
    obtain ⟨n, rfl, hn, hp⟩ := path_right hl hr
    have hbl := bf_lt l n 0
    have hlen := bf_len l n 0
    have hX := list_len16 t
    by_cases hk : (K == 0) = true
    · rw [if_pos hk]
      obtain ⟨h', fp', q1, q2, q3⟩ := put_code hJ hc hl hr hn hp o
      have hlist := list_put o hJ.dok hw hbl (by rw [hlen]; exact hn)
      rw [hp, hlen] at hlist
      have hpr := put_ref (F := V) (e := (l, n, o)) hX hl (by omega)
      rw [q1, bindM_some, if_neg (by simp)]
      show ∃ u h'_1 fp', (crawlwayref25_Put ((t.list zl 0).map (toE V)) (toE V (l, n, o)) >>= fun t9 => some (t9, (0 : Int) == 0, h')) = _ ∧ _
      rw [hpr, bindM_some, ← hlist]
      exact ⟨_, h', fp', rfl, q2, q3, by rw [hlist]; exact fin_len _ _ _⟩
    · rw [if_neg hk]
      have hkp := key_path (o := 0) hJ.dok hw hbl
      rw [hp, hlen] at hkp
      have hpl := place_ref (F := V) (e := (l, n, (0 : Int))) hX hl (by omega)
      have hdr := drop_ref (F := V) (e := (l, n, (0 : Int))) hX hl (by omega)
      have eP : (toE V (l, n, (0 : Int))).f_P = mkP (mkA V l) (n : Int) := rfl
      rw [eP] at hpl hdr
      rcases drop_code hJ hc hl hr hn with ⟨hv, q1⟩ | ⟨hh, ⟨o', hv⟩, h', fp', u, q1, q2, q3, q4⟩
      · rw [q1, bindM_some, if_neg (by simp)]
        rcases hpl with ⟨j, x, hx, hkx, _⟩ | ⟨_, q⟩
        · obtain ⟨o', e⟩ := hkp.1 ⟨x, List.mem_of_getElem? hx, hkx⟩
          rw [hv] at e; cases e
        · rw [q, bindM_some, if_pos (by decide)]
          exact ⟨t, h, fp, rfl, hJ, Gr.refl .., by omega⟩
      · rw [q1, bindM_some, if_neg (by simp)]
        rcases hpl with ⟨j, x, hx, hkx, q⟩ | ⟨hno, _⟩
        · rw [q, bindM_some, if_neg (by simp), hdr, bindM_some]
          have hlist := list_drop (t := t) (p := bf l 0 n) 0 hJ.dok hw hbl (by rw [hlen]; exact hn) hh u q2 q3.dok
          rw [hp, hlen] at hlist
          rw [← hlist]
          exact ⟨u, h', fp', rfl, q3, q4, by rw [hlist]; have := List.length_filter_le (fun x => decide (¬ key x (l, n, (0 : Int)))) (t.list zl 0); unfold out; omega⟩
        · obtain ⟨x, hx, hkx⟩ := hkp.2 ⟨o', hv⟩
          exact absurd hkx (hno x hx)
  · rw [decide_eq_false hr]
    have hch := check_no (V := V) (b := b) hJ hl hr
    by_cases hk : (K == 0) = true
    · rw [if_pos hk]
      have : trie_Trie_Put h (some tk) (mkP (mkA V l) b) o = some (1, h) := by
        unfold trie_Trie_Put
        rw [hch, bindM_some, if_pos (by simp)]
      rw [this, bindM_some, if_pos (by simp)]
      exact ⟨t, h, fp, rfl, hJ, Gr.refl .., by omega⟩
    · rw [if_neg hk]
      have : trie_Trie_Drop h (some tk) (mkP (mkA V l) b) = some (1, h) := by
        unfold trie_Trie_Drop
        rw [hch, bindM_some, if_pos (by simp)]
      rw [this, bindM_some, if_pos (by simp)]
      exact ⟨t, h, fp, rfl, hJ, Gr.refl .., by omega⟩
end Go.Proofs.Ythccncpephpdjaa.Tri
