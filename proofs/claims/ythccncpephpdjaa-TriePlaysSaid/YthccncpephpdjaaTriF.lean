/- Trees in the list of things: cut off, listed, looked into. -/
import Derived.Test.YthccncpephpdjaaTriH
set_option linter.unusedVariables false
set_option linter.unusedSimpArgs false
namespace Go.Proofs.Ythccncpephpdjaa.Tri
open E Go.RowKit
open Adr Cid

theorem T.list_nd (is : Bool) (o : Int) (a b : T) (l : List UInt8) (d : Nat) : (T.nd is o a b).list l d = (if is = true then [(l, d, o)] else []) ++ (a.list l (d + 1) ++ b.list (sb l d) (d + 1)) := rfl
theorem T.cut_nd (is : Bool) (o : Int) (l r : T) : (T.nd is o l r).cut = if is = false ∧ l.cut = .nil ∧ r.cut = .nil then .nil else .nd is o l.cut r.cut := rfl
/-! ### what is cut off -/
theorem prune_step {rec_ : List HV → Option Nat → Option (Bool × List HV)} {n : Nat} {t4 : Nat × S_trie_node} {is bare : Bool} {o : Int} {i : Nat} (hi2 : i < 2) {h : List HV} {nxc : Nx} {tc : T} {fc : List Nat}
    (hn : h[n]? = some (.trie_node ⟨nxc, is, o⟩)) (hc : Rep h tc (vget t4.2.f_next (i : Int)) fc) (hnf : n ∉ fc) (hsame : vget nxc (i : Int) = vget t4.2.f_next (i : Int))
    (ih : ∀ m, vget t4.2.f_next (i : Int) = some m → ∃ h', rec_ h (some m) = some (decide (tc.cut = .nil), h') ∧ h'.length = h.length ∧ (∀ j, j ∉ fc → h'[j]? = h[j]?) ∧ ∃ fc', (∀ j ∈ fc', j ∈ fc) ∧ (tc.cut ≠ .nil → Rep h' tc.cut (some m) fc')) :
    ∃ h' nxc' fc', trie_node_prune.l0 rec_ (some n) t4 bare (i : Int) h = trie_node_prune.l0 rec_ (some n) t4 (bare && decide (tc.cut = .nil)) ((i + 1 : Nat) : Int) h' ∧ h'.length = h.length ∧ (∀ j, j ≠ n → j ∉ fc → h'[j]? = h[j]?) ∧ h'[n]? = some (.trie_node ⟨nxc', is, o⟩) ∧
      (∀ j ∈ fc', j ∈ fc) ∧ Rep h' tc.cut (vget nxc' (i : Int)) fc' ∧ ∀ j : Nat, j ≠ i → vget nxc' (j : Int) = vget nxc (j : Int) := by
  have hnl : n < h.length := (List.getElem?_eq_some_iff.1 hn).1
  rw [trie_node_prune.l0.eq_def, if_pos (by rw [decide_eq_true_eq]; omega), if_pos (by omega), wr1 (by omega)]
  cases hv : vget t4.2.f_next (i : Int) with
  | none =>
    have e : tc = .nil := hc.none_iff.1 hv
    subst e
    rw [if_pos (show Option.isNone (none : Option Nat) = true from rfl)]
    refine ⟨h, nxc, [], by simp [T.cut], rfl, fun _ _ _ => rfl, hn, by simp, ⟨by rw [hsame, hv], rfl⟩, fun _ _ => rfl⟩
  | some m =>
    rw [if_neg (by simp)]
    obtain ⟨h1, e1, e2, e3, fc', e4, e5⟩ := ih m hv
    rw [e1, bindM_some]
    have hn1 : h1[n]? = some (.trie_node ⟨nxc, is, o⟩) := (e3 n hnf).trans hn
    by_cases hcut : tc.cut = .nil
    · simp only [hcut, decide_true]
      rw [if_pos trivial, hn_trie_node_of hn1, bindM_some, if_pos (by omega)]
      refine ⟨_, vset nxc (i : Int) none, [], by rw [Bool.and_true], by simp [e2], fun j hj hjf => by rw [List.getElem?_set_ne (by omega)]; exact e3 j hjf, List.getElem?_set_self (by omega), by simp, ⟨vget2 nxc i none hi2, rfl⟩, fun j hj => vget2' nxc i j none (by omega)⟩
    · rw [decide_eq_false hcut, if_neg (by simp), Bool.and_false]
      exact ⟨h1, nxc, fc', rfl, e2, fun j _ hjf => e3 j hjf, hn1, e4, by rw [hsame, hv]; exact e5 hcut, fun _ _ => rfl⟩
theorem prune_go : ∀ (t : T) (k f : Nat) (h : List HV) (n : Nat) (fp : List Nat), t.dok k → k < f → Rep h t (some n) fp →
    ∃ h', trie_node_prune.go f h (some n) = some (decide (t.cut = .nil), h') ∧ h'.length = h.length ∧ (∀ j, j ∉ fp → h'[j]? = h[j]?) ∧ ∃ fp', (∀ j ∈ fp', j ∈ fp) ∧ ∃ is o l r, t = .nd is o l r ∧ Rep h' (.nd is o l.cut r.cut) (some n) fp'
  | .nil, _, _, _, _, _, _, _, hR => by cases hR.1
  | .nd is o l r, k, 0, h, n, fp, _, hf, hR => by omega
  | .nd is o l r, k, f + 1, h, n, fp, hd, hf, hR => by
    obtain ⟨nx, f1, f2, hi, hL, hRr, hfp, n1, n2, hdj⟩ := rep_un hR
    subst hfp
    have il : ∀ (h0 : List HV) (m : Nat), Rep h0 l (some m) f1 → ∃ h', trie_node_prune.go f h0 (some m) = some (decide (l.cut = .nil), h') ∧ h'.length = h0.length ∧ (∀ j, j ∉ f1 → h'[j]? = h0[j]?) ∧ ∃ fc', (∀ j ∈ fc', j ∈ f1) ∧ (l.cut ≠ .nil → Rep h' l.cut (some m) fc') := fun h0 m hr0 => by
      cases k with
      | zero => rw [hd.1] at hr0; cases hr0.1
      | succ k =>
        obtain ⟨h', a1, a2, a3, fp', a4, is', o', l', r', rfl, a5⟩ := prune_go l k f h0 m f1 hd.1 (by omega) hr0
        refine ⟨h', a1, a2, a3, fp', a4, fun hne => ?_⟩
        unfold T.cut at hne ⊢
        split
        · next hh => rw [if_pos hh] at hne; exact absurd rfl hne
        · exact a5
    have ir : ∀ (h0 : List HV) (m : Nat), Rep h0 r (some m) f2 → ∃ h', trie_node_prune.go f h0 (some m) = some (decide (r.cut = .nil), h') ∧ h'.length = h0.length ∧ (∀ j, j ∉ f2 → h'[j]? = h0[j]?) ∧ ∃ fc', (∀ j ∈ fc', j ∈ f2) ∧ (r.cut ≠ .nil → Rep h' r.cut (some m) fc') := fun h0 m hr0 => by
      cases k with
      | zero => rw [hd.2] at hr0; cases hr0.1
      | succ k =>
        obtain ⟨h', a1, a2, a3, fp', a4, is', o', l', r', rfl, a5⟩ := prune_go r k f h0 m f2 hd.2 (by omega) hr0
        refine ⟨h', a1, a2, a3, fp', a4, fun hne => ?_⟩
        unfold T.cut at hne ⊢
        split
        · next hh => rw [if_pos hh] at hne; exact absurd rfl hne
        · exact a5
    rw [trie_node_prune.go]
    simp only [hn_trie_node_of hi, bindM_some]
    obtain ⟨h1, nx1, g1, b1, b2, b3, b4, b5, b6, b7⟩ := prune_step (rec_ := trie_node_prune.go f) (t4 := (n, ⟨nx, is, o⟩)) (i := 0) (bare := !is) (by omega) hi hL n1 rfl (fun m hm => by
      have hL' := hL
      rw [show ((0 : Nat) : Int) = 0 from rfl] at hm
      rw [show vget nx 0 = some m from hm] at hL'
      exact il h m hL')
    have hR1 : Rep h1 r (vget nx 1) f2 := hRr.frame fun j hj => b3 j (by intro e; subst e; exact n2 hj) fun e => hdj j e j hj rfl
    have e71 := b7 1 (by omega)
    obtain ⟨h2, nx2, g2, c1, c2, c3, c4, c5, c6, c7⟩ := prune_step (rec_ := trie_node_prune.go f) (t4 := (n, ⟨nx, is, o⟩)) (i := 1) (bare := !is && decide (l.cut = .nil)) (by omega) b4 hR1 n2 (by simpa using e71) (fun m hm => by
      have hR' := hR1
      rw [show ((1 : Nat) : Int) = 1 from rfl] at hm
      rw [show vget nx 1 = some m from hm] at hR'
      exact ir h1 m hR')
    rw [show ((0 : Nat) : Int) = 0 from rfl] at b1
    rw [b1, c1, trie_node_prune.l0.eq_def, if_neg (by simp), bindM_some]
    have e70 := c7 0 (by omega)
    rw [show ((0 : Nat) : Int) = 0 from rfl] at e70 b6
    refine ⟨h2, ?_, by omega, fun j hj => ?_, n :: (g1 ++ g2), fun j hj => ?_, is, o, l, r, rfl, ?_⟩
    · refine congrArg some (Prod.ext ?_ rfl)
      show (!is && decide (l.cut = .nil) && decide (r.cut = .nil)) = decide (T.cut (.nd is o l r) = .nil)
      rw [T.cut_nd]
      cases is <;> by_cases q1 : l.cut = .nil <;> by_cases q2 : r.cut = .nil <;> simp [q1, q2]
    · simp at hj
      rw [c3 j (by omega) hj.2.2]; exact b3 j (by omega) hj.2.1
    · simp at hj ⊢
      rcases hj with hj | hj | hj
      · exact .inl hj
      · exact .inr (.inl (b5 j hj))
      · exact .inr (.inr (c5 j hj))
    · refine rep_nd c4 (by rw [e70]; exact b6.frame fun j hj => c3 j (by intro e; subst e; exact n1 (b5 _ hj)) fun e => hdj j (b5 j hj) j e rfl) c6 (fun e => n1 (b5 _ e)) (fun e => n2 (c5 _ e)) fun a ha c hc => hdj a (b5 a ha) c (c5 c hc)
/-! ### what is listed -/
def toE (F : Int) (x : Tr) : S_api_Entry := { f_P := mkP (mkA F x.1) (x.2.1 : Int), f_Owner := x.2.2 }
theorem ior_fin : ∀ (b : Fin 256) (k : Fin 8), ior .u8 ((b.val : Nat) : Int) ((128 / 2 ^ k.val : Nat) : Int) = ((b.val ||| 128 / 2 ^ k.val : Nat) : Int) := by decide +kernel
theorem ior_code (l : List UInt8) (d : Nat) : ior .u8 (bg l (d / 8) : Int) ((128 / 2 ^ (d % 8) : Nat) : Int) = ((sbb (l.getD (d / 8) 0) (d % 8)).toNat : Int) := by
  rw [sbb_toNat _ _ (by omega)]
  exact ior_fin ⟨bg l (d / 8), bg_lt l _⟩ ⟨d % 8, by omega⟩
theorem and7 {n : Nat} (hn : n ≤ 1000) : iand .i64 (n : Int) 7 = ((n % 8 : Nat) : Int) := by
  unfold iand
  have h7 : (BitVec.ofInt IntKind.i64.bits (7 : Int)).toNat = 7 := by decide
  have hb : (BitVec.ofInt IntKind.i64.bits (n : Int)).toNat = n := toNat_ofInt 64 n (by omega)
  rw [BitVec.toNat_and, h7, hb, show (7 : Nat) = 2 ^ 3 - 1 from rfl, Nat.and_two_pow_sub_one_eq_mod]
  exact wr_i64 (x := ((n % 2 ^ 3 : Nat) : Int)) (by omega) (by omega)
theorem each_nil (f : Nat) (h : List HV) (a : S_api_Addr) (d : Int) (out : List S_api_Entry) : trie_node_each__trie_Trie_All_1.go (f + 1) h none a d out = some out := rfl
theorem each_go (F : Int) : ∀ (t : T) (k f : Nat) (h : List HV) (x : Option Nat) (fp : List Nat) (l : List UInt8) (d : Nat) (out : List S_api_Entry), Rep h t x fp → t.dok k → k + 2 ≤ f → d + k ≤ 128 → l.length = 16 → out.length + (t.list l d).length ≤ 1000 →
    trie_node_each__trie_Trie_All_1.go f h x (mkA F l) (d : Int) out = some (out ++ (t.list l d).map (toE F))
  | .nil, k, f, h, x, fp, l, d, out, hR, _, hf, _, _, _ => by
    obtain ⟨f, rfl⟩ : ∃ g, f = g + 1 := ⟨f - 1, by omega⟩
    rw [hR.1, each_nil]; simp [T.list]
  | .nd is o tl tr, k, f, h, x, fp, l, d, out, hR, hd, hf, hdk, hl, hout => by
    obtain ⟨f, rfl⟩ : ∃ g, f = g + 1 := ⟨f - 1, by omega⟩
    obtain ⟨n, hx⟩ : ∃ n, x = some n := by obtain ⟨i, _, _, _, hx, _⟩ := hR; exact ⟨i, hx⟩
    subst hx
    obtain ⟨nx, f1, f2, hi, hL, hRr, hfp, n1, n2, hdj⟩ := rep_un hR
    have il : ∀ out : List S_api_Entry, out.length + (tl.list l (d + 1)).length ≤ 1000 → trie_node_each__trie_Trie_All_1.go f h (vget nx 0) (mkA F l) ((d + 1 : Nat) : Int) out = some (out ++ (tl.list l (d + 1)).map (toE F)) := fun out ho => by
      cases k with
      | zero =>
        obtain ⟨f, rfl⟩ : ∃ g, f = g + 1 := ⟨f - 1, by omega⟩
        have e := hd.1
        subst e
        rw [hL.1, each_nil]; simp [T.list]
      | succ k => exact each_go F tl k f h _ f1 l (d + 1) out hL hd.1 (by omega) (by omega) hl ho
    have ir : ∀ out : List S_api_Entry, tr ≠ .nil → out.length + (tr.list (sb l d) (d + 1)).length ≤ 1000 → trie_node_each__trie_Trie_All_1.go f h (vget nx 1) (mkA F (sb l d)) ((d + 1 : Nat) : Int) out = some (out ++ (tr.list (sb l d) (d + 1)).map (toE F)) := fun out hne ho => by
      cases k with
      | zero => exact absurd hd.2 hne
      | succ k => exact each_go F tr k f h _ f2 (sb l d) (d + 1) out hRr hd.2 (by omega) (by omega) (by rw [sb_len, hl]) ho
    have hdr : tr ≠ .nil → d < 128 := fun hne => by
      cases k with
      | zero => exact absurd hd.2 hne
      | succ k => omega
    have nr := hRr.none_iff
    have wd : wr .i64 ((d : Int) + 1) = ((d + 1 : Nat) : Int) := wr1 (by omega)
    have tail : ∀ out : List S_api_Entry, out.length + (tr.list (sb l d) (d + 1)).length ≤ 1000 → (if (!(Option.isNone (vget nx 1))) = true then (if (0 : Int) ≤ ishr .i64 (d : Int) 3 ∧ ishr .i64 (d : Int) 3 < 16 then if (0 : Int) ≤ wr .u64 (iand .i64 (d : Int) 7) then if (0 : Int) ≤ ishr .i64 (d : Int) 3 ∧ ishr .i64 (d : Int) 3 < 16 then trie_node_each__trie_Trie_All_1.go f h (vget nx 1) ({ mkA F l with f_B := vset (mkA F l).f_B (ishr .i64 (d : Int) 3) (ior .u8 (vget (mkA F l).f_B (ishr .i64 (d : Int) 3)) (ishr .u8 128 (wr .u64 (iand .i64 (d : Int) 7)))) }) (wr .i64 ((d : Int) + 1)) out >>= fun t31 => some t31 else none else none else none) else (some out)) = some (out ++ (tr.list (sb l d) (d + 1)).map (toE F)) := fun out ho => by
      cases hv : vget nx 1 with
      | none => rw [nr.1 hv]; simp [T.list]
      | some m =>
        have hne : tr ≠ .nil := fun e => by rw [nr.2 e] at hv; cases hv
        have hd128 := hdr hne
        have e1 : ishr .i64 (d : Int) 3 = ((d / 8 : Nat) : Int) := ishr_nat .i64 d 3 (by decide)
        have e2 := and7 (n := d) (by omega)
        have e3 : wr .u64 ((d % 8 : Nat) : Int) = ((d % 8 : Nat) : Int) := wr_u64 (by omega) (by omega)
        have e4 : ishr .u8 128 ((d % 8 : Nat) : Int) = ((128 / 2 ^ (d % 8) : Nat) : Int) := ishr_nat .u8 128 (d % 8) (by show d % 8 ≤ 8; omega)
        rw [if_pos (show (!(Option.isNone (some m))) = true from rfl), e1, e2, e3, e4, if_pos (by omega), if_pos (by omega), if_pos (by omega), wd]
        have e5 : ({ mkA F l with f_B := vset (mkA F l).f_B ((d / 8 : Nat) : Int) (ior .u8 (vget (mkA F l).f_B ((d / 8 : Nat) : Int)) ((128 / 2 ^ (d % 8) : Nat) : Int)) } : S_api_Addr) = mkA F (sb l d) := by
          show ({ f_V := F, f_B := vset (vb l) ((d / 8 : Nat) : Int) (ior .u8 (vget (vb l) ((d / 8 : Nat) : Int)) ((128 / 2 ^ (d % 8) : Nat) : Int)) } : S_api_Addr) = _
          rw [vget_vb hl _ (by omega), ior_code, vset_vb hl]
          rfl
        rw [e5, ← hv, ir out hne ho]; rfl
    have hlen : ((T.nd is o tl tr).list l d).length = (if is = true then 1 else 0) + ((tl.list l (d + 1)).length + (tr.list (sb l d) (d + 1)).length) := by
      rw [T.list_nd]
      cases is <;> simp
      omega
    rw [hlen] at hout
    rw [trie_node_each__trie_Trie_All_1.go]
    simp only [Option.isNone_some, Bool.false_eq_true, if_false, hn_trie_node_of hi, bindM_some]
    cases is with
    | true =>
      rw [if_pos (show true = true from rfl)] at hout ⊢
      unfold trie_Trie_All_1
      rw [if_pos (by omega), bindM_some, wd]
      rw [il _ (by rw [List.length_append, List.length_singleton]; omega), bindM_some]
      rw [wd] at tail
      rw [tail _ (by simp; omega)]
      rw [T.list_nd]
      simp [toE, mkP]
    | false =>
      rw [if_neg (show ¬ (false = true) from Bool.false_ne_true)] at hout ⊢
      rw [wd, il _ (by omega), bindM_some]
      rw [wd] at tail
      rw [tail _ (by simp; omega)]
      rw [T.list_nd]
      simp
/-! ### what is found -/
def T.deep : T → List Nat → Nat → Option (Nat × Int)
  | .nil, _, _ => none
  | .nd is o _ _, [], d => if is = true then some (d, o) else none
  | .nd is o l r, b :: q, d => match (if b = 0 then l.deep q (d + 1) else r.deep q (d + 1)) with
    | some z => some z
    | none => if is = true then some (d, o) else none
theorem deep_spec : ∀ (t : T) (q : List Nat) (d : Nat), (t.deep q d = none → ∀ m, m ≤ q.length → t.val (q.take m) = none) ∧ ∀ j o, t.deep q d = some (j, o) → ∃ m, m ≤ q.length ∧ j = d + m ∧ t.val (q.take m) = some o ∧ ∀ m', m < m' → m' ≤ q.length → t.val (q.take m') = none
  | .nil, q, d => ⟨fun _ _ _ => rfl, fun j o h => by simp [T.deep] at h⟩
  | .nd is o l r, [], d => by
    constructor
    · intro h m hm
      have : m = 0 := by simpa using hm
      subst this
      cases is <;> simp_all [T.deep, T.val]
    · intro j o' h
      cases is with
      | false => simp [T.deep] at h
      | true =>
        simp [T.deep] at h
        exact ⟨0, Nat.le_refl _, by omega, by simp [T.val, h.2], fun m' h1 h2 => by simp at h2; omega⟩
  | .nd is o l r, b :: q, d => by
    obtain ⟨l1, l2⟩ := deep_spec l q (d + 1)
    obtain ⟨r1, r2⟩ := deep_spec r q (d + 1)
    have key : ∀ (c : T), (c.deep q (d + 1) = none → ∀ m, m ≤ q.length → c.val (q.take m) = none) → (∀ j o, c.deep q (d + 1) = some (j, o) → ∃ m, m ≤ q.length ∧ j = d + 1 + m ∧ c.val (q.take m) = some o ∧ ∀ m', m < m' → m' ≤ q.length → c.val (q.take m') = none) →
        (∀ m, (T.nd is o l r).val ((b :: q).take (m + 1)) = c.val (q.take m)) → (T.nd is o l r).deep (b :: q) d = (match c.deep q (d + 1) with | some z => some z | none => if is = true then some (d, o) else none) →
        ((T.nd is o l r).deep (b :: q) d = none → ∀ m, m ≤ (b :: q).length → (T.nd is o l r).val ((b :: q).take m) = none) ∧ ∀ j o', (T.nd is o l r).deep (b :: q) d = some (j, o') → ∃ m, m ≤ (b :: q).length ∧ j = d + m ∧ (T.nd is o l r).val ((b :: q).take m) = some o' ∧ ∀ m', m < m' → m' ≤ (b :: q).length → (T.nd is o l r).val ((b :: q).take m') = none := fun c c1 c2 hv hdp => by
      rw [hdp]
      cases hcd : c.deep q (d + 1) with
      | some z =>
        obtain ⟨j0, o0⟩ := z
        refine ⟨fun h => by simp at h, fun j o' h => ?_⟩
        simp at h
        obtain ⟨m, m1, m2, m3, m4⟩ := c2 j0 o0 hcd
        refine ⟨m + 1, by simp; omega, by omega, by rw [hv, m3, h.2], fun m' h1 h2 => ?_⟩
        obtain ⟨m', rfl⟩ : ∃ k, m' = k + 1 := ⟨m' - 1, by omega⟩
        rw [hv]; simp at h2
        exact m4 m' (by omega) (by omega)
      | none =>
        have cn := c1 hcd
        constructor
        · intro h m hm
          cases m with
          | zero => cases is <;> simp_all [T.val]
          | succ m => rw [hv]; simp at hm; exact cn m (by omega)
        · intro j o' h
          cases is with
          | false => simp at h
          | true =>
            simp at h
            refine ⟨0, Nat.zero_le _, by omega, by simp [T.val, h.2], fun m' h1 h2 => ?_⟩
            obtain ⟨m', rfl⟩ : ∃ k, m' = k + 1 := ⟨m' - 1, by omega⟩
            rw [hv]; simp at h2
            exact cn m' (by omega)
    by_cases h0 : b = 0
    · refine key l l1 l2 (fun m => by simp [T.val, h0]) ?_
      conv => lhs; unfold T.deep
      rw [if_pos h0]
    · refine key r r1 r2 (fun m => by simp [T.val, h0]) ?_
      conv => lhs; unfold T.deep
      rw [if_neg h0]
def findR (V : Int) (a : List UInt8) (z : Option (Nat × Int)) (st : Bool × S_api_Entry) : Bool × S_api_Entry := match z with
  | some (j, o) => (true, { f_P := mkP (mkA V (mfull a (j : Int))) (j : Int), f_Owner := o })
  | none => st
theorem find_loop {V : Int} {a : List UInt8} (hl : a.length = 16) (hr : rightL V a = true) (h : List HV) : ∀ (k i : Nat) (t : T) (x : Option Nat) (fp : List Nat) (is : Bool) (e : S_api_Entry), i + k = widthL V a → Rep h t x fp →
    trie_Trie_Find.l0 h (mkA V a) is x (i : Int) e = some (findR V a (t.deep (bf a i k) i) (is, e))
  | k, i, .nil, x, fp, is, e, hi, hR => by
    rw [trie_Trie_Find.l0.eq_def, hR.1, if_neg (by simp)]
    rfl
  | k, i, .nd s o tl tr, x, fp, is, e, hik, hR => by
    have hw := width_le (V := V) (l := a)
    obtain ⟨n, hx⟩ : ∃ n, x = some n := by obtain ⟨i, _, _, _, hx, _⟩ := hR; exact ⟨i, hx⟩
    subst hx
    obtain ⟨nx, f1, f2, hi, hL, hRr, hfp, n1, n2, hdj⟩ := rep_un hR
    have hof : cidr_Of (mkA V a) (i : Int) = some (mkP (mkA V (mfull a (i : Int))) (i : Int), 0) := by
      rw [of_code hl]
      unfold ofP
      rw [if_pos hr, if_pos (fits_iff.2 ⟨hr, by omega, by omega⟩)]
    rw [trie_Trie_Find.l0.eq_def, if_pos (show (!(Option.isNone (some n))) = true from rfl)]
    simp only [hn_trie_node_of hi, bindM_some, hof, width_code hl]
    cases k with
    | zero =>
      have e0 : (i : Int) == ((widthL V a : Nat) : Int) := by simp; omega
      simp only [e0, if_true]
      cases s <;> simp [bf, T.deep, findR, mkP]
    | succ k =>
      have e0 : ((i : Int) == ((widthL V a : Nat) : Int)) = false := by simp; omega
      have hc2 := bit_lt a i
      have hbit : addr_Bit (mkA V a) (i : Int) = some ((bit a i : Nat) : Int) := by
        rw [bit_code hl (by omega), if_pos (by omega), Int.toNat_natCast]
      have hg2 : (0 : Int) ≤ ((bit a i : Nat) : Int) ∧ ((bit a i : Nat) : Int) < 2 := by omega
      simp only [e0, Bool.false_eq_true, if_false, hbit, bindM_some, if_pos hg2]
      rw [wr1 (by omega)]
      have hrec : ∀ (is : Bool) (e : S_api_Entry), trie_Trie_Find.l0 h (mkA V a) is (vget nx ((bit a i : Nat) : Int)) ((i + 1 : Nat) : Int) e = some (findR V a (if bit a i = 0 then tl.deep (bf a (i + 1) k) (i + 1) else tr.deep (bf a (i + 1) k) (i + 1)) (is, e)) := fun is e => by
        by_cases h0 : bit a i = 0
        · rw [if_pos h0, h0]; exact find_loop hl hr h k (i + 1) tl _ f1 is e (by omega) hL
        · rw [if_neg h0, show bit a i = 1 by omega]; exact find_loop hl hr h k (i + 1) tr _ f2 is e (by omega) hRr
      rw [hrec, hrec]
      have edp : (T.nd s o tl tr).deep (bf a i (k + 1)) i = (match (if bit a i = 0 then tl.deep (bf a (i + 1) k) (i + 1) else tr.deep (bf a (i + 1) k) (i + 1)) with | some z => some z | none => if s = true then some (i, o) else none) := by
        conv => lhs; unfold bf T.deep
      rw [edp]
      cases (if bit a i = 0 then tl.deep (bf a (i + 1) k) (i + 1) else tr.deep (bf a (i + 1) k) (i + 1)) with
      | some z => cases s <;> rfl
      | none => cases s <;> simp [findR, mkP]
end Go.Proofs.Ythccncpephpdjaa.Tri
