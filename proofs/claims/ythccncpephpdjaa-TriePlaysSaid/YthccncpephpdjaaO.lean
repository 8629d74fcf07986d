/- What the shell of a statement says of an argument, in the words of this project's codecs. -/
import Derived.Test.YthccncpephpdjaaV
import Derived.ChangeShapes
import Derived.WideShapes
set_option linter.unusedVariables false
set_option linter.unusedSimpArgs false
namespace Go.Proofs.Ythccncpephpdjaa.E
open Go.RowKit
variable {α β : Type} {P : Program}

theorem mapM_some {α β : Type} {f : α → Option β} : ∀ {l : List α} {ys : List β}, l.mapM f = some ys → ∀ a ∈ l, ∃ y, f a = some y
  | [], _, _, a, ha => by simp at ha
  | b :: l, ys, h, a, ha => by
    rw [List.mapM_cons] at h
    cases hb : f b with
    | none => rw [hb] at h; cases h
    | some y =>
      rw [hb] at h
      cases hl : l.mapM f with
      | none => rw [hl] at h; cases h
      | some zs =>
        rcases List.mem_cons.1 ha with rfl | ha
        · exact ⟨y, hb⟩
        · exact mapM_some hl a ha
/-- Cells that read as data of this type are those of a value of the codec, and that value is well formed. -/
def Opn (P : Program) (t : TypeId) (c : Cd α) (ok : α → Prop) : Prop :=
  ∀ {H : Type} (enc : TypeId × Value → H) (w : World) (base : Nat) (spare : Nat → Bool) (held : Bool) (fuel : Nat) (cs : List Value) (d : DataW H) (ps : List MemPlace),
    DataW.trod enc P w base spare held fuel t cs = some (d, ps) → ∃ x, cs = c.cs x ∧ ok x
theorem opn_int {t : TypeId} {k : IntKind} (ht : P.underlying t = some (.int k)) : Opn P t (cInt k) (fun n => (Lit.int k n).wf = true) := fun enc w base spare held fuel cs d ps h => by
  obtain ⟨n, h1, _, hw⟩ := DataW.trod_int ht h
  exact ⟨n, h1, hw⟩
theorem opn_bool {t : TypeId} (ht : P.underlying t = some .bool) : Opn P t cBool (fun _ => True) := fun enc w base spare held fuel cs d ps h => by
  cases fuel with
  | zero => simp [DataW.trod] at h
  | succ fuel =>
    unfold DataW.trod at h
    rw [ht] at h
    split at h
    all_goals first
      | (exact ⟨_, rfl, trivial⟩)
      | (cases h; done)
      | (simp_all; done)
theorem opn_str {t : TypeId} (ht : P.underlying t = some .string) : Opn P t cStr (fun s => s.size ≤ maxLen) := fun enc w base spare held fuel cs d ps h => by
  cases fuel with
  | zero => simp [DataW.trod] at h
  | succ fuel =>
    unfold DataW.trod at h
    rw [ht] at h
    split at h
    all_goals first
      | (cases h; done)
      | (simp_all; done)
      | (split at h
         · exact ⟨_, rfl, ‹_›⟩
         · cases h)
theorem chunks {c : Cd α} {ok : α → Prop} : ∀ (n : Nat) (cs : List Value), cs.length = n * c.sz → (∀ i, i < n → ∃ x, (cs.drop (i * c.sz)).take c.sz = c.cs x ∧ ok x) → ∃ xs : List α, xs.length = n ∧ cs = c.all xs ∧ ∀ x ∈ xs, ok x
  | 0, cs, hl, _ => ⟨[], rfl, by rw [Nat.zero_mul] at hl; exact List.eq_nil_of_length_eq_zero hl, by simp⟩
  | n + 1, cs, hl, h => by
    obtain ⟨x, hx, ox⟩ := h 0 (by omega)
    rw [Nat.zero_mul, List.drop_zero] at hx
    rw [Nat.add_mul, Nat.one_mul] at hl
    obtain ⟨xs, h1, h2, h3⟩ := chunks (c := c) (ok := ok) n (cs.drop c.sz) (by rw [List.length_drop]; omega) (fun i hi => by
      have := h (i + 1) (by omega)
      rw [List.drop_drop]
      rw [Nat.add_mul, Nat.one_mul, Nat.add_comm] at this
      exact this)
    refine ⟨x :: xs, by simp [h1], ?_, fun y hy => ?_⟩
    · rw [Cd.all_cons, ← hx, ← h2, List.take_append_drop]
    · rcases List.mem_cons.1 hy with rfl | hy
      · exact ox
      · exact h3 y hy
theorem opn_vec {t e : TypeId} {c : Cd α} {ok : α → Prop} {m : Nat} {hm : 0 < m} (ht : P.underlying t = some (.array m e)) (hz : P.cellsOf e = c.sz) (hzt : P.cellsOf t = m * c.sz) (h : Opn P e c ok) : Opn P t (cVec c m hm) (fun v => ∀ x ∈ v.toList, ok x) := fun enc w base spare held fuel cs d ps hd => by
  cases fuel with
  | zero => simp [DataW.trod] at hd
  | succ fuel =>
    unfold DataW.trod at hd
    rw [ht] at hd
    simp only at hd
    split at hd
    · next hlen =>
      obtain ⟨zs, hzs, _⟩ := Option.map_eq_some_iff.1 hd
      obtain ⟨xs, h1, h2, h3⟩ := chunks (c := c) (ok := ok) m cs (by rw [hlen, hzt]) (fun i hi => by
        obtain ⟨⟨d', p'⟩, hy⟩ := mapM_some hzs i (List.mem_range.2 hi)
        rw [hz] at hy
        exact h enc w base spare held fuel _ _ _ hy)
      refine ⟨⟨xs.toArray, by simpa using h1⟩, ?_, ?_⟩
      · show cs = c.all (Vector.toList ⟨xs.toArray, _⟩); rw [h2]; simp [Vector.toList]
      · intro x hx; exact h3 x (by simpa [Vector.toList] using hx)
    · cases hd
/-- An argument that is an array or a struct. -/
theorem open_aggc {H : Type} {enc : TypeId × Value → H} {w : World} {base : Nat} {spare : Nat → Bool} {held : Bool} {t : TypeId} {c : Cd α} {ok : α → Prop} {v : Value} {d : DataW H} {ps : List MemPlace} (h : Opn P t c ok) (hv : ∃ cs, v = .agg cs) (hd : DataW.Trod enc P w base spare held t v d ps) :
    ∃ x, v = .agg (c.cs x).toArray ∧ ok x := by
  obtain ⟨cs, rfl⟩ := hv
  obtain ⟨fuel, hf⟩ := hd
  obtain ⟨x, hx, ho⟩ := h enc w base spare held fuel _ _ _ hf
  refine ⟨x, ?_, ho⟩
  congr 1
  apply Array.toList_inj.1
  exact hx
theorem okWide_arr {w : World} {r : Reach} {base : Nat} {t : TypeId} {m : Nat} {e : TypeId} {v : Value} (ht : P.underlying t = some (.array m e)) (h : Value.okWide P w r base t v) : ∃ cs, v = .agg cs := by
  unfold Value.okWide at h
  rw [ht] at h
  obtain ⟨cs, hv, _⟩ := h
  exact ⟨cs, hv⟩
theorem okWide_str {w : World} {r : Reach} {base : Nat} {t : TypeId} {fs : Array Field} {v : Value} (ht : P.underlying t = some (.struct fs)) (h : Value.okWide P w r base t v) : ∃ cs, v = .agg cs := by
  unfold Value.okWide at h
  rw [ht] at h
  obtain ⟨cs, hv, _⟩ := h
  exact ⟨cs, hv⟩
/-! ### structs -/
theorem opn_fields {H : Type} {enc : TypeId × Value → H} {w : World} {base : Nat} {spare : Nat → Bool} {held : Bool} {fuel : Nat} {t : TypeId} {fs : Array Field} {cs : List Value} {d : DataW H} {ps : List MemPlace} (ht : P.underlying t = some (.struct fs)) (h : DataW.trod enc P w base spare held (fuel + 1) t cs = some (d, ps)) :
    cs.length = P.cellsOf t ∧ ∀ (j : Nat) (f : Field), fs[j]? = some f → ∃ d' p', DataW.trod enc P w base spare held fuel f.type ((cs.drop f.offset).take (P.cellsOf f.type)) = some (d', p') := by
  unfold DataW.trod at h
  rw [ht] at h
  simp only at h
  split at h
  · next hlen =>
    obtain ⟨zs, hzs, _⟩ := Option.map_eq_some_iff.1 h
    refine ⟨hlen, fun j f hf => ?_⟩
    obtain ⟨⟨d', p'⟩, hy⟩ := mapM_some hzs f (by
      rw [← Array.getElem?_toList] at hf
      exact List.mem_of_getElem? hf)
    exact ⟨d', p', hy⟩
  · cases h
theorem opn_zero {H : Type} {enc : TypeId × Value → H} {w : World} {base : Nat} {spare : Nat → Bool} {held : Bool} {t : TypeId} {cs : List Value} {d : DataW H} {ps : List MemPlace} (h : DataW.trod enc P w base spare held 0 t cs = some (d, ps)) : False := by
  simp [DataW.trod] at h
theorem split_nil {l : List Value} {o : Nat} (h : l.length ≤ o) : l.drop o = [] := List.drop_eq_nil_of_le h
theorem split_cons {l r : List Value} {o k : Nat} (h : l.drop (o + k) = r) : l.drop o = (l.drop o).take k ++ r := by
  rw [← h, ← List.drop_drop, List.take_append_drop]
/-! ### slices -/
theorem opn_hd {t e : TypeId} (ht : P.underlying t = some (.slice e)) : Opn P t cHd (fun _ => True) := fun enc w base spare held fuel cs d ps h => by
  rcases DataW.trod_slice ht h with ⟨h0, _⟩ | ⟨a, len, cap, _, _, _, _, h0, _⟩
  · subst h0; exact ⟨⟨none, 0, 0⟩, rfl, trivial⟩
  · subst h0; exact ⟨⟨some a, len, cap⟩, rfl, trivial⟩
theorem pick_list [Inhabited α] {φ : Nat → α → Prop} : ∀ (n : Nat), (∀ i, i < n → ∃ x, φ i x) → ∃ xs : List α, xs.length = n ∧ ∀ i x, xs[i]? = some x → φ i x
  | 0, _ => ⟨[], rfl, fun i x h => by simp at h⟩
  | n + 1, h => by
    obtain ⟨xs, h1, h2⟩ := pick_list n fun i hi => h i (by omega)
    obtain ⟨x, hx⟩ := h n (by omega)
    refine ⟨xs ++ [x], by simp [h1], fun i y hy => ?_⟩
    by_cases hi : i < xs.length
    · rw [List.getElem?_append_left hi] at hy; exact h2 i y hy
    · rw [List.getElem?_append_right (by omega)] at hy
      have : i - xs.length = 0 := by
        cases hq : i - xs.length with
        | zero => rfl
        | succ k => rw [hq] at hy; simp at hy
      rw [this] at hy
      simp at hy; subst hy
      have hin : i = n := by omega
      subst hin; exact hx
/-- An argument that is a slice. -/
theorem open_row [Inhabited α] {H : Type} {enc : TypeId × Value → H} {w : World} {base : Nat} {spare : Nat → Bool} {held : Bool} {t e : TypeId} {c : Cd α} {ok : α → Prop} {a : Option Addr} {len cap : Nat} {d : DataW H} {ps : List MemPlace} (ht : P.underlying t = some (.slice e)) (hz : P.cellsOf e = c.sz) (ho : Opn P e c ok)
    (hd : DataW.Trod enc P w base spare held t (.slice a len cap) d ps) : ∃ xs : List α, xs.length = len ∧ Row c w a cap xs ∧ ∀ x ∈ xs, ok x := by
  obtain ⟨fuel, hf⟩ := hd
  rcases DataW.trod_slice ht hf with ⟨h0, _⟩ | ⟨x, l, k, elems, rest, n, _, h0, _, hb, hl, hm, hlen, hel, _, _⟩
  · simp [Value.cells] at h0
    obtain ⟨rfl, rfl, rfl⟩ := h0
    exact ⟨[], rfl, Row.nil .., by simp⟩
  · simp [Value.cells] at h0
    obtain ⟨rfl, rfl, rfl⟩ := h0
    have each : ∀ i, i < len → ∃ y, (ok y ∧ ∀ r, r < c.sz → w.cell? ((x.add (i * c.sz)).add r) = (c.cs y)[r]?) := by
      intro i hi
      have h1 := hel i hi
      rw [List.getElem?_eq_getElem (by omega), hz] at h1
      obtain ⟨cs, hcs, htr⟩ := Option.bind_eq_some_iff.1 h1
      obtain ⟨y, hy, oy⟩ := ho enc w base spare held n cs _ _ htr
      obtain ⟨_, hlc, hce⟩ := World.cells?_some hcs
      exact ⟨y, oy, fun r hr => by rw [hce r hr, hy]⟩
    obtain ⟨xs, hxl, hxs⟩ := pick_list len each
    refine ⟨xs, hxl, ⟨by omega, ?_⟩, fun y hy => ?_⟩
    · cases xs with
      | nil => exact .inl rfl
      | cons z zs =>
        right
        have h00 := (hxs 0 z rfl).2 0 c.pos
        have hcell : w.cell? (x.add 0) = (c.cs z)[0]? := by
          have e0 : (x.add (0 * c.sz)).add 0 = x.add 0 := by simp [Addr.add]
          rw [e0] at h00; exact h00
        have hz0 : ∃ v, (c.cs z)[0]? = some v := ⟨_, List.getElem?_eq_getElem (by rw [c.len]; exact c.pos)⟩
        obtain ⟨v, hv⟩ := hz0
        rw [hv] at hcell
        have hspot : x.spot = none := by
          have e0 : x.add 0 = x := by simp [Addr.add]
          rw [e0] at hcell
          unfold World.cell? at hcell
          split at hcell
          · split at hcell
            · cases hcell
            · next hs => simpa using hs
          · cases hcell
        obtain ⟨b, o, sp⟩ := x
        simp only at hspot; subst hspot
        refine ⟨b, o, rfl, fun j u hu => ?_⟩
        have hj : j < (z :: zs).length * c.sz := by
          have := (List.getElem?_eq_some_iff.1 hu).1
          rw [Cd.all_len] at this; exact this
        have hdiv : j / c.sz < (z :: zs).length := Nat.div_lt_of_lt_mul (by rw [Nat.mul_comm]; exact hj)
        have hmod : j % c.sz < c.sz := Nat.mod_lt _ c.pos
        have hjj : j = j / c.sz * c.sz + j % c.sz := by rw [Nat.mul_comm]; exact (Nat.div_add_mod j c.sz).symm
        obtain ⟨y, hy⟩ : ∃ y, (z :: zs)[j / c.sz]? = some y := ⟨_, List.getElem?_eq_getElem hdiv⟩
        rw [hjj, Cd.all_get c _ _ _ y hy hmod] at hu
        have := (hxs _ y hy).2 _ hmod
        rw [hu, Addr.add_lit, Addr.add_lit, Nat.add_assoc, ← hjj] at this
        exact this
    · obtain ⟨i, hi⟩ := List.getElem?_of_mem hy
      exact (hxs i y hi).1
end Go.Proofs.Ythccncpephpdjaa.E
