/- Rows of things that lead to rows of their own; functions handed over as values. -/
import Derived.Test.YthccncpephpdjaaO
import Derived.Test.YthccncpephpdjaaR
set_option linter.unusedVariables false
set_option linter.unusedSimpArgs false
namespace Go.Proofs.Ythccncpephpdjaa.E
open Go.RowKit
variable {n : Nat} {L L' : List (Nat × Value)} {a : Act} {W : World → Prop} {P : Program} {ops : Array Oper} {Q : Exit → Act → World → Prop} {rest : List Oper} {w0 : World} {H : List Ent}
variable {α β γ : Type}

/-! ### functions as values -/
theorem at_callee {f : FuncId} {dst : Option Nat} {x : Operand} {xs : Array Operand} {ats : Array TypeId} {ty : TypeId} {pos : String} {aft : Array Edge} {g : Option (Nat × Bool)} (hx : ev L x = some (.func (.func f) #[] #[]))
    (k : At n L W (wpList P ops Q (⟨dst, .call { callee := .value (.func f), args := xs, argTypes := ats }, ty, pos, aft, g⟩ :: rest))) :
    At n L W (wpList P ops Q (⟨dst, .call { callee := .value x, args := xs, argTypes := ats }, ty, pos, aft, g⟩ :: rest)) := fun a w h hw => by
  have hk := k a w h hw
  have e2 : a.eval x = a.eval (.func f) := by rw [h.eval hx]; rfl
  have e1 : execOp a.eval (⟨dst, .call { callee := .value x, args := xs, argTypes := ats }, ty, pos, aft, g⟩ : Oper) = execOp a.eval (⟨dst, .call { callee := .value (.func f), args := xs, argTypes := ats }, ty, pos, aft, g⟩ : Oper) := by
    simp only [execOp, resolve, e2]
  have e3 : ∀ K Q', Oper.wp P (⟨dst, .call { callee := .value x, args := xs, argTypes := ats }, ty, pos, aft, g⟩ : Oper) a w K Q' = Oper.wp P (⟨dst, .call { callee := .value (.func f), args := xs, argTypes := ats }, ty, pos, aft, g⟩ : Oper) a w K Q' := fun K Q' => by
    unfold Oper.wp
    rw [e1]; rfl
  have e4 : Oper.asks P (⟨dst, .call { callee := .value x, args := xs, argTypes := ats }, ty, pos, aft, g⟩ : Oper) a w = Oper.asks P (⟨dst, .call { callee := .value (.func f), args := xs, argTypes := ats }, ty, pos, aft, g⟩ : Oper) a w := by
    unfold Oper.asks
    rw [e1]
  unfold wpList at hk ⊢
  simp only [e3, e4]
  exact hk
theorem atq_callee {f : FuncId} {dst : Option Nat} {x : Operand} {xs : Array Operand} {ats : Array TypeId} {ty : TypeId} {pos : String} {aft : Array Edge} {g : Option (Nat × Bool)} {Q' : Act → Prop} (hx : ev L x = some (.func (.func f) #[] #[]))
    (k : AtQ n L (wpQuiet P ops W Q' (⟨dst, .call { callee := .value (.func f), args := xs, argTypes := ats }, ty, pos, aft, g⟩ :: rest))) :
    AtQ n L (wpQuiet P ops W Q' (⟨dst, .call { callee := .value x, args := xs, argTypes := ats }, ty, pos, aft, g⟩ :: rest)) := fun a h => by
  have hk := k a h
  have e2 : a.eval x = a.eval (.func f) := by rw [h.eval hx]; rfl
  have e1 : execOp a.eval (⟨dst, .call { callee := .value x, args := xs, argTypes := ats }, ty, pos, aft, g⟩ : Oper) = execOp a.eval (⟨dst, .call { callee := .value (.func f), args := xs, argTypes := ats }, ty, pos, aft, g⟩ : Oper) := by
    simp only [execOp, resolve, e2]
  unfold wpQuiet Oper.quiet Oper.quietAt at hk ⊢
  simp only [e1]
  exact hk
/-! ### rows of pairs: what is not told of a thing (where its rows lie), and the thing -/
def NRow (c : Cd (γ × α)) (N : World → γ × α → Prop) (w : World) (p : Option Addr) (cap : Nat) (xs : List α) : Prop :=
  ∃ zs : List (γ × α), zs.map Prod.snd = xs ∧ Row c w p cap zs ∧ ∀ z ∈ zs, N w z
theorem zlen {zs : List (γ × α)} {xs : List α} (hz : zs.map Prod.snd = xs) : zs.length = xs.length := by rw [← hz, List.length_map]
theorem zidx {zs : List (γ × α)} {xs : List α} {i : Int} (hz : zs.map Prod.snd = xs) (hi : 0 ≤ i ∧ i < xs.length) : 0 ≤ i ∧ i < zs.length := by rw [zlen hz]; exact hi
theorem zget [Inhabited γ] [Inhabited α] {zs : List (γ × α)} {xs : List α} (hz : zs.map Prod.snd = xs) (i : Int) : ∃ g, lget zs i = (g, lget xs i) := by
  refine ⟨(lget zs i).1, ?_⟩
  have : lget xs i = (lget zs i).2 := by
    subst hz
    unfold lget
    rw [List.getD_eq_getElem?_getD, List.getD_eq_getElem?_getD, List.getElem?_map]
    cases zs[i.toNat]? <;> rfl
  rw [this]
theorem zmem [Inhabited α] {zs : List α} {i : Int} (hi : 0 ≤ i ∧ i < zs.length) : lget zs i ∈ zs := List.mem_of_getElem? (lget_some hi)
theorem nz [Inhabited γ] [Inhabited α] {N : World → γ × α → Prop} {w : World} {zs : List (γ × α)} {z : γ × α} {i : Int} (hg : lget zs i = z) (hn : ∀ z ∈ zs, N w z) (hi : 0 ≤ i ∧ i < zs.length) : N w z := hg ▸ hn _ (zmem hi)
theorem NRow.below {c : Cd (γ × α)} {N : World → γ × α → Prop} {w w' : World} {p : Option Addr} {cap : Nat} {xs : List α} (h : NRow c N w p cap xs) (hb : Below w.heap.size w w') (hN : ∀ z, N w z → N w' z) : NRow c N w' p cap xs := by
  obtain ⟨zs, h1, h2, h3⟩ := h
  exact ⟨zs, h1, h2.below hb, fun z hz => hN z (h3 z hz)⟩
theorem NRow.nil (c : Cd (γ × α)) (N : World → γ × α → Prop) (w : World) (p : Option Addr) (cap : Nat) : NRow c N w p cap [] := ⟨[], rfl, Row.nil .., by simp⟩
theorem all_nil {φ : α → Prop} : ∀ z ∈ ([] : List α), φ z := by simp
theorem all_cons {φ : α → Prop} {a : α} {l : List α} (h : φ a) (t : ∀ z ∈ l, φ z) : ∀ z ∈ a :: l, φ z := fun z hz => by
  rcases List.mem_cons.1 hz with rfl | hz
  · exact h
  · exact t z hz
/-- An element of such a row, read. -/
theorem ncell [Inhabited γ] [Inhabited α] {c : Cd (γ × α)} {p : Option Addr} {cap : Nat} {zs : List (γ × α)} {z : γ × α} {i : Int} {b o : Nat} (hW : ∀ w, W w → Below w0.heap.size w0 w) (hrow : Row c w0 p cap zs) (hi : 0 ≤ i ∧ i < zs.length) (hp : p = some ⟨b, o, none⟩) (hg : lget zs i = z) :
    ∀ w, W w → ∀ k v, (c.cs z)[k]? = some v → w.cell? ⟨b, o + i.toNat * c.sz + k, none⟩ = some v := by
  subst hg; exact row_cell hW hrow hi hp
theorem nlens [Inhabited γ] [Inhabited α] {c : Cd (γ × α)} {c' : Cd β} {y : β} {put : β → List Value} {ofs : Nat} {p : Option Addr} {cap : Nat} {zs : List (γ × α)} {z : γ × α} {i : Int} {b o : Nat} (hW : ∀ w, W w → Below w0.heap.size w0 w) (hrow : Row c w0 p cap zs) (hi : 0 ≤ i ∧ i < zs.length) (hp : p = some ⟨b, o, none⟩) (hg : lget zs i = z)
    (l : Lens (c.cs z) ofs c' y put) : ∀ w, W w → ∀ j v, (c'.cs y)[j]? = some v → w.cell? ⟨b, o + i.toNat * c.sz + ofs + j, none⟩ = some v := by
  subst hg; exact row_lens hW hrow hi hp l
theorem nlens0 [Inhabited γ] [Inhabited α] {c : Cd (γ × α)} {c' : Cd β} {y : β} {v : Value} {put : β → List Value} {ofs : Nat} {p : Option Addr} {cap : Nat} {zs : List (γ × α)} {z : γ × α} {i : Int} {b o : Nat} (hW : ∀ w, W w → Below w0.heap.size w0 w) (hrow : Row c w0 p cap zs) (hi : 0 ≤ i ∧ i < zs.length) (hp : p = some ⟨b, o, none⟩) (hg : lget zs i = z)
    (l : Lens (c.cs z) ofs c' y put) (hv : c'.cs y = [v]) : ∀ w, W w → w.cell? ⟨b, o + i.toNat * c.sz + ofs, none⟩ = some v := by
  subst hg; exact row_lens0 hW hrow hi hp l hv

/-! ### arguments of that kind -/
def OpnW (P : Program) (t : TypeId) (c : Cd α) (ok : World → α → Prop) : Prop :=
  ∀ {H : Type} (enc : TypeId × Value → H) (w : World) (base : Nat) (spare : Nat → Bool) (held : Bool) (fuel : Nat) (cs : List Value) (d : DataW H) (ps : List MemPlace),
    DataW.trod enc P w base spare held fuel t cs = some (d, ps) → ∃ x, cs = c.cs x ∧ ok w x
theorem opn_up {t : TypeId} {c : Cd α} {ok : α → Prop} (h : Opn P t c ok) : OpnW P t c (fun _ => ok) := fun enc w base spare held fuel cs d ps hd => h enc w base spare held fuel cs d ps hd
theorem row_trod [Inhabited α] {Hh : Type} {enc : TypeId × Value → Hh} {w : World} {base : Nat} {spare : Nat → Bool} {held : Bool} {fuel : Nat} {t e : TypeId} {c : Cd α} {ok : World → α → Prop} {cs : List Value} {d : DataW Hh} {ps : List MemPlace} (ht : P.underlying t = some (.slice e)) (hz : P.cellsOf e = c.sz) (ho : OpnW P e c ok)
    (hf : DataW.trod enc P w base spare held fuel t cs = some (d, ps)) : ∃ (a : Option Addr) (cap : Nat) (xs : List α), cs = [.slice a xs.length cap] ∧ Row c w a cap xs ∧ ∀ x ∈ xs, ok w x := by
  rcases DataW.trod_slice ht hf with ⟨h0, _⟩ | ⟨x, len, cap, elems, rest, n, _, h0, _, hb, hl, hm, hlen, hel, _, _⟩
  · exact ⟨none, 0, [], h0, Row.nil .., by simp⟩
  · have each : ∀ i, i < len → ∃ y, (ok w y ∧ ∀ r, r < c.sz → w.cell? ((x.add (i * c.sz)).add r) = (c.cs y)[r]?) := by
      intro i hi
      have h1 := hel i hi
      rw [List.getElem?_eq_getElem (by omega), hz] at h1
      obtain ⟨cs, hcs, htr⟩ := Option.bind_eq_some_iff.1 h1
      obtain ⟨y, hy, oy⟩ := ho enc w base spare held n cs _ _ htr
      obtain ⟨_, hlc, hce⟩ := World.cells?_some hcs
      exact ⟨y, oy, fun r hr => by rw [hce r hr, hy]⟩
    obtain ⟨xs, hxl, hxs⟩ := pick_list len each
    refine ⟨some x, cap, xs, by rw [hxl]; exact h0, ⟨by omega, ?_⟩, fun y hy => ?_⟩
    · cases xs with
      | nil => exact .inl rfl
      | cons z zs =>
        right
        have h00 := (hxs 0 z rfl).2 0 c.pos
        have hcell : w.cell? (x.add 0) = (c.cs z)[0]? := by
          have e0 : (x.add (0 * c.sz)).add 0 = x.add 0 := by simp [Addr.add]
          rw [e0] at h00; exact h00
        have hz0 : ∃ v, (c.cs z)[0]? = some v := ⟨_, List.getElem?_eq_getElem (by rw [c.len]; exact c.pos)⟩
        obtain ⟨v, hv⟩ := hz0
        rw [hv] at hcell
        have hspot : x.spot = none := by
          have e0 : x.add 0 = x := by simp [Addr.add]
          rw [e0] at hcell
          unfold World.cell? at hcell
          split at hcell
          · split at hcell
            · cases hcell
            · next hs => simpa using hs
          · cases hcell
        obtain ⟨b, o, sp⟩ := x
        simp only at hspot; subst hspot
        refine ⟨b, o, rfl, fun j u hu => ?_⟩
        have hj : j < (z :: zs).length * c.sz := by
          have := (List.getElem?_eq_some_iff.1 hu).1
          rw [Cd.all_len] at this; exact this
        have hdiv : j / c.sz < (z :: zs).length := Nat.div_lt_of_lt_mul (by rw [Nat.mul_comm]; exact hj)
        have hmod : j % c.sz < c.sz := Nat.mod_lt _ c.pos
        have hjj : j = j / c.sz * c.sz + j % c.sz := by rw [Nat.mul_comm]; exact (Nat.div_add_mod j c.sz).symm
        obtain ⟨y, hy⟩ : ∃ y, (z :: zs)[j / c.sz]? = some y := ⟨_, List.getElem?_eq_getElem hdiv⟩
        rw [hjj, Cd.all_get c _ _ _ y hy hmod] at hu
        have := (hxs _ y hy).2 _ hmod
        rw [hu, Addr.add_lit, Addr.add_lit, Nat.add_assoc, ← hjj] at this
        exact this
    · obtain ⟨i, hi⟩ := List.getElem?_of_mem hy
      exact (hxs i y hi).1
theorem open_aggw {Hh : Type} {enc : TypeId × Value → Hh} {w : World} {base : Nat} {spare : Nat → Bool} {held : Bool} {t : TypeId} {c : Cd α} {ok : World → α → Prop} {v : Value} {d : DataW Hh} {ps : List MemPlace} (h : OpnW P t c ok) (hv : ∃ cs, v = .agg cs) (hd : DataW.Trod enc P w base spare held t v d ps) :
    ∃ x, v = .agg (c.cs x).toArray ∧ ok w x := by
  obtain ⟨cs, rfl⟩ := hv
  obtain ⟨fuel, hf⟩ := hd
  obtain ⟨x, hx, ho⟩ := h enc w base spare held fuel _ _ _ hf
  refine ⟨x, ?_, ho⟩
  congr 1
  apply Array.toList_inj.1
  exact hx
theorem open_roww [Inhabited α] {Hh : Type} {enc : TypeId × Value → Hh} {w : World} {base : Nat} {spare : Nat → Bool} {held : Bool} {t e : TypeId} {c : Cd α} {ok : World → α → Prop} {a : Option Addr} {len cap : Nat} {d : DataW Hh} {ps : List MemPlace} (ht : P.underlying t = some (.slice e)) (hz : P.cellsOf e = c.sz) (ho : OpnW P e c ok)
    (hd : DataW.Trod enc P w base spare held t (.slice a len cap) d ps) : ∃ xs : List α, xs.length = len ∧ Row c w a cap xs ∧ ∀ x ∈ xs, ok w x := by
  obtain ⟨fuel, hf⟩ := hd
  obtain ⟨a', cap', xs, h0, h1, h2⟩ := row_trod ht hz ho hf
  simp [Value.cells] at h0
  obtain ⟨rfl, rfl, rfl⟩ := h0
  exact ⟨xs, rfl, h1, h2⟩
end Go.Proofs.Ythccncpephpdjaa.E
