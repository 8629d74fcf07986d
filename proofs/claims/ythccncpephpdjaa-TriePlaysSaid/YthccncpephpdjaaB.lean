/- The engine's laws on calls that make memory and on a strings.Builder of the call's own. -/
import Derived.Test.YthccncpephpdjaaM
import Derived.Lib.OthersKept
import Derived.Lib.AppendStr
import Derived.Lib.UnsafeStr
import Derived.Lib.Repeat
set_option linter.unusedVariables false
set_option linter.unusedSimpArgs false
namespace Go.Proofs.Ythccncpephpdjaa.E
open Go.RowKit
variable {n : Nat} {L L' : List (Nat × Value)} {a : Act} {W : World → Prop} {P : Program} {ops : Array Oper} {Q : Exit → Act → World → Prop} {rest : List Oper} {w0 : World} {H : List Ent}
section
variable {d : Nat} {ty : TypeId} {pos : String} {aft : Array Edge} {f : FuncId} {fn : Func} {xs : List Operand} {ats : Array TypeId} {l : List Value}
theorem at_callB {v : Value} (hf : P.funcs[f]? = some fn) (hb : fn.body.isSome = true) (hnm : (fn.name == "runtime.NumGoroutine") = false)
    (hx : evs L xs = some l) (hdn : Nat.blt d n = true) (hc : ∀ w, Wd w0 H w → Calls P f l.toArray w fun e w' => e = .returned v ∧ Below w.heap.size w w')
    (kk : At n ((d, v) :: L) (Wd w0 H) (wpList P ops Q rest)) :
    At n L (Wd w0 H) (wpList P ops Q (⟨some d, .call { callee := .value (.func f), args := xs.toArray, argTypes := ats }, ty, pos, aft, none⟩ :: rest)) :=
  at_call (W' := fun u w' => u = v ∧ Wd w0 H w') hf hb hnm hx hdn (fun w hw => (hc w hw).mono fun e w' ⟨he, hw'⟩ => ⟨v, he, rfl, hw.call hw'⟩) fun u a w h hw => by
    obtain ⟨rfl, hw⟩ := hw
    exact kk a w h hw
theorem at_callO {α : Type} {c : Cd α} {e : TypeId} {ys : List α} {V : Option Addr → Nat → Value} (hf : P.funcs[f]? = some fn) (hb : fn.body.isSome = true) (hnm : (fn.name == "runtime.NumGoroutine") = false)
    (hx : evs L xs = some l) (hdn : Nat.blt d n = true) (hc : ∀ w, Wd w0 H w → Calls P f l.toArray w fun en w' => ∃ p cap, en = .returned (V p cap) ∧ Own c e w.heap.size w' p cap ys ∧ Below w.heap.size w w')
    (kk : ∀ p cap, At n ((d, V p cap) :: L) (Wd w0 (rowE c e p cap ys :: H)) (wpList P ops Q rest)) :
    At n L (Wd w0 H) (wpList P ops Q (⟨some d, .call { callee := .value (.func f), args := xs.toArray, argTypes := ats }, ty, pos, aft, none⟩ :: rest)) :=
  at_call (W' := fun u w' => ∃ p cap, u = V p cap ∧ Wd w0 (rowE c e p cap ys :: H) w') hf hb hnm hx hdn (fun w hw => (hc w hw).mono fun en w' ⟨p, cap, he, ho, hw'⟩ => ⟨_, he, p, cap, rfl, hw.pushOwn hw' ho⟩) fun u a w h hw => by
    obtain ⟨p, cap, rfl, hw⟩ := hw
    exact kk p cap a w h hw
/-- A call whose value nobody wants. -/
theorem callB_of_call0 {v : Value} {P : Program} {f : FuncId} {l : Array Value} {w : World} (h : Calls P f l w fun e w' => e = .returned v ∧ w' = w) : Calls P f l w fun e w' => e = .returned v ∧ Below w.heap.size w w' :=
  h.mono fun e w' ⟨he, hw⟩ => ⟨he, by subst hw; exact Below.refl _ _⟩
end

/-! ### a Builder -/
def bufOf (v : Value) : Option Nat := v.ownBlock
def bldE (T e : TypeId) (b : Nat) (g : Option Nat) (o : ByteArray) : Ent :=
  ⟨b :: g.toList, fun w => ∃ q v, w.heap[b]? = some (.cells #[q, v] T (0, 0)) ∧ w.ownsRowF b e 1 v o.size (Lib.strCells o) ∧ v.ownBlock ≠ some b ∧ (q = .pointer none ∨ q = .pointer (some ⟨b, 0, none⟩)) ∧ v.ownBlock = g, fun w w' h ⟨q, v, h1, h2, h3, h4, h5⟩ => by
    refine ⟨q, v, (h b (by simp)).trans h1, ⟨h2.1, ?_⟩, h3, h4, h5⟩
    rcases h2.2 with h6 | ⟨g', cap, cur, fz, hv, hg, hh, r⟩
    · exact .inl h6
    · refine .inr ⟨g', cap, cur, fz, hv, hg, (h g' ?_).trans hh, r⟩
      rw [← h5, hv]; simp [Value.ownBlock]⟩
theorem bldE_is {T e : TypeId} {b : Nat} {g : Option Nat} {o : ByteArray} {w : World} (h : (bldE T e b g o).ok w) : Lib.IsBuilderF T e b b (Lib.strCells o) w := by
  obtain ⟨q, v, h1, h2, h3, h4, h5⟩ := h
  have hl : (Lib.strCells o).length = o.size := Lib.strCells_length o
  rcases h4 with rfl | rfl
  · exact .inl ⟨Nat.le_refl _, v, h1, by rw [hl]; exact h2, h3⟩
  · exact .inr ⟨Nat.le_refl _, v, h1, by rw [hl]; exact h2, h3⟩
/-- No block of this entry holds elements of type e. -/
def Other (e : TypeId) (E : Ent) : Prop := ∀ w, E.ok w → ∀ k ∈ E.fp, ∃ cs t fr, w.heap[k]? = some (.cells cs t fr) ∧ t ≠ e
theorem other_cells {e b t : Nat} {cs : List Value} (h : Nat.beq t e = false) : Other e (cellsE b cs t) := fun w hw k hk => by
  simp [cellsE] at hk; subst hk
  exact ⟨_, t, _, hw, fun he => by subst he; simp at h⟩
theorem other_row {α : Type} {c : Cd α} {e t : Nat} {p : Option Addr} {cap : Nat} {xs : List α} (h : Nat.beq t e = false) : Other e (rowE c t p cap xs) := fun w hw k hk => by
  rcases hw.2 with ⟨hv, _⟩ | ⟨g, cap', cur, hv, _, hh, _⟩
  · simp [rowE, hv, Value.ownBlock] at hk
  · simp [rowE, hv, Value.ownBlock] at hk
    subst hk
    exact ⟨_, t, _, hh, fun he => by subst he; simp at h⟩
def Others (e : TypeId) : List Ent → Prop
  | [] => True
  | E :: H => Other e E ∧ Others e H
theorem Others.mem {e : TypeId} : ∀ {H : List Ent}, Others e H → ∀ E ∈ H, Other e E
  | _ :: _, h, E, hE => by
    rcases List.mem_cons.1 hE with rfl | hE
    · exact h.1
    · exact Others.mem h.2 E hE
theorem Upd.others {E : Ent} {f : Ent → List Ent} {G : List Ent} (h : Upd H E f G) : ∀ F ∈ G, F ∈ H := by
  induction h with
  | z => intro F hF; exact List.mem_cons_of_mem _ hF
  | s _ ih =>
    intro F hF
    rcases List.mem_cons.1 hF with rfl | hF
    · exact List.mem_cons_self ..
    · exact List.mem_cons_of_mem _ (ih F hF)
theorem Sep.put {B : Nat} {E E' : Ent} {f : Ent → List Ent} {G : List Ent} {w w' : World} (hu : Upd H E f G) (h : Sep B H w) (hsz : w.heap.size ≤ w'.heap.size) (hk : ∀ F ∈ G, ∀ k ∈ F.fp, w'.heap[k]? = w.heap[k]?)
    (hok : E'.ok w') (hfp : ∀ k ∈ E'.fp, B ≤ k ∧ k < w'.heap.size ∧ ∀ F ∈ G, k ∉ F.fp) : Sep B (f E') w' := by
  induction hu with
  | z => exact ⟨hok, hfp, h.2.2.mono hsz hk⟩
  | @s F E H f G hu ih =>
    refine ⟨F.loc w w' (hk F (List.mem_cons_self ..)) h.1, fun k hkF => ⟨(h.2.1 k hkF).1, Nat.lt_of_lt_of_le (h.2.1 k hkF).2.1 hsz, fun F' hF' hk' => ?_⟩,
      ih h.2.2 (fun F' hF' => hk F' (List.mem_cons_of_mem _ hF')) fun k hk' => ⟨(hfp k hk').1, (hfp k hk').2.1, fun F' hF' => (hfp k hk').2.2 F' (List.mem_cons_of_mem _ hF')⟩⟩
    rcases hu.mem' F' hF' with rfl | hF'
    · exact (hfp k hk').2.2 F (List.mem_cons_self ..) hkF
    · exact (h.2.1 k hkF).2.2 F' hF' hk'
theorem Wd.put {E E' : Ent} {f : Ent → List Ent} {G : List Ent} {w w' : World} (hu : Upd H E f G) (h : Wd w0 H w) (hb : Below w0.heap.size w w') (hk : ∀ F ∈ G, ∀ k ∈ F.fp, w'.heap[k]? = w.heap[k]?)
    (hok : E'.ok w') (hfp : ∀ k ∈ E'.fp, w0.heap.size ≤ k ∧ k < w'.heap.size ∧ ∀ F ∈ G, k ∉ F.fp) : Wd w0 (f E') w' :=
  ⟨h.below.trans hb, h.sep.put hu hb.size hk hok hfp⟩
theorem Wd.bld {T e b : Nat} {g : Option Nat} {o o' : ByteArray} {f : Ent → List Ent} {G : List Ent} {w w' : World} {q : Value} (hu : Upd H (bldE T e b g o) f G) (h : Wd w0 H w) (hG : Others e G) (hq : q = .pointer none ∨ q = .pointer (some ⟨b, 0, none⟩))
    (hB : Lib.BuilderAtF T e b b q (Lib.strCells o') w') (hb : Below b w w') (hk : Lib.OthersKept e (some b) w w') : ∃ g', Wd w0 (f (bldE T e b g' o')) w' := by
  have hb0 : w0.heap.size ≤ b := (h.fp hu.mem b (by simp [bldE])).1
  obtain ⟨_, v, h1, h2, h3⟩ := hB
  have hl : (Lib.strCells o').length = o'.size := Lib.strCells_length o'
  have hblt : b < w.heap.size := (h.fp hu.mem b (by simp [bldE])).2
  have keep : ∀ F ∈ G, ∀ k ∈ F.fp, ∃ cs t fr, w.heap[k]? = some (.cells cs t fr) ∧ t ≠ e ∧ w'.heap[k]? = w.heap[k]? := by
    intro F hF k hkF
    obtain ⟨cs, t, fr, hc, hne⟩ := hG.mem F hF w (h.ok (hu.others F hF)) k hkF
    refine ⟨cs, t, fr, hc, hne, ?_⟩
    rw [hc]
    refine hk k _ hc (fun hkb => ?_) (fun c fz hx => by cases hx; exact hne rfl)
    have hkb' : k = b := by simpa using hkb
    subst hkb'
    -- b is the builder's own
    have hs := h.sep
    have : ∀ {H : List Ent} {f G} (hu : Upd H (bldE T e k g o) f G), Sep w0.heap.size H w → F ∈ G → False := by
      intro H f G hu
      generalize hE : bldE T e k g o = E at hu
      induction hu with
      | z => intro hs hF; subst hE; exact (hs.2.1 k (by simp [bldE])).2.2 F hF hkF
      | s hu ih =>
        intro hs hF
        rcases List.mem_cons.1 hF with rfl | hF
        · exact (hs.2.1 k hkF).2.2 _ hu.mem (by subst hE; simp [bldE])
        · exact ih hE hs.2.2 hF
    exact this hu hs hF
  refine ⟨v.ownBlock, h.put hu (hb.mono hb0) (fun F hF k hkF => by obtain ⟨_, _, _, _, _, h⟩ := keep F hF k hkF; exact h) ⟨q, v, h1, by rw [← hl]; exact h2, h3, hq, rfl⟩ fun k hkE => ?_⟩
  have hbw' : b < w'.heap.size := Nat.lt_of_lt_of_le hblt hb.size
  have hk1 : k = b ∨ v.ownBlock = some k := by simpa [bldE] using hkE
  rcases hk1 with rfl | hk1
  · refine ⟨hb0, hbw', fun F hF hkF => ?_⟩
    obtain ⟨cs, t, fr, hc, hne, hh⟩ := keep F hF k hkF
    have hs := h.sep
    have : ∀ {H : List Ent} {f G} (hu : Upd H (bldE T e k g o) f G), Sep w0.heap.size H w → F ∈ G → False := by
      intro H f G hu
      generalize hE : bldE T e k g o = E at hu
      induction hu with
      | z => intro hs hF; subst hE; exact (hs.2.1 k (by simp [bldE])).2.2 F hF hkF
      | s hu ih =>
        intro hs hF
        rcases List.mem_cons.1 hF with rfl | hF
        · exact (hs.2.1 k hkF).2.2 _ hu.mem (by subst hE; simp [bldE])
        · exact ih hE hs.2.2 hF
    exact this hu hs hF
  · rcases h2.2 with ⟨hv, _⟩ | ⟨g2, cap, cur, fz, hv, hg, hh, r⟩
    · rw [hv] at hk1; simp [Value.ownBlock] at hk1
    · rw [hv] at hk1
      simp [Value.ownBlock] at hk1
      subst hk1
      refine ⟨Nat.le_trans hb0 hg, (Array.getElem?_eq_some_iff.1 hh).1, fun F hF hkF => ?_⟩
      obtain ⟨cs, t, fr, hc, hne, h4⟩ := keep F hF g2 hkF
      rw [h4, hc] at hh
      cases hh
      exact hne rfl
section
variable {d : Nat} {ty : TypeId} {pos : String} {aft : Array Edge} {fid : FuncId} {fn : Func} {xs : List Operand} {ats : Array TypeId} {T e b : Nat} {g : Option Nat} {o : ByteArray} {f : Ent → List Ent} {G : List Ent}
theorem at_alloc_bld {t : TypeId} (hz : ∀ w, (zeroValue t).run P w = .ok (.agg #[.pointer none, .slice none 0 0]) w) (hdn : Nat.blt d n = true)
    (k : ∀ b, At n ((d, .pointer (some ⟨b, 0, none⟩)) :: L) (Wd w0 (bldE t e b none ByteArray.empty :: H)) (wpList P ops Q rest)) :
    At n L (Wd w0 H) (wpList P ops Q (⟨some d, .alloc t, ty, pos, aft, none⟩ :: rest)) :=
  at_any (W' := fun v w' => ∃ b, v = .pointer (some ⟨b, 0, none⟩) ∧ Wd w0 (bldE t e b none ByteArray.empty :: H) w') rfl rfl hdn (fun a w h hw => by
    refine ⟨_, w.alloc (.cells #[.pointer none, .slice none 0 0] t), ?_, w.heap.size, rfl, hw.push ((Below.refl _ _).alloc (Nat.le_refl _) _) ?_ ?_⟩
    · simp [execOp, Instr.alloc, hz, newVar, newRow, newObj, Sem.run, Value.cells]
    · exact ⟨.pointer none, .slice none 0 0, heap_alloc_new w _, ⟨rfl, .inl ⟨rfl, rfl⟩⟩, by simp [Value.ownBlock], .inl rfl, rfl⟩
    · intro k hk; simp [bldE] at hk; subst hk; simp) fun v a w h ⟨b, hv, hw⟩ => by subst hv; exact k b a w h hw
theorem strCells_push (o : ByteArray) (c : Int) (hc : 0 ≤ c ∧ c < 256) : Lib.strCells o ++ [.int .u8 c] = Lib.strCells (o.push (UInt8.ofNat c.toNat)) := by
  have : ((UInt8.ofNat c.toNat).toNat : Int) = c := by
    have h1 : c.toNat < 256 := by omega
    simp [UInt8.toNat_ofNat, Nat.mod_eq_of_lt h1]; omega
  simp only [Lib.strCells, ByteArray.push, Array.toList_push, List.map_append, List.map_cons, List.map_nil, this]
theorem strCells_append (o s : ByteArray) : Lib.strCells o ++ Lib.strCells s = Lib.strCells (o ++ s) := by
  simp [Lib.strCells, ByteArray.data_append]
theorem at_bld_byte {c : Int} (hu : Upd H (bldE T e b g o) f G) (hG : Others e G) (hf : P.funcs[fid]? = some fn) (hb : fn.body.isSome = true) (hnm : (fn.name == "runtime.NumGoroutine") = false)
    (hx : evs L xs = some [.pointer (some ⟨b, 0, none⟩), .int .u8 c]) (hdn : Nat.blt d n = true) (hc : 0 ≤ c ∧ c < 256) (hs : o.size + 1 ≤ 140737488355328)
    (hcon : ∀ (B b : Nat) (bs : List Value) (c : Int) (w : World) (_ : Lib.IsBuilderF T e B b bs w) (_ : bs.length + 1 ≤ 140737488355328) (_ : B ≤ w.heap.size),
      Calls P fid #[.pointer (some ⟨b, 0, none⟩), .int .u8 c] w fun en w' => en = .returned .nilIface ∧ (Lib.BuilderAtF T e B b (.pointer (some ⟨b, 0, none⟩)) (bs ++ [.int .u8 c]) w' ∧ Below B w w' ∧ Lib.OthersKept e (some b) w w'))
    (kk : ∀ g', At n ((d, .nilIface) :: L) (Wd w0 (f (bldE T e b g' (o.push (UInt8.ofNat c.toNat))))) (wpList P ops Q rest)) :
    At n L (Wd w0 H) (wpList P ops Q (⟨some d, .call { callee := .value (.func fid), args := xs.toArray, argTypes := ats }, ty, pos, aft, none⟩ :: rest)) :=
  at_call (W' := fun u w' => u = .nilIface ∧ ∃ g', Wd w0 (f (bldE T e b g' (o.push (UInt8.ofNat c.toNat)))) w') hf hb hnm hx hdn (fun w hw =>
    (hcon b b _ c w (bldE_is (hw.ok hu.mem)) (by rw [Lib.strCells_length]; exact hs) (Nat.le_of_lt (hw.fp hu.mem b (by simp [bldE])).2)).mono fun en w' ⟨he, h1, h2, h3⟩ =>
      ⟨_, he, rfl, hw.bld hu hG (.inr rfl) (by rw [strCells_push o c hc] at h1; exact h1) h2 h3⟩) fun u a w h hw => by
    obtain ⟨rfl, g', hw⟩ := hw
    exact kk g' a w h hw
theorem at_bld_str {s : ByteArray} (hu : Upd H (bldE T e b g o) f G) (hG : Others e G) (hf : P.funcs[fid]? = some fn) (hb : fn.body.isSome = true) (hnm : (fn.name == "runtime.NumGoroutine") = false)
    (hx : evs L xs = some [.pointer (some ⟨b, 0, none⟩), .string s]) (hdn : Nat.blt d n = true) (hs : o.size + s.size ≤ 140737488355328)
    (hcon : ∀ (B b : Nat) (bs : List Value) (s : ByteArray) (w : World) (_ : Lib.IsBuilderF T e B b bs w) (_ : bs.length + s.size ≤ 140737488355328) (_ : B ≤ w.heap.size),
      Calls P fid #[.pointer (some ⟨b, 0, none⟩), .string s] w fun en w' => en = .returned (.tuple #[.int .i64 s.size, .nilIface]) ∧ (Lib.BuilderAtF T e B b (.pointer (some ⟨b, 0, none⟩)) (bs ++ Lib.strCells s) w' ∧ Below B w w' ∧ Lib.OthersKept e (some b) w w'))
    (kk : ∀ g', At n ((d, .tuple #[.int .i64 s.size, .nilIface]) :: L) (Wd w0 (f (bldE T e b g' (o ++ s)))) (wpList P ops Q rest)) :
    At n L (Wd w0 H) (wpList P ops Q (⟨some d, .call { callee := .value (.func fid), args := xs.toArray, argTypes := ats }, ty, pos, aft, none⟩ :: rest)) :=
  at_call (W' := fun u w' => u = .tuple #[.int .i64 s.size, .nilIface] ∧ ∃ g', Wd w0 (f (bldE T e b g' (o ++ s))) w') hf hb hnm hx hdn (fun w hw =>
    (hcon b b _ s w (bldE_is (hw.ok hu.mem)) (by rw [Lib.strCells_length]; exact hs) (Nat.le_of_lt (hw.fp hu.mem b (by simp [bldE])).2)).mono fun en w' ⟨he, h1, h2, h3⟩ =>
      ⟨_, he, rfl, hw.bld hu hG (.inr rfl) (by rw [strCells_append] at h1; exact h1) h2 h3⟩) fun u a w h hw => by
    obtain ⟨rfl, g', hw⟩ := hw
    exact kk g' a w h hw
theorem at_bld_string (hu : Upd H (bldE T e b g o) f G) (hG : Others e G) (hf : P.funcs[fid]? = some fn) (hb : fn.body.isSome = true) (hnm : (fn.name == "runtime.NumGoroutine") = false)
    (hx : evs L xs = some [.pointer (some ⟨b, 0, none⟩)]) (hdn : Nat.blt d n = true)
    (hcon : ∀ (B b : Nat) (l : List UInt8) (w : World) (_ : Lib.IsBuilderF T e B b (Lib.byteCells l) w) (_ : B ≤ w.heap.size),
      Calls P fid #[.pointer (some ⟨b, 0, none⟩)] w fun en w' => en = .returned (.string ⟨l.toArray⟩) ∧ (Lib.IsBuilderF T e B b (Lib.byteCells l) w' ∧ Below B w w' ∧ Lib.OthersKept e (some b) w w'))
    (kk : ∀ g', At n ((d, .string o) :: L) (Wd w0 (f (bldE T e b g' o))) (wpList P ops Q rest)) :
    At n L (Wd w0 H) (wpList P ops Q (⟨some d, .call { callee := .value (.func fid), args := xs.toArray, argTypes := ats }, ty, pos, aft, none⟩ :: rest)) :=
  at_call (W' := fun u w' => u = .string o ∧ ∃ g', Wd w0 (f (bldE T e b g' o)) w') hf hb hnm hx hdn (fun w hw =>
    (hcon b b o.data.toList w (bldE_is (hw.ok hu.mem)) (Nat.le_of_lt (hw.fp hu.mem b (by simp [bldE])).2)).mono fun en w' ⟨he, h1, h2, h3⟩ => by
      refine ⟨_, he, by simp, ?_⟩
      rcases h1 with h1 | h1
      · exact hw.bld hu hG (.inl rfl) h1 h2 h3
      · exact hw.bld hu hG (.inr rfl) h1 h2 h3) fun u a w h hw => by
    obtain ⟨rfl, g', hw⟩ := hw
    exact kk g' a w h hw
end
/-! ### externs in the printed functions' words -/
def brep (s : ByteArray) (c : Int) : ByteArray := ⟨(Lib.repeatL s.data.toList c.toNat).toArray⟩
theorem rep_lift {P : Program} {f : FuncId} (hcon : ∀ (s : ByteArray) (c : Nat) (w : World) (_ : c ≤ 9223372036854775807) (_ : s.size * c ≤ 140737488355328), Calls P f #[.string s, .int .i64 c] w fun e w' => e = .returned (.string ⟨(Lib.repeatL s.data.toList c).toArray⟩) ∧ Below w.heap.size w w')
    (s : ByteArray) (c : Int) (w : World) (h : 0 ≤ c ∧ c ≤ 9223372036854775807 ∧ (s.size : Int) * c ≤ 140737488355328) : Calls P f #[.string s, .int .i64 c] w fun e w' => e = .returned (.string (brep s c)) ∧ Below w.heap.size w w' := by
  obtain ⟨h1, h2, h3⟩ := h
  obtain ⟨m, rfl⟩ := Int.eq_ofNat_of_zero_le h1
  have h4 : ((s.size * m : Nat) : Int) ≤ 140737488355328 := by rw [Int.natCast_mul]; exact h3
  exact hcon s m w (by omega) (by omega)
end Go.Proofs.Ythccncpephpdjaa.E
