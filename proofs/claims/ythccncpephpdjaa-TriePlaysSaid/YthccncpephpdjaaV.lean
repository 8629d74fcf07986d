/- The engine's laws on arrays and structs: codecs, parts, variables of the call's own, results in memory, equality. -/
import Derived.Test.YthccncpephpdjaaB
import Derived.Laws.StructEq
import Derived.ChangeKeysEq
import Derived.Laws.Externs
import Derived.Lib.BytesEntry
import Derived.Lib.Bytealg
set_option linter.unusedVariables false
set_option linter.unusedSimpArgs false
namespace Go.Proofs.Ythccncpephpdjaa.E
open Go.RowKit
variable {n : Nat} {L L' : List (Nat × Value)} {a : Act} {W : World → Prop} {P : Program} {ops : Array Oper} {Q : Exit → Act → World → Prop} {rest : List Oper} {w0 : World} {H : List Ent}
variable {α β γ : Type}

/-! ### parts -/
/-- In these cells, from 'o' on, lies y; 'put' is what they are with another one there. -/
def Lens (cells : List Value) (o : Nat) (c : Cd β) (y : β) (put : β → List Value) : Prop :=
  ∃ pre post, cells = pre ++ c.cs y ++ post ∧ pre.length = o ∧ ∀ z, put z = pre ++ c.cs z ++ post
theorem Lens.whole (c : Cd α) (x : α) : Lens (c.cs x) 0 c x c.cs := ⟨[], [], by simp, rfl, fun z => by simp⟩
theorem Lens.comp {cells : List Value} {o o' : Nat} {c : Cd β} {c' : Cd γ} {y : β} {y' : γ} {put : β → List Value} (h : Lens cells o c y put) (g : γ → β) (h' : Lens (c.cs y) o' c' y' (fun z => c.cs (g z))) :
    Lens cells (o + o') c' y' (fun z => put (g z)) := by
  obtain ⟨p1, q1, e1, l1, f1⟩ := h
  obtain ⟨p2, q2, e2, l2, f2⟩ := h'
  refine ⟨p1 ++ p2, q2 ++ q1, ?_, by simp [l1, l2], fun z => ?_⟩
  · rw [e1, e2]; simp
  · have f2z : c.cs (g z) = _ := f2 z
    show put (g z) = _
    rw [f1, f2z]; simp
theorem Lens.get {cells : List Value} {o : Nat} {c : Cd β} {y : β} {put : β → List Value} (h : Lens cells o c y put) : ∀ k v, (c.cs y)[k]? = some v → cells[o + k]? = some v := by
  obtain ⟨p, q, e, l, _⟩ := h
  intro k v hk
  have hlt : k < (c.cs y).length := (List.getElem?_eq_some_iff.1 hk).1
  rw [e, List.append_assoc, List.getElem?_append_right (by omega), l, Nat.add_sub_cancel_left, List.getElem?_append_left hlt]
  exact hk
theorem Lens.size {cells : List Value} {o : Nat} {c : Cd β} {y : β} {put : β → List Value} (h : Lens cells o c y put) : o + c.sz ≤ cells.length := by
  obtain ⟨p, q, e, l, _⟩ := h
  rw [e]; simp [c.len]; omega
theorem Lens.put_length {cells : List Value} {o : Nat} {c : Cd β} {y : β} {put : β → List Value} (h : Lens cells o c y put) (z : β) : (put z).length = cells.length := by
  obtain ⟨p, q, e, l, f⟩ := h
  rw [e, f]; simp [c.len]
theorem Lens.splice {cells : List Value} {o : Nat} {c : Cd β} {y : β} {put : β → List Value} (h : Lens cells o c y put) (z : β) : put z = cells.take o ++ c.cs z ++ cells.drop (o + c.sz) := by
  obtain ⟨p, q, e, l, f⟩ := h
  rw [f, e, ← l]
  have h1 : List.take p.length (p ++ c.cs y ++ q) = p := by simp
  have h2 : List.drop (p.length + c.sz) (p ++ c.cs y ++ q) = q := by
    rw [← c.len y, ← List.length_append]; simp
  rw [h1, h2]
theorem Lens.all [Inhabited α] (c : Cd α) : ∀ (xs : List α) (i : Nat), i < xs.length → Lens (c.all xs) (i * c.sz) c (xs.getD i default) (fun z => c.all (xs.set i z))
  | x :: xs, 0, _ => ⟨[], c.all xs, by simp [Cd.all_cons], by simp, fun z => by simp [Cd.all_cons]⟩
  | x :: xs, i + 1, h => by
    obtain ⟨p, q, e, l, f⟩ := Lens.all c xs i (by simpa using h)
    refine ⟨c.cs x ++ p, q, ?_, by rw [List.length_append, c.len, l, Nat.add_mul]; omega, fun z => ?_⟩
    · rw [Cd.all_cons, e]; simp
    · have := f z
      simp only [List.set_cons_succ, Cd.all_cons] at this ⊢
      rw [this]; simp
theorem Lens.el [Inhabited α] (c : Cd α) (xs : List α) (i : Int) (h : 0 ≤ i ∧ i < xs.length) : Lens (c.all xs) (i.toNat * c.sz) c (lget xs i) (fun z => c.all (xs.set i.toNat z)) :=
  Lens.all c xs i.toNat (by omega)

/-! ### arrays -/
/-- The head of a slice that lies in a cell: what it leads to is not told. -/
structure Hd where
  p : Option Addr
  n : Nat
  cap : Nat
  deriving DecidableEq, Inhabited
def cHd : Cd Hd := ⟨1, fun h => [.slice h.p h.n h.cap], fun _ => rfl, fun _ v hv => by simp at hv; subst hv; rfl, by decide⟩
def vget [Inhabited α] {m : Nat} (v : Vector α m) (i : Int) : α := v.toList.getD i.toNat default
def vset {m : Nat} (v : Vector α m) (i : Int) (x : α) : Vector α m := v.setIfInBounds i.toNat x
theorem vset_toList {m : Nat} (v : Vector α m) (i : Int) (x : α) : (vset v i x).toList = v.toList.set i.toNat x := by
  simp [vset, Vector.toList_setIfInBounds]
def cVec (c : Cd α) (m : Nat) (hm : 0 < m) : Cd (Vector α m) :=
  ⟨m * c.sz, fun v => c.all v.toList, fun v => by rw [c.all_len]; simp, fun v => c.all_one v.toList, Nat.mul_pos hm c.pos⟩
theorem Lens.vec [Inhabited α] (c : Cd α) {m : Nat} (hm : 0 < m) (v : Vector α m) (i : Int) (h : 0 ≤ i ∧ i < (m : Int)) :
    Lens ((cVec c m hm).cs v) (i.toNat * c.sz) c (vget v i) (fun z => (cVec c m hm).cs (vset v i z)) := by
  have := Lens.all c v.toList i.toNat (by simp; omega)
  show Lens (c.all v.toList) _ c (v.toList.getD i.toNat default) (fun z => c.all (vset v i z).toList)
  simp only [vset_toList]
  exact this

/-! ### variables of the call's own -/
theorem cells_get {b t : Nat} {cells : List Value} {w : World} (h : (cellsE b cells t).ok w) (k : Nat) (v : Value) (hk : cells[k]? = some v) : w.cell? ⟨b, k, none⟩ = some v := by
  simp only [cellsE] at h
  simp [World.cell?, h, hk]
theorem lens_cell {b t o : Nat} {cells : List Value} {c : Cd β} {y : β} {put : β → List Value} {f : Ent → List Ent} {G : List Ent} (hu : Upd H (cellsE b cells t) f G) (l : Lens cells o c y put) :
    ∀ w, Wd w0 H w → ∀ k v, (c.cs y)[k]? = some v → w.cell? ⟨b, o + k, none⟩ = some v := fun w hw k v hk => cells_get (hw.ok hu.mem) _ _ (l.get k v hk)
theorem lens_cell0 {b t o : Nat} {cells : List Value} {c : Cd β} {y : β} {put : β → List Value} {f : Ent → List Ent} {G : List Ent} {v : Value} (hu : Upd H (cellsE b cells t) f G) (l : Lens cells o c y put) (hv : c.cs y = [v]) :
    ∀ w, Wd w0 H w → w.cell? ⟨b, o, none⟩ = some v := fun w hw => lens_cell hu l w hw 0 v (by rw [hv]; rfl)
section
variable {d : Nat} {ty : TypeId} {pos : String} {aft : Array Edge} {t e s : TypeId} {x y : Operand}
theorem r_nilCheck {p : Addr} (hx : ev L x = some (.pointer (some p))) : Runs n L W P (⟨some d, .nilCheck x, ty, pos, aft, none⟩) (.pointer (some p)) := fun a w h _ => by
  simp only [execOp, h.eval hx]; rfl
theorem r_fieldAddr {fs : Array Field} {f : Field} {j b o fo : Nat} (hs : P.underlying s = some (.struct fs)) (hf : fs[j]? = some f) (hfo : f.offset = fo) (hz : ∀ w, ∃ m, (sizeOf f.type).run P w = .ok (m + 1) w) (hx : ev L x = some (.pointer (some ⟨b, o, none⟩))) :
    Runs n L W P (⟨some d, .fieldAddr s x j, ty, pos, aft, none⟩) (.pointer (some ⟨b, o + fo, none⟩)) := fun a w h _ => by
  subst hfo
  obtain ⟨m, hm⟩ := hz w
  simp only [execOp, h.eval hx]
  simp [Instr.fieldAt, run_underlying hs, hf, Instr.sureAddr, fieldPlace, hm, Addr.add_lit]
theorem r_idxArr {m sz b o : Nat} {k : IntKind} {i : Int} (ht : P.underlying t = some (.array m e)) (hz : ∀ w, (sizeOf e).run P w = .ok sz w) (hx : ev L x = some (.pointer (some ⟨b, o, none⟩))) (hy : ev L y = some (.int k i)) (hi : 0 ≤ i ∧ i < (m : Int)) :
    Runs n L W P (⟨some d, .indexAddr t x y, ty, pos, aft, none⟩) (.pointer (some ⟨b, o + i.toNat * sz, none⟩)) := fun a w h _ => by
  simp only [execOp, h.eval hx, h.eval hy]
  simp [Instr.indexAt, asIntOf, run_underlying ht, Instr.sureAddr, hi.1, hi.2, hz, Addr.add_lit]
theorem r_load_aggc {b o : Nat} {c : Cd β} {z : β} (ha : ∀ w, (isAgg t).run P w = .ok true w) (hz : ∀ w, (sizeOf t).run P w = .ok c.sz w) (hx : ev L x = some (.pointer (some ⟨b, o, none⟩)))
    (hc : ∀ w, W w → ∀ j v, (c.cs z)[j]? = some v → w.cell? ⟨b, o + j, none⟩ = some v) :
    Runs n L W P (⟨some d, .load t x, ty, pos, aft, none⟩) (.agg (c.cs z).toArray) := r_load_agg ha hz (c.len z) hx hc
theorem part_scalar {cells : List Value} {o : Nat} {c : Cd β} {y : β} {put : β → List Value} {v : Value} (l : Lens cells o c y put) (ha : ∀ w, (isAgg t).run P w = .ok false w) (hv : c.cs y = [v]) (w : World) : (part t cells.toArray o).run P w = .ok v w := by
  have := l.get 0 v (by rw [hv]; rfl)
  simp only [Nat.add_zero] at this
  simp [part, ha, this]
theorem part_agg {cells : List Value} {o : Nat} {c : Cd β} {y : β} {put : β → List Value} (l : Lens cells o c y put) (ha : ∀ w, (isAgg t).run P w = .ok true w) (hz : ∀ w, (sizeOf t).run P w = .ok c.sz w) (w : World) :
    (part t cells.toArray o).run P w = .ok (.agg (c.cs y).toArray) w := by
  obtain ⟨p, q, he, hl, _⟩ := l
  have : List.take c.sz (List.drop o cells) = c.cs y := by
    rw [he, ← hl, ← c.len y]
    simp
  simp [part, ha, hz, this]
theorem r_field {fs : Array Field} {f : Field} {j fo : Nat} {c : Cd α} {z : α} {v : Value} (hs : P.underlying s = some (.struct fs)) (hf : fs[j]? = some f) (hfo : f.offset = fo) (hx : ev L x = some (.agg (c.cs z).toArray))
    (hp : ∀ w, (part f.type (c.cs z).toArray fo).run P w = .ok v w) :
    Runs n L W P (⟨some d, .field s x j, ty, pos, aft, none⟩) v := fun a w h _ => by
  subst hfo
  simp only [execOp, h.eval hx]
  simp [Instr.field, run_underlying hs, hf, asAgg, hp]
theorem r_idxVal {m sz : Nat} {k : IntKind} {i : Int} {cells : List Value} {v : Value} (ht : P.underlying t = some (.array m e)) (hz : ∀ w, (sizeOf e).run P w = .ok sz w) (hx : ev L x = some (.agg cells.toArray)) (hy : ev L y = some (.int k i)) (hi : 0 ≤ i ∧ i < (m : Int))
    (hp : ∀ w, (part e cells.toArray (i.toNat * sz)).run P w = .ok v w) :
    Runs n L W P (⟨some d, .index t x y, ty, pos, aft, none⟩) v := fun a w h _ => by
  simp only [execOp, h.eval hx, h.eval hy]
  simp [Instr.index, asIntOf, run_underlying ht, hi.1, hi.2, hz, hp]
theorem at_store {b tb o : Nat} {cells : List Value} {c : Cd β} {u : β} {put : β → List Value} {z : β} {v : Value} {f : Ent → List Ent} {G : List Ent} (hu : Upd H (cellsE b cells tb) f G) (l : Lens cells o c u put)
    (hz : ∀ w, (sizeOf t).run P w = .ok c.sz w) (hx : ev L x = some (.pointer (some ⟨b, o, none⟩))) (hy : ev L y = some v) (hv : v.cells = (c.cs z).toArray)
    (k : At n L (Wd w0 (f (cellsE b (put z) tb))) (wpList P ops Q rest)) :
    At n L (Wd w0 H) (wpList P ops Q (⟨none, .store t x y, ty, pos, aft, none⟩ :: rest)) :=
  at_unit (W' := Wd w0 (f (cellsE b (put z) tb))) rfl rfl (fun a w h hw => by
    have hok : w.heap[b]? = some (.cells cells.toArray tb (0, 0)) := hw.ok hu.mem
    have hsz := l.size
    have hst := run_storeCells_at P b o tb (c.cs z) 0 cells.toArray w hok (by simp [c.len]; omega) (c.one z)
    simp only [Nat.add_zero] at hst
    have hput : (cells.toArray.toList.take o ++ c.cs z ++ cells.toArray.toList.drop (o + (c.cs z).length)).toArray = (put z).toArray := by
      rw [l.splice z, c.len]
    rw [hput] at hst
    refine ⟨w.setRow b (put z).toArray, ?_, hw.upd hu ?_ rfl rfl rfl (fun k hk hk' => ?_) ?_ fun k hk => .inl hk⟩
    · simp only [execOp, h.eval hx, h.eval hy]
      simp [Instr.storeAt, Instr.sureAddr, storeVar, hz, hv, c.len, hst]
    · exact Nat.le_of_eq (by simp [World.setRow])
    · exact setRow_other w b k _ (by intro e; exact hk' (by rw [e]; simp [cellsE]))
    · exact setRow_heap w b cells.toArray _ tb _ hok) k

/-! ### literals -/
theorem fill_step {place : Nat → Option (Nat × Nat)} {cells : List Value} {i o : Nat} {c : Cd β} {y z : β} {put : β → List Value} {v : Value} {ps : List (Nat × Value)} {r : Option (Array Value)}
    (hp : place i = some (o, c.sz)) (l : Lens cells o c y put) (hv : v.cells = (c.cs z).toArray) (k : Instr.fill place (put z).toArray ps = r) : Instr.fill place cells.toArray ((i, v) :: ps) = r := by
  have hs := l.size
  unfold Instr.fill
  simp only [hp, hv, List.size_toArray, c.len]
  rw [if_neg (by simp; omega)]
  have key : ∀ (zs : List Value) (pre post : List Value) (k : Nat), pre.length = o + k → zs.length ≤ post.length →
      (zs.zipIdx k).foldl (fun (cs : Array Value) (p : Value × Nat) => cs.setIfInBounds (o + p.2) p.1) (pre ++ post).toArray = (pre ++ zs ++ post.drop zs.length).toArray := by
    intro zs
    induction zs with
    | nil => intro pre post k _ _; simp
    | cons u zs ih =>
      intro pre post k hk hlen
      cases post with
      | nil => simp at hlen
      | cons q post =>
        simp only [List.zipIdx_cons, List.foldl_cons]
        have : (pre ++ q :: post).toArray.setIfInBounds (o + k) u = ((pre ++ [u]) ++ post).toArray := by
          rw [List.setIfInBounds_toArray, ← hk, List.set_append_right _ _ (Nat.le_refl _)]; simp
        rw [this, ih (pre ++ [u]) post (k + 1) (by simp; omega) (by simpa using hlen)]
        simp
  have e1 : cells = cells.take o ++ cells.drop o := (List.take_append_drop o cells).symm
  have h2 := key (c.cs z) (cells.take o) (cells.drop o) 0 (by simp; omega) (by simp [c.len]; omega)
  rw [← e1] at h2
  have h3 : (c.cs z).toArray.zipIdx.foldl (fun (cs : Array Value) (p : Value × Nat) => cs.setIfInBounds (o + p.2) p.1) cells.toArray = (put z).toArray := by
    have h4 : (c.cs z).toArray.zipIdx.toList = (c.cs z).zipIdx := by simp
    rw [← Array.foldl_toList, h4, h2, l.splice z]
    simp [c.len, Nat.add_comm]
  rw [show (fun (cs : Array Value) (x : Value × Nat) => match x with | (c, j) => cs.setIfInBounds (o + j) c) = (fun (cs : Array Value) (p : Value × Nat) => cs.setIfInBounds (o + p.2) p.1) from rfl]
  rw [h3]
  exact k
theorem r_build_struct {fs : Array Field} {places : Array (Nat × Nat)} {parts : List (Nat × Operand)} {vs : List (Nat × Value)} {z : Value} {zs cs : List Value} (hs : P.underlying t = some (.struct fs)) (hz : ∀ w, (zeroValue t).run P w = .ok z w) (hzc : z.cells = zs.toArray)
    (hpl : ∀ w, (fs.mapM fun f => (do pure (f.offset, ← sizeOf f.type) : Sem (Nat × Nat))).run P w = .ok places w) (hx : evp L parts = some vs)
    (hf : Instr.fill (places[·]?) zs.toArray vs = some cs.toArray) :
    Runs n L W P (⟨some d, .build t parts.toArray, ty, pos, aft, none⟩) (.agg cs.toArray) := fun a w h _ => by
  have hev := h.evalp hx
  simp only [execOp, List.map_toArray]
  rw [show List.map (fun (x : Nat × Operand) => match x with | (i, x) => (i, a.eval x)) parts = vs from hev]
  simp only [Instr.build, Sem.run_bind, hz, Result.andThen_ok, run_underlying hs, hzc, hpl, hf]
  rfl
theorem r_build_array {m sz : Nat} {parts : List (Nat × Operand)} {vs : List (Nat × Value)} {z : Value} {zs cs : List Value} (hs : P.underlying t = some (.array m e)) (hz : ∀ w, (zeroValue t).run P w = .ok z w) (hzc : z.cells = zs.toArray)
    (hsz : ∀ w, (sizeOf e).run P w = .ok sz w) (hx : evp L parts = some vs)
    (hf : Instr.fill (fun i => some (i * sz, sz)) zs.toArray vs = some cs.toArray) :
    Runs n L W P (⟨some d, .build t parts.toArray, ty, pos, aft, none⟩) (.agg cs.toArray) := fun a w h _ => by
  have hev := h.evalp hx
  simp only [execOp, List.map_toArray]
  rw [show List.map (fun (x : Nat × Operand) => match x with | (i, x) => (i, a.eval x)) parts = vs from hev]
  simp only [Instr.build, Sem.run_bind, hz, Result.andThen_ok, run_underlying hs, hzc, hsz, hf]
  rfl
end

/-! ### equality -/
/-- A value of this type as an operation has it: one cell, or all. -/
def vOf (agg : Bool) (cs : List Value) : Value := if agg then .agg cs.toArray else cs.headD undef
/-- '==' at a type answers whether the two are the same. -/
def Eqs [DecidableEq α] (P : Program) (t : TypeId) (c : Cd α) (agg : Bool) (k : Nat) : Prop :=
  ∀ d, k ≤ d → ∀ x y w, (Op.equalIn (d + 1) t (vOf agg (c.cs x)) (vOf agg (c.cs y))).run P w = .ok (decide (x = y)) w
theorem eqs_int {t : TypeId} {k : IntKind} (ht : P.underlying t = some (.int k)) : Eqs P t (cInt k) false 0 := fun d _ x y w => by
  have := run_equalIn_int (P := P) w d t k k x y ht
  show (Op.equalIn (d + 1) t (.int k x) (.int k y)).run P w = _
  rw [this]; congr 1
theorem eqs_bool {t : TypeId} (ht : P.underlying t = some .bool) : Eqs P t cBool false 0 := fun d _ x y w => by
  have := run_equalIn_bool ht d x y w
  show (Op.equalIn (d + 1) t (.bool x) (.bool y)).run P w = _
  rw [this]; congr 1
theorem eqs_str {t : TypeId} (ht : P.underlying t = some .string) : Eqs P t cStr false 0 := fun d _ x y w => by
  have := run_equalIn_string (P := P) w d t x y ht
  show (Op.equalIn (d + 1) t (.string x) (.string y)).run P w = _
  rw [this]; congr 1
  rw [Bool.eq_iff_iff, beq_iff_eq, decide_eq_true_eq]
  constructor
  · intro h
    rw [ByteArray.toList_eq, ByteArray.toList_eq] at h
    cases x; cases y; simp_all
  · rintro rfl; rfl
theorem part_vOf {t : TypeId} {agg : Bool} {cells : List Value} {o : Nat} {c : Cd β} {y : β} {put : β → List Value} (l : Lens cells o c y put) (ha : ∀ w, (isAgg t).run P w = .ok agg w) (hz : ∀ w, (sizeOf t).run P w = .ok c.sz w) (h1 : agg = true ∨ c.sz = 1) (w : World) :
    (part t cells.toArray o).run P w = .ok (vOf agg (c.cs y)) w := by
  cases agg with
  | true => exact part_agg l ha hz w
  | false =>
    have hs : c.sz = 1 := by simpa using h1
    obtain ⟨u, hu⟩ : ∃ u, c.cs y = [u] := by
      have := c.len y; rw [hs] at this
      exact List.length_eq_one_iff.1 this
    have := part_scalar (P := P) (t := t) (v := u) l ha hu w
    rw [this, hu]; rfl
/-- The parts of an array, one after the other. -/
theorem eqs_vec [DecidableEq α] {t e : TypeId} {c : Cd α} {m k : Nat} {hm : 0 < m} {agg : Bool} {i : TypeInfo} (ht : P.underlying t = some (.array m e)) (hi : P.info? e = some i) (hz : ∀ w, (sizeOf e).run P w = .ok c.sz w) (ha : ∀ w, (isAgg e).run P w = .ok agg w) (h1 : agg = true ∨ c.sz = 1) (h : Eqs P e c agg k) :
    Eqs P t (cVec c m hm) true (k + 1) := fun d hd x y w => by
  obtain ⟨d, rfl⟩ : ∃ d', d = d' + 1 := ⟨d - 1, by omega⟩
  have hcz : P.cellsOf e = c.sz := by
    have a := run_sizeOf (P := P) w hi
    have b := hz w
    rw [a] at b
    simpa using b
  have hpart : ∀ (v : Vector α m) (j : Nat) (hj : j < m) (w : World), (part e (c.all v.toList).toArray (j * c.sz)).run P w = .ok (vOf agg (c.cs v[j])) w := by
    intro v j hj w
    have l := @Lens.all α ⟨v[j]⟩ c v.toList j (by simp; exact hj)
    have hv : v.toList.getD j (@default α ⟨v[j]⟩) = v[j] := by simp [List.getD_eq_getElem?_getD, hj]
    rw [hv] at l
    exact part_vOf l ha hz h1 w
  have key : ∀ (is : List Nat), (∀ j ∈ is, j < m) → ∀ w, (Op.eqItems (d + 1) e c.sz (c.all x.toList).toArray (c.all y.toList).toArray is).run P w = .ok (decide (∀ j ∈ is, x[j]? = y[j]?)) w := by
    intro is
    induction is with
    | nil => intro _ w; simp [Op.eqItems]
    | cons j is ih =>
      intro hlt w
      have hj : j < m := hlt j (List.mem_cons_self ..)
      have ih' := ih (fun k hk => hlt k (List.mem_cons_of_mem _ hk)) w
      unfold Op.eqItems
      simp only [Sem.run_bind, hpart x j hj, hpart y j hj, Result.andThen_ok, h d (by omega)]
      by_cases hxy : x[j] = y[j]
      · simp only [hxy, decide_true, Bool.not_true, Bool.false_eq_true, if_false, ih']
        congr 1
        rw [decide_eq_decide]
        simp [hj, hxy]
      · have : ¬ ∀ k ∈ j :: is, x[k]? = y[k]? := fun hh => hxy (by have := hh j (List.mem_cons_self ..); simpa [hj] using this)
        simp [hxy, this, hj]
  show (Op.equalIn (d + 1 + 1) t (.agg (c.all x.toList).toArray) (.agg (c.all y.toList).toArray)).run P w = _
  rw [run_equalIn_array w (d + 1) _ _ ht hi, hcz, key _ (fun j hj => List.mem_range.1 hj) w]
  congr 1
  rw [decide_eq_decide]
  constructor
  · intro hh
    apply Vector.ext
    intro j hj
    have := hh j (List.mem_range.2 hj)
    simpa [hj] using this
  · rintro rfl; simp
theorem eqf_nil {d : Nat} {xs ys : Array Value} {w : World} : (Op.eqFields d xs ys []).run P w = .ok true w := rfl
theorem eqf_cons [DecidableEq β] {f : Field} {fs : List Field} {d k o : Nat} {agg q : Bool} {c : Cd β} {cx cy : List Value} {a b : β} {px py : β → List Value} {w : World} (lx : Lens cx o c a px) (ly : Lens cy o c b py) (hn : (f.name == "_") = false) (ho : f.offset = o)
    (ha : ∀ w, (isAgg f.type).run P w = .ok agg w) (hz : ∀ w, (sizeOf f.type).run P w = .ok c.sz w) (h1 : agg = true ∨ c.sz = 1) (he : Eqs P f.type c agg k) (hd : k ≤ d) (hr : (Op.eqFields (d + 1) cx.toArray cy.toArray fs).run P w = .ok q w) :
    (Op.eqFields (d + 1) cx.toArray cy.toArray (f :: fs)).run P w = .ok (decide (a = b) && q) w := by
  have hn' : f.name ≠ "_" := by simpa using hn
  subst ho
  unfold Op.eqFields
  simp only [if_pos hn', Sem.run_bind, part_vOf lx ha hz h1, part_vOf ly ha hz h1, Result.andThen_ok, he d hd]
  by_cases hab : a = b
  · simp [hab, hr]
  · simp [hab]
theorem r_eqagg [DecidableEq α] {op : BinOp} {xt yt : TypeId} {x y : Operand} {c : Cd α} {a b : α} {k d : Nat} {ty : TypeId} {pos : String} {aft : Array Edge} {v : Value} (he : Eqs P xt c true k) (hk : Nat.ble k 9999 = true) (hm : P.eqGuardType P.depth xt = false) (hx : ev L x = some (.agg (c.cs a).toArray)) (hy : ev L y = some (.agg (c.cs b).toArray))
    (ho : op = .eql ∨ op = .neq) (hv : (match op with | .eql => Value.bool (decide (a = b)) | _ => .bool (!decide (a = b))) = v) :
    Runs n L W P ⟨some d, .binOp op xt x y yt, ty, pos, aft, none⟩ v := fun ac w h _ => by
  subst hv
  have h1 : (Op.equal xt (.agg (c.cs a).toArray) (.agg (c.cs b).toArray)).run P w = .ok (decide (a = b)) w := he 9999 (by simpa using hk) a b w
  simp only [execOp, h.eval hx, h.eval hy, Sem.run_bind, run_eqGuard_agg w op xt x y _ _ hm, Result.andThen_ok]
  rcases ho with rfl | rfl <;> simp only [binOp, Sem.run_bind, h1, Result.andThen_ok] <;> rfl

/-! ### results that lie in variables -/
def resv (tmps : Array Value) : ResultVar → Sem Value
  | .tmp t => pure (tmps.getD t undef)
  | .cell a t => do loadVar t (← asAddr (tmps.getD a undef))
def ResOne (n : Nat) (L : List (Nat × Value)) (W : World → Prop) (P : Program) (r : ResultVar) (v : Value) : Prop := ∀ a w, Env n L a → W w → (resv a.tmps r).run P w = .ok v w
theorem res_tmp {t : Nat} {v : Value} (h : lk L t = some v) : ResOne n L W P (.tmp t) v := fun a w he _ => by
  simp [resv, he.vals t v h]
theorem res_cell {q t b : Nat} {cells : List Value} {tb : Nat} {c : Cd β} {y : β} {put : β → List Value} {f : Ent → List Ent} {G : List Ent} (hq : lk L q = some (.pointer (some ⟨b, 0, none⟩))) (hu : Upd H (cellsE b cells tb) f G) (l : Lens cells 0 c y put) {agg : Bool}
    (ha : ∀ w, (isAgg t).run P w = .ok agg w) (hz : ∀ w, (sizeOf t).run P w = .ok c.sz w) (h1 : agg = true ∨ c.sz = 1) : ResOne n L (Wd w0 H) P (.cell q t) (vOf agg (c.cs y)) := fun a w he hw => by
  have hc := lens_cell hu l w hw
  simp only [resv, he.vals q _ hq]
  cases agg with
  | true =>
    have := run_loadCells_list (P := P) (w := w) ⟨b, 0, none⟩ (c.cs y) (fun j v hv => by rw [Addr.add_lit]; exact hc j v hv)
    rw [c.len] at this
    simp [loadVar, ha, hz, this, vOf, asAddr]
  | false =>
    have hs : c.sz = 1 := by simpa using h1
    obtain ⟨u, hu⟩ : ∃ u, c.cs y = [u] := by
      have := c.len y; rw [hs] at this
      exact List.length_eq_one_iff.1 this
    have h0 := hc 0 u (by rw [hu]; rfl)
    simp only [Nat.add_zero] at h0
    simp [loadVar, ha, load, Sem.run, h0, vOf, asAddr, hu]
theorem at_res1 {fn : Func} {R : Ending → World → Prop} {r : ResultVar} {v : Value} (hr : fn.results = #[r]) (h : ResOne n L W P r v) (hR : ∀ w, W w → R (.returned v) w) : At n L W (bodyPost P fn R .ret) := fun a w he hw => by
  refine ⟨he.defs, v, ?_, hR w hw⟩
  have := h a w he hw
  show (do let vs ← fn.results.mapM (resv a.tmps); pure (if h : vs.size = 1 then vs[0] else .tuple vs) : Sem Value).run P w = _
  rw [hr]; simp [this]
theorem at_res2 {fn : Func} {R : Ending → World → Prop} {r s : ResultVar} {v u : Value} (hr : fn.results = #[r, s]) (h : ResOne n L W P r v) (h2 : ResOne n L W P s u) (hR : ∀ w, W w → R (.returned (.tuple #[v, u])) w) : At n L W (bodyPost P fn R .ret) := fun a w he hw => by
  refine ⟨he.defs, _, ?_, hR w hw⟩
  have := h a w he hw
  have := h2 a w he hw
  show (do let vs ← fn.results.mapM (resv a.tmps); pure (if h : vs.size = 1 then vs[0] else .tuple vs) : Sem Value).run P w = _
  rw [hr]; simp [*]
theorem at_res3 {fn : Func} {R : Ending → World → Prop} {r s t : ResultVar} {v u x : Value} (hr : fn.results = #[r, s, t]) (h : ResOne n L W P r v) (h2 : ResOne n L W P s u) (h3 : ResOne n L W P t x) (hR : ∀ w, W w → R (.returned (.tuple #[v, u, x])) w) : At n L W (bodyPost P fn R .ret) := fun a w he hw => by
  refine ⟨he.defs, _, ?_, hR w hw⟩
  have := h a w he hw
  have := h2 a w he hw
  have := h3 a w he hw
  show (do let vs ← fn.results.mapM (resv a.tmps); pure (if h : vs.size = 1 then vs[0] else .tuple vs) : Sem Value).run P w = _
  rw [hr]; simp [*]

/-! ### an array as a slice, a slice as an array -/
theorem vec_row {c : Cd α} {m b t : Nat} {hm : 0 < m} {v : Vector α m} {w : World} (h : (cellsE b ((cVec c m hm).cs v) t).ok w) : Row c w (some ⟨b, 0, none⟩) m v.toList := by
  have := cells_row (c := c) (ys := v.toList) h
  simpa using this
theorem r_slice_arr {b m sz d : Nat} {t e : TypeId} {x : Operand} {ty : TypeId} {pos : String} {aft : Array Edge} (ht : P.underlying t = some (.array m e)) (hz : ∀ w, (sizeOf e).run P w = .ok sz w) (hx : ev L x = some (.pointer (some ⟨b, 0, none⟩))) :
    Runs n L W P (⟨some d, .slice t x none none none, ty, pos, aft, none⟩) (.slice (some ⟨b, 0, none⟩) m m) := fun a w h _ => by
  simp only [execOp, h.eval hx]
  by_cases h0 : m = 0
  · subst h0; simp [Instr.sliceAt, Instr.sureAddr, Instr.sliceBounds, run_underlying ht, hz]
  · simp [Instr.sliceAt, Instr.sureAddr, Instr.sliceBounds, run_underlying ht, hz, h0, Addr.add]
/-- The first m of a row as an array. -/
def lvec [Inhabited α] (m : Nat) (xs : List α) : Vector α m := Vector.ofFn fun i => xs.getD i.1 default
theorem lvec_toList [Inhabited α] (m : Nat) (xs : List α) (h : m ≤ xs.length) : (lvec m xs).toList = xs.take m := by
  apply List.ext_getElem?
  intro i
  by_cases hi : i < m
  · rw [List.getElem?_take, if_pos hi, List.getElem?_eq_getElem (by simp; exact hi), List.getElem?_eq_getElem (by omega)]
    simp [lvec, List.getD_eq_getElem?_getD, List.getElem?_eq_getElem (show i < xs.length by omega)]
  · rw [List.getElem?_take, if_neg hi, List.getElem?_eq_none (by simp; omega)]
theorem r_arrptr {d m : Nat} {t e : TypeId} {x : Operand} {p : Option Addr} {len cap : Nat} {ty : TypeId} {pos : String} {aft : Array Edge} (ht : P.underlying t = some (.array m e)) (hx : ev L x = some (.slice p len cap)) (hl : m ≤ len) :
    Runs n L W P (⟨some d, .sliceToArrayPointer t x, ty, pos, aft, none⟩) (.pointer p) := fun a w h _ => by
  have hl' : ¬ len < m := by omega
  simp only [execOp, h.eval hx]
  simp [Instr.arrayAt, run_underlying ht, hl']
theorem row_lvec [Inhabited α] {c : Cd α} {p : Option Addr} {cap m b o : Nat} {hm : 0 < m} {xs : List α} {w : World} (h : Row c w p cap xs) (hl : m ≤ xs.length) (hp : p = some ⟨b, o, none⟩) : ∀ j v, ((cVec c m hm).cs (lvec m xs))[j]? = some v → w.cell? ⟨b, o + j, none⟩ = some v := fun j v hv => by
  rcases h.2 with h0 | ⟨b', o', hp', hc⟩
  · subst h0; simp at hl; omega
  · rw [hp] at hp'; cases hp'
    refine hc j v ?_
    have : c.all xs = c.all (xs.take m) ++ c.all (xs.drop m) := by rw [← c.all_append, List.take_append_drop]
    have hv' : (c.all (xs.take m))[j]? = some v := by rw [← lvec_toList m xs hl]; exact hv
    rw [this, List.getElem?_append_left (List.getElem?_eq_some_iff.1 hv').1]
    exact hv'
theorem r_slice_vec {b m sz d : Nat} {t e : TypeId} {x : Operand} {ty : TypeId} {pos : String} {aft : Array Edge} (v : Vector α m) (ht : P.underlying t = some (.array m e)) (hz : ∀ w, (sizeOf e).run P w = .ok sz w) (hx : ev L x = some (.pointer (some ⟨b, 0, none⟩))) :
    Runs n L W P (⟨some d, .slice t x none none none, ty, pos, aft, none⟩) (.slice (some ⟨b, 0, none⟩) v.toList.length m) := by
  rw [Vector.length_toList]; exact r_slice_arr ht hz hx
theorem run_eq_struct {d : Nat} {t : TypeId} {fs : Array Field} {xs ys : Array Value} {w : World} (ht : P.underlying t = some (.struct fs)) (hp : P.stoodInHeld t = false) :
    (Op.equalIn (d + 1) t (.agg xs) (.agg ys)).run P w = (Op.eqFields d xs ys fs.toList).run P w := by
  have hf : P.fieldsOf t = fs := by simp [Program.fieldsOf, ht]
  rw [run_equalIn_struct w d t xs ys (by rw [hf]; exact ht) hp, hf]
/-- Numbers as bytes. -/
def unb (xs : List Int) : List UInt8 := xs.map fun x => x.toNat.toUInt8
theorem bytesOf_row {p : Option Addr} {cap : Nat} {xs : List Int} {w : World} (h : Row (cInt .u8) w p cap xs) : (Extern.Bytes.bytesOf (.slice p xs.length cap)).run P w = .ok ⟨(unb xs).toArray⟩ w := by
  rcases h.2 with h0 | ⟨b, o, hp, hc⟩
  · subst h0; cases p <;> rfl
  · subst hp
    have := Lib.run_loadBytesX (P := P) (w := w) xs ⟨b, o, none⟩ .empty (fun j x hx => by
      rw [Addr.add_lit]
      have := Cd.all_get (cInt .u8) xs j 0 x hx (by decide)
      refine hc j _ ?_
      have e : j * (cInt IntKind.u8).sz + 0 = j := by show j * 1 + 0 = j; omega
      rw [e] at this
      rw [this]; rfl)
    show (Extern.Bytes.loadBytes _ _ _).run P w = _
    rw [this]
    simp [unb, Lib.bytesOf]
theorem r_cmp {d : Nat} {f : FuncId} {fn : Func} {x y : Operand} {ats : Array TypeId} {ty : TypeId} {pos : String} {aft : Array Edge} {p q : Option Addr} {pc qc : Nat} {xs ys : List Int} (hf : P.funcs[f]? = some fn) (hnm : (fn.name == "runtime.NumGoroutine") = false) (hb : fn.body.isNone = true)
    (hn : Extern.findNext fn = none) (he : Extern.find fn = some Extern.BytealgCompare.compare) (hx : ev L x = some (.slice p xs.length pc)) (hy : ev L y = some (.slice q ys.length qc))
    (h1 : ∀ w, W w → Row (cInt .u8) w p pc xs) (h2 : ∀ w, W w → Row (cInt .u8) w q qc ys) :
    Runs n L W P (⟨some d, .call { callee := .value (.func f), args := #[x, y], argTypes := ats }, ty, pos, aft, none⟩) (.int .i64 (Lib.compareBytes (unb xs) (unb ys))) := fun a w h hw => by
  rw [execOp_call_go]
  have h3 := bytesOf_row (P := P) (h1 w hw)
  have h4 := bytesOf_row (P := P) (h2 w hw)
  have := run_callFunc_extern (P := P) hf hnm hb hn he #[.slice p xs.length pc, .slice q ys.length qc] w
  have e1 : (#[] ++ Array.map a.eval #[x, y] ++ #[] : Array Value) = #[.slice p xs.length pc, .slice q ys.length qc] := by simp [h.eval hx, h.eval hy]
  rw [e1, this]
  show (Sem.run P (do pure (goInt (Extern.BytealgCompare.cmp (← Extern.Bytes.bytesOf (.slice p xs.length pc)) (← Extern.Bytes.bytesOf (.slice q ys.length qc))))) w).andThen _ = _
  simp only [Sem.run_bind, h3, h4, Result.andThen_ok, Sem.run_pure, Lib.cmp_eq]
  rfl
/-- A part of an element of a row. -/
theorem row_lens {α β : Type} [Inhabited α] {w0 : World} {W : World → Prop} {c : Cd α} {c' : Cd β} {y : β} {put : β → List Value} {ofs : Nat} {p : Option Addr} {cap : Nat} {xs : List α} {i : Int} {b o : Nat} (hW : ∀ w, W w → Below w0.heap.size w0 w) (hrow : Row c w0 p cap xs) (hi : 0 ≤ i ∧ i < xs.length) (hp : p = some ⟨b, o, none⟩)
    (l : Lens (c.cs (lget xs i)) ofs c' y put) : ∀ w, W w → ∀ j v, (c'.cs y)[j]? = some v → w.cell? ⟨b, o + i.toNat * c.sz + ofs + j, none⟩ = some v := fun w hw j v hv => by
  rw [Nat.add_assoc (o + i.toNat * c.sz)]
  exact row_cell hW hrow hi hp w hw (ofs + j) v (l.get j v hv)
theorem row_lens0 {α β : Type} [Inhabited α] {w0 : World} {W : World → Prop} {c : Cd α} {c' : Cd β} {y : β} {v : Value} {put : β → List Value} {ofs : Nat} {p : Option Addr} {cap : Nat} {xs : List α} {i : Int} {b o : Nat} (hW : ∀ w, W w → Below w0.heap.size w0 w) (hrow : Row c w0 p cap xs) (hi : 0 ≤ i ∧ i < xs.length) (hp : p = some ⟨b, o, none⟩)
    (l : Lens (c.cs (lget xs i)) ofs c' y put) (hv : c'.cs y = [v]) : ∀ w, W w → w.cell? ⟨b, o + i.toNat * c.sz + ofs, none⟩ = some v := fun w hw => row_lens hW hrow hi hp l w hw 0 v (by rw [hv]; rfl)
end Go.Proofs.Ythccncpephpdjaa.E
