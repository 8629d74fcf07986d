/- A call walked through where it stands: what the callee does, and then, at each of its ends, what the caller goes on to do. -/
import Derived.Test.YtkkmmpofdcccmaaGreatDoorR
import Derived.Test.YtkkmmpofdcccmaaGreatDoorG
set_option linter.unusedVariables false
namespace Go.Proofs.YtkkmmpofdcccmaaGreatDoor.E
open Go.RowKit
variable {n m : Nat} {L Lc : List (Nat × Value)} {W : World → Prop} {P : Program} {ops : Array Oper} {Q : Exit → Act → World → Prop} {rest : List Oper}
theorem calls_enterW {f : FuncId} {fn : Func} {c : Code} {l : List Value} {w : World} {R : Ending → World → Prop} (hf : P.funcs[f]? = some fn) (hb : fn.body = some c) (hn : fn.ntmps = n) (hl : Nat.ble l.length n = true)
    (k : At n (rep l 0) W (c.wp P (bodyPost P fn R))) (hw : W w) : Calls P f l.toArray w R := by
  refine calls_of_wp hf hb ?_
  have hl' : l.length ≤ n := by simpa using hl
  refine k _ _ ⟨by simp [hn]; omega, rfl, fun t v hv => ?_⟩ hw
  obtain ⟨_, h2⟩ := rep_lk l 0 t v hv
  simp only [Nat.sub_zero] at h2
  simp only [Array.getD_eq_getD_getElem?]
  have : t < l.length := (List.getElem?_eq_some_iff.1 h2).1
  rw [Array.getElem?_append_left (by simpa using this)]
  simp [h2]
/-- What the caller goes on to do with the callee's value. -/
def RK (n d : Nat) (Lc : List (Nat × Value)) (P : Program) (ops : Array Oper) (Q : Exit → Act → World → Prop) (rest : List Oper) : Ending → World → Prop :=
  fun e w' => ∃ v, e = .returned v ∧ ∀ a, Env n ((d, v) :: Lc) a → wpList P ops Q rest a w'
theorem at_callI {d : Nat} {fid : FuncId} {fn : Func} {c : Code} {xs : List Operand} {ats : Array TypeId} {ty : TypeId} {pos : String} {aft : Array Edge} {l : List Value} (hf : P.funcs[fid]? = some fn) (hc : fn.body = some c) (hnm : (fn.name == "runtime.NumGoroutine") = false) (hm : fn.ntmps = m) (hx : evs L xs = some l) (hdn : Nat.blt d n = true) (hl : Nat.ble l.length m = true)
    (k : At m (rep l 0) W (c.wp P (bodyPost P fn (RK n d L P ops Q rest)))) :
    At n L W (wpList P ops Q (⟨some d, .call { callee := .value (.func fid), args := xs.toArray, argTypes := ats }, ty, pos, aft, none⟩ :: rest)) :=
  at_call (W' := fun v w' => ∀ a, Env n ((d, v) :: L) a → wpList P ops Q rest a w') hf (by rw [hc]; rfl) hnm hx hdn (fun w hw => (calls_enterW hf hc hm hl k hw)) fun v a w h hw => hw a h
variable {d : Nat} {fn : Func}
theorem at_retI1 {t : Nat} {v : Value} (hr : fn.results = #[.tmp t]) (hv : lk L t = some v) (k : At n ((d, v) :: Lc) W (wpList P ops Q rest)) : At m L W (bodyPost P fn (RK n d Lc P ops Q rest) .ret) :=
  at_return1 hr hv fun w hw => ⟨v, rfl, fun a h => k a w h hw⟩
theorem at_retI2 {t u : Nat} {v v' : Value} (hr : fn.results = #[.tmp t, .tmp u]) (hv : lk L t = some v) (hv' : lk L u = some v') (k : At n ((d, .tuple #[v, v']) :: Lc) W (wpList P ops Q rest)) : At m L W (bodyPost P fn (RK n d Lc P ops Q rest) .ret) :=
  at_return2 hr hv hv' fun w hw => ⟨_, rfl, fun a h => k a w h hw⟩
theorem at_retI3 {t u s : Nat} {v v' v'' : Value} (hr : fn.results = #[.tmp t, .tmp u, .tmp s]) (hv : lk L t = some v) (hv' : lk L u = some v') (hv'' : lk L s = some v'') (k : At n ((d, .tuple #[v, v', v'']) :: Lc) W (wpList P ops Q rest)) : At m L W (bodyPost P fn (RK n d Lc P ops Q rest) .ret) :=
  at_return3 hr hv hv' hv'' fun w hw => ⟨_, rfl, fun a h => k a w h hw⟩
theorem at_retI0 (hr : fn.results = #[]) (k : At n ((d, .tuple #[]) :: Lc) W (wpList P ops Q rest)) : At m L W (bodyPost P fn (RK n d Lc P ops Q rest) .normal) :=
  at_return0 hr fun w hw => ⟨_, rfl, fun a h => k a w h hw⟩
theorem at_retI0' (hr : fn.results = #[]) (k : At n ((d, .tuple #[]) :: Lc) W (wpList P ops Q rest)) : At m L W (bodyPost P fn (RK n d Lc P ops Q rest) .ret) :=
  at_return0' hr fun w hw => ⟨_, rfl, fun a h => k a w h hw⟩
theorem at_resI1 {r : ResultVar} {v : Value} (hr : fn.results = #[r]) (h : ResOne m L W P r v) (k : At n ((d, v) :: Lc) W (wpList P ops Q rest)) : At m L W (bodyPost P fn (RK n d Lc P ops Q rest) .ret) :=
  at_res1 hr h fun w hw => ⟨_, rfl, fun a h => k a w h hw⟩
theorem at_resI2 {r s : ResultVar} {v u : Value} (hr : fn.results = #[r, s]) (h : ResOne m L W P r v) (h2 : ResOne m L W P s u) (k : At n ((d, .tuple #[v, u]) :: Lc) W (wpList P ops Q rest)) : At m L W (bodyPost P fn (RK n d Lc P ops Q rest) .ret) :=
  at_res2 hr h h2 fun w hw => ⟨_, rfl, fun a h => k a w h hw⟩
/-! ### functions as values, with what they have caught -/
section
variable {f : FuncId} {dst : Option Nat} {x : Operand} {xs : List Operand} {ats : Array TypeId} {ty : TypeId} {pos : String} {aft : Array Edge} {g : Option (Nat × Bool)} {caps : List Value}
theorem exec_callee {a : Act} (he : a.eval x = .func (.func f) #[] caps.toArray) :
    execOp a.eval (⟨dst, .call { callee := .value x, args := xs.toArray, argTypes := ats }, ty, pos, aft, g⟩ : Oper) = execOp a.eval (⟨dst, .call { callee := .value (.func f), args := (xs ++ caps.map Operand.const).toArray, argTypes := ats }, ty, pos, aft, g⟩ : Oper) := by
  have e2 : a.eval (.func f) = .func (.func f) #[] #[] := rfl
  have e3 : (caps.map Operand.const).map a.eval = caps := by
    rw [List.map_map]
    have : (a.eval ∘ Operand.const) = id := funext fun v => rfl
    rw [this, List.map_id]
  simp [execOp, resolve, he, e2, invoke, Deferred.ofValue, e3]
theorem at_calleeC (hx : ev L x = some (.func (.func f) #[] caps.toArray))
    (k : At n L W (wpList P ops Q (⟨dst, .call { callee := .value (.func f), args := (xs ++ caps.map Operand.const).toArray, argTypes := ats }, ty, pos, aft, g⟩ :: rest))) :
    At n L W (wpList P ops Q (⟨dst, .call { callee := .value x, args := xs.toArray, argTypes := ats }, ty, pos, aft, g⟩ :: rest)) := fun a w h hw => by
  have hk := k a w h hw
  have e1 := exec_callee (dst := dst) (xs := xs) (ats := ats) (ty := ty) (pos := pos) (aft := aft) (g := g) (h.eval hx)
  have e3 : ∀ K Q', Oper.wp P (⟨dst, .call { callee := .value x, args := xs.toArray, argTypes := ats }, ty, pos, aft, g⟩ : Oper) a w K Q' = Oper.wp P (⟨dst, .call { callee := .value (.func f), args := (xs ++ caps.map Operand.const).toArray, argTypes := ats }, ty, pos, aft, g⟩ : Oper) a w K Q' := fun K Q' => by
    unfold Oper.wp
    rw [e1]; rfl
  have e4 : Oper.asks P (⟨dst, .call { callee := .value x, args := xs.toArray, argTypes := ats }, ty, pos, aft, g⟩ : Oper) a w = Oper.asks P (⟨dst, .call { callee := .value (.func f), args := (xs ++ caps.map Operand.const).toArray, argTypes := ats }, ty, pos, aft, g⟩ : Oper) a w := by
    unfold Oper.asks
    rw [e1]
  unfold wpList at hk ⊢
  simp only [e3, e4]
  exact hk
theorem atq_calleeC {Q' : Act → Prop} (hx : ev L x = some (.func (.func f) #[] caps.toArray))
    (k : AtQ n L (wpQuiet P ops W Q' (⟨dst, .call { callee := .value (.func f), args := (xs ++ caps.map Operand.const).toArray, argTypes := ats }, ty, pos, aft, g⟩ :: rest))) :
    AtQ n L (wpQuiet P ops W Q' (⟨dst, .call { callee := .value x, args := xs.toArray, argTypes := ats }, ty, pos, aft, g⟩ :: rest)) := fun a h => by
  have hk := k a h
  have e1 := exec_callee (dst := dst) (xs := xs) (ats := ats) (ty := ty) (pos := pos) (aft := aft) (g := g) (h.eval hx)
  unfold wpQuiet Oper.quiet Oper.quietAt at hk ⊢
  simp only [e1]
  exact hk
end
theorem r_makeFunc {d : Nat} {f : FuncId} {ty : TypeId} {pos : String} {aft : Array Edge} {xs : List Operand} {vs : List Value} (hx : evs L xs = some vs) :
    Runs n L W P ⟨some d, .makeFunc (.func f) #[] xs.toArray, ty, pos, aft, none⟩ (.func (.func f) #[] vs.toArray) := fun a w h _ => by
  have := h.evals hx
  simp [execOp, Instr.makeFunc, this]
/-! ### structs of such values, cell by cell -/
theorem r_fieldR {d s j fo : Nat} {x : Operand} {ty : TypeId} {pos : String} {aft : Array Edge} {fs : Array Field} {f : Field} {cells : List Value} {v : Value} (hs : P.underlying s = some (.struct fs)) (hf : fs[j]? = some f) (hfo : f.offset = fo) (ha : ∀ w, (isAgg f.type).run P w = .ok false w) (hx : ev L x = some (.agg cells.toArray)) (hc : cells[fo]? = some v) :
    Runs n L W P (⟨some d, .field s x j, ty, pos, aft, none⟩) v := fun a w h _ => by
  subst hfo
  simp only [execOp, h.eval hx]
  simp [Instr.field, run_underlying hs, hf, asAgg, part, ha, hc]
def cK (k : Nat) (hk : 0 < k) : Cd { l : List Value // l.length = k ∧ ∀ v ∈ l, v.oneCell' = true } := ⟨k, fun x => x.1, fun x => x.2.1, fun x => x.2.2, hk⟩
theorem at_storeAll {w0 : World} {H : List Ent} {b tb k : Nat} {t : TypeId} {x y : Operand} {ty : TypeId} {pos : String} {aft : Array Edge} {cells cs : List Value} {v : Value} {f : Ent → List Ent} {G : List Ent} (hu : Upd H (cellsE b cells tb) f G) (hk : 0 < k) (h1 : cells.length = k ∧ ∀ v ∈ cells, v.oneCell' = true) (h2 : cs.length = k ∧ ∀ v ∈ cs, v.oneCell' = true) (hz : ∀ w, (sizeOf t).run P w = .ok k w)
    (hx : ev L x = some (.pointer (some ⟨b, 0, none⟩))) (hy : ev L y = some v) (hv : v.cells = cs.toArray) (kk : At n L (Wd w0 (f (cellsE b cs tb))) (wpList P ops Q rest)) :
    At n L (Wd w0 H) (wpList P ops Q (⟨none, .store t x y, ty, pos, aft, none⟩ :: rest)) :=
  at_store (c := cK k hk) (u := ⟨cells, h1⟩) (put := (cK k hk).cs) (z := ⟨cs, h2⟩) hu (Lens.whole (cK k hk) ⟨cells, h1⟩) hz hx hy hv kk
/-- A variable that a function value has caught, read. -/
theorem cap_cell {w0 w : World} {b : Nat} {v : Value} (h : w0.cell? ⟨b, 0, none⟩ = some v) (hb : Below w0.heap.size w0 w) : w.cell? ⟨b, 0, none⟩ = some v := by
  rw [hb.cell (p := ⟨b, 0, none⟩) (World.block_lt_of_cell? w0 _ h)]; exact h
theorem Sep.apart {B : Nat} {E : Ent} {H G : List Ent} {f : Ent → List Ent} {w : World} (hu : Upd H E f G) (h : Sep B H w) : ∀ k ∈ E.fp, ∀ F ∈ G, k ∉ F.fp := by
  induction hu with
  | z => exact fun k hk F hF => (h.2.1 k hk).2.2 F hF
  | @s F0 E H f G hu ih =>
    intro k hk F hF
    rcases List.mem_cons.1 hF with rfl | hF
    · exact fun hk' => (h.2.1 k hk').2.2 E hu.mem hk
    · exact ih h.2.2 k hk F hF
/-- Two variables of the call's own, newly made by a call and handed back in what a function value has caught. -/
theorem at_callC2 {w0 : World} {H : List Ent} {d' : Nat} {ty : TypeId} {pos : String} {aft : Array Edge} {fid : FuncId} {fn : Func} {xs : List Operand} {ats : Array TypeId} {l : List Value} {V : Nat → Nat → Value} {c1 c2 : List Value} {t1 t2 : Nat} (hf : P.funcs[fid]? = some fn) (hb : fn.body.isSome = true) (hnm : (fn.name == "runtime.NumGoroutine") = false)
    (hx : evs L xs = some l) (hdn : Nat.blt d' n = true) (hc : ∀ w, Wd w0 H w → Calls P fid l.toArray w fun en w' => ∃ b1 b2, en = .returned (V b1 b2) ∧ ((cellsE b1 c1 t1).ok w' ∧ (cellsE b2 c2 t2).ok w' ∧ (w.heap.size ≤ b1 ∧ b1 < w'.heap.size) ∧ (w.heap.size ≤ b2 ∧ b2 < w'.heap.size) ∧ b1 ≠ b2) ∧ Below w.heap.size w w')
    (kk : ∀ b1 b2, At n ((d', V b1 b2) :: L) (Wd w0 (cellsE b1 c1 t1 :: cellsE b2 c2 t2 :: H)) (wpList P ops Q rest)) :
    At n L (Wd w0 H) (wpList P ops Q (⟨some d', .call { callee := .value (.func fid), args := xs.toArray, argTypes := ats }, ty, pos, aft, none⟩ :: rest)) :=
  at_call (W' := fun u w' => ∃ b1 b2, u = V b1 b2 ∧ Wd w0 (cellsE b1 c1 t1 :: cellsE b2 c2 t2 :: H) w') hf hb hnm hx hdn (fun w hw => (hc w hw).mono fun en w' ⟨b1, b2, he, ⟨o1, o2, l1, l2, hne⟩, hw'⟩ => ⟨_, he, b1, b2, rfl, by
    have h2 : Wd w0 (cellsE b2 c2 t2 :: H) w' := hw.push hw' o2 (by intro k hk; simp [cellsE] at hk; subst hk; exact l2)
    refine ⟨h2.below, o1, fun k hk => ?_, h2.sep⟩
    simp [cellsE] at hk; subst hk
    refine ⟨Nat.le_trans hw.below.size l1.1, l1.2, fun E' hE' hk' => ?_⟩
    rcases List.mem_cons.1 hE' with rfl | hE'
    · simp [cellsE] at hk'; exact hne hk'
    · have := (hw.fp hE' _ hk').2; omega⟩) fun u a w h hw => by
    obtain ⟨b1, b2, rfl, hw⟩ := hw
    exact kk b1 b2 a w h hw
theorem Own.of_cells {α : Type} {w0 w : World} {H : List Ent} {c : Cd α} {e : TypeId} {b : Nat} {xs : List α} (hw : Wd w0 H w) (hm : cellsE b (c.all xs) e ∈ H) (hl : Nat.ble xs.length maxLen = true) : Own c e w0.heap.size w (some ⟨b, 0, none⟩) xs.length xs :=
  ⟨c.all_len xs, .inr ⟨b, xs.length, (c.all xs).toArray, rfl, (hw.fp hm b (by simp [cellsE])).1, hw.ok hm, Nat.le_refl _, Nat.le_of_ble_eq_true hl, by simp [c.all_len], by rw [← c.all_len xs]; simp⟩⟩
/-- A package variable that is an array, as a row. -/
theorem glob_row {α : Type} {w : World} {name : String} {g m : Nat} {c : Cd α} {hm : 0 < m} {v : Vector α m} (h : Gv P w name (cVec c m hm) v) (hg : P.globalNamed name = some g) : Row c w (some ⟨g, 0, none⟩) m v.toList :=
  ⟨by simp, .inr ⟨g, 0, rfl, fun j u hu => by rw [Nat.zero_add]; exact h.cell hg j u hu⟩⟩
end Go.Proofs.YtkkmmpofdcccmaaGreatDoor.E
