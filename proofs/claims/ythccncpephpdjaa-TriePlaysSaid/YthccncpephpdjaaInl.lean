/- A call walked through where it stands: what the callee does, and then, at each of its ends, what the caller goes on to do. -/
import Derived.Test.YthccncpephpdjaaR
set_option linter.unusedVariables false
namespace Go.Proofs.Ythccncpephpdjaa.E
open Go.RowKit
variable {n m : Nat} {L Lc : List (Nat × Value)} {W : World → Prop} {P : Program} {ops : Array Oper} {Q : Exit → Act → World → Prop} {rest : List Oper}
theorem calls_enterW {f : FuncId} {fn : Func} {c : Code} {l : List Value} {w : World} {R : Ending → World → Prop} (hf : P.funcs[f]? = some fn) (hb : fn.body = some c) (hn : fn.ntmps = n) (hl : Nat.ble l.length n = true)
    (k : At n (rep l 0) W (c.wp P (bodyPost P fn R))) (hw : W w) : Calls P f l.toArray w R := by
  refine calls_of_wp hf hb ?_
  have hl' : l.length ≤ n := by simpa using hl
  refine k _ _ ⟨by simp [hn]; omega, rfl, fun t v hv => ?_⟩ hw
  obtain ⟨_, h2⟩ := rep_lk l 0 t v hv
  simp only [Nat.sub_zero] at h2
  simp only [Array.getD_eq_getD_getElem?]
  have : t < l.length := (List.getElem?_eq_some_iff.1 h2).1
  rw [Array.getElem?_append_left (by simpa using this)]
  simp [h2]
/-- What the caller goes on to do with the callee's value. -/
def RK (n d : Nat) (Lc : List (Nat × Value)) (P : Program) (ops : Array Oper) (Q : Exit → Act → World → Prop) (rest : List Oper) : Ending → World → Prop :=
  fun e w' => ∃ v, e = .returned v ∧ ∀ a, Env n ((d, v) :: Lc) a → wpList P ops Q rest a w'
theorem at_callI {d : Nat} {fid : FuncId} {fn : Func} {c : Code} {xs : List Operand} {ats : Array TypeId} {ty : TypeId} {pos : String} {aft : Array Edge} {l : List Value} (hf : P.funcs[fid]? = some fn) (hc : fn.body = some c) (hnm : (fn.name == "runtime.NumGoroutine") = false) (hm : fn.ntmps = m) (hx : evs L xs = some l) (hdn : Nat.blt d n = true) (hl : Nat.ble l.length m = true)
    (k : At m (rep l 0) W (c.wp P (bodyPost P fn (RK n d L P ops Q rest)))) :
    At n L W (wpList P ops Q (⟨some d, .call { callee := .value (.func fid), args := xs.toArray, argTypes := ats }, ty, pos, aft, none⟩ :: rest)) :=
  at_call (W' := fun v w' => ∀ a, Env n ((d, v) :: L) a → wpList P ops Q rest a w') hf (by rw [hc]; rfl) hnm hx hdn (fun w hw => (calls_enterW hf hc hm hl k hw)) fun v a w h hw => hw a h
variable {d : Nat} {fn : Func}
theorem at_retI1 {t : Nat} {v : Value} (hr : fn.results = #[.tmp t]) (hv : lk L t = some v) (k : At n ((d, v) :: Lc) W (wpList P ops Q rest)) : At m L W (bodyPost P fn (RK n d Lc P ops Q rest) .ret) :=
  at_return1 hr hv fun w hw => ⟨v, rfl, fun a h => k a w h hw⟩
theorem at_retI2 {t u : Nat} {v v' : Value} (hr : fn.results = #[.tmp t, .tmp u]) (hv : lk L t = some v) (hv' : lk L u = some v') (k : At n ((d, .tuple #[v, v']) :: Lc) W (wpList P ops Q rest)) : At m L W (bodyPost P fn (RK n d Lc P ops Q rest) .ret) :=
  at_return2 hr hv hv' fun w hw => ⟨_, rfl, fun a h => k a w h hw⟩
theorem at_retI3 {t u s : Nat} {v v' v'' : Value} (hr : fn.results = #[.tmp t, .tmp u, .tmp s]) (hv : lk L t = some v) (hv' : lk L u = some v') (hv'' : lk L s = some v'') (k : At n ((d, .tuple #[v, v', v'']) :: Lc) W (wpList P ops Q rest)) : At m L W (bodyPost P fn (RK n d Lc P ops Q rest) .ret) :=
  at_return3 hr hv hv' hv'' fun w hw => ⟨_, rfl, fun a h => k a w h hw⟩
theorem at_retI0 (hr : fn.results = #[]) (k : At n ((d, .tuple #[]) :: Lc) W (wpList P ops Q rest)) : At m L W (bodyPost P fn (RK n d Lc P ops Q rest) .normal) :=
  at_return0 hr fun w hw => ⟨_, rfl, fun a h => k a w h hw⟩
theorem at_retI0' (hr : fn.results = #[]) (k : At n ((d, .tuple #[]) :: Lc) W (wpList P ops Q rest)) : At m L W (bodyPost P fn (RK n d Lc P ops Q rest) .ret) :=
  at_return0' hr fun w hw => ⟨_, rfl, fun a h => k a w h hw⟩
theorem at_resI1 {r : ResultVar} {v : Value} (hr : fn.results = #[r]) (h : ResOne m L W P r v) (k : At n ((d, v) :: Lc) W (wpList P ops Q rest)) : At m L W (bodyPost P fn (RK n d Lc P ops Q rest) .ret) :=
  at_res1 hr h fun w hw => ⟨_, rfl, fun a h => k a w h hw⟩
theorem at_resI2 {r s : ResultVar} {v u : Value} (hr : fn.results = #[r, s]) (h : ResOne m L W P r v) (h2 : ResOne m L W P s u) (k : At n ((d, .tuple #[v, u]) :: Lc) W (wpList P ops Q rest)) : At m L W (bodyPost P fn (RK n d Lc P ops Q rest) .ret) :=
  at_res2 hr h h2 fun w hw => ⟨_, rfl, fun a h => k a w h hw⟩
/-! ### functions as values, with what they have caught -/
section
variable {f : FuncId} {dst : Option Nat} {x : Operand} {xs : List Operand} {ats : Array TypeId} {ty : TypeId} {pos : String} {aft : Array Edge} {g : Option (Nat × Bool)} {caps : List Value}
theorem exec_callee {a : Act} (he : a.eval x = .func (.func f) #[] caps.toArray) :
    execOp a.eval (⟨dst, .call { callee := .value x, args := xs.toArray, argTypes := ats }, ty, pos, aft, g⟩ : Oper) = execOp a.eval (⟨dst, .call { callee := .value (.func f), args := (xs ++ caps.map Operand.const).toArray, argTypes := ats }, ty, pos, aft, g⟩ : Oper) := by
  have e2 : a.eval (.func f) = .func (.func f) #[] #[] := rfl
  have e3 : (caps.map Operand.const).map a.eval = caps := by
    rw [List.map_map]
    have : (a.eval ∘ Operand.const) = id := funext fun v => rfl
    rw [this, List.map_id]
  simp [execOp, resolve, he, e2, invoke, Deferred.ofValue, e3]
theorem at_calleeC (hx : ev L x = some (.func (.func f) #[] caps.toArray))
    (k : At n L W (wpList P ops Q (⟨dst, .call { callee := .value (.func f), args := (xs ++ caps.map Operand.const).toArray, argTypes := ats }, ty, pos, aft, g⟩ :: rest))) :
    At n L W (wpList P ops Q (⟨dst, .call { callee := .value x, args := xs.toArray, argTypes := ats }, ty, pos, aft, g⟩ :: rest)) := fun a w h hw => by
  have hk := k a w h hw
  have e1 := exec_callee (dst := dst) (xs := xs) (ats := ats) (ty := ty) (pos := pos) (aft := aft) (g := g) (h.eval hx)
  have e3 : ∀ K Q', Oper.wp P (⟨dst, .call { callee := .value x, args := xs.toArray, argTypes := ats }, ty, pos, aft, g⟩ : Oper) a w K Q' = Oper.wp P (⟨dst, .call { callee := .value (.func f), args := (xs ++ caps.map Operand.const).toArray, argTypes := ats }, ty, pos, aft, g⟩ : Oper) a w K Q' := fun K Q' => by
    unfold Oper.wp
    rw [e1]; rfl
  have e4 : Oper.asks P (⟨dst, .call { callee := .value x, args := xs.toArray, argTypes := ats }, ty, pos, aft, g⟩ : Oper) a w = Oper.asks P (⟨dst, .call { callee := .value (.func f), args := (xs ++ caps.map Operand.const).toArray, argTypes := ats }, ty, pos, aft, g⟩ : Oper) a w := by
    unfold Oper.asks
    rw [e1]
  unfold wpList at hk ⊢
  simp only [e3, e4]
  exact hk
theorem atq_calleeC {Q' : Act → Prop} (hx : ev L x = some (.func (.func f) #[] caps.toArray))
    (k : AtQ n L (wpQuiet P ops W Q' (⟨dst, .call { callee := .value (.func f), args := (xs ++ caps.map Operand.const).toArray, argTypes := ats }, ty, pos, aft, g⟩ :: rest))) :
    AtQ n L (wpQuiet P ops W Q' (⟨dst, .call { callee := .value x, args := xs.toArray, argTypes := ats }, ty, pos, aft, g⟩ :: rest)) := fun a h => by
  have hk := k a h
  have e1 := exec_callee (dst := dst) (xs := xs) (ats := ats) (ty := ty) (pos := pos) (aft := aft) (g := g) (h.eval hx)
  unfold wpQuiet Oper.quiet Oper.quietAt at hk ⊢
  simp only [e1]
  exact hk
end
theorem r_makeFunc {d : Nat} {f : FuncId} {ty : TypeId} {pos : String} {aft : Array Edge} {xs : List Operand} {vs : List Value} (hx : evs L xs = some vs) :
    Runs n L W P ⟨some d, .makeFunc (.func f) #[] xs.toArray, ty, pos, aft, none⟩ (.func (.func f) #[] vs.toArray) := fun a w h _ => by
  have := h.evals hx
  simp [execOp, Instr.makeFunc, this]
/-! ### structs of such values, cell by cell -/
theorem r_fieldR {d s j fo : Nat} {x : Operand} {ty : TypeId} {pos : String} {aft : Array Edge} {fs : Array Field} {f : Field} {cells : List Value} {v : Value} (hs : P.underlying s = some (.struct fs)) (hf : fs[j]? = some f) (hfo : f.offset = fo) (ha : ∀ w, (isAgg f.type).run P w = .ok false w) (hx : ev L x = some (.agg cells.toArray)) (hc : cells[fo]? = some v) :
    Runs n L W P (⟨some d, .field s x j, ty, pos, aft, none⟩) v := fun a w h _ => by
  subst hfo
  simp only [execOp, h.eval hx]
  simp [Instr.field, run_underlying hs, hf, asAgg, part, ha, hc]
def cK (k : Nat) (hk : 0 < k) : Cd { l : List Value // l.length = k ∧ ∀ v ∈ l, v.oneCell' = true } := ⟨k, fun x => x.1, fun x => x.2.1, fun x => x.2.2, hk⟩
theorem at_storeAll {w0 : World} {H : List Ent} {b tb k : Nat} {t : TypeId} {x y : Operand} {ty : TypeId} {pos : String} {aft : Array Edge} {cells cs : List Value} {v : Value} {f : Ent → List Ent} {G : List Ent} (hu : Upd H (cellsE b cells tb) f G) (hk : 0 < k) (h1 : cells.length = k ∧ ∀ v ∈ cells, v.oneCell' = true) (h2 : cs.length = k ∧ ∀ v ∈ cs, v.oneCell' = true) (hz : ∀ w, (sizeOf t).run P w = .ok k w)
    (hx : ev L x = some (.pointer (some ⟨b, 0, none⟩))) (hy : ev L y = some v) (hv : v.cells = cs.toArray) (kk : At n L (Wd w0 (f (cellsE b cs tb))) (wpList P ops Q rest)) :
    At n L (Wd w0 H) (wpList P ops Q (⟨none, .store t x y, ty, pos, aft, none⟩ :: rest)) :=
  at_store (c := cK k hk) (u := ⟨cells, h1⟩) (put := (cK k hk).cs) (z := ⟨cs, h2⟩) hu (Lens.whole (cK k hk) ⟨cells, h1⟩) hz hx hy hv kk
/-- A variable that a function value has caught, read. -/
theorem cap_cell {w0 w : World} {b : Nat} {v : Value} (h : w0.cell? ⟨b, 0, none⟩ = some v) (hb : Below w0.heap.size w0 w) : w.cell? ⟨b, 0, none⟩ = some v := by
  rw [hb.cell (p := ⟨b, 0, none⟩) (World.block_lt_of_cell? w0 _ h)]; exact h
end Go.Proofs.Ythccncpephpdjaa.E
