/- An engine of small laws: what each operation does, said of the slots that are still wanted and of the world. -/
import Derived.WalkKit
import Derived.WalkSpells
set_option linter.unusedVariables false
set_option linter.unusedSimpArgs false
namespace Go.Proofs.Ythccncpephpdjaa.E
open Go.RowKit

def lk : List (Nat × Value) → Nat → Option Value
  | [], _ => none
  | (t, v) :: L, s => bif Nat.beq t s then some v else lk L s
def ev (L : List (Nat × Value)) : Operand → Option Value
  | .tmp t => lk L t
  | .const v => some v
  | .global g => some (.pointer (some ⟨g, 0, none⟩))
  | .func f => some (.func (.func f) #[] #[])
def evs (L : List (Nat × Value)) : List Operand → Option (List Value)
  | [] => some []
  | x :: l => match ev L x, evs L l with
    | some v, some vs => some (v :: vs)
    | _, _ => none
structure Env (n : Nat) (L : List (Nat × Value)) (a : Act) : Prop where
  size : a.tmps.size = n
  defs : a.defers = []
  vals : ∀ t v, lk L t = some v → a.tmps.getD t undef = v
variable {n : Nat} {L L' : List (Nat × Value)} {a : Act} {W : World → Prop} {P : Program} {ops : Array Oper} {Q : Exit → Act → World → Prop} {rest : List Oper}

theorem Env.eval (h : Env n L a) {x : Operand} {v : Value} (hx : ev L x = some v) : a.eval x = v := by
  cases x with
  | tmp t => exact h.vals t v hx
  | const u => simpa [ev, Act.eval] using hx
  | global g => simpa [ev, Act.eval] using hx
  | func f => simpa [ev, Act.eval] using hx
theorem Env.evals (h : Env n L a) : ∀ {l : List Operand} {vs : List Value}, evs L l = some vs → l.map a.eval = vs
  | [], vs, hx => by simp [evs] at hx; simp [hx]
  | x :: l, vs, hx => by
    unfold evs at hx
    split at hx
    · next v vs' h1 h2 =>
      cases hx
      simp [h.eval h1, h.evals h2]
    · cases hx
theorem lk_cons (t : Nat) (v : Value) (s : Nat) : lk ((t, v) :: L) s = if t = s then some v else lk L s := by
  show (bif Nat.beq t s then some v else lk L s) = _
  by_cases e : t = s
  · subst e; simp
  · have : Nat.beq t s = false := by
      cases hb : Nat.beq t s
      · rfl
      · exact absurd (Nat.eq_of_beq_eq_true hb) e
    rw [this, if_neg e]; rfl
theorem Env.put (h : Env n L a) {d : Nat} (hd : Nat.blt d n = true) (v : Value) : Env n ((d, v) :: L) (a.put (some d) v) := by
  refine ⟨by simp [Act.put, h.size], by simp [Act.put, h.defs], fun t u hu => ?_⟩
  have hd' : d < a.tmps.size := by rw [h.size]; exact Nat.le_of_ble_eq_true hd
  rw [lk_cons] at hu
  simp only [Act.put, Array.getD_eq_getD_getElem?, Array.getElem?_setIfInBounds]
  split at hu
  · next e => subst e; cases hu; simp [hd']
  · next e =>
    rw [if_neg e]
    have := h.vals t u hu
    simpa [Array.getD_eq_getD_getElem?] using this
theorem Env.put_none (h : Env n L a) (v : Value) : Env n L (a.put none v) := h
def Sub : List (Nat × Value) → List (Nat × Value) → Prop
  | [], _ => True
  | (t, v) :: r, L => lk L t = some v ∧ Sub r L
theorem Sub.lk : ∀ {r : List (Nat × Value)}, Sub r L → ∀ t v, lk r t = some v → E.lk L t = some v
  | [], _, _, _, h => by cases h
  | (_, _) :: r, hs, t, v, h => by
    rw [lk_cons] at h
    split at h
    · next e => subst e; cases h; exact hs.1
    · exact Sub.lk hs.2 t v h
theorem Env.weak (h : Env n L a) (hs : Sub L' L) : Env n L' a := ⟨h.size, h.defs, fun t v hv => h.vals t v (hs.lk t v hv)⟩

def At (n : Nat) (L : List (Nat × Value)) (W : World → Prop) (X : Act → World → Prop) : Prop := ∀ a w, Env n L a → W w → X a w
theorem at_weak {X : Act → World → Prop} (L' : List (Nat × Value)) (hs : Sub L' L) (k : At n L' W X) : At n L W X := fun a w h hw => k a w (h.weak hs) hw
theorem at_weak_k {X : Act → World → Prop} (k : At n L' W X) (hs : Sub L' L) : At n L W X := fun a w h hw => k a w (h.weak hs) hw
theorem at_world {X : Act → World → Prop} {W' : World → Prop} (hs : ∀ w, W w → W' w) (k : At n L W' X) : At n L W X := fun a w h hw => k a w h (hs w hw)

/-! ### code -/
theorem at_seq {x y : Code} (k : At n L W (x.wp P (Exit.then (y.wp P Q) Q))) : At n L W ((Code.seq x y).wp P Q) := fun a w h hw => wp_seq (k a w h hw)
theorem at_region {id : Nat} {l : List Oper} (k : At n L W (wpList P l.toArray Q l)) : At n L W ((Code.region id l.toArray false).wp P Q) := fun a w h hw => wp_region_lit (k a w h hw)
theorem at_nil (k : At n L W (Q .normal)) : At n L W (wpList P ops Q []) := fun a w h hw => wpList_nil (k a w h hw)
theorem at_block {id : Nat} {c : Code} (k : At n L W (c.wp P (Exit.inBlock id Q))) : At n L W ((Code.block id c).wp P Q) := fun a w h hw => wp_block (k a w h hw)
theorem at_skip (k : At n L W (Q .normal)) : At n L W (Code.skip.wp P Q) := fun a w h hw => wp_skip (k a w h hw)
theorem at_exit {id : Nat} (k : At n L W (Q (.exit id))) : At n L W ((Code.exit id).wp P Q) := fun a w h hw => wp_exit (k a w h hw)
theorem at_ret (k : At n L W (Q .ret)) : At n L W (Code.ret.wp P Q) := fun a w h hw => wp_ret (k a w h hw)
theorem at_cond_true {c : Operand} {x y : Code} {b : Bool} (hc : ev L c = some (.bool b)) (hb : b = true) (k : At n L W (x.wp P Q)) : At n L W ((Code.cond c x y).wp P Q) :=
  fun a w h hw => wp_cond_true (by rw [h.eval hc, hb]) (k a w h hw)
theorem at_cond_false {c : Operand} {x y : Code} {b : Bool} (hc : ev L c = some (.bool b)) (hb : b = false) (k : At n L W (y.wp P Q)) : At n L W ((Code.cond c x y).wp P Q) :=
  fun a w h hw => wp_cond_false (by rw [h.eval hc, hb]) (k a w h hw)

/-! ### loops -/
def LoopFrom (P : Program) (c : Code) (Q : Exit → Act → World → Prop) (a : Act) (w : World) : Prop :=
  ∀ (b : Frame) (k : List Item) (cs : List Frame), ∃ e a' w', Q e a' w' ∧ Arrives P (lone (b.at a (.code c :: .inLoop c :: k)) cs w) b k cs e a' w'
theorem at_loop {c : Code} (k : At n L W (LoopFrom P c Q)) : At n L W ((Code.loop c).wp P Q) := fun a w h hw b kk cs =>
  let ⟨e, a', w', hq, harr⟩ := k a w h hw b kk cs
  ⟨e, a', w', hq, .of_steps (.one step_loop) harr⟩
theorem loop_round {c : Code} {a : Act} {w : World} (h : c.wp P (Exit.then (LoopFrom P c Q) Q) a w) : LoopFrom P c Q a w := by
  intro b k cs
  obtain ⟨e, a₁, w₁, hq, harr⟩ := h b (.inLoop c :: k) cs
  cases e with
  | normal =>
    obtain ⟨e₂, a₂, w₂, hq₂, harr₂⟩ := hq b k cs
    exact ⟨e₂, a₂, w₂, hq₂, .of_steps (Steps.trans harr (.one step_inLoop)) harr₂⟩
  | exit id => exact ⟨_, a₁, w₁, hq, .pass (x := .inLoop c) rfl (fun _ _ => .inl (by simp)) harr⟩
  | goto l => exact ⟨_, a₁, w₁, hq, .pass (x := .inLoop c) rfl (fun _ _ => .inl (by simp)) harr⟩
  | ret => exact ⟨_, a₁, w₁, hq, .pass (x := .inLoop c) rfl (fun _ _ => .inl (by simp)) harr⟩
  | panic ch => exact ⟨_, a₁, w₁, hq, .pass (x := .inLoop c) rfl (fun _ _ => .inl (by simp)) harr⟩
  | outgrown => exact ⟨_, a₁, w₁, hq, .pass (x := .inLoop c) rfl (fun _ _ => .inl (by simp)) harr⟩
theorem at_round {c : Code} (k : At n L W (c.wp P (Exit.then (LoopFrom P c Q) Q))) : At n L W (LoopFrom P c Q) := fun a w h hw => loop_round (k a w h hw)

/-! ### a function's begin and end -/
def rep (l : List Value) (i : Nat) : List (Nat × Value) := match l with | [] => [] | v :: l => (i, v) :: rep l (i + 1)
theorem rep_lk : ∀ (l : List Value) (i t : Nat) (v : Value), lk (rep l i) t = some v → i ≤ t ∧ l[t - i]? = some v
  | [], _, _, _, h => by cases h
  | u :: l, i, t, v, h => by
    unfold rep at h
    rw [lk_cons] at h
    split at h
    · next e => subst e; cases h; simp
    · next e =>
      obtain ⟨h1, h2⟩ := rep_lk l (i + 1) t v h
      refine ⟨by omega, ?_⟩
      rw [show t - i = (t - (i + 1)) + 1 by omega]
      simpa using h2
theorem calls_enter {f : FuncId} {fn : Func} {c : Code} {l : List Value} {w : World} {R : Ending → World → Prop} (hf : P.funcs[f]? = some fn) (hb : fn.body = some c) (hn : fn.ntmps = n) (hl : Nat.ble l.length n = true)
    (k : At n (rep l 0) (fun w' => w' = w) (c.wp P (bodyPost P fn R))) : Calls P f l.toArray w R := by
  refine calls_of_wp hf hb ?_
  have hl' : l.length ≤ n := by simpa using hl
  refine k _ _ ⟨by simp [hn]; omega, rfl, fun t v hv => ?_⟩ rfl
  obtain ⟨_, h2⟩ := rep_lk l 0 t v hv
  simp only [Nat.sub_zero] at h2
  simp only [Array.getD_eq_getD_getElem?]
  have : t < l.length := (List.getElem?_eq_some_iff.1 h2).1
  rw [Array.getElem?_append_left (by simpa using this)]
  simp [h2]
def outs (rs : List ResultVar) (L : List (Nat × Value)) : Option (List Value) := match rs with
  | [] => some []
  | .tmp t :: rs => match lk L t, outs rs L with | some v, some vs => some (v :: vs) | _, _ => none
  | .cell _ _ :: _ => none
theorem at_return1 {fn : Func} {R : Ending → World → Prop} {t : Nat} {v : Value} (hr : fn.results = #[.tmp t]) (hv : lk L t = some v) (hR : ∀ w, W w → R (.returned v) w) : At n L W (bodyPost P fn R .ret) :=
  fun a w h hw => ⟨h.defs, _, results_tmp hr a.tmps P w, by rw [h.vals t v hv]; exact hR w hw⟩
theorem at_return2 {fn : Func} {R : Ending → World → Prop} {t u : Nat} {v v' : Value} (hr : fn.results = #[.tmp t, .tmp u]) (hv : lk L t = some v) (hv' : lk L u = some v') (hR : ∀ w, W w → R (.returned (.tuple #[v, v'])) w) : At n L W (bodyPost P fn R .ret) :=
  fun a w h hw => ⟨h.defs, _, results_tmp2 hr a.tmps P w, by rw [h.vals t v hv, h.vals u v' hv']; exact hR w hw⟩
theorem at_return0 {fn : Func} {R : Ending → World → Prop} (hr : fn.results = #[]) (hR : ∀ w, W w → R (.returned (.tuple #[])) w) : At n L W (bodyPost P fn R .normal) :=
  fun a w h hw => ⟨h.defs, _, results_none hr a.tmps P w, hR w hw⟩
theorem at_return0' {fn : Func} {R : Ending → World → Prop} (hr : fn.results = #[]) (hR : ∀ w, W w → R (.returned (.tuple #[])) w) : At n L W (bodyPost P fn R .ret) :=
  fun a w h hw => ⟨h.defs, _, results_none hr a.tmps P w, hR w hw⟩
theorem results_tmp3 {fn : Func} {t u s : Tmp} (h : fn.results = #[.tmp t, .tmp u, .tmp s]) (tmps : Array Value) (P : Program) (w : World) :
    (results fn tmps).run P w = .ok (.tuple #[tmps.getD t undef, tmps.getD u undef, tmps.getD s undef]) w := by
  simp [results, h]
theorem at_return3 {fn : Func} {R : Ending → World → Prop} {t u s : Nat} {v v' v'' : Value} (hr : fn.results = #[.tmp t, .tmp u, .tmp s]) (hv : lk L t = some v) (hv' : lk L u = some v') (hv'' : lk L s = some v'') (hR : ∀ w, W w → R (.returned (.tuple #[v, v', v''])) w) : At n L W (bodyPost P fn R .ret) :=
  fun a w h hw => ⟨h.defs, _, results_tmp3 hr a.tmps P w, by rw [h.vals t v hv, h.vals u v' hv', h.vals s v'' hv'']; exact hR w hw⟩

/-! ### operations -/
variable {d : Nat} {ty : TypeId} {pos : String} {aft : Array Edge}
/-- In every state of this kind the operation yields this value and leaves the world. -/
def Runs (n : Nat) (L : List (Nat × Value)) (W : World → Prop) (P : Program) (o : Oper) (v : Value) : Prop := ∀ a w, Env n L a → W w → (execOp a.eval o).run P w = .ok (.value v) w
/-- An operation that yields a value and leaves the world. -/
theorem at_val {o : Oper} {v : Value} (hg : o.guard = none) (hd : o.dst = some d) (hdn : Nat.blt d n = true) (hr : Runs n L W P o v)
    (k : At n ((d, v) :: L) W (wpList P ops Q rest)) : At n L W (wpList P ops Q (o :: rest)) := fun a w h hw =>
  wpList_plain hg fun K hK => by
    unfold Oper.wp
    rw [hr a w h hw]
    simp only [Oper.upon, hd]
    exact hK _ _ (k _ _ (h.put hdn v) hw)
/-- An operation that yields one of some values, and may turn the world. -/
theorem at_any {o : Oper} {W' : Value → World → Prop} (hg : o.guard = none) (hd : o.dst = some d) (hdn : Nat.blt d n = true)
    (hr : ∀ a w, Env n L a → W w → ∃ v w', (execOp a.eval o).run P w = .ok (.value v) w' ∧ W' v w')
    (k : ∀ v, At n ((d, v) :: L) (W' v) (wpList P ops Q rest)) : At n L W (wpList P ops Q (o :: rest)) := fun a w h hw =>
  wpList_plain hg fun K hK => by
    obtain ⟨v, w', hrun, hw'⟩ := hr a w h hw
    unfold Oper.wp
    rw [hrun]
    simp only [Oper.upon, hd]
    exact hK _ _ (k v _ _ (h.put hdn v) hw')
/-- An operation that only turns the world. -/
theorem at_unit {o : Oper} {W' : World → Prop} (hg : o.guard = none) (hd : o.dst = none)
    (hr : ∀ a w, Env n L a → W w → ∃ w', (execOp a.eval o).run P w = .ok .skip w' ∧ W' w')
    (k : At n L W' (wpList P ops Q rest)) : At n L W (wpList P ops Q (o :: rest)) := fun a w h hw =>
  wpList_plain hg fun K hK => by
    obtain ⟨w', hrun, hw'⟩ := hr a w h hw
    unfold Oper.wp
    rw [hrun]
    simp only [Oper.upon, hd]
    exact hK _ _ (k _ _ (h.put_none _) hw')
theorem r_move {x : Operand} {v : Value} (hx : ev L x = some v) :
    Runs n L W P ⟨some d, .move x, ty, pos, aft, none⟩ (v) :=
  fun a w h _ => by simp only [execOp, h.eval hx]; rfl
theorem r_assign {x : Operand} {v : Value} (hx : ev L x = some v) :
    Runs n L W P ⟨some d, .assign x, ty, pos, aft, none⟩ (v) :=
  fun a w h _ => by simp only [execOp, h.eval hx]; rfl
/-- Arithmetic, bits and comparisons of integers. -/
def iop (op : BinOp) (k : IntKind) (x y : Int) : Value := match op with
  | .add => .int k (k.wrap (x + y))
  | .sub => .int k (k.wrap (x - y))
  | .mul => .int k (k.wrap (x * y))
  | .and => .int k (k.wrap (BitVec.ofInt k.bits x &&& BitVec.ofInt k.bits y).toNat)
  | .or => .int k (k.wrap (BitVec.ofInt k.bits x ||| BitVec.ofInt k.bits y).toNat)
  | .xor => .int k (k.wrap (BitVec.ofInt k.bits x ^^^ BitVec.ofInt k.bits y).toNat)
  | .andNot => .int k (k.wrap (BitVec.ofInt k.bits x &&& ~~~ BitVec.ofInt k.bits y).toNat)
  | .eql => .bool (x == y)
  | .neq => .bool (x != y)
  | .lss => .bool (decide (x < y))
  | .leq => .bool (decide (x ≤ y))
  | .gtr => .bool (decide (x > y))
  | .geq => .bool (decide (x ≥ y))
  | _ => undef
def iopOk : BinOp → Bool
  | .add | .sub | .mul | .and | .or | .xor | .andNot | .eql | .neq | .lss | .leq | .gtr | .geq => true
  | _ => false
theorem eqGuard_int (op : BinOp) (t : TypeId) (x y : Operand) (k l : IntKind) (a b : Int) (w : World) : (eqGuard op t x y (.int k a) (.int l b)).run P w = .ok () w := by
  cases op <;> rfl
theorem r_int {op : BinOp} {xt yt : TypeId} {x y : Operand} {k : IntKind} {i j : Int} {v : Value} (hx : ev L x = some (.int k i)) (hy : ev L y = some (.int k j)) (ho : iopOk op = true) (hv : iop op k i j = v) :
    Runs n L W P ⟨some d, .binOp op xt x y yt, ty, pos, aft, none⟩ (v) :=
  fun a w h _ => by
    subst hv
    simp only [execOp, h.eval hx, h.eval hy, Sem.run_bind, eqGuard_int, Result.andThen_ok]
    cases op <;> simp_all [iopOk] <;> simp [binOp, iop, Op.intArith, Op.intBits, Op.intCmp]
def isx (x : Int) (n : Nat) : Nat := min x.toNat n
theorem r_shift {op : BinOp} {xt yt : TypeId} {x y : Operand} {k l : IntKind} {i j : Int} {v : Value} (hx : ev L x = some (.int k i)) (hy : ev L y = some (.int l j)) (hj : 0 ≤ j)
    (hv : (match op with | .shl => Value.int k (k.wrap (i * 2 ^ (min j.toNat k.bits))) | .shr => .int k (i.fdiv (2 ^ (min j.toNat k.bits))) | _ => undef) = v) (ho : op = .shl ∨ op = .shr) :
    Runs n L W P ⟨some d, .binOp op xt x y yt, ty, pos, aft, none⟩ (v) :=
  fun a w h _ => by
    subst hv
    simp only [execOp, h.eval hx, h.eval hy, Sem.run_bind, eqGuard_int, Result.andThen_ok]
    rcases ho with rfl | rfl <;> simp [binOp, Op.shift, Int.not_lt.2 hj]
theorem r_div {op : BinOp} {xt yt : TypeId} {x y : Operand} {k : IntKind} {i j : Int} {v : Value} (hx : ev L x = some (.int k i)) (hy : ev L y = some (.int k j)) (hj : j ≠ 0)
    (hv : (match op with | .quo => Value.int k (k.wrap (i.tdiv j)) | .rem => .int k (i.tmod j) | _ => undef) = v) (ho : op = .quo ∨ op = .rem) :
    Runs n L W P ⟨some d, .binOp op xt x y yt, ty, pos, aft, none⟩ (v) :=
  fun a w h _ => by
    subst hv
    simp only [execOp, h.eval hx, h.eval hy, Sem.run_bind, eqGuard_int, Result.andThen_ok]
    rcases ho with rfl | rfl <;> simp [binOp, Op.intDiv, hj]
section
variable {xt yt : TypeId} {x y : Operand} {k : IntKind} {i j : Int}
theorem r_iadd (hx : ev L x = some (.int k i)) (hy : ev L y = some (.int k j)) :
    Runs n L W P ⟨some d, .binOp .add xt x y yt, ty, pos, aft, none⟩ (.int k (k.wrap (i + j))) := r_int hx hy rfl rfl
theorem r_isub (hx : ev L x = some (.int k i)) (hy : ev L y = some (.int k j)) :
    Runs n L W P ⟨some d, .binOp .sub xt x y yt, ty, pos, aft, none⟩ (.int k (k.wrap (i - j))) := r_int hx hy rfl rfl
theorem r_imul (hx : ev L x = some (.int k i)) (hy : ev L y = some (.int k j)) :
    Runs n L W P ⟨some d, .binOp .mul xt x y yt, ty, pos, aft, none⟩ (.int k (k.wrap (i * j))) := r_int hx hy rfl rfl
theorem r_iand (hx : ev L x = some (.int k i)) (hy : ev L y = some (.int k j)) :
    Runs n L W P ⟨some d, .binOp .and xt x y yt, ty, pos, aft, none⟩ (.int k (k.wrap (BitVec.ofInt k.bits i &&& BitVec.ofInt k.bits j).toNat)) := r_int hx hy rfl rfl
theorem r_ior (hx : ev L x = some (.int k i)) (hy : ev L y = some (.int k j)) :
    Runs n L W P ⟨some d, .binOp .or xt x y yt, ty, pos, aft, none⟩ (.int k (k.wrap (BitVec.ofInt k.bits i ||| BitVec.ofInt k.bits j).toNat)) := r_int hx hy rfl rfl
theorem r_ixor (hx : ev L x = some (.int k i)) (hy : ev L y = some (.int k j)) :
    Runs n L W P ⟨some d, .binOp .xor xt x y yt, ty, pos, aft, none⟩ (.int k (k.wrap (BitVec.ofInt k.bits i ^^^ BitVec.ofInt k.bits j).toNat)) := r_int hx hy rfl rfl
theorem r_iandNot (hx : ev L x = some (.int k i)) (hy : ev L y = some (.int k j)) :
    Runs n L W P ⟨some d, .binOp .andNot xt x y yt, ty, pos, aft, none⟩ (.int k (k.wrap (BitVec.ofInt k.bits i &&& ~~~ BitVec.ofInt k.bits j).toNat)) := r_int hx hy rfl rfl
theorem r_ieql (hx : ev L x = some (.int k i)) (hy : ev L y = some (.int k j)) :
    Runs n L W P ⟨some d, .binOp .eql xt x y yt, ty, pos, aft, none⟩ (.bool (i == j)) := r_int hx hy rfl rfl
theorem r_ineq (hx : ev L x = some (.int k i)) (hy : ev L y = some (.int k j)) :
    Runs n L W P ⟨some d, .binOp .neq xt x y yt, ty, pos, aft, none⟩ (.bool (i != j)) := r_int hx hy rfl rfl
theorem r_ilss (hx : ev L x = some (.int k i)) (hy : ev L y = some (.int k j)) :
    Runs n L W P ⟨some d, .binOp .lss xt x y yt, ty, pos, aft, none⟩ (.bool (decide (i < j))) := r_int hx hy rfl rfl
theorem r_ileq (hx : ev L x = some (.int k i)) (hy : ev L y = some (.int k j)) :
    Runs n L W P ⟨some d, .binOp .leq xt x y yt, ty, pos, aft, none⟩ (.bool (decide (i ≤ j))) := r_int hx hy rfl rfl
theorem r_igtr (hx : ev L x = some (.int k i)) (hy : ev L y = some (.int k j)) :
    Runs n L W P ⟨some d, .binOp .gtr xt x y yt, ty, pos, aft, none⟩ (.bool (decide (i > j))) := r_int hx hy rfl rfl
theorem r_igeq (hx : ev L x = some (.int k i)) (hy : ev L y = some (.int k j)) :
    Runs n L W P ⟨some d, .binOp .geq xt x y yt, ty, pos, aft, none⟩ (.bool (decide (i ≥ j))) := r_int hx hy rfl rfl
theorem r_ishl {l : IntKind} (hx : ev L x = some (.int k i)) (hy : ev L y = some (.int l j)) (hj : 0 ≤ j) :
    Runs n L W P ⟨some d, .binOp .shl xt x y yt, ty, pos, aft, none⟩ (.int k (k.wrap (i * 2 ^ (min j.toNat k.bits)))) := r_shift hx hy hj rfl (.inl rfl)
theorem r_ishr {l : IntKind} (hx : ev L x = some (.int k i)) (hy : ev L y = some (.int l j)) (hj : 0 ≤ j) :
    Runs n L W P ⟨some d, .binOp .shr xt x y yt, ty, pos, aft, none⟩ (.int k (i.fdiv (2 ^ (min j.toNat k.bits)))) := r_shift hx hy hj rfl (.inr rfl)
theorem r_iquo (hx : ev L x = some (.int k i)) (hy : ev L y = some (.int k j)) (hj : j ≠ 0) :
    Runs n L W P ⟨some d, .binOp .quo xt x y yt, ty, pos, aft, none⟩ (.int k (k.wrap (i.tdiv j))) := r_div hx hy hj rfl (.inl rfl)
theorem r_irem (hx : ev L x = some (.int k i)) (hy : ev L y = some (.int k j)) (hj : j ≠ 0) :
    Runs n L W P ⟨some d, .binOp .rem xt x y yt, ty, pos, aft, none⟩ (.int k (i.tmod j)) := r_div hx hy hj rfl (.inr rfl)
end
/-- Strings. -/
def seq (x y : ByteArray) : Bool := x.toList == y.toList
def sop (op : BinOp) (x y : ByteArray) : Value := match op with
  | .eql => .bool (seq x y)
  | .neq => .bool (!seq x y)
  | .lss => .bool (Op.bytesLess x.toList y.toList)
  | .leq => .bool (Op.bytesLess x.toList y.toList || seq x y)
  | .gtr => .bool (!(Op.bytesLess x.toList y.toList || seq x y))
  | .geq => .bool (!Op.bytesLess x.toList y.toList)
  | _ => undef
def sopOk : BinOp → Bool
  | .eql | .neq | .lss | .leq | .gtr | .geq => true
  | _ => false
theorem eqGuard_str (op : BinOp) (t : TypeId) (x y : Operand) (a b : ByteArray) (w : World) : (eqGuard op t x y (.string a) (.string b)).run P w = .ok () w := by
  cases op <;> rfl
theorem r_str {op : BinOp} {xt yt : TypeId} {x y : Operand} {i j : ByteArray} {v : Value} (hx : ev L x = some (.string i)) (hy : ev L y = some (.string j)) (ho : sopOk op = true) (hv : sop op i j = v) :
    Runs n L W P ⟨some d, .binOp op xt x y yt, ty, pos, aft, none⟩ (v) :=
  fun a w h _ => by
    subst hv
    simp only [execOp, h.eval hx, h.eval hy, Sem.run_bind, eqGuard_str, Result.andThen_ok]
    cases op <;> simp_all [sopOk] <;> simp [binOp, sop, Op.stringOp, seq]
section
variable {xt yt : TypeId} {x y : Operand} {i j : ByteArray}
theorem r_seql (hx : ev L x = some (.string i)) (hy : ev L y = some (.string j)) :
    Runs n L W P ⟨some d, .binOp .eql xt x y yt, ty, pos, aft, none⟩ (.bool (seq i j)) := r_str hx hy rfl rfl
theorem r_sneq (hx : ev L x = some (.string i)) (hy : ev L y = some (.string j)) :
    Runs n L W P ⟨some d, .binOp .neq xt x y yt, ty, pos, aft, none⟩ (.bool (!seq i j)) := r_str hx hy rfl rfl
theorem r_slss (hx : ev L x = some (.string i)) (hy : ev L y = some (.string j)) :
    Runs n L W P ⟨some d, .binOp .lss xt x y yt, ty, pos, aft, none⟩ (.bool (Op.bytesLess i.toList j.toList)) := r_str hx hy rfl rfl
theorem r_sleq (hx : ev L x = some (.string i)) (hy : ev L y = some (.string j)) :
    Runs n L W P ⟨some d, .binOp .leq xt x y yt, ty, pos, aft, none⟩ (.bool (Op.bytesLess i.toList j.toList || seq i j)) := r_str hx hy rfl rfl
theorem r_sgtr (hx : ev L x = some (.string i)) (hy : ev L y = some (.string j)) :
    Runs n L W P ⟨some d, .binOp .gtr xt x y yt, ty, pos, aft, none⟩ (.bool (!(Op.bytesLess i.toList j.toList || seq i j))) := r_str hx hy rfl rfl
theorem r_sgeq (hx : ev L x = some (.string i)) (hy : ev L y = some (.string j)) :
    Runs n L W P ⟨some d, .binOp .geq xt x y yt, ty, pos, aft, none⟩ (.bool (!Op.bytesLess i.toList j.toList)) := r_str hx hy rfl rfl
end
theorem r_concat {xt yt : TypeId} {x y : Operand} {i j : ByteArray} (hx : ev L x = some (.string i)) (hy : ev L y = some (.string j)) (hs : i.size + j.size ≤ 140737488355328) :
    Runs n L W P ⟨some d, .binOp .add xt x y yt, ty, pos, aft, none⟩ (.string (i ++ j)) :=
  fun a w h _ => by
    have : ¬ (((i.size + j.size : Nat) : Int) > IntKind.i64.max) := by
      have : IntKind.i64.max = 9223372036854775807 := by decide
      omega
    simp only [execOp, h.eval hx, h.eval hy, Sem.run_bind, eqGuard_str, Result.andThen_ok]
    simp only [binOp, Op.stringOp, this, if_false]
    rfl
theorem r_not {xt : TypeId} {x : Operand} {b : Bool} (hx : ev L x = some (.bool b)) :
    Runs n L W P ⟨some d, .unOp .not xt x, ty, pos, aft, none⟩ (.bool (!b)) :=
  fun a w h _ => by simp only [execOp, h.eval hx]; rfl
theorem r_neg {xt : TypeId} {x : Operand} {k : IntKind} {i : Int} (hx : ev L x = some (.int k i)) :
    Runs n L W P ⟨some d, .unOp .neg xt x, ty, pos, aft, none⟩ (.int k (k.wrap (0 - i))) :=
  fun a w h _ => by simp only [execOp, h.eval hx]; rfl
theorem r_compl {xt : TypeId} {x : Operand} {k : IntKind} {i : Int} {v : Value} (hx : ev L x = some (.int k i)) (hv : iop .xor k (if k.signed then -1 else k.max) i = v) :
    Runs n L W P ⟨some d, .unOp .xor xt x, ty, pos, aft, none⟩ (v) :=
  fun a w h _ => by subst hv; simp only [execOp, h.eval hx]; rfl
theorem r_conv {s t : TypeId} {x : Operand} {k l : IntKind} {i : Int} (hs : P.underlying s = some (.int l)) (ht : P.underlying t = some (.int k)) (hx : ev L x = some (.int l i)) :
    Runs n L W P ⟨some d, .convert s t x, ty, pos, aft, none⟩ (.int k (k.wrap i)) :=
  fun a w h _ => by
    simp only [execOp, h.eval hx, convert, Sem.run_bind, run_underlying hs, run_underlying ht, Result.andThen_ok]
    rfl
theorem r_conv_str {s t : TypeId} {x : Operand} {l : IntKind} {i : Int} (hs : P.underlying s = some (.int l)) (ht : P.underlying t = some .string) (hx : ev L x = some (.int l i)) :
    Runs n L W P ⟨some d, .convert s t x, ty, pos, aft, none⟩ (.string (Utf8.encode i)) :=
  fun a w h _ => by
    simp only [execOp, h.eval hx, convert, Sem.run_bind, run_underlying hs, run_underlying ht, Result.andThen_ok]
    rfl
theorem r_len_str {t : TypeId} {x : Operand} {s : ByteArray} (ht : P.underlying t = some .string) (hx : ev L x = some (.string s)) :
    Runs n L W P ⟨some d, .call { callee := .builtin .len, args := #[x], argTypes := #[t] }, ty, pos, aft, none⟩ (.int .i64 s.size) :=
  fun a w h _ => by
    simp only [execOp, resolve, invoke, builtin, Sem.run_bind, Sem.run_pure, Result.andThen_ok, List.map_toArray, List.map_cons, List.map_nil, h.eval hx]
    simp [Builtin.len_, run_underlying ht]; rfl
section
variable {t u : TypeId} {x y : Operand} {k : IntKind} {i j : Int}
theorem r_min (hx : ev L x = some (.int k i)) (hy : ev L y = some (.int k j)) :
    Runs n L W P ⟨some d, .call { callee := .builtin .min, args := #[x, y], argTypes := #[t, u] }, ty, pos, aft, none⟩ (.int k (if j < i then j else i)) :=
  fun a w h _ => by
    simp only [execOp, resolve, invoke, builtin, Sem.run_bind, Sem.run_pure, Result.andThen_ok, List.map_toArray, List.map_cons, List.map_nil, h.eval hx, h.eval hy]
    simp [Builtin.min_, Builtin.min2]
theorem r_max (hx : ev L x = some (.int k i)) (hy : ev L y = some (.int k j)) :
    Runs n L W P ⟨some d, .call { callee := .builtin .max, args := #[x, y], argTypes := #[t, u] }, ty, pos, aft, none⟩ (.int k (if i < j then j else i)) :=
  fun a w h _ => by
    simp only [execOp, resolve, invoke, builtin, Sem.run_bind, Sem.run_pure, Result.andThen_ok, List.map_toArray, List.map_cons, List.map_nil, h.eval hx, h.eval hy]
    simp [Builtin.max_, Builtin.max2]
end
def bt (s : ByteArray) (i : Int) : Int := ((s[i.toNat]?).getD 0).toNat
theorem r_index_str {t : TypeId} {x y : Operand} {s : ByteArray} {k : IntKind} {i : Int} (ht : P.underlying t = some .string) (hx : ev L x = some (.string s)) (hy : ev L y = some (.int k i)) (hi : 0 ≤ i ∧ i < s.size) :
    Runs n L W P ⟨some d, .index t x y, ty, pos, aft, none⟩ (.int .u8 (bt s i)) :=
  fun a w h _ => by
    have hlt : i.toNat < s.size := by omega
    simp only [execOp, h.eval hx, h.eval hy]
    simp [Instr.index, asIntOf, run_underlying ht, hi.1, hlt, bt]
theorem r_slice_str {t : TypeId} {x : Operand} {lo hi : Option Operand} {s : ByteArray} {l h : Int} (ht : P.underlying t = some .string) (hx : ev L x = some (.string s))
    (hlo : match lo with | none => l = 0 | some y => ∃ k, ev L y = some (.int k l)) (hhi : match hi with | none => h = s.size | some y => ∃ k, ev L y = some (.int k h)) (hb : 0 ≤ l ∧ l ≤ h ∧ h ≤ s.size) :
    Runs n L W P ⟨some d, .slice t x lo hi none, ty, pos, aft, none⟩ (.string (s.extract l.toNat h.toNat)) :=
  fun a w he _ => by
    obtain ⟨h1, h2, h3⟩ := hb
    have h0 : 0 ≤ h := by omega
    have e1 : (h.toNat : Int) = h := Int.toNat_of_nonneg h0
    simp only [execOp, he.eval hx]
    cases lo <;> cases hi <;> simp only at hlo hhi
    · subst hlo hhi
      simp [Instr.sliceAt, Instr.slice, Instr.sliceBounds, run_underlying ht]
    · obtain ⟨k, hk⟩ := hhi
      subst hlo
      simp [Instr.sliceAt, Instr.slice, Instr.sliceBounds, Instr.sliceBound, asIntOf, run_underlying ht, he.eval hk, h0, h3]
    · obtain ⟨k, hk⟩ := hlo
      subst hhi
      simp [Instr.sliceAt, Instr.slice, Instr.sliceBounds, Instr.sliceBound, asIntOf, run_underlying ht, he.eval hk, h1, h2]
    · obtain ⟨k, hk⟩ := hlo
      obtain ⟨k', hk'⟩ := hhi
      simp [Instr.sliceAt, Instr.slice, Instr.sliceBounds, Instr.sliceBound, asIntOf, run_underlying ht, he.eval hk, he.eval hk', h0, h1, h2, h3, e1]
theorem r_extract {x : Operand} {i : Nat} {vs : Array Value} {v : Value} (hx : ev L x = some (.tuple vs)) (hv : vs[i]? = some v) :
    Runs n L W P ⟨some d, .extract x i, ty, pos, aft, none⟩ (v) :=
  fun a w h _ => by simp [execOp, h.eval hx, Instr.extract, hv]
theorem r_pick {c x y : Operand} {b : Bool} {u v : Value} (hc : ev L c = some (.bool b)) (hx : ev L x = some u) (hy : ev L y = some v) :
    Runs n L W P ⟨some d, .pick c x y, ty, pos, aft, none⟩ (bif b then u else v) :=
  fun a w h _ => by cases b <;> simp [execOp, h.eval hc, h.eval hx, h.eval hy, asBool]
/-- A call of a named function under a contract. -/
theorem at_call {f : FuncId} {fn : Func} {xs : List Operand} {ats : Array TypeId} {l : List Value} {W' : Value → World → Prop} (hf : P.funcs[f]? = some fn) (hb : fn.body.isSome = true) (hnm : (fn.name == "runtime.NumGoroutine") = false)
    (hx : evs L xs = some l) (hdn : Nat.blt d n = true) (hc : ∀ w, W w → Calls P f l.toArray w fun e w' => ∃ v, e = .returned v ∧ W' v w')
    (kk : ∀ v, At n ((d, v) :: L) (W' v) (wpList P ops Q rest)) :
    At n L W (wpList P ops Q (⟨some d, .call { callee := .value (.func f), args := xs.toArray, argTypes := ats }, ty, pos, aft, none⟩ :: rest)) := fun a w h hw =>
  wpList_plain rfl fun K hK => by
    have hargs := h.evals hx
    unfold Oper.wp
    rw [execOp_call_go]
    have hrun : (callFunc f (#[] ++ xs.toArray.map a.eval ++ #[])).run P w = .ok (.enter f l.toArray) w := by
      have hbn : ¬ fn.body = none := by intro hq; simp [hq] at hb
      have hn' : ¬ fn.name = "runtime.NumGoroutine" := by intro hq; rw [hq] at hnm; simp at hnm
      simp [callFunc, program, Sem.run, hf, hn', hbn, hargs]
    rw [hrun]
    simp only [Oper.upon]
    refine (hc w hw).mono ?_
    rintro e w' ⟨v, rfl, hw'⟩
    exact hK _ _ (kk v _ _ (h.put hdn v) hw')
/-! ### what a function comes to, taken apart -/
theorem of_guard {α : Type} {p : Prop} [Decidable p] {G : Option α} {r : α} (h : (if p then G else none) = some r) : p ∧ G = some r := by
  split at h
  · exact ⟨‹_›, h⟩
  · cases h
theorem of_bind {α β : Type} {x : Option α} {G : α → Option β} {r : β} (h : x.bind G = some r) : ∃ v, x = some v ∧ G v = some r := Option.bind_eq_some_iff.1 h
theorem of_ite {α : Type} {c : Bool} {A B : Option α} {r : α} (h : (if c = true then A else B) = some r) : (c = true ∧ A = some r) ∨ (c = false ∧ B = some r) := by
  cases c
  · exact .inr ⟨rfl, h⟩
  · exact .inl ⟨rfl, h⟩
theorem of_some {α : Type} {x r : α} (h : some x = some r) : x = r := Option.some.inj h

/-! ### numbers as the functions write them -/
abbrev wr (k : IntKind) (x : Int) : Int := k.wrap x
abbrev iand (k : IntKind) (x y : Int) : Int := k.wrap (BitVec.ofInt k.bits x &&& BitVec.ofInt k.bits y).toNat
abbrev ior (k : IntKind) (x y : Int) : Int := k.wrap (BitVec.ofInt k.bits x ||| BitVec.ofInt k.bits y).toNat
abbrev ixor (k : IntKind) (x y : Int) : Int := k.wrap (BitVec.ofInt k.bits x ^^^ BitVec.ofInt k.bits y).toNat
abbrev iandn (k : IntKind) (x y : Int) : Int := k.wrap (BitVec.ofInt k.bits x &&& ~~~ BitVec.ofInt k.bits y).toNat
abbrev ishl (k : IntKind) (x y : Int) : Int := k.wrap (x * 2 ^ (min y.toNat k.bits))
abbrev ishr (k : IntKind) (x y : Int) : Int := x.fdiv (2 ^ (min y.toNat k.bits))

/-! ### ways out -/
inductive Ctl (R S : Type) where
  | ret (r : R)
  | nx (s : S)
def Kq {R S : Type} (q : Ctl R S) (r : R) (A : S → Prop) : Prop := match q with
  | .ret r' => r' = r
  | .nx s => A s
abbrev Post := (Act → World → Prop) → Prop
def KN (A : Post) (Q : Exit → Act → World → Prop) (B : Nat) : Prop := A (Q (.exit B))
def KR {R S : Type} (A : S → Post) (Q : Exit → Act → World → Prop) (B : Nat) (r : R) (x : Ctl R S) : Prop := Kq x r fun s => A s (Q (.exit B))
def Round (A : Post) (P : Program) (c : Code) (Q : Exit → Act → World → Prop) : Prop := A (LoopFrom P c Q)
section
variable {K : Act → World → Prop} {i id : Nat} {c x x2 y : Code} {R S : Type}
theorem at_then_normal (k : At n L W K) : At n L W (Exit.then K Q .normal) := k
theorem at_then_exit (k : At n L W (Q (.exit i))) : At n L W (Exit.then K Q (.exit i)) := k
theorem at_then_ret (k : At n L W (Q .ret)) : At n L W (Exit.then K Q .ret) := k
theorem at_blk_normal (k : At n L W (Q .normal)) : At n L W (Exit.inBlock id Q .normal) := k
theorem at_blk_ret (k : At n L W (Q .ret)) : At n L W (Exit.inBlock id Q .ret) := k
theorem at_blk_same (k : At n L W (Q .normal)) : At n L W (Exit.inBlock id Q (.exit id)) := fun a w h hw => by simpa [Exit.inBlock] using k a w h hw
theorem at_blk_other (hne : Nat.beq i id = false) (k : At n L W (Q (.exit i))) : At n L W (Exit.inBlock id Q (.exit i)) := fun a w h hw => by
  have : i ≠ id := fun e => by subst e; simp at hne
  simpa [Exit.inBlock, this] using k a w h hw
theorem at_loop_n (B : Nat) (A : Post) (h : KN A Q B → At n L W (LoopFrom P c Q)) (k : KN A Q B) : At n L W ((Code.loop c).wp P Q) := at_loop (h k)
theorem at_loop_r (B : Nat) (r : R) (q : Ctl R S) (A : S → Post) (h : KR A Q B r q → At n L W (LoopFrom P c Q)) (k : KR A Q B r q) : At n L W ((Code.loop c).wp P Q) := at_loop (h k)
theorem at_loop_only (r q : R) (h : q = r → At n L W (LoopFrom P c Q)) (k : q = r) : At n L W ((Code.loop c).wp P Q) := at_loop (h k)
theorem at_join (r : R) (q : Ctl R S) (A : S → Post) (h1 : ∀ Y : Act → World → Prop, Kq q r (fun s => A s Y) → At n L W (x.wp P (Exit.then Y Q)))
    (h2 : Kq q r (fun s => A s (y.wp P Q))) : At n L W ((Code.seq x y).wp P Q) := at_seq (h1 _ h2)
theorem at_joinp (A : Post) (h1 : ∀ Y : Act → World → Prop, A Y → At n L W (x.wp P (Exit.then Y Q)))
    (h2 : A (y.wp P Q)) : At n L W ((Code.seq x y).wp P Q) := at_seq (h1 _ h2)
theorem wp_seq2 {a : Act} {w : World} (h : x.wp P (Exit.then (x2.wp P (Exit.then (y.wp P Q) Q)) Q) a w) : (Code.seq x (Code.seq x2 y)).wp P Q a w :=
  wp_seq (wp_mono h fun e a w hq => by cases e <;> first | exact wp_seq hq | exact hq)
theorem at_join2 (r : R) (q : Ctl R S) (A : S → Post) (h1 : ∀ Y : Act → World → Prop, Kq q r (fun s => A s Y) → At n L W (x.wp P (Exit.then (x2.wp P (Exit.then Y Q)) Q)))
    (h2 : Kq q r (fun s => A s (y.wp P Q))) : At n L W ((Code.seq x (Code.seq x2 y)).wp P Q) := fun a w h hw => wp_seq2 (h1 _ h2 a w h hw)
theorem at_joinp2 (A : Post) (h1 : ∀ Y : Act → World → Prop, A Y → At n L W (x.wp P (Exit.then (x2.wp P (Exit.then Y Q)) Q)))
    (h2 : A (y.wp P Q)) : At n L W ((Code.seq x (Code.seq x2 y)).wp P Q) := fun a w h hw => wp_seq2 (h1 _ h2 a w h hw)
end
/-! ### guards, calls under the simplest contract -/
theorem at_fix {X : Act → World → Prop} {g : Nat} {b b' : Bool} (hg : lk L g = some (.bool b)) (hb : b = b') (k : At n ((g, .bool b') :: L) W X) : At n L W X := fun a w h hw =>
  k a w ⟨h.size, h.defs, fun t v hv => by
    rw [lk_cons] at hv
    split at hv
    · next e => subst e hb; cases hv; exact h.vals _ _ hg
    · exact h.vals t v hv⟩ hw
theorem yields_of {a : Act} (h : Env n L a) {j g : Nat} {oj : Oper} {b : Bool} (hj : ops[j]? = some oj) (hd : oj.dst = some g) (hg : lk L g = some (.bool b)) : yielded ops a.tmps j = some b := by
  have := h.vals g _ hg
  rw [Array.getD_eq_getD_getElem?] at this
  unfold yielded
  simp only [hj, hd, Option.bind_some]
  cases hq : a.tmps[g]? with
  | none => rw [hq] at this; cases this
  | some u => rw [hq] at this; simp only [Option.getD_some] at this; subst this; rfl
section
variable {dst : Option Tmp} {op : Op} {j g : Nat} {oj : Oper} {b b' : Bool}
theorem at_guard_yes (hj : ops[j]? = some oj) (hd : oj.dst = some g) (hg : lk L g = some (.bool b)) (k : At n L W (wpList P ops Q (⟨dst, op, ty, pos, aft, none⟩ :: rest))) :
    At n L W (wpList P ops Q (⟨dst, op, ty, pos, aft, some (j, b)⟩ :: rest)) := fun a w h hw => by
  have hk := k a w h hw
  have hy := yields_of h hj hd hg
  unfold wpList at hk ⊢
  rw [if_pos (by simp [Region.wanted])] at hk
  rw [if_pos (by simp [Region.wanted, hy])]
  exact hk
theorem at_guard_undef (hj : ops[j]? = some oj) (hd : oj.dst = some g) (hg : lk L g = some undef) (hdn : Nat.blt d n = true) (k : At n ((d, undef) :: L) W (wpList P ops Q rest)) :
    At n L W (wpList P ops Q (⟨some d, op, ty, pos, aft, some (j, b')⟩ :: rest)) := fun a w h hw => by
  have hy : yielded ops a.tmps j = none := by
    have := h.vals g _ hg
    rw [Array.getD_eq_getD_getElem?] at this
    unfold yielded
    simp only [hj, hd, Option.bind_some]
    cases hq : a.tmps[g]? with
    | none => rfl
    | some u => rw [hq] at this; simp only [Option.getD_some] at this; subst this; rfl
  unfold wpList
  rw [if_neg (by simp [Region.wanted, hy])]
  exact k _ _ (h.put hdn _) hw
theorem at_guard_no (hj : ops[j]? = some oj) (hd : oj.dst = some g) (hg : lk L g = some (.bool b)) (hne : (b == b') = false) (hdn : Nat.blt d n = true) (k : At n ((d, undef) :: L) W (wpList P ops Q rest)) :
    At n L W (wpList P ops Q (⟨some d, op, ty, pos, aft, some (j, b')⟩ :: rest)) := fun a w h hw => by
  have hy := yields_of h hj hd hg
  unfold wpList
  rw [if_neg (by simp [Region.wanted, hy]; simpa using hne)]
  exact k _ _ (h.put hdn _) hw
end
theorem at_call0 {f : FuncId} {fn : Func} {xs : List Operand} {ats : Array TypeId} {l : List Value} {v : Value} (hf : P.funcs[f]? = some fn) (hb : fn.body.isSome = true) (hnm : (fn.name == "runtime.NumGoroutine") = false)
    (hx : evs L xs = some l) (hdn : Nat.blt d n = true) (hc : ∀ w, Calls P f l.toArray w fun e w' => e = .returned v ∧ w' = w)
    (kk : At n ((d, v) :: L) W (wpList P ops Q rest)) :
    At n L W (wpList P ops Q (⟨some d, .call { callee := .value (.func f), args := xs.toArray, argTypes := ats }, ty, pos, aft, none⟩ :: rest)) :=
  at_call (W' := fun u w' => u = v ∧ W w') hf hb hnm hx hdn (fun w hw => (hc w).mono fun e w' ⟨he, hw'⟩ => ⟨v, he, rfl, hw' ▸ hw⟩) fun u a w h hw => by
    obtain ⟨rfl, hw⟩ := hw
    exact kk a w h hw
theorem eqGuard_bool (op : BinOp) (t : TypeId) (x y : Operand) (a b : Bool) (w : World) : (eqGuard op t x y (.bool a) (.bool b)).run P w = .ok () w := by
  cases op <;> rfl
theorem run_equalIn_bool {t : TypeId} (ht : P.underlying t = some .bool) (d : Nat) (x y : Bool) (w : World) : (Op.equalIn (d + 1) t (.bool x) (.bool y)).run P w = .ok (x == y) w := by
  unfold Op.equalIn
  simp only [Sem.run_bind, run_underlying ht, Result.andThen_ok]
  rfl
theorem run_equal_bool {t : TypeId} (ht : P.underlying t = some .bool) (x y : Bool) (w : World) : (Op.equal t (.bool x) (.bool y)).run P w = .ok (x == y) w := run_equalIn_bool ht 9999 x y w
theorem r_bool {op : BinOp} {xt yt : TypeId} {x y : Operand} {i j : Bool} {v : Value} (ht : P.underlying xt = some .bool) (hx : ev L x = some (.bool i)) (hy : ev L y = some (.bool j)) (ho : op = .eql ∨ op = .neq) (hv : (match op with | .eql => Value.bool (i == j) | _ => .bool (i != j)) = v) :
    Runs n L W P ⟨some d, .binOp op xt x y yt, ty, pos, aft, none⟩ (v) :=
  fun a w h _ => by
    subst hv
    simp only [execOp, h.eval hx, h.eval hy, Sem.run_bind, eqGuard_bool, Result.andThen_ok]
    rcases ho with rfl | rfl <;> simp only [binOp, Sem.run_bind, run_equal_bool ht, Result.andThen_ok] <;> rfl
theorem of_bindM {α β : Type} {x : Option α} {G : α → Option β} {r : β} (h : (x >>= G) = some r) : ∃ v, x = some v ∧ G v = some r := Option.bind_eq_some_iff.1 h
end Go.Proofs.Ythccncpephpdjaa.E
