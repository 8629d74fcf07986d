/- Texts of this claim, those in one that belong together; printed by a program of this project. -/
import Derived.Test.YtkkmmpofdcccmaaGreatDoorProg
import Derived.Test.YtkkmmpofdcccmaaGreatDoorKFieldPairs0
set_option linter.unusedVariables false
set_option linter.unusedSimpArgs false
namespace Go.Proofs.YtkkmmpofdcccmaaGreatDoor.E
open Go.RowKit
variable {n m : Nat} {L Lc : List (Nat × Value)} {W : World → Prop} {P : Program} {ops : Array Oper} {Q : Exit → Act → World → Prop} {rest : List Oper}
theorem calls_enterW {f : FuncId} {fn : Func} {c : Code} {l : List Value} {w : World} {R : Ending → World → Prop} (hf : P.funcs[f]? = some fn) (hb : fn.body = some c) (hn : fn.ntmps = n) (hl : Nat.ble l.length n = true)
    (k : At n (rep l 0) W (c.wp P (bodyPost P fn R))) (hw : W w) : Calls P f l.toArray w R := by
  refine calls_of_wp hf hb ?_
  have hl' : l.length ≤ n := by simpa using hl
  refine k _ _ ⟨by simp [hn]; omega, rfl, fun t v hv => ?_⟩ hw
  obtain ⟨_, h2⟩ := rep_lk l 0 t v hv
  simp only [Nat.sub_zero] at h2
  simp only [Array.getD_eq_getD_getElem?]
  have : t < l.length := (List.getElem?_eq_some_iff.1 h2).1
  rw [Array.getElem?_append_left (by simpa using this)]
  simp [h2]
/-- What the caller goes on to do with the callee's value. -/
def RK (n d : Nat) (Lc : List (Nat × Value)) (P : Program) (ops : Array Oper) (Q : Exit → Act → World → Prop) (rest : List Oper) : Ending → World → Prop :=
  fun e w' => ∃ v, e = .returned v ∧ ∀ a, Env n ((d, v) :: Lc) a → wpList P ops Q rest a w'
theorem at_callI {d : Nat} {fid : FuncId} {fn : Func} {c : Code} {xs : List Operand} {ats : Array TypeId} {ty : TypeId} {pos : String} {aft : Array Edge} {l : List Value} (hf : P.funcs[fid]? = some fn) (hc : fn.body = some c) (hnm : (fn.name == "runtime.NumGoroutine") = false) (hm : fn.ntmps = m) (hx : evs L xs = some l) (hdn : Nat.blt d n = true) (hl : Nat.ble l.length m = true)
    (k : At m (rep l 0) W (c.wp P (bodyPost P fn (RK n d L P ops Q rest)))) :
    At n L W (wpList P ops Q (⟨some d, .call { callee := .value (.func fid), args := xs.toArray, argTypes := ats }, ty, pos, aft, none⟩ :: rest)) :=
  at_call (W' := fun v w' => ∀ a, Env n ((d, v) :: L) a → wpList P ops Q rest a w') hf (by rw [hc]; rfl) hnm hx hdn (fun w hw => (calls_enterW hf hc hm hl k hw)) fun v a w h hw => hw a h
variable {d : Nat} {fn : Func}
theorem at_resI1 {r : ResultVar} {v : Value} (hr : fn.results = #[r]) (h : ResOne m L W P r v) (k : At n ((d, v) :: Lc) W (wpList P ops Q rest)) : At m L W (bodyPost P fn (RK n d Lc P ops Q rest) .ret) :=
  at_res1 hr h fun w hw => ⟨_, rfl, fun a h => k a w h hw⟩
section
variable {f : FuncId} {dst : Option Nat} {x : Operand} {xs : List Operand} {ats : Array TypeId} {ty : TypeId} {pos : String} {aft : Array Edge} {g : Option (Nat × Bool)} {caps : List Value}
theorem exec_callee {a : Act} (he : a.eval x = .func (.func f) #[] caps.toArray) :
    execOp a.eval (⟨dst, .call { callee := .value x, args := xs.toArray, argTypes := ats }, ty, pos, aft, g⟩ : Oper) = execOp a.eval (⟨dst, .call { callee := .value (.func f), args := (xs ++ caps.map Operand.const).toArray, argTypes := ats }, ty, pos, aft, g⟩ : Oper) := by
  have e2 : a.eval (.func f) = .func (.func f) #[] #[] := rfl
  have e3 : (caps.map Operand.const).map a.eval = caps := by
    rw [List.map_map]
    have : (a.eval ∘ Operand.const) = id := funext fun v => rfl
    rw [this, List.map_id]
  simp [execOp, resolve, he, e2, invoke, Deferred.ofValue, e3]
theorem at_calleeC (hx : ev L x = some (.func (.func f) #[] caps.toArray))
    (k : At n L W (wpList P ops Q (⟨dst, .call { callee := .value (.func f), args := (xs ++ caps.map Operand.const).toArray, argTypes := ats }, ty, pos, aft, g⟩ :: rest))) :
    At n L W (wpList P ops Q (⟨dst, .call { callee := .value x, args := xs.toArray, argTypes := ats }, ty, pos, aft, g⟩ :: rest)) := fun a w h hw => by
  have hk := k a w h hw
  have e1 := exec_callee (dst := dst) (xs := xs) (ats := ats) (ty := ty) (pos := pos) (aft := aft) (g := g) (h.eval hx)
  have e3 : ∀ K Q', Oper.wp P (⟨dst, .call { callee := .value x, args := xs.toArray, argTypes := ats }, ty, pos, aft, g⟩ : Oper) a w K Q' = Oper.wp P (⟨dst, .call { callee := .value (.func f), args := (xs ++ caps.map Operand.const).toArray, argTypes := ats }, ty, pos, aft, g⟩ : Oper) a w K Q' := fun K Q' => by
    unfold Oper.wp
    rw [e1]; rfl
  have e4 : Oper.asks P (⟨dst, .call { callee := .value x, args := xs.toArray, argTypes := ats }, ty, pos, aft, g⟩ : Oper) a w = Oper.asks P (⟨dst, .call { callee := .value (.func f), args := (xs ++ caps.map Operand.const).toArray, argTypes := ats }, ty, pos, aft, g⟩ : Oper) a w := by
    unfold Oper.asks
    rw [e1]
  unfold wpList at hk ⊢
  simp only [e3, e4]
  exact hk
end
theorem r_makeFunc {d : Nat} {f : FuncId} {ty : TypeId} {pos : String} {aft : Array Edge} {xs : List Operand} {vs : List Value} (hx : evs L xs = some vs) :
    Runs n L W P ⟨some d, .makeFunc (.func f) #[] xs.toArray, ty, pos, aft, none⟩ (.func (.func f) #[] vs.toArray) := fun a w h _ => by
  have := h.evals hx
  simp [execOp, Instr.makeFunc, this]
theorem r_fieldR {d s j fo : Nat} {x : Operand} {ty : TypeId} {pos : String} {aft : Array Edge} {fs : Array Field} {f : Field} {cells : List Value} {v : Value} (hs : P.underlying s = some (.struct fs)) (hf : fs[j]? = some f) (hfo : f.offset = fo) (ha : ∀ w, (isAgg f.type).run P w = .ok false w) (hx : ev L x = some (.agg cells.toArray)) (hc : cells[fo]? = some v) :
    Runs n L W P (⟨some d, .field s x j, ty, pos, aft, none⟩) v := fun a w h _ => by
  subst hfo
  simp only [execOp, h.eval hx]
  simp [Instr.field, run_underlying hs, hf, asAgg, part, ha, hc]
def cK (k : Nat) (hk : 0 < k) : Cd { l : List Value // l.length = k ∧ ∀ v ∈ l, v.oneCell' = true } := ⟨k, fun x => x.1, fun x => x.2.1, fun x => x.2.2, hk⟩
theorem at_storeAll {w0 : World} {H : List Ent} {b tb k : Nat} {t : TypeId} {x y : Operand} {ty : TypeId} {pos : String} {aft : Array Edge} {cells cs : List Value} {v : Value} {f : Ent → List Ent} {G : List Ent} (hu : Upd H (cellsE b cells tb) f G) (hk : 0 < k) (h1 : cells.length = k ∧ ∀ v ∈ cells, v.oneCell' = true) (h2 : cs.length = k ∧ ∀ v ∈ cs, v.oneCell' = true) (hz : ∀ w, (sizeOf t).run P w = .ok k w)
    (hx : ev L x = some (.pointer (some ⟨b, 0, none⟩))) (hy : ev L y = some v) (hv : v.cells = cs.toArray) (kk : At n L (Wd w0 (f (cellsE b cs tb))) (wpList P ops Q rest)) :
    At n L (Wd w0 H) (wpList P ops Q (⟨none, .store t x y, ty, pos, aft, none⟩ :: rest)) :=
  at_store (c := cK k hk) (u := ⟨cells, h1⟩) (put := (cK k hk).cs) (z := ⟨cs, h2⟩) hu (Lens.whole (cK k hk) ⟨cells, h1⟩) hz hx hy hv kk
/-- A variable that a function value has caught, read. -/
theorem cap_cell {w0 w : World} {b : Nat} {v : Value} (h : w0.cell? ⟨b, 0, none⟩ = some v) (hb : Below w0.heap.size w0 w) : w.cell? ⟨b, 0, none⟩ = some v := by
  rw [hb.cell (p := ⟨b, 0, none⟩) (World.block_lt_of_cell? w0 _ h)]; exact h
theorem Sep.apart {B : Nat} {E : Ent} {H G : List Ent} {f : Ent → List Ent} {w : World} (hu : Upd H E f G) (h : Sep B H w) : ∀ k ∈ E.fp, ∀ F ∈ G, k ∉ F.fp := by
  induction hu with
  | z => exact fun k hk F hF => (h.2.1 k hk).2.2 F hF
  | @s F0 E H f G hu ih =>
    intro k hk F hF
    rcases List.mem_cons.1 hF with rfl | hF
    · exact fun hk' => (h.2.1 k hk').2.2 E hu.mem hk
    · exact ih h.2.2 k hk F hF
/-- Two variables of the call's own, newly made by a call and handed back in what a function value has caught. -/
theorem at_callC2 {w0 : World} {H : List Ent} {d' : Nat} {ty : TypeId} {pos : String} {aft : Array Edge} {fid : FuncId} {fn : Func} {xs : List Operand} {ats : Array TypeId} {l : List Value} {V : Nat → Nat → Value} {c1 c2 : List Value} {t1 t2 : Nat} (hf : P.funcs[fid]? = some fn) (hb : fn.body.isSome = true) (hnm : (fn.name == "runtime.NumGoroutine") = false)
    (hx : evs L xs = some l) (hdn : Nat.blt d' n = true) (hc : ∀ w, Wd w0 H w → Calls P fid l.toArray w fun en w' => ∃ b1 b2, en = .returned (V b1 b2) ∧ ((cellsE b1 c1 t1).ok w' ∧ (cellsE b2 c2 t2).ok w' ∧ (w.heap.size ≤ b1 ∧ b1 < w'.heap.size) ∧ (w.heap.size ≤ b2 ∧ b2 < w'.heap.size) ∧ b1 ≠ b2) ∧ Below w.heap.size w w')
    (kk : ∀ b1 b2, At n ((d', V b1 b2) :: L) (Wd w0 (cellsE b1 c1 t1 :: cellsE b2 c2 t2 :: H)) (wpList P ops Q rest)) :
    At n L (Wd w0 H) (wpList P ops Q (⟨some d', .call { callee := .value (.func fid), args := xs.toArray, argTypes := ats }, ty, pos, aft, none⟩ :: rest)) :=
  at_call (W' := fun u w' => ∃ b1 b2, u = V b1 b2 ∧ Wd w0 (cellsE b1 c1 t1 :: cellsE b2 c2 t2 :: H) w') hf hb hnm hx hdn (fun w hw => (hc w hw).mono fun en w' ⟨b1, b2, he, ⟨o1, o2, l1, l2, hne⟩, hw'⟩ => ⟨_, he, b1, b2, rfl, by
    have h2 : Wd w0 (cellsE b2 c2 t2 :: H) w' := hw.push hw' o2 (by intro k hk; simp [cellsE] at hk; subst hk; exact l2)
    refine ⟨h2.below, o1, fun k hk => ?_, h2.sep⟩
    simp [cellsE] at hk; subst hk
    refine ⟨Nat.le_trans hw.below.size l1.1, l1.2, fun E' hE' hk' => ?_⟩
    rcases List.mem_cons.1 hE' with rfl | hE'
    · simp [cellsE] at hk'; exact hne hk'
    · have := (hw.fp hE' _ hk').2; omega⟩) fun u a w h hw => by
    obtain ⟨b1, b2, rfl, hw⟩ := hw
    exact kk b1 b2 a w h hw
theorem Own.of_cells {α : Type} {w0 w : World} {H : List Ent} {c : Cd α} {e : TypeId} {b : Nat} {xs : List α} (hw : Wd w0 H w) (hm : cellsE b (c.all xs) e ∈ H) (hl : Nat.ble xs.length maxLen = true) : Own c e w0.heap.size w (some ⟨b, 0, none⟩) xs.length xs :=
  ⟨c.all_len xs, .inr ⟨b, xs.length, (c.all xs).toArray, rfl, (hw.fp hm b (by simp [cellsE])).1, hw.ok hm, Nat.le_refl _, Nat.le_of_ble_eq_true hl, by simp [c.all_len], by rw [← c.all_len xs]; simp⟩⟩
/-- A package variable that is an array, as a row. -/
theorem glob_row {α : Type} {w : World} {name : String} {g m : Nat} {c : Cd α} {hm : 0 < m} {v : Vector α m} (h : Gv P w name (cVec c m hm) v) (hg : P.globalNamed name = some g) : Row c w (some ⟨g, 0, none⟩) m v.toList :=
  ⟨by simp, .inr ⟨g, 0, rfl, fun j u hu => by rw [Nat.zero_add]; exact h.cell hg j u hu⟩⟩
end Go.Proofs.YtkkmmpofdcccmaaGreatDoor.E
namespace Go.Proofs.YtkkmmpofdcccmaaGreatDoor
open E Go.RowKit
def crawlwayref03_Text (x0 : Int) : Option (ByteArray) :=
  if (decide (x0 < 10)) = true then (some (⟨(unb ([wr .u8 (wr .u64 (48 + (Int.tmod x0 10)))])).toArray⟩ : ByteArray)) else (crawlwayref03_Text (wr .u64 (Int.tdiv x0 10)) >>= fun t3 => if t3.size + (⟨(unb ([wr .u8 (wr .u64 (48 + (Int.tmod x0 10)))])).toArray⟩ : ByteArray).size ≤ 140737488355328 then some (t3 ++ (⟨(unb ([wr .u8 (wr .u64 (48 + (Int.tmod x0 10)))])).toArray⟩ : ByteArray)) else none)
  partial_fixpoint
theorem crawlwayref03_Text_ok (x0 : Int) (r : ByteArray) (hF : crawlwayref03_Text x0 = some r) (w : World) :
    Calls Tryz.prog 55 #[.int .u64 x0] w (fun e w' => e = .returned (.string r) ∧ Below w.heap.size w w') := by
 refine crawlwayref03_Text.partial_correctness (motive := fun x0 r => ∀ (w : World), Calls Tryz.prog 55 #[.int .u64 x0] w (fun e w' => e = .returned (.string r) ∧ Below w.heap.size w w')) ?_ _ _ hF w
 clear hF
 intro g ihf0 x0 r hF w
 have ihf : ∀ (x0 : Int) (r : ByteArray) (hF : g x0 = some r) (w : World), Calls Tryz.prog 55 #[.int .u64 x0] w (fun e w' => e = .returned (.string r) ∧ Below w.heap.size w w') := fun x0 r hF w => ihf0 x0 r hF w
 refine calls_enter (l := [.int .u64 x0]) Tryz.func55 rfl rfl rfl ?_
 refine at_start ?_
 refine at_weak [(0, _)] ⟨rfl, trivial⟩ ?_
 refine sr ?_
 refine av rfl (r_assign rfl) ?_
 refine nws [(0, _)] ⟨rfl, trivial⟩ ?_
 refine av rfl (r_move rfl) ?_
 refine av rfl (r_irem rfl rfl (by decide)) ?_
 refine av rfl (r_iadd rfl rfl) ?_
 refine av rfl (r_conv Tryz.underlying31 Tryz.underlying5 rfl) ?_
 refine at_lit (cs := (cInt .u8).all ([wr .u8 (wr .u64 (48 + (Int.tmod x0 10)))] : List Int)) Tryz.underlying22 Tryz.sizeOf5 Tryz.zeroValue5 rfl rfl rfl (by kernel_rfl) rfl ?_
 intro b1
 refine av rfl (r_conv_bytes (xs := ([wr .u8 (wr .u64 (48 + (Int.tmod x0 10)))] : List Int)) Tryz.underlying22 Tryz.underlying5 Tryz.underlying9 rfl (fun w1 hw => (cells_row (hw.ok (Upd.mem .z))))) ?_
 refine av rfl (r_assign rfl) ?_
 refine at_nil ?_
 refine at_drop (H := _) .z ?_
 refine at_weak [(0, _), (3, _)] ⟨rfl, rfl, trivial⟩ ?_
 refine at_then_normal ?_
 refine at_seq ?_
 refine sr ?_
 refine av rfl (r_move rfl) ?_
 refine av rfl (r_ilss rfl rfl) ?_
 refine nwt [(0, _), (3, _), (11, _)] ⟨rfl, rfl, rfl, trivial⟩ ?_
 rcases of_ite hF with ⟨h2, hF⟩ | ⟨h2, hF⟩
 ·refine at_cond_true rfl h2 ?_
  refine sr ?_
  refine av rfl (r_move rfl) ?_
  refine av rfl (r_assign rfl) ?_
  refine nwt [(2, _)] ⟨rfl, trivial⟩ ?_
  refine rt ?_
  have K := of_some hF
  subst K
  exact at_return1 rfl rfl (fun w1 hw => ⟨rfl, hw.below⟩)
 ·refine at_cond_false rfl h2 ?_
  refine sns ?_
  refine av rfl (r_move rfl) ?_
  refine av rfl (r_iquo rfl rfl (by decide)) ?_
  obtain ⟨t3, ht3, hF⟩ := of_bindM hF
  refine at_callB Tryz.func55 rfl (by kernel_rfl) rfl rfl (fun w hw => ihf _ _ ht3 w) ?_
  refine av rfl (r_move rfl) ?_
  obtain ⟨h4, hF⟩ := of_guard hF
  refine av rfl (r_concat rfl rfl h4) ?_
  refine av rfl (r_assign rfl) ?_
  refine nwt [(2, _)] ⟨rfl, trivial⟩ ?_
  refine at_ret ?_
  have K := of_some hF
  subst K
  exact at_return1 rfl rfl (fun w1 hw => ⟨rfl, hw.below⟩)
def decimal_Text (x0 : Int) : Option (ByteArray) :=
  if (0 : Int) ≤ x0 ∧ x0 < 18446744073709551616 then some (fmtU x0) else none
theorem decimal_Text_ok (x0 : Int) (r : ByteArray) (hF : decimal_Text x0 = some r) (w : World) (hg_strconv_uint64pow10 : GV_strconv_uint64pow10 w) :
    Calls Tryz.prog 113 #[.int .u64 x0] w (fun e w' => e = .returned (.string r) ∧ Below w.heap.size w w') := by
 unfold decimal_Text at hF
 refine calls_enter (l := [.int .u64 x0]) Tryz.func113 rfl rfl rfl ?_
 refine at_start ?_
 refine at_weak [(0, _)] ⟨rfl, trivial⟩ ?_
 refine sr ?_
 refine av rfl (r_assign rfl) ?_
 refine nws [(0, _)] ⟨rfl, trivial⟩ ?_
 refine av rfl (r_move rfl) ?_
 obtain ⟨h1, hF⟩ := of_guard hF
 refine at_callB Tryz.func163 rfl (by kernel_rfl) rfl rfl (fun w1 hw => formatUint_ok _ h1 w1 (hg_strconv_uint64pow10.on hw.below)) ?_
 refine av rfl (r_assign rfl) ?_
 refine nwt [(2, _)] ⟨rfl, trivial⟩ ?_
 refine at_ret ?_
 have K := of_some hF
 subst K
 exact at_return1 rfl rfl (fun w1 hw => ⟨rfl, hw.below⟩)
def crawlwayref03_Prefix.l0 (x0 : ByteArray) (i2 : Int) : Option (Int) :=
  if (decide (i2 < (x0.size : Int))) = true then (if (0 : Int) ≤ i2 ∧ i2 < (x0.size : Int) then if (decide (bt x0 i2 ≥ 48)) = true then (if (0 : Int) ≤ i2 ∧ i2 < (x0.size : Int) then if (decide (bt x0 i2 ≤ 57)) = true then (crawlwayref03_Prefix.l0 x0 (wr .i64 (i2 + 1))) else (some i2) else none) else (some i2) else none) else (some i2)
  partial_fixpoint
def crawlwayref03_Prefix (x0 : ByteArray) : Option (Int) :=
  crawlwayref03_Prefix.l0 x0 0 >>= fun q1 => some q1
def decimal_Prefix.l0 (x0 : ByteArray) (i3 : Nat) : Option (Ctl (Int) (Unit)) :=
  if decide (i3 < x0.size) = true then (if (decide (dcode x0 i3 < 48)) = true then (some (.ret (i3 : Int))) else (if (decide (dcode x0 i3 > 57)) = true then (some (.ret (i3 : Int))) else (decimal_Prefix.l0 x0 (dstep x0 i3)))) else (some (.nx ()))
  partial_fixpoint
def decimal_Prefix (x0 : ByteArray) : Option (Int) :=
  decimal_Prefix.l0 x0 0 >>= fun q2 => match q2 with | .ret r' => some r' | .nx sq2 => (some (x0.size : Int))
theorem decimal_Prefix_ok (x0 : ByteArray) (r : Int) (hF : decimal_Prefix x0 = some r) (w : World) :
    Calls Tryz.prog 161 #[.string x0] w (fun e w' => e = .returned (.int .i64 r) ∧ Below w.heap.size w w') := by
 unfold decimal_Prefix at hF
 refine calls_enter (l := [.string x0]) Tryz.func161 rfl rfl rfl ?_
 refine at_start ?_
 refine at_weak [(0, _)] ⟨rfl, trivial⟩ ?_
 refine sr ?_
 refine av rfl (r_assign rfl) ?_
 refine nwt [(0, _)] ⟨rfl, trivial⟩ ?_
 refine at_seq ?_
 refine sr ?_
 refine av rfl (r_move rfl) ?_
 refine at_range (s := x0) Tryz.underlying9 rfl rfl ?_
 intro b1
 refine nwt [(0, _), (6, _)] ⟨rfl, rfl, trivial⟩ ?_
 refine at_block ?_
 obtain ⟨q2, hq2, hF⟩ := of_bindM hF
 refine at_weak [(0, _), (6, _)] ⟨rfl, rfl, trivial⟩ ?_
 refine at_loop_r (B := 0) (r := r) (q := q2) (A := fun (_ : Unit) Y => At 20 [(0, .string x0)] (Wd w []) Y) ?_ ?_
 ·intro K
  refine decimal_Prefix.l0.partial_correctness x0 (motive := fun i3 x => KR (fun (_ : Unit) Y => At 20 [(0, .string x0)] (Wd w []) Y) _ 0 r x → Round (fun Y => At 20 [(0, .string x0), (6, .pointer (some ⟨b1, 0, none⟩))] (Wd w [iterE b1 x0 i3]) Y) _ _ _) ?_ _ _ hq2 K
  ·clear K hF
   intro g ih i3 x hF K
   refine at_round ?_
   refine sr ?_
   rcases of_ite hF with ⟨h4, hF⟩ | ⟨h4, hF⟩
   ·refine at_next (s := x0) (p := i3) .z rfl rfl h4 ?_
    refine av rfl (r_extract rfl rfl) ?_
    refine nwt [(0, _), (6, _), (7, _), (8, _)] ⟨rfl, rfl, rfl, rfl, trivial⟩ ?_
    refine at_seq ?_
    refine at_cond_true rfl rfl ?_
    refine sn ?_
    refine at_block ?_
    refine sr ?_
    refine av rfl (r_extract rfl rfl) ?_
    refine av rfl (r_extract rfl rfl) ?_
    refine av rfl (r_assign rfl) ?_
    refine av rfl (r_assign rfl) ?_
    refine nws [(0, _), (3, _), (4, _), (6, _)] ⟨rfl, rfl, rfl, rfl, trivial⟩ ?_
    refine av rfl (r_move rfl) ?_
    refine av rfl (r_ilss rfl rfl) ?_
    refine av rfl (r_move rfl) ?_
    rcases of_ite hF with ⟨h5, hF⟩ | ⟨h5, hF⟩
    ·refine at_fix (g := 13) rfl h5 ?_
     refine at_guard_no rfl rfl rfl rfl rfl ?_
     refine at_guard_no rfl rfl rfl rfl rfl ?_
     refine av rfl (r_pick rfl rfl rfl) ?_
     refine nwt [(0, _), (3, _), (6, _), (16, _)] ⟨rfl, rfl, rfl, rfl, trivial⟩ ?_
     refine at_cond_true rfl rfl ?_
     refine sr ?_
     refine av rfl (r_move rfl) ?_
     refine av rfl (r_assign rfl) ?_
     refine at_nil ?_
     refine at_drop (H := _) .z ?_
     refine at_weak [(2, _)] ⟨rfl, trivial⟩ ?_
     refine at_then_normal ?_
     refine at_ret ?_
     refine at_blk_ret (at_then_ret (at_blk_ret (at_then_ret ?_)))
     obtain rfl := of_some hF
     subst K
     exact at_return1 rfl rfl (fun w1 hw => ⟨rfl, hw.below⟩)
    ·refine at_fix (g := 13) rfl h5 ?_
     refine at_guard_yes rfl rfl rfl ?_
     refine av rfl (r_move rfl) ?_
     refine at_guard_yes rfl rfl rfl ?_
     refine av rfl (r_igtr rfl rfl) ?_
     refine av rfl (r_pick rfl rfl rfl) ?_
     refine nwt [(0, _), (3, _), (6, _), (16, _)] ⟨rfl, rfl, rfl, rfl, trivial⟩ ?_
     rcases of_ite hF with ⟨h6, hF⟩ | ⟨h6, hF⟩
     ·refine at_cond_true rfl h6 ?_
      refine sr ?_
      refine av rfl (r_move rfl) ?_
      refine av rfl (r_assign rfl) ?_
      refine at_nil ?_
      refine at_drop (H := _) .z ?_
      refine at_weak [(2, _)] ⟨rfl, trivial⟩ ?_
      refine at_then_normal ?_
      refine at_ret ?_
      refine at_blk_ret (at_then_ret (at_blk_ret (at_then_ret ?_)))
      obtain rfl := of_some hF
      subst K
      exact at_return1 rfl rfl (fun w1 hw => ⟨rfl, hw.below⟩)
     ·refine at_cond_false rfl h6 ?_
      refine at_skip ?_
      refine at_blk_normal (at_then_normal ?_)
      exact at_weak_k (ih _ _ hF K) ⟨rfl, rfl, trivial⟩
   ·refine at_over (s := x0) (p := i3) .z rfl rfl h4 ?_
    refine av rfl (r_extract rfl rfl) ?_
    refine nwt [(0, _), (6, _), (7, _), (8, _)] ⟨rfl, rfl, rfl, rfl, trivial⟩ ?_
    refine at_seq ?_
    refine at_cond_false rfl rfl ?_
    refine at_exit ?_
    refine at_then_exit (at_then_exit ?_)
    refine at_drop (H := _) .z ?_
    obtain rfl := of_some hF
    exact at_weak_k K ⟨rfl, trivial⟩
 ·cases q2 with
  | ret r' => exact of_some hF
  | nx sq2 =>
   skip
   refine at_blk_same ?_
   refine at_then_normal ?_
   refine sr ?_
   refine av rfl (r_move rfl) ?_
   refine av rfl (r_len_str Tryz.underlying9 rfl) ?_
   refine av rfl (r_assign rfl) ?_
   refine nwt [(2, _)] ⟨rfl, trivial⟩ ?_
   refine at_ret ?_
   have K := of_some hF
   subst K
   exact at_return1 rfl rfl (fun w1 hw => ⟨rfl, hw.below⟩)
def decimal_Read (x0 : ByteArray) (x1 : Int) : Option (Int × Int) :=
  if (seq x0 (⟨#[]⟩ : ByteArray)) = true then (some (0, 5)) else (decimal_Prefix x0 >>= fun t2 => if (decide (t2 < (x0.size : Int))) = true then (some (0, 5)) else (if (decide ((x0.size : Int) > 1)) = true then (if (0 : Int) ≤ 0 ∧ 0 < (x0.size : Int) then if (bt x0 0 == 48) = true then (some (0, 5)) else (if x0.size ≤ 281474976710656 then if (!!((parU x0).2)) = true then (some (0, 6)) else (if (decide ((parU x0).1 > x1)) = true then (some (0, 6)) else (some ((parU x0).1, 0))) else none) else none) else (if x0.size ≤ 281474976710656 then if (!!((parU x0).2)) = true then (some (0, 6)) else (if (decide ((parU x0).1 > x1)) = true then (some (0, 6)) else (some ((parU x0).1, 0))) else none)))
theorem decimal_Read_ok (x0 : ByteArray) (x1 : Int) (r : Int × Int) (hF : decimal_Read x0 x1 = some r) (w : World) (hg_strconv_ErrRange : GV_strconv_ErrRange w) (hg_strconv_ErrSyntax : GV_strconv_ErrSyntax w) :
    Calls Tryz.prog 111 #[.string x0, .int .u64 x1] w (fun e w' => e = .returned (.tuple #[.int .u64 r.1, .int .i64 r.2]) ∧ Below w.heap.size w w') := by
 unfold decimal_Read at hF
 refine calls_enter (l := [.string x0, .int .u64 x1]) Tryz.func111 rfl rfl rfl ?_
 refine at_start ?_
 refine at_weak [(0, _), (1, _)] ⟨rfl, rfl, trivial⟩ ?_
 refine sr ?_
 refine av rfl (r_assign rfl) ?_
 refine av rfl (r_assign rfl) ?_
 refine nwt [(0, _), (1, _)] ⟨rfl, rfl, trivial⟩ ?_
 refine at_seq ?_
 refine sr ?_
 refine av rfl (r_move rfl) ?_
 refine av rfl (r_seql rfl rfl) ?_
 refine av rfl (r_move rfl) ?_
 rcases of_ite hF with ⟨h1, hF⟩ | ⟨h1, hF⟩
 ·refine at_fix (g := 10) rfl h1 ?_
  refine at_guard_no rfl rfl rfl rfl rfl ?_
  refine at_guard_no rfl rfl rfl rfl rfl ?_
  refine at_guard_no rfl rfl rfl rfl rfl ?_
  refine at_guard_no rfl rfl rfl rfl rfl ?_
  refine at_guard_no rfl rfl rfl rfl rfl ?_
  refine av rfl (r_pick rfl rfl rfl) ?_
  refine av rfl (r_move rfl) ?_
  refine at_guard_no rfl rfl rfl rfl rfl ?_
  refine at_guard_no rfl rfl rfl rfl rfl ?_
  refine at_guard_no rfl rfl rfl rfl rfl ?_
  refine at_guard_no rfl rfl rfl rfl rfl ?_
  refine at_guard_undef rfl rfl rfl rfl ?_
  refine at_guard_undef rfl rfl rfl rfl ?_
  refine at_guard_undef rfl rfl rfl rfl ?_
  refine at_guard_no rfl rfl rfl rfl rfl ?_
  refine av rfl (r_pick rfl rfl rfl) ?_
  refine nwt [(0, _), (1, _), (26, _)] ⟨rfl, rfl, rfl, trivial⟩ ?_
  refine at_cond_true rfl rfl ?_
  refine sr ?_
  refine av rfl (r_assign rfl) ?_
  refine av rfl (r_assign rfl) ?_
  refine nwt [(4, _), (5, _)] ⟨rfl, rfl, trivial⟩ ?_
  refine rt ?_
  have K := of_some hF
  subst K
  exact at_return2 rfl rfl rfl (fun w1 hw => ⟨rfl, hw.below⟩)
 ·refine at_fix (g := 10) rfl h1 ?_
  refine at_guard_yes rfl rfl rfl ?_
  refine av rfl (r_move rfl) ?_
  refine at_guard_yes rfl rfl rfl ?_
  obtain ⟨t2, ht2, hF⟩ := of_bindM hF
  refine at_callB Tryz.func161 rfl (by kernel_rfl) rfl rfl (fun w hw => decimal_Prefix_ok _ _ ht2 w) ?_
  refine at_guard_yes rfl rfl rfl ?_
  refine av rfl (r_move rfl) ?_
  refine at_guard_yes rfl rfl rfl ?_
  refine av rfl (r_len_str Tryz.underlying9 rfl) ?_
  refine at_guard_yes rfl rfl rfl ?_
  refine av rfl (r_ilss rfl rfl) ?_
  refine av rfl (r_pick rfl rfl rfl) ?_
  refine av rfl (r_move rfl) ?_
  rcases of_ite hF with ⟨h3, hF⟩ | ⟨h3, hF⟩
  ·refine at_fix (g := 17) rfl h3 ?_
   refine at_guard_no rfl rfl rfl rfl rfl ?_
   refine at_guard_no rfl rfl rfl rfl rfl ?_
   refine at_guard_no rfl rfl rfl rfl rfl ?_
   refine at_guard_no rfl rfl rfl rfl rfl ?_
   refine at_guard_undef rfl rfl rfl rfl ?_
   refine at_guard_undef rfl rfl rfl rfl ?_
   refine at_guard_undef rfl rfl rfl rfl ?_
   refine at_guard_no rfl rfl rfl rfl rfl ?_
   refine av rfl (r_pick rfl rfl rfl) ?_
   refine nwt [(0, _), (1, _), (26, _)] ⟨rfl, rfl, rfl, trivial⟩ ?_
   refine at_cond_true rfl rfl ?_
   refine sr ?_
   refine av rfl (r_assign rfl) ?_
   refine av rfl (r_assign rfl) ?_
   refine nwt [(4, _), (5, _)] ⟨rfl, rfl, trivial⟩ ?_
   refine rt ?_
   have K := of_some hF
   subst K
   exact at_return2 rfl rfl rfl (fun w1 hw => ⟨rfl, hw.below⟩)
  ·refine at_fix (g := 17) rfl h3 ?_
   refine at_guard_yes rfl rfl rfl ?_
   refine av rfl (r_move rfl) ?_
   refine at_guard_yes rfl rfl rfl ?_
   refine av rfl (r_len_str Tryz.underlying9 rfl) ?_
   refine at_guard_yes rfl rfl rfl ?_
   refine av rfl (r_igtr rfl rfl) ?_
   refine at_guard_yes rfl rfl rfl ?_
   refine av rfl (r_move rfl) ?_
   rcases of_ite hF with ⟨h4, hF⟩ | ⟨h4, hF⟩
   ·refine at_fix (g := 21) rfl h4 ?_
    refine at_guard_yes rfl rfl rfl ?_
    refine av rfl (r_move rfl) ?_
    refine at_guard_yes rfl rfl rfl ?_
    obtain ⟨h5, hF⟩ := of_guard hF
    refine av rfl (r_index_str Tryz.underlying9 rfl rfl h5) ?_
    refine at_guard_yes rfl rfl rfl ?_
    refine av rfl (r_ieql rfl rfl) ?_
    refine at_guard_yes rfl rfl rfl ?_
    refine av rfl (r_pick rfl rfl rfl) ?_
    refine av rfl (r_pick rfl rfl rfl) ?_
    refine nwt [(0, _), (1, _), (26, _)] ⟨rfl, rfl, rfl, trivial⟩ ?_
    rcases of_ite hF with ⟨h6, hF⟩ | ⟨h6, hF⟩
    ·refine at_cond_true rfl h6 ?_
     refine sr ?_
     refine av rfl (r_assign rfl) ?_
     refine av rfl (r_assign rfl) ?_
     refine nwt [(4, _), (5, _)] ⟨rfl, rfl, trivial⟩ ?_
     refine rt ?_
     have K := of_some hF
     subst K
     exact at_return2 rfl rfl rfl (fun w1 hw => ⟨rfl, hw.below⟩)
    ·refine at_cond_false rfl h6 ?_
     refine sns ?_
     refine av rfl (r_move rfl) ?_
     obtain ⟨h7, hF⟩ := of_guard hF
     refine at_callE Tryz.func162 rfl (by kernel_rfl) rfl rfl (fun w1 hw => parseUint_ok _ h7 w1 (hg_strconv_ErrRange.on hw.below) (hg_strconv_ErrSyntax.on hw.below)) ?_
     intro u8 hu9
     refine av rfl (r_move rfl) ?_
     refine av rfl (r_extract rfl rfl) ?_
     refine av rfl (r_extract rfl rfl) ?_
     refine av rfl (r_assign rfl) ?_
     refine av rfl (r_assign rfl) ?_
     refine nwt [(1, _), (6, _), (7, _)] ⟨rfl, rfl, rfl, trivial⟩ ?_
     refine at_seq ?_
     refine sr ?_
     refine av rfl (r_move rfl) ?_
     refine av rfl (r_err Tryz.underlying140 rfl hu9 (.inr rfl) rfl) ?_
     refine av rfl (r_move rfl) ?_
     rcases of_ite hF with ⟨h10, hF⟩ | ⟨h10, hF⟩
     ·refine at_fix (g := 34) rfl h10 ?_
      refine at_guard_no rfl rfl rfl rfl rfl ?_
      refine at_guard_no rfl rfl rfl rfl rfl ?_
      refine at_guard_no rfl rfl rfl rfl rfl ?_
      refine av rfl (r_pick rfl rfl rfl) ?_
      refine nwt [(6, _), (38, _)] ⟨rfl, rfl, trivial⟩ ?_
      refine at_cond_true rfl rfl ?_
      refine sr ?_
      refine av rfl (r_assign rfl) ?_
      refine av rfl (r_assign rfl) ?_
      refine nwt [(4, _), (5, _)] ⟨rfl, rfl, trivial⟩ ?_
      refine rt ?_
      have K := of_some hF
      subst K
      exact at_return2 rfl rfl rfl (fun w1 hw => ⟨rfl, hw.below⟩)
     ·refine at_fix (g := 34) rfl h10 ?_
      refine at_guard_yes rfl rfl rfl ?_
      refine av rfl (r_move rfl) ?_
      refine at_guard_yes rfl rfl rfl ?_
      refine av rfl (r_move rfl) ?_
      refine at_guard_yes rfl rfl rfl ?_
      refine av rfl (r_igtr rfl rfl) ?_
      refine av rfl (r_pick rfl rfl rfl) ?_
      refine nwt [(6, _), (38, _)] ⟨rfl, rfl, trivial⟩ ?_
      rcases of_ite hF with ⟨h11, hF⟩ | ⟨h11, hF⟩
      ·refine at_cond_true rfl h11 ?_
       refine sr ?_
       refine av rfl (r_assign rfl) ?_
       refine av rfl (r_assign rfl) ?_
       refine nwt [(4, _), (5, _)] ⟨rfl, rfl, trivial⟩ ?_
       refine rt ?_
       have K := of_some hF
       subst K
       exact at_return2 rfl rfl rfl (fun w1 hw => ⟨rfl, hw.below⟩)
      ·refine at_cond_false rfl h11 ?_
       refine sns ?_
       refine av rfl (r_move rfl) ?_
       refine av rfl (r_assign rfl) ?_
       refine av rfl (r_assign rfl) ?_
       refine nwt [(4, _), (5, _)] ⟨rfl, rfl, trivial⟩ ?_
       refine at_ret ?_
       have K := of_some hF
       subst K
       exact at_return2 rfl rfl rfl (fun w1 hw => ⟨rfl, hw.below⟩)
   ·refine at_fix (g := 21) rfl h4 ?_
    refine at_guard_no rfl rfl rfl rfl rfl ?_
    refine at_guard_no rfl rfl rfl rfl rfl ?_
    refine at_guard_no rfl rfl rfl rfl rfl ?_
    refine at_guard_yes rfl rfl rfl ?_
    refine av rfl (r_pick rfl rfl rfl) ?_
    refine av rfl (r_pick rfl rfl rfl) ?_
    refine nwt [(0, _), (1, _), (26, _)] ⟨rfl, rfl, rfl, trivial⟩ ?_
    refine at_cond_false rfl rfl ?_
    refine sns ?_
    refine av rfl (r_move rfl) ?_
    obtain ⟨h12, hF⟩ := of_guard hF
    refine at_callE Tryz.func162 rfl (by kernel_rfl) rfl rfl (fun w1 hw => parseUint_ok _ h12 w1 (hg_strconv_ErrRange.on hw.below) (hg_strconv_ErrSyntax.on hw.below)) ?_
    intro u13 hu14
    refine av rfl (r_move rfl) ?_
    refine av rfl (r_extract rfl rfl) ?_
    refine av rfl (r_extract rfl rfl) ?_
    refine av rfl (r_assign rfl) ?_
    refine av rfl (r_assign rfl) ?_
    refine nwt [(1, _), (6, _), (7, _)] ⟨rfl, rfl, rfl, trivial⟩ ?_
    refine at_seq ?_
    refine sr ?_
    refine av rfl (r_move rfl) ?_
    refine av rfl (r_err Tryz.underlying140 rfl hu14 (.inr rfl) rfl) ?_
    refine av rfl (r_move rfl) ?_
    rcases of_ite hF with ⟨h15, hF⟩ | ⟨h15, hF⟩
    ·refine at_fix (g := 34) rfl h15 ?_
     refine at_guard_no rfl rfl rfl rfl rfl ?_
     refine at_guard_no rfl rfl rfl rfl rfl ?_
     refine at_guard_no rfl rfl rfl rfl rfl ?_
     refine av rfl (r_pick rfl rfl rfl) ?_
     refine nwt [(6, _), (38, _)] ⟨rfl, rfl, trivial⟩ ?_
     refine at_cond_true rfl rfl ?_
     refine sr ?_
     refine av rfl (r_assign rfl) ?_
     refine av rfl (r_assign rfl) ?_
     refine nwt [(4, _), (5, _)] ⟨rfl, rfl, trivial⟩ ?_
     refine rt ?_
     have K := of_some hF
     subst K
     exact at_return2 rfl rfl rfl (fun w1 hw => ⟨rfl, hw.below⟩)
    ·refine at_fix (g := 34) rfl h15 ?_
     refine at_guard_yes rfl rfl rfl ?_
     refine av rfl (r_move rfl) ?_
     refine at_guard_yes rfl rfl rfl ?_
     refine av rfl (r_move rfl) ?_
     refine at_guard_yes rfl rfl rfl ?_
     refine av rfl (r_igtr rfl rfl) ?_
     refine av rfl (r_pick rfl rfl rfl) ?_
     refine nwt [(6, _), (38, _)] ⟨rfl, rfl, trivial⟩ ?_
     rcases of_ite hF with ⟨h16, hF⟩ | ⟨h16, hF⟩
     ·refine at_cond_true rfl h16 ?_
      refine sr ?_
      refine av rfl (r_assign rfl) ?_
      refine av rfl (r_assign rfl) ?_
      refine nwt [(4, _), (5, _)] ⟨rfl, rfl, trivial⟩ ?_
      refine rt ?_
      have K := of_some hF
      subst K
      exact at_return2 rfl rfl rfl (fun w1 hw => ⟨rfl, hw.below⟩)
     ·refine at_cond_false rfl h16 ?_
      refine sns ?_
      refine av rfl (r_move rfl) ?_
      refine av rfl (r_assign rfl) ?_
      refine av rfl (r_assign rfl) ?_
      refine nwt [(4, _), (5, _)] ⟨rfl, rfl, trivial⟩ ?_
      refine at_ret ?_
      have K := of_some hF
      subst K
      exact at_return2 rfl rfl rfl (fun w1 hw => ⟨rfl, hw.below⟩)
def crawlwayref03_Read.l0 (x0 : ByteArray) (x1 : Int) (i8 : Int) (i9 : Int) : Option (Ctl (Int × Int) (Int)) :=
  if (decide (i9 < (x0.size : Int))) = true then (if (0 : Int) ≤ i9 ∧ i9 < (x0.size : Int) then if (decide (i8 > wr .u64 (Int.tdiv x1 10))) = true then (some (.ret (0, 6))) else (if (decide (wr .u64 (10 * i8) > wr .u64 (x1 - (if x1 < wr .u64 ((wr .u64 (bt x0 i9)) - 48) then x1 else wr .u64 ((wr .u64 (bt x0 i9)) - 48))))) = true then (some (.ret (0, 6))) else (if (decide (wr .u64 ((wr .u64 (bt x0 i9)) - 48) > x1)) = true then (some (.ret (0, 6))) else (crawlwayref03_Read.l0 x0 x1 (wr .u64 ((wr .u64 (10 * i8)) + (wr .u64 ((wr .u64 (bt x0 i9)) - 48)))) (wr .i64 (i9 + 1))))) else none) else (some (.nx i8))
  partial_fixpoint
def crawlwayref03_Read.l1 (x0 : ByteArray) (x1 : Int) (i16 : Int) (i17 : Int) : Option (Ctl (Int × Int) (Int)) :=
  if (decide (i17 < (x0.size : Int))) = true then (if (0 : Int) ≤ i17 ∧ i17 < (x0.size : Int) then if (decide (i16 > wr .u64 (Int.tdiv x1 10))) = true then (some (.ret (0, 6))) else (if (decide (wr .u64 (10 * i16) > wr .u64 (x1 - (if x1 < wr .u64 ((wr .u64 (bt x0 i17)) - 48) then x1 else wr .u64 ((wr .u64 (bt x0 i17)) - 48))))) = true then (some (.ret (0, 6))) else (if (decide (wr .u64 ((wr .u64 (bt x0 i17)) - 48) > x1)) = true then (some (.ret (0, 6))) else (crawlwayref03_Read.l1 x0 x1 (wr .u64 ((wr .u64 (10 * i16)) + (wr .u64 ((wr .u64 (bt x0 i17)) - 48)))) (wr .i64 (i17 + 1))))) else none) else (some (.nx i16))
  partial_fixpoint
def crawlwayref03_Read (x0 : ByteArray) (x1 : Int) : Option (Int × Int) :=
  if ((x0.size : Int) == 0) = true then (some (0, 5)) else (crawlwayref03_Prefix x0 >>= fun t2 => if (decide (t2 < (x0.size : Int))) = true then (some (0, 5)) else (if (decide ((x0.size : Int) > 1)) = true then (if (0 : Int) ≤ 0 ∧ 0 < (x0.size : Int) then if (bt x0 0 == 48) = true then (some (0, 5)) else (crawlwayref03_Read.l0 x0 x1 0 0 >>= fun q7 => match q7 with | .ret r' => some r' | .nx sq7 => (some (sq7, 0))) else none) else (crawlwayref03_Read.l1 x0 x1 0 0 >>= fun q15 => match q15 with | .ret r' => some r' | .nx sq15 => (some (sq15, 0)))))
end Go.Proofs.YtkkmmpofdcccmaaGreatDoor
namespace Go.Proofs.YtkkmmpofdcccmaaGreatDoor
open E Go.RowKit
theorem infoG29_is : (Tryz.prog.info? 9).isSome = true := by kernel_rfl
noncomputable def infoG29_v : TypeInfo := (Tryz.prog.info? 9).get infoG29_is
theorem infoG29 : Tryz.prog.info? 9 = some infoG29_v := (Option.some_get _).symm
def quad_Text.l0 (x0 : (Vector Int 4)) (i4 : Int) (i5 : (Vector ByteArray 4)) : Option ((Vector ByteArray 4)) :=
  if (decide (i4 < 4)) = true then (if (0 : Int) ≤ i4 ∧ i4 < 4 then decimal_Text (wr .u64 (vget x0 i4)) >>= fun t8 => if (0 : Int) ≤ i4 ∧ i4 < 4 then quad_Text.l0 x0 (wr .i64 (i4 + 1)) (vset i5 i4 t8) else none else none) else (some i5)
  partial_fixpoint
def quad_Text (x0 : (Vector Int 4)) : Option (ByteArray) :=
  quad_Text.l0 x0 0 (Vector.replicate 4 (⟨#[]⟩ : ByteArray) : (Vector ByteArray 4)) >>= fun q3 => if List.length (Vector.toList q3) ≤ 140737488355328 then if (bjoin (Vector.toList q3) (⟨#[46]⟩ : ByteArray)).size ≤ 140737488355328 then some (bjoin (Vector.toList q3) (⟨#[46]⟩ : ByteArray)) else none else none
theorem quad_Text_ok (x0 : (Vector Int 4)) (r : ByteArray) (hF : quad_Text x0 = some r) (w : World) (hg_strconv_uint64pow10 : GV_strconv_uint64pow10 w) :
    Calls Tryz.prog 183 #[.agg (Cd.cs (cVec (cInt .u8) 4 (by decide)) x0).toArray] w (fun e w' => e = .returned (.string r) ∧ Below w.heap.size w w') := by
 unfold quad_Text at hF
 refine calls_enter (l := [.agg (Cd.cs (cVec (cInt .u8) 4 (by decide)) x0).toArray]) Tryz.func183 rfl rfl rfl ?_
 refine at_start ?_
 refine at_weak [(0, _)] ⟨rfl, trivial⟩ ?_
 refine sr ?_
 refine at_box (cs := Cd.cs (cVec (cInt .u8) 4 (by decide)) x0) rfl rfl rfl ?_
 intro b1
 refine av rfl (r_assign rfl) ?_
 refine nws [(1, _)] ⟨rfl, trivial⟩ ?_
 refine at_alloc (cs := Cd.cs (cVec cStr 4 (by decide)) (Vector.replicate 4 (⟨#[]⟩ : ByteArray) : (Vector ByteArray 4))) Tryz.zeroValue213 rfl rfl ?_
 intro b2
 refine nwt [(1, _), (3, _)] ⟨rfl, rfl, trivial⟩ ?_
 refine at_seq ?_
 refine sr ?_
 refine av rfl (r_load_aggc (c := (cVec (cInt .u8) 4 (by decide))) (z := x0) Tryz.isAgg159 Tryz.sizeOf159 rfl (lens_cell (.s .z) (Lens.whole _ _))) ?_
 refine av rfl (r_move rfl) ?_
 refine at_nil ?_
 refine at_drop (H := _) (.s .z) ?_
 refine at_weak [(3, _), (6, _), (7, _)] ⟨rfl, rfl, rfl, trivial⟩ ?_
 refine at_then_normal ?_
 refine at_block ?_
 obtain ⟨q3, hq3, hF⟩ := of_bindM hF
 refine at_weak [(3, _), (6, _), (7, _)] ⟨rfl, rfl, rfl, trivial⟩ ?_
 refine at_loop_n (B := 0) (A := fun Y => At 19 [(3, .pointer (some ⟨b2, 0, none⟩))] (Wd w [cellsE b2 (Cd.cs (cVec cStr 4 (by decide)) q3) 213]) Y) ?_ ?_
 ·intro K
  refine quad_Text.l0.partial_correctness x0 (motive := fun i4 i5 x => KN (fun Y => At 19 [(3, .pointer (some ⟨b2, 0, none⟩))] (Wd w [cellsE b2 (Cd.cs (cVec cStr 4 (by decide)) x) 213]) Y) _ 0 → Round (fun Y => At 19 [(3, .pointer (some ⟨b2, 0, none⟩)), (6, .agg (Cd.cs (cVec (cInt .u8) 4 (by decide)) x0).toArray), (7, .int .i64 i4)] (Wd w [cellsE b2 (Cd.cs (cVec cStr 4 (by decide)) i5) 213]) Y) _ _ _) ?_ _ _ _ hq3 K
  ·clear K hF
   intro g ih i4 i5 x hF K
   refine at_round ?_
   refine sr ?_
   refine av rfl (r_ilss rfl rfl) ?_
   refine nwt [(3, _), (6, _), (7, _), (8, _)] ⟨rfl, rfl, rfl, rfl, trivial⟩ ?_
   refine at_seq ?_
   rcases of_ite hF with ⟨h6, hF⟩ | ⟨h6, hF⟩
   ·refine at_cond_true rfl h6 ?_
    refine sn ?_
    refine at_seq ?_
    refine at_block ?_
    refine sr ?_
    refine av rfl (r_move rfl) ?_
    obtain ⟨h7, hF⟩ := of_guard hF
    refine av rfl (r_idxVal Tryz.underlying159 Tryz.sizeOf5 rfl rfl h7 (part_vOf (Lens.vec (cInt .u8) (by decide) x0 i4 h7) Tryz.isAgg5 Tryz.sizeOf5 (.inr rfl))) ?_
    refine av rfl (r_assign rfl) ?_
    refine av rfl (r_assign rfl) ?_
    refine nwt [(3, _), (4, _), (5, _), (6, _), (7, _)] ⟨rfl, rfl, rfl, rfl, rfl, trivial⟩ ?_
    refine at_region ?_
    refine av rfl (r_move rfl) ?_
    refine av rfl (r_move rfl) ?_
    refine av rfl (r_conv Tryz.underlying5 Tryz.underlying31 rfl) ?_
    obtain ⟨t8, ht8, hF⟩ := of_bindM hF
    refine at_callB Tryz.func113 rfl (by kernel_rfl) rfl rfl (fun w hw => decimal_Text_ok _ _ ht8 w (hg_strconv_uint64pow10.on hw.below)) ?_
    obtain ⟨h9, hF⟩ := of_guard hF
    refine av rfl (r_idxArr Tryz.underlying213 Tryz.sizeOf9 rfl rfl h9) ?_
    refine at_store (c := cStr) (z := t8) .z (Lens.comp (Lens.whole _ _) (fun z => vset i5 i4 z) (Lens.vec cStr (by decide) i5 i4 h9)) Tryz.sizeOf9 rfl rfl rfl ?_
    refine at_nil ?_
    refine at_weak [(3, _), (6, _), (7, _)] ⟨rfl, rfl, rfl, trivial⟩ ?_
    refine at_blk_normal (at_then_normal ?_)
    refine at_region ?_
    refine av rfl (r_iadd rfl rfl) ?_
    refine av rfl (r_move rfl) ?_
    refine nwt [(3, _), (6, _), (7, _)] ⟨rfl, rfl, rfl, trivial⟩ ?_
    exact at_weak_k (ih _ _ _ hF K) ⟨rfl, rfl, rfl, trivial⟩
   ·refine at_cond_false rfl h6 ?_
    refine at_exit ?_
    refine at_then_exit (at_then_exit ?_)
    obtain rfl := of_some hF
    exact at_weak_k K ⟨rfl, trivial⟩
 ·skip
  skip
  refine at_blk_same ?_
  refine at_then_normal ?_
  refine sr ?_
  refine av rfl (r_slice_vec q3 Tryz.underlying213 Tryz.sizeOf9 rfl) ?_
  obtain ⟨h10, hF⟩ := of_guard hF
  obtain ⟨h11, hF⟩ := of_guard hF
  refine at_callB Tryz.func47 rfl (by kernel_rfl) rfl rfl (fun w1 hw => join_ok _ _ h10 h11 _ _ w1 (vec_row (hw.ok (Upd.mem .z)))) ?_
  refine av rfl (r_assign rfl) ?_
  refine at_nil ?_
  refine at_drop (H := _) .z ?_
  refine at_weak [(2, _)] ⟨rfl, trivial⟩ ?_
  refine at_then_normal ?_
  refine at_ret ?_
  have K := of_some hF
  subst K
  exact at_return1 rfl rfl (fun w1 hw => ⟨rfl, hw.below⟩)
def lines_Cut (x0 : ByteArray) (x1 : Int) : Option (ByteArray × ByteArray × Bool) :=
  if (decide (Lib.indexByte x0.data.toList (Nat.toUInt8 (Int.toNat x1)) < 0)) = true then (some (x0, ⟨#[]⟩, false)) else (if (0 : Int) ≤ 0 ∧ 0 ≤ Lib.indexByte x0.data.toList (Nat.toUInt8 (Int.toNat x1)) ∧ Lib.indexByte x0.data.toList (Nat.toUInt8 (Int.toNat x1)) ≤ (x0.size : Int) then if (0 : Int) ≤ wr .i64 ((Lib.indexByte x0.data.toList (Nat.toUInt8 (Int.toNat x1))) + 1) ∧ wr .i64 ((Lib.indexByte x0.data.toList (Nat.toUInt8 (Int.toNat x1))) + 1) ≤ (x0.size : Int) ∧ (x0.size : Int) ≤ (x0.size : Int) then some (x0.extract (Int.toNat 0) (Int.toNat (Lib.indexByte x0.data.toList (Nat.toUInt8 (Int.toNat x1)))), x0.extract (Int.toNat (wr .i64 ((Lib.indexByte x0.data.toList (Nat.toUInt8 (Int.toNat x1))) + 1))) (Int.toNat (x0.size : Int)), true) else none else none)
theorem lines_Cut_ok (x0 : ByteArray) (x1 : Int) (r : ByteArray × ByteArray × Bool) (hF : lines_Cut x0 x1 = some r) (w : World) :
    Calls Tryz.prog 86 #[.string x0, .int .u8 x1] w (fun e w' => e = .returned (.tuple #[.string r.1, .string r.2.1, .bool r.2.2]) ∧ Below w.heap.size w w') := by
 unfold lines_Cut at hF
 refine calls_enter (l := [.string x0, .int .u8 x1]) Tryz.func86 rfl rfl rfl ?_
 refine at_start ?_
 refine at_weak [(0, _), (1, _)] ⟨rfl, rfl, trivial⟩ ?_
 refine sr ?_
 refine av rfl (r_assign rfl) ?_
 refine av rfl (r_assign rfl) ?_
 refine av rfl (r_assign rfl) ?_
 refine nws [(0, _), (1, _)] ⟨rfl, rfl, trivial⟩ ?_
 refine av rfl (r_move rfl) ?_
 refine av rfl (r_move rfl) ?_
 refine at_call0 Tryz.func144 rfl (by kernel_rfl) rfl rfl (fun w => Tryz.strings_IndexByte _ _ w) ?_
 refine av rfl (r_assign rfl) ?_
 refine nwt [(0, _), (7, _)] ⟨rfl, rfl, trivial⟩ ?_
 refine at_seq ?_
 refine sr ?_
 refine av rfl (r_move rfl) ?_
 refine av rfl (r_ilss rfl rfl) ?_
 refine nwt [(0, _), (7, _), (12, _)] ⟨rfl, rfl, rfl, trivial⟩ ?_
 rcases of_ite hF with ⟨h1, hF⟩ | ⟨h1, hF⟩
 ·refine at_cond_true rfl h1 ?_
  refine sr ?_
  refine av rfl (r_move rfl) ?_
  refine av rfl (r_assign rfl) ?_
  refine av rfl (r_assign rfl) ?_
  refine av rfl (r_assign rfl) ?_
  refine nwt [(4, _), (5, _), (6, _)] ⟨rfl, rfl, rfl, trivial⟩ ?_
  refine rt ?_
  have K := of_some hF
  subst K
  exact at_return3 rfl rfl rfl rfl (fun w1 hw => ⟨rfl, hw.below⟩)
 ·refine at_cond_false rfl h1 ?_
  refine sn ?_
  refine at_seq ?_
  refine at_draw (by kernel_rfl) (by kernel_rfl) (fun _ h => h.drew) ?_
  refine atq_val rfl rfl rfl (r_move rfl) ?_
  refine atq_val rfl rfl rfl (r_move rfl) ?_
  obtain ⟨h2, hF⟩ := of_guard hF
  refine atq_val rfl rfl rfl (r_slice_str Tryz.underlying9 rfl rfl ⟨_, rfl⟩ h2) ?_
  refine atq_val rfl rfl rfl (r_move rfl) ?_
  refine atq_val rfl rfl rfl (r_move rfl) ?_
  refine atq_val rfl rfl rfl (r_iadd rfl rfl) ?_
  obtain ⟨h3, hF⟩ := of_guard hF
  refine atq_val rfl rfl rfl (r_slice_str Tryz.underlying9 rfl ⟨_, rfl⟩ rfl h3) ?_
  refine atq_val rfl rfl rfl (r_assign rfl) ?_
  refine atq_val rfl rfl rfl (r_assign rfl) ?_
  refine atq_val rfl rfl rfl (r_assign rfl) ?_
  refine atq_nil ?_
  refine at_weak [(4, _), (5, _), (6, _)] ⟨rfl, rfl, rfl, trivial⟩ ?_
  refine at_then_normal ?_
  refine at_ret ?_
  have K := of_some hF
  subst K
  exact at_return3 rfl rfl rfl rfl (fun w1 hw => ⟨rfl, hw.below⟩)
def lines_Parts.l0 (x1 : Int) (i4 : ByteArray) (i5 : List ByteArray) : Option (List ByteArray) :=
  lines_Cut i4 x1 >>= fun t8 => if (i5.length + 1) * 16 ≤ 140737488355328 then if (!t8.2.2) = true then (some (i5 ++ [t8.1])) else (lines_Parts.l0 x1 t8.2.1 (i5 ++ [t8.1])) else none
  partial_fixpoint
def lines_Parts (x0 : ByteArray) (x1 : Int) : Option (List ByteArray) :=
  lines_Parts.l0 x1 x0 ([] : List ByteArray) >>= fun q3 => some q3
theorem lines_Parts_ok (x0 : ByteArray) (x1 : Int) (r : List ByteArray) (hF : lines_Parts x0 x1 = some r) (w : World) :
    Calls Tryz.prog 48 #[.string x0, .int .u8 x1] w (fun e w' => ∃ p cap, e = .returned (.slice p r.length cap) ∧ Own cStr 9 w.heap.size w' p cap r ∧ Below w.heap.size w w') := by
 unfold lines_Parts at hF
 refine calls_enter (l := [.string x0, .int .u8 x1]) Tryz.func48 rfl rfl rfl ?_
 refine at_start ?_
 refine at_weak [(0, _), (1, _)] ⟨rfl, rfl, trivial⟩ ?_
 refine sr ?_
 refine av rfl (r_assign rfl) ?_
 refine nws [(0, _), (1, _)] ⟨rfl, rfl, trivial⟩ ?_
 refine av rfl (r_assign rfl) ?_
 refine nwt [(0, _), (1, _), (5, _)] ⟨rfl, rfl, rfl, trivial⟩ ?_
 refine at_block ?_
 refine at_own_nil cStr 9 ?_
 refine at_weak [(0, _), (1, _), (5, .slice none ([] : List ByteArray).length 0)] ⟨rfl, rfl, rfl, trivial⟩ ?_
 obtain ⟨q3, hq3, hF⟩ := of_bindM hF
 refine at_weak [(0, _), (1, _), (5, _)] ⟨rfl, rfl, rfl, trivial⟩ ?_
 refine at_loop_only (r := r) (q := q3) ?_ ?_
 ·intro K
  refine lines_Parts.l0.partial_correctness x1 (motive := fun i4 i5 x => x = r → Round (fun Y => ∀ (p6 : Option Addr) (c7 : Nat), At 24 [(0, .string i4), (1, .int .u8 x1), (5, .slice p6 i5.length c7)] (Wd w [rowE cStr 9 p6 c7 i5]) Y) _ _ _) ?_ _ _ _ hq3 K none 0
  ·clear K hF
   intro g ih i4 i5 x hF K p6 c7
   refine at_round ?_
   refine at_block ?_
   refine sr ?_
   refine av rfl (r_move rfl) ?_
   refine av rfl (r_move rfl) ?_
   obtain ⟨t8, ht8, hF⟩ := of_bindM hF
   refine at_callB Tryz.func86 rfl (by kernel_rfl) rfl rfl (fun w hw => lines_Cut_ok _ _ _ ht8 w) ?_
   refine av rfl (r_move rfl) ?_
   refine av rfl (r_extract rfl rfl) ?_
   refine av rfl (r_extract rfl rfl) ?_
   refine av rfl (r_extract rfl rfl) ?_
   refine av rfl (r_assign rfl) ?_
   refine av rfl (r_assign rfl) ?_
   refine av rfl (r_assign rfl) ?_
   refine nws [(1, _), (5, _), (6, _), (7, _), (8, _)] ⟨rfl, rfl, rfl, rfl, rfl, trivial⟩ ?_
   refine av rfl (r_move rfl) ?_
   refine av rfl (r_move rfl) ?_
   refine at_lit (cs := cStr.all ([t8.1] : List ByteArray)) Tryz.underlying38 Tryz.sizeOf9 Tryz.zeroValue9 rfl rfl rfl (by kernel_rfl) rfl ?_
   intro b9
   obtain ⟨h10, hF⟩ := of_guard hF
   refine at_append (z := .string ⟨#[]⟩) (c := cStr) (ys := ([t8.1] : List ByteArray)) (.s .z) Tryz.underlying38 infoG29 (by kernel_rfl) (by kernel_rfl) rfl rfl rfl rfl (fun _ hw => cells_src (hw.ok (Upd.mem .z))) (by kernel_rfl) h10 (app_small h10) rfl ?_
   intro p11 c12
   refine av rfl (r_assign rfl) ?_
   refine at_nil ?_
   refine at_drop (H := _) .z ?_
   refine at_weak [(1, _), (5, _), (7, _), (8, _)] ⟨rfl, rfl, rfl, rfl, trivial⟩ ?_
   refine at_then_normal ?_
   refine at_seq ?_
   refine sr ?_
   refine av rfl (r_move rfl) ?_
   refine av rfl (r_not rfl) ?_
   refine nwt [(1, _), (5, _), (7, _), (21, _)] ⟨rfl, rfl, rfl, rfl, trivial⟩ ?_
   rcases of_ite hF with ⟨h13, hF⟩ | ⟨h13, hF⟩
   ·refine at_cond_true rfl h13 ?_
    refine sr ?_
    refine av rfl (r_move rfl) ?_
    refine av rfl (r_assign rfl) ?_
    refine nwt [(4, _)] ⟨rfl, trivial⟩ ?_
    refine at_ret ?_
    refine at_then_ret (at_blk_ret (at_then_ret (at_blk_ret ?_)))
    obtain rfl := of_some hF
    subst K
    exact at_return1 rfl rfl (fun w1 hw => ⟨p11, c12, rfl, hw.own .z, hw.below⟩)
   ·refine at_cond_false rfl h13 ?_
    refine sn ?_
    refine at_region ?_
    refine av rfl (r_move rfl) ?_
    refine av rfl (r_assign rfl) ?_
    refine at_nil ?_
    refine at_weak [(0, _), (1, _), (5, _)] ⟨rfl, rfl, rfl, trivial⟩ ?_
    refine at_blk_normal (at_then_normal ?_)
    exact at_weak_k (ih _ _ _ hF K p11 c12) ⟨rfl, rfl, rfl, trivial⟩
 ·exact of_some hF
def crawlwayref06_Parts.l0 (x0 : ByteArray) (x1 : Int) (i4 : Int) (i5 : List ByteArray) (i6 : Int) : Option (Int × List ByteArray) :=
  if (decide (i6 < (x0.size : Int))) = true then (if (0 : Int) ≤ i6 ∧ i6 < (x0.size : Int) then if (bt x0 i6 == x1) = true then (if (0 : Int) ≤ i4 ∧ i4 ≤ i6 ∧ i6 ≤ (x0.size : Int) then if (i5.length + 1) * 16 ≤ 140737488355328 then crawlwayref06_Parts.l0 x0 x1 (wr .i64 (i6 + 1)) (i5 ++ [x0.extract (Int.toNat i4) (Int.toNat i6)]) (wr .i64 (i6 + 1)) else none else none) else (crawlwayref06_Parts.l0 x0 x1 i4 i5 (wr .i64 (i6 + 1))) else none) else (some (i4, i5))
  partial_fixpoint
def crawlwayref06_Parts (x0 : ByteArray) (x1 : Int) : Option (List ByteArray) :=
  crawlwayref06_Parts.l0 x0 x1 0 ([] : List ByteArray) 0 >>= fun q3 => if (0 : Int) ≤ q3.1 ∧ q3.1 ≤ (x0.size : Int) ∧ (x0.size : Int) ≤ (x0.size : Int) then if (q3.2.length + 1) * 16 ≤ 140737488355328 then some (q3.2 ++ [x0.extract (Int.toNat q3.1) (Int.toNat (x0.size : Int))]) else none else none
def quad_Parse.l0 (t2 : List ByteArray) (i8 : Int) (i9 : (Vector Int 4)) : Option (Ctl ((Vector Int 4) × Int) ((Vector Int 4))) :=
  if (decide (i8 < (t2.length : Int))) = true then (if (0 : Int) ≤ i8 ∧ i8 < (t2.length : Int) then decimal_Read (lget t2 i8) 255 >>= fun t15 => if (t15.2 != 0) = true then (some (.ret ((Vector.replicate 4 (0 : Int) : (Vector Int 4)), t15.2))) else (if (0 : Int) ≤ i8 ∧ i8 < 4 then quad_Parse.l0 t2 (wr .i64 (i8 + 1)) (vset i9 i8 (wr .u8 t15.1)) else none) else none) else (some (.nx i9))
  partial_fixpoint
def quad_Parse (x0 : ByteArray) : Option ((Vector Int 4) × Int) :=
  lines_Parts x0 46 >>= fun t2 => if ((t2.length : Int) != 4) = true then (some ((Vector.replicate 4 (0 : Int) : (Vector Int 4)), 5)) else (quad_Parse.l0 t2 0 (Vector.replicate 4 (0 : Int) : (Vector Int 4)) >>= fun q7 => match q7 with | .ret r' => some r' | .nx sq7 => (some (sq7, 0)))
theorem quad_Parse_ok (x0 : ByteArray) (r : (Vector Int 4) × Int) (hF : quad_Parse x0 = some r) (w : World) (hg_strconv_ErrRange : GV_strconv_ErrRange w) (hg_strconv_ErrSyntax : GV_strconv_ErrSyntax w) :
    Calls Tryz.prog 181 #[.string x0] w (fun e w' => e = .returned (.tuple #[.agg (Cd.cs (cVec (cInt .u8) 4 (by decide)) r.1).toArray, .int .i64 r.2]) ∧ Below w.heap.size w w') := by
 unfold quad_Parse at hF
 refine calls_enter (l := [.string x0]) Tryz.func181 rfl rfl rfl ?_
 refine at_start ?_
 refine at_weak [(0, _)] ⟨rfl, trivial⟩ ?_
 refine sr ?_
 refine at_alloc (cs := Cd.cs (cVec (cInt .u8) 4 (by decide)) (Vector.replicate 4 (0 : Int) : (Vector Int 4))) Tryz.zeroValue159 rfl rfl ?_
 intro b1
 refine av rfl (r_assign rfl) ?_
 refine nws [(0, _), (2, _)] ⟨rfl, rfl, trivial⟩ ?_
 refine av rfl (r_move rfl) ?_
 obtain ⟨t2, ht2, hF⟩ := of_bindM hF
 refine at_callO (c := cStr) (e := 9) (ys := t2) (V := fun p cap => .slice p t2.length cap) Tryz.func48 rfl (by kernel_rfl) rfl rfl (fun w hw => lines_Parts_ok _ _ _ ht2 w) ?_
 intro p3 c4
 refine av rfl (r_assign rfl) ?_
 refine nws [(2, _), (4, _)] ⟨rfl, rfl, trivial⟩ ?_
 refine at_alloc (cs := Cd.cs (cVec (cInt .u8) 4 (by decide)) (Vector.replicate 4 (0 : Int) : (Vector Int 4))) Tryz.zeroValue159 rfl rfl ?_
 intro b5
 refine nwt [(2, _), (4, _), (5, _)] ⟨rfl, rfl, rfl, trivial⟩ ?_
 refine at_seq ?_
 refine sr ?_
 refine av rfl (r_move rfl) ?_
 refine av rfl (r_len_sl Tryz.underlying38 rfl) ?_
 refine av rfl (r_ineq rfl rfl) ?_
 refine nwt [(2, _), (4, _), (5, _), (14, _)] ⟨rfl, rfl, rfl, rfl, trivial⟩ ?_
 rcases of_ite hF with ⟨h6, hF⟩ | ⟨h6, hF⟩
 ·refine at_cond_true rfl h6 ?_
  refine sr ?_
  refine av rfl (r_load_aggc (c := (cVec (cInt .u8) 4 (by decide))) (z := (Vector.replicate 4 (0 : Int) : (Vector Int 4))) Tryz.isAgg159 Tryz.sizeOf159 rfl (lens_cell .z (Lens.whole _ _))) ?_
  refine at_store (c := (cVec (cInt .u8) 4 (by decide))) (z := (Vector.replicate 4 (0 : Int) : (Vector Int 4))) (.s (.s .z)) (Lens.whole _ _) Tryz.sizeOf159 rfl rfl rfl ?_
  refine av rfl (r_assign rfl) ?_
  refine at_nil ?_
  refine at_drop (H := _) .z ?_
  refine at_drop (H := _) .z ?_
  refine at_weak [(2, _), (3, _)] ⟨rfl, rfl, trivial⟩ ?_
  refine at_then_normal ?_
  refine rt ?_
  have K := of_some hF
  subst K
  exact at_res2 rfl (res_cell (c := (cVec (cInt .u8) 4 (by decide))) (y := (Vector.replicate 4 (0 : Int) : (Vector Int 4))) rfl .z (Lens.whole _ _) Tryz.isAgg159 Tryz.sizeOf159 (.inl rfl)) (res_tmp rfl) (fun w1 hw => ⟨rfl, hw.below⟩)
 ·refine at_cond_false rfl h6 ?_
  refine sn ?_
  refine at_seq ?_
  refine sr ?_
  refine av rfl (r_move rfl) ?_
  refine av rfl (r_len_sl Tryz.underlying38 rfl) ?_
  refine av rfl (r_move rfl) ?_
  refine nwt [(2, _), (5, _), (16, _), (17, _), (18, _)] ⟨rfl, rfl, rfl, rfl, rfl, trivial⟩ ?_
  refine at_block ?_
  obtain ⟨q7, hq7, hF⟩ := of_bindM hF
  refine at_weak [(2, _), (5, _), (16, _), (17, _), (18, _)] ⟨rfl, rfl, rfl, rfl, rfl, trivial⟩ ?_
  refine at_loop_r (B := 0) (r := r) (q := q7) (A := fun sq7 Y => At 38 [(2, .pointer (some ⟨b1, 0, none⟩)), (5, .pointer (some ⟨b5, 0, none⟩))] (Wd w [cellsE b5 (Cd.cs (cVec (cInt .u8) 4 (by decide)) sq7) 159, cellsE b1 (Cd.cs (cVec (cInt .u8) 4 (by decide)) (Vector.replicate 4 (0 : Int) : (Vector Int 4))) 159]) Y) ?_ ?_
  ·intro K
   refine quad_Parse.l0.partial_correctness t2 (motive := fun i8 i9 x => KR (fun sq7 Y => At 38 [(2, .pointer (some ⟨b1, 0, none⟩)), (5, .pointer (some ⟨b5, 0, none⟩))] (Wd w [cellsE b5 (Cd.cs (cVec (cInt .u8) 4 (by decide)) sq7) 159, cellsE b1 (Cd.cs (cVec (cInt .u8) 4 (by decide)) (Vector.replicate 4 (0 : Int) : (Vector Int 4))) 159]) Y) _ 0 r x → Round (fun Y => At 38 [(2, .pointer (some ⟨b1, 0, none⟩)), (5, .pointer (some ⟨b5, 0, none⟩)), (16, .slice p3 t2.length c4), (17, .int .i64 (t2.length : Int)), (18, .int .i64 i8)] (Wd w [cellsE b5 (Cd.cs (cVec (cInt .u8) 4 (by decide)) i9) 159, rowE cStr 9 p3 c4 t2, cellsE b1 (Cd.cs (cVec (cInt .u8) 4 (by decide)) (Vector.replicate 4 (0 : Int) : (Vector Int 4))) 159]) Y) _ _ _) ?_ _ _ _ hq7 K
   ·clear K hF
    intro g ih i8 i9 x hF K
    refine at_round ?_
    refine sr ?_
    refine av rfl (r_ilss rfl rfl) ?_
    refine nwt [(2, _), (5, _), (16, _), (17, _), (18, _), (19, _)] ⟨rfl, rfl, rfl, rfl, rfl, rfl, trivial⟩ ?_
    refine at_seq ?_
    rcases of_ite hF with ⟨h10, hF⟩ | ⟨h10, hF⟩
    ·refine at_cond_true rfl h10 ?_
     refine sn ?_
     refine at_seq ?_
     refine at_block ?_
     refine sr ?_
     refine av rfl (r_move rfl) ?_
     obtain ⟨h11, hF⟩ := of_guard hF
     refine at_pure (φ := ∃ b o, p3 = some ⟨b, o, none⟩) (fun _ hw => row_ptr (hw.own (.s .z)).row h11) ?_
     rintro ⟨b13, o14, hp12⟩
     refine av rfl (r_idx Tryz.underlying38 Tryz.sizeOf9 rfl rfl h11 hp12) ?_
     refine av rfl (r_load_cell Tryz.isAgg9 rfl (fun _ hw => row_cell0 (W := fun w1 => w1 = _) (fun w1 h => by subst h; exact Below.refl _ _) (hw.own (.s .z)).row h11 hp12 rfl _ rfl)) ?_
     refine av rfl (r_assign rfl) ?_
     refine av rfl (r_assign rfl) ?_
     refine nws [(2, _), (5, _), (6, _), (7, _), (16, _), (17, _), (18, _)] ⟨rfl, rfl, rfl, rfl, rfl, rfl, rfl, trivial⟩ ?_
     refine av rfl (r_move rfl) ?_
     obtain ⟨t15, ht15, hF⟩ := of_bindM hF
     refine at_callB Tryz.func111 rfl (by kernel_rfl) rfl rfl (fun w hw => decimal_Read_ok _ _ _ ht15 w (hg_strconv_ErrRange.on hw.below) (hg_strconv_ErrSyntax.on hw.below)) ?_
     refine av rfl (r_move rfl) ?_
     refine av rfl (r_extract rfl rfl) ?_
     refine av rfl (r_extract rfl rfl) ?_
     refine av rfl (r_assign rfl) ?_
     refine av rfl (r_assign rfl) ?_
     refine nwt [(2, _), (5, _), (6, _), (8, _), (9, _), (16, _), (17, _), (18, _)] ⟨rfl, rfl, rfl, rfl, rfl, rfl, rfl, rfl, trivial⟩ ?_
     refine at_seq ?_
     refine sr ?_
     refine av rfl (r_move rfl) ?_
     refine av rfl (r_ineq rfl rfl) ?_
     refine nwt [(2, _), (5, _), (6, _), (8, _), (9, _), (16, _), (17, _), (18, _), (29, _)] ⟨rfl, rfl, rfl, rfl, rfl, rfl, rfl, rfl, rfl, trivial⟩ ?_
     rcases of_ite hF with ⟨h16, hF⟩ | ⟨h16, hF⟩
     ·refine at_cond_true rfl h16 ?_
      refine sr ?_
      refine av rfl (r_build_array (zs := Cd.cs (cVec (cInt .u8) 4 (by decide)) (Vector.replicate 4 (0 : Int) : (Vector Int 4))) (cs := Cd.cs (cVec (cInt .u8) 4 (by decide)) (Vector.replicate 4 (0 : Int) : (Vector Int 4))) Tryz.underlying159 Tryz.zeroValue159 rfl Tryz.sizeOf5 rfl rfl) ?_
      refine av rfl (r_move rfl) ?_
      refine at_store (c := (cVec (cInt .u8) 4 (by decide))) (z := (Vector.replicate 4 (0 : Int) : (Vector Int 4))) (.s (.s .z)) (Lens.whole _ _) Tryz.sizeOf159 rfl rfl rfl ?_
      refine av rfl (r_assign rfl) ?_
      refine at_nil ?_
      refine at_drop (H := _) .z ?_
      refine at_drop (H := _) .z ?_
      refine at_weak [(2, _), (3, _)] ⟨rfl, rfl, trivial⟩ ?_
      refine at_then_normal ?_
      refine at_ret ?_
      refine at_then_ret (at_blk_ret (at_then_ret (at_then_ret (at_blk_ret (at_then_ret ?_)))))
      obtain rfl := of_some hF
      subst K
      exact at_res2 rfl (res_cell (c := (cVec (cInt .u8) 4 (by decide))) (y := (Vector.replicate 4 (0 : Int) : (Vector Int 4))) rfl .z (Lens.whole _ _) Tryz.isAgg159 Tryz.sizeOf159 (.inl rfl)) (res_tmp rfl) (fun w1 hw => ⟨rfl, hw.below⟩)
     ·refine at_cond_false rfl h16 ?_
      refine sn ?_
      refine at_region ?_
      refine av rfl (r_move rfl) ?_
      refine av rfl (r_move rfl) ?_
      refine av rfl (r_conv Tryz.underlying31 Tryz.underlying5 rfl) ?_
      obtain ⟨h17, hF⟩ := of_guard hF
      refine av rfl (r_idxArr Tryz.underlying159 Tryz.sizeOf5 rfl rfl h17) ?_
      refine at_store (c := (cInt .u8)) (z := wr .u8 t15.1) .z (Lens.comp (Lens.whole _ _) (fun z => vset i9 i8 z) (Lens.vec (cInt .u8) (by decide) i9 i8 h17)) Tryz.sizeOf5 rfl rfl rfl ?_
      refine at_nil ?_
      refine at_weak [(2, _), (5, _), (16, _), (17, _), (18, _)] ⟨rfl, rfl, rfl, rfl, rfl, trivial⟩ ?_
      refine at_blk_normal (at_then_normal ?_)
      refine at_region ?_
      refine av rfl (r_iadd rfl rfl) ?_
      refine av rfl (r_move rfl) ?_
      refine nwt [(2, _), (5, _), (16, _), (17, _), (18, _)] ⟨rfl, rfl, rfl, rfl, rfl, trivial⟩ ?_
      exact at_weak_k (ih _ _ _ hF K) ⟨rfl, rfl, rfl, rfl, rfl, trivial⟩
    ·refine at_cond_false rfl h10 ?_
     refine at_exit ?_
     refine at_then_exit (at_then_exit ?_)
     refine at_drop (H := _) (.s .z) ?_
     obtain rfl := of_some hF
     exact at_weak_k K ⟨rfl, rfl, trivial⟩
  ·cases q7 with
   | ret r' => exact of_some hF
   | nx sq7 =>
    skip
    refine at_blk_same ?_
    refine at_then_normal ?_
    refine sr ?_
    refine av rfl (r_load_aggc (c := (cVec (cInt .u8) 4 (by decide))) (z := sq7) Tryz.isAgg159 Tryz.sizeOf159 rfl (lens_cell .z (Lens.whole _ _))) ?_
    refine at_store (c := (cVec (cInt .u8) 4 (by decide))) (z := sq7) (.s .z) (Lens.whole _ _) Tryz.sizeOf159 rfl rfl rfl ?_
    refine av rfl (r_assign rfl) ?_
    refine at_nil ?_
    refine at_drop (H := _) .z ?_
    refine at_weak [(2, _), (3, _)] ⟨rfl, rfl, trivial⟩ ?_
    refine at_then_normal ?_
    refine at_ret ?_
    have K := of_some hF
    subst K
    exact at_res2 rfl (res_cell (c := (cVec (cInt .u8) 4 (by decide))) (y := sq7) rfl .z (Lens.whole _ _) Tryz.isAgg159 Tryz.sizeOf159 (.inl rfl)) (res_tmp rfl) (fun w1 hw => ⟨rfl, hw.below⟩)
def crawlwayref08_Text.l0 (x0 : (Vector Int 4)) (i4 : ByteArray) (i5 : Int) : Option (ByteArray) :=
  if (decide (i5 < 4)) = true then (if i4.size + (⟨#[46]⟩ : ByteArray).size ≤ 140737488355328 then if (0 : Int) ≤ i5 ∧ i5 < 4 then crawlwayref03_Text (wr .u64 (vget x0 i5)) >>= fun t9 => if (i4 ++ (⟨#[46]⟩ : ByteArray)).size + t9.size ≤ 140737488355328 then crawlwayref08_Text.l0 x0 ((i4 ++ (⟨#[46]⟩ : ByteArray)) ++ t9) (wr .i64 (i5 + 1)) else none else none else none) else (some i4)
  partial_fixpoint
def crawlwayref08_Text (x0 : (Vector Int 4)) : Option (ByteArray) :=
  crawlwayref03_Text (wr .u64 (vget x0 0)) >>= fun t2 => crawlwayref08_Text.l0 x0 t2 1 >>= fun q3 => some q3
theorem crawlwayref08_Text_ok (x0 : (Vector Int 4)) (r : ByteArray) (hF : crawlwayref08_Text x0 = some r) (w : World) :
    Calls Tryz.prog 146 #[.agg (Cd.cs (cVec (cInt .u8) 4 (by decide)) x0).toArray] w (fun e w' => e = .returned (.string r) ∧ Below w.heap.size w w') := by
 unfold crawlwayref08_Text at hF
 refine calls_enter (l := [.agg (Cd.cs (cVec (cInt .u8) 4 (by decide)) x0).toArray]) Tryz.func146 rfl rfl rfl ?_
 refine at_start ?_
 refine at_weak [(0, _)] ⟨rfl, trivial⟩ ?_
 refine sr ?_
 refine at_box (cs := Cd.cs (cVec (cInt .u8) 4 (by decide)) x0) rfl rfl rfl ?_
 intro b1
 refine av rfl (r_assign rfl) ?_
 refine nws [(1, _)] ⟨rfl, trivial⟩ ?_
 refine av rfl (r_idxArr Tryz.underlying159 Tryz.sizeOf5 rfl rfl (by decide)) ?_
 refine av rfl (r_load_cell Tryz.isAgg5 rfl (lens_cell0 (c := (cInt .u8)) (y := vget x0 0) .z (Lens.comp (Lens.whole _ _) (fun z => vset x0 0 z) (Lens.vec (cInt .u8) (by decide) x0 0 (by decide))) rfl)) ?_
 refine av rfl (r_conv Tryz.underlying5 Tryz.underlying31 rfl) ?_
 obtain ⟨t2, ht2, hF⟩ := of_bindM hF
 refine at_callB Tryz.func55 rfl (by kernel_rfl) rfl rfl (fun w hw => crawlwayref03_Text_ok _ _ ht2 w) ?_
 refine av rfl (r_assign rfl) ?_
 refine nwt [(1, _), (3, _)] ⟨rfl, rfl, trivial⟩ ?_
 refine at_seq ?_
 refine sr ?_
 refine av rfl (r_assign rfl) ?_
 refine nwt [(1, _), (3, _), (4, _)] ⟨rfl, rfl, rfl, trivial⟩ ?_
 refine at_block ?_
 obtain ⟨q3, hq3, hF⟩ := of_bindM hF
 refine at_weak [(1, _), (3, _), (4, _)] ⟨rfl, rfl, rfl, trivial⟩ ?_
 refine at_loop_n (B := 0) (A := fun Y => At 22 [(3, .string q3)] (Wd w []) Y) ?_ ?_
 ·intro K
  refine crawlwayref08_Text.l0.partial_correctness x0 (motive := fun i4 i5 x => KN (fun Y => At 22 [(3, .string x)] (Wd w []) Y) _ 0 → Round (fun Y => At 22 [(1, .pointer (some ⟨b1, 0, none⟩)), (3, .string i4), (4, .int .i64 i5)] (Wd w [cellsE b1 (Cd.cs (cVec (cInt .u8) 4 (by decide)) x0) 159]) Y) _ _ _) ?_ _ _ _ hq3 K
  ·clear K hF
   intro g ih i4 i5 x hF K
   refine at_round ?_
   refine at_seq ?_
   refine sr ?_
   refine av rfl (r_move rfl) ?_
   refine av rfl (r_ilss rfl rfl) ?_
   refine nwt [(1, _), (3, _), (4, _), (10, _)] ⟨rfl, rfl, rfl, rfl, trivial⟩ ?_
   rcases of_ite hF with ⟨h6, hF⟩ | ⟨h6, hF⟩
   ·refine at_cond_true rfl h6 ?_
    refine sn ?_
    refine at_seq ?_
    refine at_block ?_
    refine at_region ?_
    refine av rfl (r_move rfl) ?_
    obtain ⟨h7, hF⟩ := of_guard hF
    refine av rfl (r_concat rfl rfl h7) ?_
    refine av rfl (r_move rfl) ?_
    obtain ⟨h8, hF⟩ := of_guard hF
    refine av rfl (r_idxArr Tryz.underlying159 Tryz.sizeOf5 rfl rfl h8) ?_
    refine av rfl (r_load_cell Tryz.isAgg5 rfl (lens_cell0 (c := (cInt .u8)) (y := vget x0 i5) .z (Lens.comp (Lens.whole _ _) (fun z => vset x0 i5 z) (Lens.vec (cInt .u8) (by decide) x0 i5 h8)) rfl)) ?_
    refine av rfl (r_conv Tryz.underlying5 Tryz.underlying31 rfl) ?_
    obtain ⟨t9, ht9, hF⟩ := of_bindM hF
    refine at_callB Tryz.func55 rfl (by kernel_rfl) rfl rfl (fun w hw => crawlwayref03_Text_ok _ _ ht9 w) ?_
    obtain ⟨h10, hF⟩ := of_guard hF
    refine av rfl (r_concat rfl rfl h10) ?_
    refine av rfl (r_assign rfl) ?_
    refine at_nil ?_
    refine at_weak [(1, _), (3, _), (4, _)] ⟨rfl, rfl, rfl, trivial⟩ ?_
    refine at_blk_normal (at_then_normal ?_)
    refine at_region ?_
    refine av rfl (r_move rfl) ?_
    refine av rfl (r_iadd rfl rfl) ?_
    refine av rfl (r_assign rfl) ?_
    refine nwt [(1, _), (3, _), (4, _)] ⟨rfl, rfl, rfl, trivial⟩ ?_
    exact at_weak_k (ih _ _ _ hF K) ⟨rfl, rfl, rfl, trivial⟩
   ·refine at_cond_false rfl h6 ?_
    refine at_exit ?_
    refine at_then_exit (at_then_exit ?_)
    refine at_drop (H := _) .z ?_
    obtain rfl := of_some hF
    exact at_weak_k K ⟨rfl, trivial⟩
 ·skip
  skip
  refine at_blk_same ?_
  refine at_then_normal ?_
  refine sr ?_
  refine av rfl (r_move rfl) ?_
  refine av rfl (r_assign rfl) ?_
  refine nwt [(2, _)] ⟨rfl, trivial⟩ ?_
  refine at_ret ?_
  have K := of_some hF
  subst K
  exact at_return1 rfl rfl (fun w1 hw => ⟨rfl, hw.below⟩)
def crawlwayref08_Parse.l0 (t3 : List ByteArray) (i8 : Int) (i9 : (Vector Int 4)) : Option (Ctl ((Vector Int 4) × Int) ((Vector Int 4))) :=
  if (decide (i8 < 4)) = true then (if (0 : Int) ≤ i8 ∧ i8 < (t3.length : Int) then crawlwayref03_Read (lget t3 i8) 255 >>= fun t15 => if (t15.2 != 0) = true then (some (.ret ((Vector.replicate 4 (0 : Int) : (Vector Int 4)), t15.2))) else (if (0 : Int) ≤ i8 ∧ i8 < 4 then crawlwayref08_Parse.l0 t3 (wr .i64 (i8 + 1)) (vset i9 i8 (wr .u8 t15.1)) else none) else none) else (some (.nx i9))
  partial_fixpoint
def crawlwayref08_Parse (x0 : ByteArray) : Option ((Vector Int 4) × Int) :=
  crawlwayref06_Parts x0 46 >>= fun t3 => if ((t3.length : Int) != 4) = true then (some ((Vector.replicate 4 (0 : Int) : (Vector Int 4)), 5)) else (crawlwayref08_Parse.l0 t3 0 (Vector.replicate 4 (0 : Int) : (Vector Int 4)) >>= fun q7 => match q7 with | .ret r' => some r' | .nx sq7 => (some (sq7, 0)))
end Go.Proofs.YtkkmmpofdcccmaaGreatDoor
namespace Go.Proofs.YtkkmmpofdcccmaaGreatDoor
open E Go.RowKit
abbrev zqG3_0 : S_colon_reader := ({ f_g := (Vector.replicate 8 (0 : Int) : (Vector Int 8)), f_n := (0 : Int), f_gap := (0 : Int) } : S_colon_reader)
theorem infoG39_is : (Tryz.prog.info? 9).isSome = true := by kernel_rfl
noncomputable def infoG39_v : TypeInfo := (Tryz.prog.info? 9).get infoG39_is
theorem infoG39 : Tryz.prog.info? 9 = some infoG39_v := (Option.some_get _).symm
def stringslite_HasPrefix (x0 : ByteArray) (x1 : ByteArray) : Option (Bool) :=
  if (decide ((x0.size : Int) ≥ (x1.size : Int))) = true then (if (0 : Int) ≤ 0 ∧ 0 ≤ (x1.size : Int) ∧ (x1.size : Int) ≤ (x0.size : Int) then some (seq (x0.extract (Int.toNat 0) (Int.toNat (x1.size : Int))) x1) else none) else (some false)
theorem stringslite_HasPrefix_ok (x0 : ByteArray) (x1 : ByteArray) (r : Bool) (hF : stringslite_HasPrefix x0 x1 = some r) (w : World) :
    Calls Tryz.prog 216 #[.string x0, .string x1] w (fun e w' => e = .returned (.bool r) ∧ w' = w) := by
 unfold stringslite_HasPrefix at hF
 refine calls_enter (l := [.string x0, .string x1]) Tryz.func216 rfl rfl rfl ?_
 refine at_weak [(0, _), (1, _)] ⟨rfl, rfl, trivial⟩ ?_
 refine sr ?_
 refine av rfl (r_assign rfl) ?_
 refine nws [(0, _), (1, _)] ⟨rfl, rfl, trivial⟩ ?_
 refine av rfl (r_move rfl) ?_
 refine av rfl (r_len_str Tryz.underlying9 rfl) ?_
 refine av rfl (r_move rfl) ?_
 refine av rfl (r_len_str Tryz.underlying9 rfl) ?_
 refine av rfl (r_igeq rfl rfl) ?_
 refine av rfl (r_move rfl) ?_
 rcases of_ite hF with ⟨h1, hF⟩ | ⟨h1, hF⟩
 ·refine at_fix (g := 10) rfl h1 ?_
  refine at_guard_yes rfl rfl rfl ?_
  refine av rfl (r_move rfl) ?_
  refine at_guard_yes rfl rfl rfl ?_
  refine av rfl (r_move rfl) ?_
  refine at_guard_yes rfl rfl rfl ?_
  refine av rfl (r_len_str Tryz.underlying9 rfl) ?_
  refine at_guard_yes rfl rfl rfl ?_
  obtain ⟨h2, hF⟩ := of_guard hF
  refine av rfl (r_slice_str Tryz.underlying9 rfl rfl ⟨_, rfl⟩ h2) ?_
  refine at_guard_yes rfl rfl rfl ?_
  refine av rfl (r_move rfl) ?_
  refine at_guard_yes rfl rfl rfl ?_
  refine av rfl (r_seql rfl rfl) ?_
  refine av rfl (r_pick rfl rfl rfl) ?_
  refine av rfl (r_assign rfl) ?_
  refine nwt [(4, _)] ⟨rfl, trivial⟩ ?_
  refine at_ret ?_
  have K := of_some hF
  subst K
  exact at_return1 rfl rfl (fun w1 hw => ⟨rfl, hw⟩)
 ·refine at_fix (g := 10) rfl h1 ?_
  refine at_guard_no rfl rfl rfl rfl rfl ?_
  refine at_guard_no rfl rfl rfl rfl rfl ?_
  refine at_guard_no rfl rfl rfl rfl rfl ?_
  refine at_guard_no rfl rfl rfl rfl rfl ?_
  refine at_guard_no rfl rfl rfl rfl rfl ?_
  refine at_guard_no rfl rfl rfl rfl rfl ?_
  refine av rfl (r_pick rfl rfl rfl) ?_
  refine av rfl (r_assign rfl) ?_
  refine nwt [(4, _)] ⟨rfl, trivial⟩ ?_
  refine at_ret ?_
  have K := of_some hF
  subst K
  exact at_return1 rfl rfl (fun w1 hw => ⟨rfl, hw⟩)
def strings_HasPrefix (x0 : ByteArray) (x1 : ByteArray) : Option (Bool) :=
  stringslite_HasPrefix x0 x1 >>= fun t1 => some t1
theorem strings_HasPrefix_ok (x0 : ByteArray) (x1 : ByteArray) (r : Bool) (hF : strings_HasPrefix x0 x1 = some r) (w : World) :
    Calls Tryz.prog 217 #[.string x0, .string x1] w (fun e w' => e = .returned (.bool r) ∧ w' = w) := by
 unfold strings_HasPrefix at hF
 refine calls_enter (l := [.string x0, .string x1]) Tryz.func217 rfl rfl rfl ?_
 refine at_weak [(0, _), (1, _)] ⟨rfl, rfl, trivial⟩ ?_
 refine sr ?_
 refine av rfl (r_assign rfl) ?_
 refine nws [(0, _), (1, _)] ⟨rfl, rfl, trivial⟩ ?_
 refine av rfl (r_move rfl) ?_
 refine av rfl (r_move rfl) ?_
 obtain ⟨t1, ht1, hF⟩ := of_bindM hF
 refine at_call0 Tryz.func216 rfl (by kernel_rfl) rfl rfl (fun w => stringslite_HasPrefix_ok _ _ _ ht1 w) ?_
 refine av rfl (r_assign rfl) ?_
 refine nwt [(4, _)] ⟨rfl, trivial⟩ ?_
 refine at_ret ?_
 have K := of_some hF
 subst K
 exact at_return1 rfl rfl (fun w1 hw => ⟨rfl, hw⟩)
def hexes_value (x0 : Int) : Option (Int × Bool) :=
  some (wr .u16 (Lib.indexByte (⟨#[48, 49, 50, 51, 52, 53, 54, 55, 56, 57, 97, 98, 99, 100, 101, 102]⟩ : ByteArray).data.toList (Nat.toUInt8 (Int.toNat x0))), decide (Lib.indexByte (⟨#[48, 49, 50, 51, 52, 53, 54, 55, 56, 57, 97, 98, 99, 100, 101, 102]⟩ : ByteArray).data.toList (Nat.toUInt8 (Int.toNat x0)) ≥ 0))
theorem hexes_value_ok (x0 : Int) (r : Int × Bool) (hF : hexes_value x0 = some r) (w : World) :
    Calls Tryz.prog 174 #[.int .u8 x0] w (fun e w' => e = .returned (.tuple #[.int .u16 r.1, .bool r.2]) ∧ w' = w) := by
 unfold hexes_value at hF
 refine calls_enter (l := [.int .u8 x0]) Tryz.func174 rfl rfl rfl ?_
 refine at_weak [(0, _)] ⟨rfl, trivial⟩ ?_
 refine sr ?_
 refine av rfl (r_assign rfl) ?_
 refine av rfl (r_assign rfl) ?_
 refine nws [(0, _)] ⟨rfl, trivial⟩ ?_
 refine av rfl (r_move rfl) ?_
 refine at_call0 Tryz.func144 rfl (by kernel_rfl) rfl rfl (fun w => Tryz.strings_IndexByte _ _ w) ?_
 refine av rfl (r_assign rfl) ?_
 refine nws [(4, _)] ⟨rfl, trivial⟩ ?_
 refine av rfl (r_move rfl) ?_
 refine av rfl (r_conv Tryz.underlying3 Tryz.underlying191 rfl) ?_
 refine av rfl (r_move rfl) ?_
 refine av rfl (r_igeq rfl rfl) ?_
 refine av rfl (r_assign rfl) ?_
 refine av rfl (r_assign rfl) ?_
 refine nwt [(2, _), (3, _)] ⟨rfl, rfl, trivial⟩ ?_
 refine at_ret ?_
 have K := of_some hF
 subst K
 exact at_return2 rfl rfl rfl (fun w1 hw => ⟨rfl, hw⟩)
def hexes_small (x0 : Int) : Option (Int) :=
  if (decide (x0 ≥ 65)) = true then (if (decide (x0 ≤ 70)) = true then (some (ior .u8 x0 32)) else (some x0)) else (some x0)
theorem hexes_small_ok (x0 : Int) (r : Int) (hF : hexes_small x0 = some r) (w : World) :
    Calls Tryz.prog 235 #[.int .u8 x0] w (fun e w' => e = .returned (.int .u8 r) ∧ w' = w) := by
 unfold hexes_small at hF
 refine calls_enter (l := [.int .u8 x0]) Tryz.func235 rfl rfl rfl ?_
 refine at_weak [(0, _)] ⟨rfl, trivial⟩ ?_
 refine sr ?_
 refine av rfl (r_assign rfl) ?_
 refine nwt [(0, _)] ⟨rfl, trivial⟩ ?_
 refine at_seq ?_
 refine sr ?_
 refine av rfl (r_move rfl) ?_
 refine av rfl (r_igeq rfl rfl) ?_
 refine av rfl (r_move rfl) ?_
 rcases of_ite hF with ⟨h1, hF⟩ | ⟨h1, hF⟩
 ·refine at_fix (g := 5) rfl h1 ?_
  refine at_guard_yes rfl rfl rfl ?_
  refine av rfl (r_move rfl) ?_
  refine at_guard_yes rfl rfl rfl ?_
  refine av rfl (r_ileq rfl rfl) ?_
  refine av rfl (r_pick rfl rfl rfl) ?_
  refine nwt [(0, _), (8, _)] ⟨rfl, rfl, trivial⟩ ?_
  rcases of_ite hF with ⟨h2, hF⟩ | ⟨h2, hF⟩
  ·refine at_cond_true rfl h2 ?_
   refine sr ?_
   refine av rfl (r_move rfl) ?_
   refine av rfl (r_ior rfl rfl) ?_
   refine av rfl (r_assign rfl) ?_
   refine nwt [(2, _)] ⟨rfl, trivial⟩ ?_
   refine rt ?_
   have K := of_some hF
   subst K
   exact at_return1 rfl rfl (fun w1 hw => ⟨rfl, hw⟩)
  ·refine at_cond_false rfl h2 ?_
   refine sns ?_
   refine av rfl (r_move rfl) ?_
   refine av rfl (r_assign rfl) ?_
   refine nwt [(2, _)] ⟨rfl, trivial⟩ ?_
   refine at_ret ?_
   have K := of_some hF
   subst K
   exact at_return1 rfl rfl (fun w1 hw => ⟨rfl, hw⟩)
 ·refine at_fix (g := 5) rfl h1 ?_
  refine at_guard_no rfl rfl rfl rfl rfl ?_
  refine at_guard_no rfl rfl rfl rfl rfl ?_
  refine av rfl (r_pick rfl rfl rfl) ?_
  refine nwt [(0, _), (8, _)] ⟨rfl, rfl, trivial⟩ ?_
  refine at_cond_false rfl rfl ?_
  refine sns ?_
  refine av rfl (r_move rfl) ?_
  refine av rfl (r_assign rfl) ?_
  refine nwt [(2, _)] ⟨rfl, trivial⟩ ?_
  refine at_ret ?_
  have K := of_some hF
  subst K
  exact at_return1 rfl rfl (fun w1 hw => ⟨rfl, hw⟩)
def hexes_ReadGroup.l0 (x0 : ByteArray) (i4 : Int) (i5 : Int) : Option (Ctl (Int × Int) (Int)) :=
  if (decide (i5 < (x0.size : Int))) = true then (if (0 : Int) ≤ i5 ∧ i5 < (x0.size : Int) then hexes_small (bt x0 i5) >>= fun t8 => hexes_value t8 >>= fun t9 => if (!t9.2) = true then (some (.ret (0, 5))) else (hexes_ReadGroup.l0 x0 (ior .u16 (ishl .u16 i4 4) t9.1) (wr .i64 (i5 + 1))) else none) else (some (.nx i4))
  partial_fixpoint
def hexes_ReadGroup (x0 : ByteArray) : Option (Int × Int) :=
  if (decide ((x0.size : Int) < 1)) = true then (some (0, 5)) else (if (decide ((x0.size : Int) > 4)) = true then (some (0, 5)) else (hexes_ReadGroup.l0 x0 0 0 >>= fun q3 => match q3 with | .ret r' => some r' | .nx sq3 => (some (sq3, 0))))
theorem hexes_ReadGroup_ok (x0 : ByteArray) (r : Int × Int) (hF : hexes_ReadGroup x0 = some r) (w : World) :
    Calls Tryz.prog 219 #[.string x0] w (fun e w' => e = .returned (.tuple #[.int .u16 r.1, .int .i64 r.2]) ∧ w' = w) := by
 unfold hexes_ReadGroup at hF
 refine calls_enter (l := [.string x0]) Tryz.func219 rfl rfl rfl ?_
 refine at_weak [(0, _)] ⟨rfl, trivial⟩ ?_
 refine sr ?_
 refine av rfl (r_assign rfl) ?_
 refine av rfl (r_assign rfl) ?_
 refine nwt [(0, _)] ⟨rfl, trivial⟩ ?_
 refine at_seq ?_
 refine sr ?_
 refine av rfl (r_move rfl) ?_
 refine av rfl (r_len_str Tryz.underlying9 rfl) ?_
 refine av rfl (r_ilss rfl rfl) ?_
 refine av rfl (r_move rfl) ?_
 rcases of_ite hF with ⟨h1, hF⟩ | ⟨h1, hF⟩
 ·refine at_fix (g := 11) rfl h1 ?_
  refine at_guard_no rfl rfl rfl rfl rfl ?_
  refine at_guard_no rfl rfl rfl rfl rfl ?_
  refine at_guard_no rfl rfl rfl rfl rfl ?_
  refine av rfl (r_pick rfl rfl rfl) ?_
  refine nwt [(0, _), (15, _)] ⟨rfl, rfl, trivial⟩ ?_
  refine at_cond_true rfl rfl ?_
  refine sr ?_
  refine av rfl (r_assign rfl) ?_
  refine av rfl (r_assign rfl) ?_
  refine nwt [(2, _), (3, _)] ⟨rfl, rfl, trivial⟩ ?_
  refine rt ?_
  have K := of_some hF
  subst K
  exact at_return2 rfl rfl rfl (fun w1 hw => ⟨rfl, hw⟩)
 ·refine at_fix (g := 11) rfl h1 ?_
  refine at_guard_yes rfl rfl rfl ?_
  refine av rfl (r_move rfl) ?_
  refine at_guard_yes rfl rfl rfl ?_
  refine av rfl (r_len_str Tryz.underlying9 rfl) ?_
  refine at_guard_yes rfl rfl rfl ?_
  refine av rfl (r_igtr rfl rfl) ?_
  refine av rfl (r_pick rfl rfl rfl) ?_
  refine nwt [(0, _), (15, _)] ⟨rfl, rfl, trivial⟩ ?_
  rcases of_ite hF with ⟨h2, hF⟩ | ⟨h2, hF⟩
  ·refine at_cond_true rfl h2 ?_
   refine sr ?_
   refine av rfl (r_assign rfl) ?_
   refine av rfl (r_assign rfl) ?_
   refine nwt [(2, _), (3, _)] ⟨rfl, rfl, trivial⟩ ?_
   refine rt ?_
   have K := of_some hF
   subst K
   exact at_return2 rfl rfl rfl (fun w1 hw => ⟨rfl, hw⟩)
  ·refine at_cond_false rfl h2 ?_
   refine sns ?_
   refine av rfl (r_assign rfl) ?_
   refine nwt [(0, _), (4, _)] ⟨rfl, rfl, trivial⟩ ?_
   refine at_seq ?_
   refine sr ?_
   refine av rfl (r_move rfl) ?_
   refine av rfl (r_len_str Tryz.underlying9 rfl) ?_
   refine av rfl (r_move rfl) ?_
   refine nwt [(0, _), (4, _), (17, _), (18, _)] ⟨rfl, rfl, rfl, rfl, trivial⟩ ?_
   refine at_block ?_
   obtain ⟨q3, hq3, hF⟩ := of_bindM hF
   refine at_weak [(0, _), (4, _), (17, _), (18, _)] ⟨rfl, rfl, rfl, rfl, trivial⟩ ?_
   refine at_loop_r (B := 0) (r := r) (q := q3) (A := fun sq3 Y => At 37 [(4, .int .u16 sq3)] (fun w' => w' = w) Y) ?_ ?_
   ·intro K
    refine hexes_ReadGroup.l0.partial_correctness x0 (motive := fun i4 i5 x => KR (fun sq3 Y => At 37 [(4, .int .u16 sq3)] (fun w' => w' = w) Y) _ 0 r x → Round (fun Y => At 37 [(0, .string x0), (4, .int .u16 i4), (17, .int .i64 (x0.size : Int)), (18, .int .i64 i5)] (fun w' => w' = w) Y) _ _ _) ?_ _ _ _ hq3 K
    ·clear K hF
     intro g ih i4 i5 x hF K
     refine at_round ?_
     refine sr ?_
     refine av rfl (r_ilss rfl rfl) ?_
     refine nwt [(0, _), (4, _), (17, _), (18, _), (19, _)] ⟨rfl, rfl, rfl, rfl, rfl, trivial⟩ ?_
     refine at_seq ?_
     rcases of_ite hF with ⟨h6, hF⟩ | ⟨h6, hF⟩
     ·refine at_cond_true rfl h6 ?_
      refine sn ?_
      refine at_seq ?_
      refine at_block ?_
      refine sr ?_
      refine av rfl (r_move rfl) ?_
      refine av rfl (r_assign rfl) ?_
      refine nws [(0, _), (4, _), (5, _), (17, _), (18, _)] ⟨rfl, rfl, rfl, rfl, rfl, trivial⟩ ?_
      refine av rfl (r_move rfl) ?_
      refine av rfl (r_move rfl) ?_
      obtain ⟨h7, hF⟩ := of_guard hF
      refine av rfl (r_index_str Tryz.underlying9 rfl rfl h7) ?_
      obtain ⟨t8, ht8, hF⟩ := of_bindM hF
      refine at_call0 Tryz.func235 rfl (by kernel_rfl) rfl rfl (fun w => hexes_small_ok _ _ ht8 w) ?_
      obtain ⟨t9, ht9, hF⟩ := of_bindM hF
      refine at_call0 Tryz.func174 rfl (by kernel_rfl) rfl rfl (fun w => hexes_value_ok _ _ ht9 w) ?_
      refine av rfl (r_move rfl) ?_
      refine av rfl (r_extract rfl rfl) ?_
      refine av rfl (r_extract rfl rfl) ?_
      refine av rfl (r_assign rfl) ?_
      refine av rfl (r_assign rfl) ?_
      refine nwt [(0, _), (4, _), (6, _), (7, _), (17, _), (18, _)] ⟨rfl, rfl, rfl, rfl, rfl, rfl, trivial⟩ ?_
      refine at_seq ?_
      refine sr ?_
      refine av rfl (r_move rfl) ?_
      refine av rfl (r_not rfl) ?_
      refine nwt [(0, _), (4, _), (6, _), (17, _), (18, _), (30, _)] ⟨rfl, rfl, rfl, rfl, rfl, rfl, trivial⟩ ?_
      rcases of_ite hF with ⟨h10, hF⟩ | ⟨h10, hF⟩
      ·refine at_cond_true rfl h10 ?_
       refine sr ?_
       refine av rfl (r_assign rfl) ?_
       refine av rfl (r_assign rfl) ?_
       refine nwt [(2, _), (3, _)] ⟨rfl, rfl, trivial⟩ ?_
       refine at_ret ?_
       refine at_then_ret (at_blk_ret (at_then_ret (at_then_ret (at_blk_ret (at_then_ret ?_)))))
       obtain rfl := of_some hF
       subst K
       exact at_return2 rfl rfl rfl (fun w1 hw => ⟨rfl, hw⟩)
      ·refine at_cond_false rfl h10 ?_
       refine sn ?_
       refine at_region ?_
       refine av rfl (r_move rfl) ?_
       refine av rfl (r_ishl rfl rfl (by decide)) ?_
       refine av rfl (r_move rfl) ?_
       refine av rfl (r_ior rfl rfl) ?_
       refine av rfl (r_assign rfl) ?_
       refine at_nil ?_
       refine at_weak [(0, _), (4, _), (17, _), (18, _)] ⟨rfl, rfl, rfl, rfl, trivial⟩ ?_
       refine at_blk_normal (at_then_normal ?_)
       refine at_region ?_
       refine av rfl (r_iadd rfl rfl) ?_
       refine av rfl (r_move rfl) ?_
       refine nwt [(0, _), (4, _), (17, _), (18, _)] ⟨rfl, rfl, rfl, rfl, trivial⟩ ?_
       exact at_weak_k (ih _ _ _ hF K) ⟨rfl, rfl, rfl, rfl, trivial⟩
     ·refine at_cond_false rfl h6 ?_
      refine at_exit ?_
      refine at_then_exit (at_then_exit ?_)
      obtain rfl := of_some hF
      exact at_weak_k K ⟨rfl, trivial⟩
   ·cases q3 with
    | ret r' => exact of_some hF
    | nx sq3 =>
     skip
     refine at_blk_same ?_
     refine at_then_normal ?_
     refine sr ?_
     refine av rfl (r_move rfl) ?_
     refine av rfl (r_assign rfl) ?_
     refine av rfl (r_assign rfl) ?_
     refine nwt [(2, _), (3, _)] ⟨rfl, rfl, trivial⟩ ?_
     refine at_ret ?_
     have K := of_some hF
     subst K
     exact at_return2 rfl rfl rfl (fun w1 hw => ⟨rfl, hw⟩)
def colon_reader_put (x0 : S_colon_reader) (x1 : Int) : Option (Bool × S_colon_reader) :=
  if (x0.f_n == 8) = true then (some (false, x0)) else (if (0 : Int) ≤ x0.f_n ∧ x0.f_n < 8 then some (true, { { x0 with f_g := vset x0.f_g x0.f_n x1 } with f_n := wr .i64 ((({ x0 with f_g := vset x0.f_g x0.f_n x1 }).f_n) + 1) }) else none)
set_option maxHeartbeats 3200000 in
theorem colon_reader_put_ok (x0 : S_colon_reader) (b0_ : Nat) (x1 : Int) (r : Bool × S_colon_reader) (hF : colon_reader_put x0 x1 = some r) (w : World) {w0 : World} {H_ G_ : List Ent} {f_ : Ent → List Ent} (hu_ : Upd H_ (cellsE b0_ (Cd.cs c_colon_reader x0) 210) f_ G_) (hw_ : Wd w0 H_ w) :
    Calls Tryz.prog 220 #[.pointer (some ⟨b0_, 0, none⟩), .int .u16 x1] w (fun e w' => e = .returned (.bool r.1) ∧ Wd w0 (f_ (cellsE b0_ (Cd.cs c_colon_reader r.2) 210)) w') := by
 unfold colon_reader_put at hF
 refine calls_enter (l := [.pointer (some ⟨b0_, 0, none⟩), .int .u16 x1]) Tryz.func220 rfl rfl rfl ?_
 refine at_enter_ptr hu_ hw_ ?_
 refine at_weak [(0, _), (1, _)] ⟨rfl, rfl, trivial⟩ ?_
 refine sr ?_
 refine av rfl (r_assign rfl) ?_
 refine nwt [(0, _), (1, _)] ⟨rfl, rfl, trivial⟩ ?_
 refine at_seq ?_
 refine sr ?_
 refine av rfl (r_move rfl) ?_
 refine av rfl (r_nilCheck rfl) ?_
 refine av rfl (r_fieldAddr (fo := 8) Tryz.underlying210 rfl rfl (fun w => ⟨_, Tryz.sizeOf3 w⟩) rfl) ?_
 refine av rfl (r_load_cell Tryz.isAgg3 rfl (lens_cell0 (c := (cInt .i64)) (y := x0.f_n) (Upd.again hu_ _) (Lens.comp (Lens.whole _ _) (fun z => { x0 with f_n := z }) (c_colon_reader_f_n x0)) rfl)) ?_
 refine av rfl (r_ieql rfl rfl) ?_
 refine nwt [(0, _), (1, _), (9, _)] ⟨rfl, rfl, rfl, trivial⟩ ?_
 rcases of_ite hF with ⟨h1, hF⟩ | ⟨h1, hF⟩
 ·refine at_cond_true rfl h1 ?_
  refine sr ?_
  refine av rfl (r_assign rfl) ?_
  refine nwt [(4, _)] ⟨rfl, trivial⟩ ?_
  refine rt ?_
  have K := of_some hF
  subst K
  exact at_return1 rfl rfl (fun w1 hw => ⟨rfl, hw⟩)
 ·refine at_cond_false rfl h1 ?_
  refine sn ?_
  refine at_seq ?_
  refine at_weak [(0, _), (1, _)] ⟨rfl, rfl, trivial⟩ ?_
  obtain ⟨h2, hF⟩ := of_guard hF
  refine at_inv [.q 10 (fun g3 => .pointer (some ⟨b0_, 0, none⟩)) [] 0 0, .q 11 (fun g3 => .pointer (some ⟨b0_, 0, none⟩)) [] 0 0, .q 12 (fun g3 => .pointer (some ⟨b0_, 0, none⟩)) [1] 0 0, .q 13 (fun g3 => .pointer (some ⟨b0_, 0 + 8, none⟩)) [2] 0 0, .q 14 (fun g3 => .int .i64 x0.f_n) [3] 0 0, .q 15 (fun g3 => .int .u16 x1) [] 0 0, .q 16 (fun g3 => .pointer (some ⟨b0_, 0, none⟩)) [0] 0 0, .q 17 (fun g3 => .pointer (some ⟨b0_, 0 + 0, none⟩)) [6] 0 0, .q 18 (fun g3 => .pointer (some ⟨b0_, 0 + 0 + Int.toNat x0.f_n * 1, none⟩)) [4, 7] 0 0, .st 0 none [5, 8]] (fun g3 s => match s with | 0 => (Wd w0 (f_ (cellsE b0_ (Cd.cs c_colon_reader x0) 210))) | _ => (Wd w0 (f_ (cellsE b0_ (Cd.cs c_colon_reader ({ x0 with f_g := vset x0.f_g x0.f_n x1 })) 210)))) 1 (by kernel_rfl) (by kernel_rfl) (by kernel_rfl) (by kernel_rfl) (by kernel_rfl) ⟨fun _ _ _ => rfl, fun _ _ _ => rfl, fun _ _ _ => rfl, fun _ _ _ => rfl, fun _ _ _ => rfl, fun _ _ _ => rfl, fun _ _ _ => rfl, fun _ _ _ => rfl, fun _ _ _ => rfl, fun _ _ _ => rfl, trivial⟩ (by kernel_rfl) (fun _ h => ⟨fun _ => (0, none, 0, none), h.drew⟩) ⟨?_, ?_, ?_, ?_, ?_, ?_, ?_, ?_, ?_, ?_, trivial⟩ ?_
  ·intro Lx g3 s K hl hh k
   show At 26 ((0, _) :: (1, _) :: Lx) _ _
   refine av rfl (r_move rfl) ?_
   exact at_nil k
  ·intro Lx g3 s K hl hh k
   show At 26 ((0, _) :: (1, _) :: Lx) _ _
   refine av rfl (r_move rfl) ?_
   exact at_nil k
  ·intro Lx g3 s K hl hh k
   show At 26 ((11, _) :: (0, _) :: (1, _) :: Lx) _ _
   refine av rfl (r_nilCheck rfl) ?_
   exact at_nil k
  ·intro Lx g3 s K hl hh k
   show At 26 ((12, _) :: (0, _) :: (1, _) :: Lx) _ _
   refine av rfl (r_fieldAddr (fo := 8) Tryz.underlying210 rfl rfl (fun w => ⟨_, Tryz.sizeOf3 w⟩) rfl) ?_
   exact at_nil k
  ·intro Lx g3 s K hl hh k
   show At 26 ((13, _) :: (0, _) :: (1, _) :: Lx) _ _
   obtain rfl : s = 0 := by omega
   refine av rfl (r_load_cell Tryz.isAgg3 rfl (lens_cell0 (c := (cInt .i64)) (y := x0.f_n) (Upd.again hu_ _) (Lens.comp (Lens.whole _ _) (fun z => { x0 with f_n := z }) (c_colon_reader_f_n x0)) rfl)) ?_
   exact at_nil k
  ·intro Lx g3 s K hl hh k
   show At 26 ((0, _) :: (1, _) :: Lx) _ _
   refine av rfl (r_move rfl) ?_
   exact at_nil k
  ·intro Lx g3 s K hl hh k
   show At 26 ((10, _) :: (0, _) :: (1, _) :: Lx) _ _
   refine av rfl (r_nilCheck rfl) ?_
   exact at_nil k
  ·intro Lx g3 s K hl hh k
   show At 26 ((16, _) :: (0, _) :: (1, _) :: Lx) _ _
   refine av rfl (r_fieldAddr (fo := 0) Tryz.underlying210 rfl rfl (fun w => ⟨_, Tryz.sizeOf208 w⟩) rfl) ?_
   exact at_nil k
  ·intro Lx g3 s K hl hh k
   show At 26 ((14, _) :: (17, _) :: (0, _) :: (1, _) :: Lx) _ _
   refine av rfl (r_idxArr Tryz.underlying208 Tryz.sizeOf191 rfl rfl h2) ?_
   exact at_nil k
  ·intro Lx g3 K k
   show At 26 ((15, _) :: (18, _) :: (0, _) :: (1, _) :: Lx) _ _
   refine at_store (c := (cInt .u16)) (z := x1) (Upd.again hu_ _) (Lens.comp (Lens.comp (Lens.whole _ _) (fun z => { x0 with f_g := z }) (c_colon_reader_f_g x0)) (fun z => vset x0.f_g x0.f_n z) (Lens.vec (cInt .u16) (by decide) x0.f_g x0.f_n h2)) Tryz.sizeOf191 rfl rfl rfl ?_
   exact at_nil k
  intro g3
  show At 26 [(10, _), (11, _), (12, _), (13, _), (14, _), (15, _), (16, _), (17, _), (18, _), (0, _), (1, _)] _ _
  refine at_weak [(0, _)] ⟨rfl, trivial⟩ ?_
  refine at_then_normal ?_
  refine sr ?_
  refine av rfl (r_move rfl) ?_
  refine av rfl (r_nilCheck rfl) ?_
  refine av rfl (r_fieldAddr (fo := 8) Tryz.underlying210 rfl rfl (fun w => ⟨_, Tryz.sizeOf3 w⟩) rfl) ?_
  refine av rfl (r_load_cell Tryz.isAgg3 rfl (lens_cell0 (c := (cInt .i64)) (y := ({ x0 with f_g := vset x0.f_g x0.f_n x1 }).f_n) (Upd.again hu_ _) (Lens.comp (Lens.whole _ _) (fun z => { { x0 with f_g := vset x0.f_g x0.f_n x1 } with f_n := z }) (c_colon_reader_f_n ({ x0 with f_g := vset x0.f_g x0.f_n x1 }))) rfl)) ?_
  refine av rfl (r_iadd rfl rfl) ?_
  refine av rfl (r_nilCheck rfl) ?_
  refine av rfl (r_fieldAddr (fo := 8) Tryz.underlying210 rfl rfl (fun w => ⟨_, Tryz.sizeOf3 w⟩) rfl) ?_
  refine at_store (c := (cInt .i64)) (z := wr .i64 ((({ x0 with f_g := vset x0.f_g x0.f_n x1 }).f_n) + 1)) (Upd.again hu_ _) (Lens.comp (Lens.whole _ _) (fun z => { { x0 with f_g := vset x0.f_g x0.f_n x1 } with f_n := z }) (c_colon_reader_f_n ({ x0 with f_g := vset x0.f_g x0.f_n x1 }))) Tryz.sizeOf3 rfl rfl rfl ?_
  refine nws [] trivial ?_
  refine av rfl (r_assign rfl) ?_
  refine nwt [(4, _)] ⟨rfl, trivial⟩ ?_
  refine at_ret ?_
  have K := of_some hF
  subst K
  exact at_return1 rfl rfl (fun w1 hw => ⟨rfl, hw⟩)
def colon_reader_tail (x0 : S_colon_reader) (x1 : ByteArray) : Option (Bool × S_colon_reader) :=
  hexes_ReadGroup x1 >>= fun t1 => if (t1.2 == 0) = true then (colon_reader_put x0 t1.1 >>= fun t3 => some (t3.1, t3.2)) else (quad_Parse x1 >>= fun t4 => if (t4.2 == 0) = true then (colon_reader_put x0 (ior .u16 (ishl .u16 (wr .u16 (vget t4.1 0)) 8) (wr .u16 (vget t4.1 1))) >>= fun t7 => if t7.1 = true then (colon_reader_put t7.2 (ior .u16 (ishl .u16 (wr .u16 (vget t4.1 2)) 8) (wr .u16 (vget t4.1 3))) >>= fun t9 => some (t9.1, t9.2)) else (some (false, t7.2))) else (some (false, x0)))
theorem colon_reader_tail_ok (x0 : S_colon_reader) (b0_ : Nat) (x1 : ByteArray) (r : Bool × S_colon_reader) (hF : colon_reader_tail x0 x1 = some r) (w : World) {w0 : World} {H_ G_ : List Ent} {f_ : Ent → List Ent} (hu_ : Upd H_ (cellsE b0_ (Cd.cs c_colon_reader x0) 210) f_ G_) (hw_ : Wd w0 H_ w) (hg_strconv_ErrRange : GV_strconv_ErrRange w0) (hg_strconv_ErrSyntax : GV_strconv_ErrSyntax w0) :
    Calls Tryz.prog 218 #[.pointer (some ⟨b0_, 0, none⟩), .string x1] w (fun e w' => e = .returned (.bool r.1) ∧ Wd w0 (f_ (cellsE b0_ (Cd.cs c_colon_reader r.2) 210)) w') := by
 unfold colon_reader_tail at hF
 refine calls_enter (l := [.pointer (some ⟨b0_, 0, none⟩), .string x1]) Tryz.func218 rfl rfl rfl ?_
 refine at_enter_ptr hu_ hw_ ?_
 refine at_weak [(0, _), (1, _)] ⟨rfl, rfl, trivial⟩ ?_
 refine sr ?_
 refine av rfl (r_assign rfl) ?_
 refine nwt [(0, _), (1, _)] ⟨rfl, rfl, trivial⟩ ?_
 refine at_seq ?_
 refine sr ?_
 refine av rfl (r_move rfl) ?_
 obtain ⟨t1, ht1, hF⟩ := of_bindM hF
 refine at_call0 Tryz.func219 rfl (by kernel_rfl) rfl rfl (fun w => hexes_ReadGroup_ok _ _ ht1 w) ?_
 refine av rfl (r_move rfl) ?_
 refine av rfl (r_extract rfl rfl) ?_
 refine av rfl (r_extract rfl rfl) ?_
 refine av rfl (r_assign rfl) ?_
 refine av rfl (r_assign rfl) ?_
 refine nws [(0, _), (1, _), (5, _), (6, _)] ⟨rfl, rfl, rfl, rfl, trivial⟩ ?_
 refine av rfl (r_move rfl) ?_
 refine av rfl (r_ieql rfl rfl) ?_
 refine nwt [(0, _), (1, _), (5, _), (15, _)] ⟨rfl, rfl, rfl, rfl, trivial⟩ ?_
 rcases of_ite hF with ⟨h2, hF⟩ | ⟨h2, hF⟩
 ·refine at_cond_true rfl h2 ?_
  refine sr ?_
  refine av rfl (r_move rfl) ?_
  refine av rfl (r_move rfl) ?_
  obtain ⟨t3, ht3, hF⟩ := of_bindM hF
  refine at_callP (E' := cellsE b0_ (Cd.cs c_colon_reader t3.2) 210) Tryz.func220 rfl (by kernel_rfl) rfl rfl (fun w hw => colon_reader_put_ok _ _ _ _ ht3 w (Upd.again hu_ _) hw) ?_
  refine av rfl (r_assign rfl) ?_
  refine nwt [(4, _)] ⟨rfl, trivial⟩ ?_
  refine rt ?_
  have K := of_some hF
  subst K
  exact at_return1 rfl rfl (fun w1 hw => ⟨rfl, hw⟩)
 ·refine at_cond_false rfl h2 ?_
  refine sns ?_
  refine av rfl (r_move rfl) ?_
  obtain ⟨t4, ht4, hF⟩ := of_bindM hF
  refine at_callB Tryz.func181 rfl (by kernel_rfl) rfl rfl (fun w hw => quad_Parse_ok _ _ ht4 w (hg_strconv_ErrRange.on hw.below) (hg_strconv_ErrSyntax.on hw.below)) ?_
  refine av rfl (r_move rfl) ?_
  refine av rfl (r_extract rfl rfl) ?_
  refine av rfl (r_extract rfl rfl) ?_
  refine at_alloc (cs := Cd.cs (cVec (cInt .u8) 4 (by decide)) (Vector.replicate 4 (0 : Int) : (Vector Int 4))) Tryz.zeroValue159 rfl rfl ?_
  intro b5
  refine at_store (c := (cVec (cInt .u8) 4 (by decide))) (z := t4.1) .z (Lens.whole _ _) Tryz.sizeOf159 rfl rfl rfl ?_
  refine av rfl (r_assign rfl) ?_
  refine nws [(0, _), (7, _), (8, _)] ⟨rfl, rfl, rfl, trivial⟩ ?_
  refine av rfl (r_move rfl) ?_
  refine av rfl (r_ieql rfl rfl) ?_
  refine av rfl (r_move rfl) ?_
  rcases of_ite hF with ⟨h6, hF⟩ | ⟨h6, hF⟩
  ·refine at_fix (g := 26) rfl h6 ?_
   refine at_guard_yes rfl rfl rfl ?_
   refine av rfl (r_move rfl) ?_
   refine at_guard_yes rfl rfl rfl ?_
   refine av rfl (r_idxArr Tryz.underlying159 Tryz.sizeOf5 rfl rfl (by decide)) ?_
   refine at_guard_yes rfl rfl rfl ?_
   refine av rfl (r_load_cell Tryz.isAgg5 rfl (lens_cell0 (c := (cInt .u8)) (y := vget t4.1 0) .z (Lens.comp (Lens.whole _ _) (fun z => vset t4.1 0 z) (Lens.vec (cInt .u8) (by decide) t4.1 0 (by decide))) rfl)) ?_
   refine at_guard_yes rfl rfl rfl ?_
   refine av rfl (r_conv Tryz.underlying5 Tryz.underlying191 rfl) ?_
   refine at_guard_yes rfl rfl rfl ?_
   refine av rfl (r_ishl rfl rfl (by decide)) ?_
   refine at_guard_yes rfl rfl rfl ?_
   refine av rfl (r_idxArr Tryz.underlying159 Tryz.sizeOf5 rfl rfl (by decide)) ?_
   refine at_guard_yes rfl rfl rfl ?_
   refine av rfl (r_load_cell Tryz.isAgg5 rfl (lens_cell0 (c := (cInt .u8)) (y := vget t4.1 1) .z (Lens.comp (Lens.whole _ _) (fun z => vset t4.1 1 z) (Lens.vec (cInt .u8) (by decide) t4.1 1 (by decide))) rfl)) ?_
   refine at_guard_yes rfl rfl rfl ?_
   refine av rfl (r_conv Tryz.underlying5 Tryz.underlying191 rfl) ?_
   refine at_guard_yes rfl rfl rfl ?_
   refine av rfl (r_ior rfl rfl) ?_
   refine at_guard_yes rfl rfl rfl ?_
   obtain ⟨t7, ht7, hF⟩ := of_bindM hF
   refine at_callP (E' := cellsE b0_ (Cd.cs c_colon_reader t7.2) 210) Tryz.func220 rfl (by kernel_rfl) rfl rfl (fun w hw => colon_reader_put_ok _ _ _ _ ht7 w (.s (Upd.again hu_ _)) hw) ?_
   refine av rfl (r_pick rfl rfl rfl) ?_
   refine av rfl (r_move rfl) ?_
   rcases of_ite hF with ⟨h8, hF⟩ | ⟨h8, hF⟩
   ·refine at_fix (g := 38) rfl h8 ?_
    refine at_guard_yes rfl rfl rfl ?_
    refine av rfl (r_move rfl) ?_
    refine at_guard_yes rfl rfl rfl ?_
    refine av rfl (r_idxArr Tryz.underlying159 Tryz.sizeOf5 rfl rfl (by decide)) ?_
    refine at_guard_yes rfl rfl rfl ?_
    refine av rfl (r_load_cell Tryz.isAgg5 rfl (lens_cell0 (c := (cInt .u8)) (y := vget t4.1 2) .z (Lens.comp (Lens.whole _ _) (fun z => vset t4.1 2 z) (Lens.vec (cInt .u8) (by decide) t4.1 2 (by decide))) rfl)) ?_
    refine at_guard_yes rfl rfl rfl ?_
    refine av rfl (r_conv Tryz.underlying5 Tryz.underlying191 rfl) ?_
    refine at_guard_yes rfl rfl rfl ?_
    refine av rfl (r_ishl rfl rfl (by decide)) ?_
    refine at_guard_yes rfl rfl rfl ?_
    refine av rfl (r_idxArr Tryz.underlying159 Tryz.sizeOf5 rfl rfl (by decide)) ?_
    refine at_guard_yes rfl rfl rfl ?_
    refine av rfl (r_load_cell Tryz.isAgg5 rfl (lens_cell0 (c := (cInt .u8)) (y := vget t4.1 3) .z (Lens.comp (Lens.whole _ _) (fun z => vset t4.1 3 z) (Lens.vec (cInt .u8) (by decide) t4.1 3 (by decide))) rfl)) ?_
    refine at_guard_yes rfl rfl rfl ?_
    refine av rfl (r_conv Tryz.underlying5 Tryz.underlying191 rfl) ?_
    refine at_guard_yes rfl rfl rfl ?_
    refine av rfl (r_ior rfl rfl) ?_
    refine at_guard_yes rfl rfl rfl ?_
    obtain ⟨t9, ht9, hF⟩ := of_bindM hF
    refine at_callP (E' := cellsE b0_ (Cd.cs c_colon_reader t9.2) 210) Tryz.func220 rfl (by kernel_rfl) rfl rfl (fun w hw => colon_reader_put_ok _ _ _ _ ht9 w (.s (Upd.again hu_ _)) hw) ?_
    refine av rfl (r_pick rfl rfl rfl) ?_
    refine av rfl (r_assign rfl) ?_
    refine at_nil ?_
    refine at_drop (H := _) .z ?_
    refine at_weak [(4, _)] ⟨rfl, trivial⟩ ?_
    refine at_then_normal ?_
    refine at_ret ?_
    have K := of_some hF
    subst K
    exact at_return1 rfl rfl (fun w1 hw => ⟨rfl, hw⟩)
   ·refine at_fix (g := 38) rfl h8 ?_
    refine at_guard_no rfl rfl rfl rfl rfl ?_
    refine at_guard_no rfl rfl rfl rfl rfl ?_
    refine at_guard_no rfl rfl rfl rfl rfl ?_
    refine at_guard_no rfl rfl rfl rfl rfl ?_
    refine at_guard_no rfl rfl rfl rfl rfl ?_
    refine at_guard_no rfl rfl rfl rfl rfl ?_
    refine at_guard_no rfl rfl rfl rfl rfl ?_
    refine at_guard_no rfl rfl rfl rfl rfl ?_
    refine at_guard_no rfl rfl rfl rfl rfl ?_
    refine at_guard_no rfl rfl rfl rfl rfl ?_
    refine av rfl (r_pick rfl rfl rfl) ?_
    refine av rfl (r_assign rfl) ?_
    refine at_nil ?_
    refine at_drop (H := _) .z ?_
    refine at_weak [(4, _)] ⟨rfl, trivial⟩ ?_
    refine at_then_normal ?_
    refine at_ret ?_
    have K := of_some hF
    subst K
    exact at_return1 rfl rfl (fun w1 hw => ⟨rfl, hw⟩)
  ·refine at_fix (g := 26) rfl h6 ?_
   refine at_guard_no rfl rfl rfl rfl rfl ?_
   refine at_guard_no rfl rfl rfl rfl rfl ?_
   refine at_guard_no rfl rfl rfl rfl rfl ?_
   refine at_guard_no rfl rfl rfl rfl rfl ?_
   refine at_guard_no rfl rfl rfl rfl rfl ?_
   refine at_guard_no rfl rfl rfl rfl rfl ?_
   refine at_guard_no rfl rfl rfl rfl rfl ?_
   refine at_guard_no rfl rfl rfl rfl rfl ?_
   refine at_guard_no rfl rfl rfl rfl rfl ?_
   refine at_guard_no rfl rfl rfl rfl rfl ?_
   refine av rfl (r_pick rfl rfl rfl) ?_
   refine av rfl (r_move rfl) ?_
   refine at_guard_no rfl rfl rfl rfl rfl ?_
   refine at_guard_no rfl rfl rfl rfl rfl ?_
   refine at_guard_no rfl rfl rfl rfl rfl ?_
   refine at_guard_no rfl rfl rfl rfl rfl ?_
   refine at_guard_no rfl rfl rfl rfl rfl ?_
   refine at_guard_no rfl rfl rfl rfl rfl ?_
   refine at_guard_no rfl rfl rfl rfl rfl ?_
   refine at_guard_no rfl rfl rfl rfl rfl ?_
   refine at_guard_no rfl rfl rfl rfl rfl ?_
   refine at_guard_no rfl rfl rfl rfl rfl ?_
   refine av rfl (r_pick rfl rfl rfl) ?_
   refine av rfl (r_assign rfl) ?_
   refine at_nil ?_
   refine at_drop (H := _) .z ?_
   refine at_weak [(4, _)] ⟨rfl, trivial⟩ ?_
   refine at_then_normal ?_
   refine at_ret ?_
   have K := of_some hF
   subst K
   exact at_return1 rfl rfl (fun w1 hw => ⟨rfl, hw⟩)
def colon_reader_read.l0 (i6 : ByteArray) (i7 : S_colon_reader) : Option (Bool × S_colon_reader) :=
  lines_Cut i6 58 >>= fun t8 => if (!t8.2.2) = true then (colon_reader_tail i7 t8.1 >>= fun t10 => some (t10.1, t10.2)) else (hexes_ReadGroup t8.1 >>= fun t11 => if (t11.2 != 0) = true then (some (false, i7)) else (colon_reader_put i7 t11.1 >>= fun t13 => if (!t13.1) = true then (some (false, t13.2)) else (strings_HasPrefix t8.2.1 (⟨#[58]⟩ : ByteArray) >>= fun t15 => if (!t15) = true then (colon_reader_read.l0 t8.2.1 t13.2) else (if (decide (t13.2.f_gap ≥ 0)) = true then (some (false, t13.2)) else (if (0 : Int) ≤ 1 ∧ 1 ≤ (t8.2.1.size : Int) ∧ (t8.2.1.size : Int) ≤ (t8.2.1.size : Int) then if (seq (t8.2.1.extract (Int.toNat 1) (Int.toNat (t8.2.1.size : Int))) (⟨#[]⟩ : ByteArray)) = true then (some (true, { t13.2 with f_gap := t13.2.f_n })) else (colon_reader_read.l0 (t8.2.1.extract (Int.toNat 1) (Int.toNat (t8.2.1.size : Int))) ({ t13.2 with f_gap := t13.2.f_n })) else none)))))
  partial_fixpoint
def colon_reader_read.l1 (i21 : ByteArray) (i22 : S_colon_reader) : Option (Bool × S_colon_reader) :=
  lines_Cut i21 58 >>= fun t23 => if (!t23.2.2) = true then (colon_reader_tail i22 t23.1 >>= fun t25 => some (t25.1, t25.2)) else (hexes_ReadGroup t23.1 >>= fun t26 => if (t26.2 != 0) = true then (some (false, i22)) else (colon_reader_put i22 t26.1 >>= fun t28 => if (!t28.1) = true then (some (false, t28.2)) else (strings_HasPrefix t23.2.1 (⟨#[58]⟩ : ByteArray) >>= fun t30 => if (!t30) = true then (colon_reader_read.l1 t23.2.1 t28.2) else (if (decide (t28.2.f_gap ≥ 0)) = true then (some (false, t28.2)) else (if (0 : Int) ≤ 1 ∧ 1 ≤ (t23.2.1.size : Int) ∧ (t23.2.1.size : Int) ≤ (t23.2.1.size : Int) then if (seq (t23.2.1.extract (Int.toNat 1) (Int.toNat (t23.2.1.size : Int))) (⟨#[]⟩ : ByteArray)) = true then (some (true, { t28.2 with f_gap := t28.2.f_n })) else (colon_reader_read.l1 (t23.2.1.extract (Int.toNat 1) (Int.toNat (t23.2.1.size : Int))) ({ t28.2 with f_gap := t28.2.f_n })) else none)))))
  partial_fixpoint
def colon_reader_read (x0 : S_colon_reader) (x1 : ByteArray) : Option (Bool × S_colon_reader) :=
  strings_HasPrefix x1 (⟨#[58, 58]⟩ : ByteArray) >>= fun t1 => if t1 = true then (if (0 : Int) ≤ 2 ∧ 2 ≤ (x1.size : Int) ∧ (x1.size : Int) ≤ (x1.size : Int) then if (seq (x1.extract (Int.toNat 2) (Int.toNat (x1.size : Int))) (⟨#[]⟩ : ByteArray)) = true then (some (true, { x0 with f_gap := 0 })) else (colon_reader_read.l0 (x1.extract (Int.toNat 2) (Int.toNat (x1.size : Int))) ({ x0 with f_gap := 0 }) >>= fun q5 => some q5) else none) else (colon_reader_read.l1 x1 x0 >>= fun q20 => some q20)
theorem colon_reader_read_ok (x0 : S_colon_reader) (b0_ : Nat) (x1 : ByteArray) (r : Bool × S_colon_reader) (hF : colon_reader_read x0 x1 = some r) (w : World) {w0 : World} {H_ G_ : List Ent} {f_ : Ent → List Ent} (hu_ : Upd H_ (cellsE b0_ (Cd.cs c_colon_reader x0) 210) f_ G_) (hw_ : Wd w0 H_ w) (hg_strconv_ErrRange : GV_strconv_ErrRange w0) (hg_strconv_ErrSyntax : GV_strconv_ErrSyntax w0) :
    Calls Tryz.prog 197 #[.pointer (some ⟨b0_, 0, none⟩), .string x1] w (fun e w' => e = .returned (.bool r.1) ∧ Wd w0 (f_ (cellsE b0_ (Cd.cs c_colon_reader r.2) 210)) w') := by
 unfold colon_reader_read at hF
 refine calls_enter (l := [.pointer (some ⟨b0_, 0, none⟩), .string x1]) Tryz.func197 rfl rfl rfl ?_
 refine at_enter_ptr hu_ hw_ ?_
 refine at_weak [(0, _), (1, _)] ⟨rfl, rfl, trivial⟩ ?_
 refine sr ?_
 refine av rfl (r_assign rfl) ?_
 refine nwt [(0, _), (1, _)] ⟨rfl, rfl, trivial⟩ ?_
 refine at_seq ?_
 refine sr ?_
 refine av rfl (r_move rfl) ?_
 obtain ⟨t1, ht1, hF⟩ := of_bindM hF
 refine at_call0 Tryz.func217 rfl (by kernel_rfl) rfl rfl (fun w => strings_HasPrefix_ok _ _ _ ht1 w) ?_
 refine nwt [(0, _), (1, _), (11, _)] ⟨rfl, rfl, rfl, trivial⟩ ?_
 rcases of_ite hF with ⟨h2, hF⟩ | ⟨h2, hF⟩
 ·refine at_cond_true rfl h2 ?_
  refine sr ?_
  refine av rfl (r_move rfl) ?_
  refine av rfl (r_nilCheck rfl) ?_
  refine av rfl (r_fieldAddr (fo := 9) Tryz.underlying210 rfl rfl (fun w => ⟨_, Tryz.sizeOf3 w⟩) rfl) ?_
  refine at_store (c := (cInt .i64)) (z := 0) (Upd.again hu_ _) (Lens.comp (Lens.whole _ _) (fun z => { x0 with f_gap := z }) (c_colon_reader_f_gap x0)) Tryz.sizeOf3 rfl rfl rfl ?_
  refine nws [(0, _), (1, _)] ⟨rfl, rfl, trivial⟩ ?_
  refine av rfl (r_move rfl) ?_
  obtain ⟨h3, hF⟩ := of_guard hF
  refine av rfl (r_slice_str Tryz.underlying9 rfl ⟨_, rfl⟩ rfl h3) ?_
  refine av rfl (r_assign rfl) ?_
  refine nws [(0, _), (1, _)] ⟨rfl, rfl, trivial⟩ ?_
  refine av rfl (r_move rfl) ?_
  refine av rfl (r_seql rfl rfl) ?_
  refine nwt [(0, _), (1, _), (18, _)] ⟨rfl, rfl, rfl, trivial⟩ ?_
  rcases of_ite hF with ⟨h4, hF⟩ | ⟨h4, hF⟩
  ·refine at_cond_true rfl h4 ?_
   refine sr ?_
   refine av rfl (r_assign rfl) ?_
   refine nwt [(4, _)] ⟨rfl, trivial⟩ ?_
   refine rt ?_
   have K := of_some hF
   subst K
   exact at_return1 rfl rfl (fun w1 hw => ⟨rfl, hw⟩)
  ·refine at_cond_false rfl h4 ?_
   refine sn ?_
   refine at_block ?_
   obtain ⟨q5, hq5, hF⟩ := of_bindM hF
   refine at_weak [(0, _), (1, _)] ⟨rfl, rfl, trivial⟩ ?_
   refine at_loop_only (r := r) (q := q5) ?_ ?_
   ·intro K
    refine colon_reader_read.l0.partial_correctness  (motive := fun i6 i7 x => x = r → Round (fun Y => At 63 [(0, .pointer (some ⟨b0_, 0, none⟩)), (1, .string i6)] (Wd w0 (f_ (cellsE b0_ (Cd.cs c_colon_reader i7) 210))) Y) _ _ _) ?_ _ _ _ hq5 K
    ·clear K hF
     intro g ih i6 i7 x hF K
     refine at_round ?_
     refine at_block ?_
     refine sr ?_
     refine av rfl (r_move rfl) ?_
     obtain ⟨t8, ht8, hF⟩ := of_bindM hF
     refine at_callB Tryz.func86 rfl (by kernel_rfl) rfl rfl (fun w hw => lines_Cut_ok _ _ _ ht8 w) ?_
     refine av rfl (r_move rfl) ?_
     refine av rfl (r_extract rfl rfl) ?_
     refine av rfl (r_extract rfl rfl) ?_
     refine av rfl (r_extract rfl rfl) ?_
     refine av rfl (r_assign rfl) ?_
     refine av rfl (r_assign rfl) ?_
     refine av rfl (r_assign rfl) ?_
     refine nwt [(0, _), (5, _), (6, _), (7, _)] ⟨rfl, rfl, rfl, rfl, trivial⟩ ?_
     refine at_seq ?_
     refine sr ?_
     refine av rfl (r_move rfl) ?_
     refine av rfl (r_not rfl) ?_
     refine nwt [(0, _), (5, _), (6, _), (26, _)] ⟨rfl, rfl, rfl, rfl, trivial⟩ ?_
     rcases of_ite hF with ⟨h9, hF⟩ | ⟨h9, hF⟩
     ·refine at_cond_true rfl h9 ?_
      refine sr ?_
      refine av rfl (r_move rfl) ?_
      refine av rfl (r_move rfl) ?_
      obtain ⟨t10, ht10, hF⟩ := of_bindM hF
      refine at_callP (E' := cellsE b0_ (Cd.cs c_colon_reader t10.2) 210) Tryz.func218 rfl (by kernel_rfl) rfl rfl (fun w hw => colon_reader_tail_ok _ _ _ _ ht10 w (Upd.again hu_ _) hw hg_strconv_ErrRange hg_strconv_ErrSyntax) ?_
      refine av rfl (r_assign rfl) ?_
      refine nwt [(4, _)] ⟨rfl, trivial⟩ ?_
      refine at_ret ?_
      refine at_then_ret (at_blk_ret (at_then_ret (at_blk_ret ?_)))
      obtain rfl := of_some hF
      subst K
      exact at_return1 rfl rfl (fun w1 hw => ⟨rfl, hw⟩)
     ·refine at_cond_false rfl h9 ?_
      refine sns ?_
      refine av rfl (r_move rfl) ?_
      obtain ⟨t11, ht11, hF⟩ := of_bindM hF
      refine at_call0 Tryz.func219 rfl (by kernel_rfl) rfl rfl (fun w => hexes_ReadGroup_ok _ _ ht11 w) ?_
      refine av rfl (r_move rfl) ?_
      refine av rfl (r_extract rfl rfl) ?_
      refine av rfl (r_extract rfl rfl) ?_
      refine av rfl (r_assign rfl) ?_
      refine av rfl (r_assign rfl) ?_
      refine nwt [(0, _), (6, _), (8, _), (9, _)] ⟨rfl, rfl, rfl, rfl, trivial⟩ ?_
      refine at_seq ?_
      refine sr ?_
      refine av rfl (r_move rfl) ?_
      refine av rfl (r_ineq rfl rfl) ?_
      refine av rfl (r_move rfl) ?_
      rcases of_ite hF with ⟨h12, hF⟩ | ⟨h12, hF⟩
      ·refine at_fix (g := 37) rfl h12 ?_
       refine at_guard_no rfl rfl rfl rfl rfl ?_
       refine at_guard_no rfl rfl rfl rfl rfl ?_
       refine at_guard_no rfl rfl rfl rfl rfl ?_
       refine at_guard_no rfl rfl rfl rfl rfl ?_
       refine av rfl (r_pick rfl rfl rfl) ?_
       refine nwt [(0, _), (6, _), (42, _)] ⟨rfl, rfl, rfl, trivial⟩ ?_
       refine at_cond_true rfl rfl ?_
       refine sr ?_
       refine av rfl (r_assign rfl) ?_
       refine nwt [(4, _)] ⟨rfl, trivial⟩ ?_
       refine at_ret ?_
       refine at_then_ret (at_blk_ret (at_then_ret (at_blk_ret ?_)))
       obtain rfl := of_some hF
       subst K
       exact at_return1 rfl rfl (fun w1 hw => ⟨rfl, hw⟩)
      ·refine at_fix (g := 37) rfl h12 ?_
       refine at_guard_yes rfl rfl rfl ?_
       refine av rfl (r_move rfl) ?_
       refine at_guard_yes rfl rfl rfl ?_
       refine av rfl (r_move rfl) ?_
       refine at_guard_yes rfl rfl rfl ?_
       obtain ⟨t13, ht13, hF⟩ := of_bindM hF
       refine at_callP (E' := cellsE b0_ (Cd.cs c_colon_reader t13.2) 210) Tryz.func220 rfl (by kernel_rfl) rfl rfl (fun w hw => colon_reader_put_ok _ _ _ _ ht13 w (Upd.again hu_ _) hw) ?_
       refine at_guard_yes rfl rfl rfl ?_
       refine av rfl (r_not rfl) ?_
       refine av rfl (r_pick rfl rfl rfl) ?_
       refine nwt [(0, _), (6, _), (42, _)] ⟨rfl, rfl, rfl, trivial⟩ ?_
       rcases of_ite hF with ⟨h14, hF⟩ | ⟨h14, hF⟩
       ·refine at_cond_true rfl h14 ?_
        refine sr ?_
        refine av rfl (r_assign rfl) ?_
        refine nwt [(4, _)] ⟨rfl, trivial⟩ ?_
        refine at_ret ?_
        refine at_then_ret (at_blk_ret (at_then_ret (at_blk_ret ?_)))
        obtain rfl := of_some hF
        subst K
        exact at_return1 rfl rfl (fun w1 hw => ⟨rfl, hw⟩)
       ·refine at_cond_false rfl h14 ?_
        refine sns ?_
        refine av rfl (r_move rfl) ?_
        refine av rfl (r_assign rfl) ?_
        refine nwt [(0, _), (1, _)] ⟨rfl, rfl, trivial⟩ ?_
        refine at_seq ?_
        refine sr ?_
        refine av rfl (r_move rfl) ?_
        obtain ⟨t15, ht15, hF⟩ := of_bindM hF
        refine at_call0 Tryz.func217 rfl (by kernel_rfl) rfl rfl (fun w => strings_HasPrefix_ok _ _ _ ht15 w) ?_
        refine av rfl (r_not rfl) ?_
        refine nwt [(0, _), (1, _), (46, _)] ⟨rfl, rfl, rfl, trivial⟩ ?_
        rcases of_ite hF with ⟨h16, hF⟩ | ⟨h16, hF⟩
        ·refine at_cond_true rfl h16 ?_
         refine at_exit ?_
         refine at_then_exit (at_blk_same (at_then_normal ?_))
         exact at_weak_k (ih _ _ _ hF K) ⟨rfl, rfl, trivial⟩
        ·refine at_cond_false rfl h16 ?_
         refine sn ?_
         refine at_seq ?_
         refine sr ?_
         refine av rfl (r_move rfl) ?_
         refine av rfl (r_nilCheck rfl) ?_
         refine av rfl (r_fieldAddr (fo := 9) Tryz.underlying210 rfl rfl (fun w => ⟨_, Tryz.sizeOf3 w⟩) rfl) ?_
         refine av rfl (r_load_cell Tryz.isAgg3 rfl (lens_cell0 (c := (cInt .i64)) (y := t13.2.f_gap) (Upd.again hu_ _) (Lens.comp (Lens.whole _ _) (fun z => { t13.2 with f_gap := z }) (c_colon_reader_f_gap t13.2)) rfl)) ?_
         refine av rfl (r_igeq rfl rfl) ?_
         refine nwt [(0, _), (1, _), (51, _)] ⟨rfl, rfl, rfl, trivial⟩ ?_
         rcases of_ite hF with ⟨h17, hF⟩ | ⟨h17, hF⟩
         ·refine at_cond_true rfl h17 ?_
          refine sr ?_
          refine av rfl (r_assign rfl) ?_
          refine nwt [(4, _)] ⟨rfl, trivial⟩ ?_
          refine at_ret ?_
          refine at_then_ret (at_blk_ret (at_then_ret (at_blk_ret ?_)))
          obtain rfl := of_some hF
          subst K
          exact at_return1 rfl rfl (fun w1 hw => ⟨rfl, hw⟩)
         ·refine at_cond_false rfl h17 ?_
          refine sns ?_
          refine av rfl (r_move rfl) ?_
          refine av rfl (r_move rfl) ?_
          refine av rfl (r_nilCheck rfl) ?_
          refine av rfl (r_fieldAddr (fo := 8) Tryz.underlying210 rfl rfl (fun w => ⟨_, Tryz.sizeOf3 w⟩) rfl) ?_
          refine av rfl (r_load_cell Tryz.isAgg3 rfl (lens_cell0 (c := (cInt .i64)) (y := t13.2.f_n) (Upd.again hu_ _) (Lens.comp (Lens.whole _ _) (fun z => { t13.2 with f_n := z }) (c_colon_reader_f_n t13.2)) rfl)) ?_
          refine av rfl (r_nilCheck rfl) ?_
          refine av rfl (r_fieldAddr (fo := 9) Tryz.underlying210 rfl rfl (fun w => ⟨_, Tryz.sizeOf3 w⟩) rfl) ?_
          refine at_store (c := (cInt .i64)) (z := t13.2.f_n) (Upd.again hu_ _) (Lens.comp (Lens.whole _ _) (fun z => { t13.2 with f_gap := z }) (c_colon_reader_f_gap t13.2)) Tryz.sizeOf3 rfl rfl rfl ?_
          refine nws [(0, _), (1, _)] ⟨rfl, rfl, trivial⟩ ?_
          refine av rfl (r_move rfl) ?_
          obtain ⟨h18, hF⟩ := of_guard hF
          refine av rfl (r_slice_str Tryz.underlying9 rfl ⟨_, rfl⟩ rfl h18) ?_
          refine av rfl (r_assign rfl) ?_
          refine nws [(0, _), (1, _)] ⟨rfl, rfl, trivial⟩ ?_
          refine av rfl (r_move rfl) ?_
          refine av rfl (r_seql rfl rfl) ?_
          refine nwt [(0, _), (1, _), (62, _)] ⟨rfl, rfl, rfl, trivial⟩ ?_
          rcases of_ite hF with ⟨h19, hF⟩ | ⟨h19, hF⟩
          ·refine at_cond_true rfl h19 ?_
           refine sr ?_
           refine av rfl (r_assign rfl) ?_
           refine nwt [(4, _)] ⟨rfl, trivial⟩ ?_
           refine at_ret ?_
           refine at_blk_ret (at_then_ret (at_blk_ret ?_))
           obtain rfl := of_some hF
           subst K
           exact at_return1 rfl rfl (fun w1 hw => ⟨rfl, hw⟩)
          ·refine at_cond_false rfl h19 ?_
           refine at_skip ?_
           refine at_blk_normal (at_then_normal ?_)
           exact at_weak_k (ih _ _ _ hF K) ⟨rfl, rfl, trivial⟩
   ·exact of_some hF
 ·refine at_cond_false rfl h2 ?_
  refine sn ?_
  refine at_block ?_
  obtain ⟨q20, hq20, hF⟩ := of_bindM hF
  refine at_weak [(0, _), (1, _)] ⟨rfl, rfl, trivial⟩ ?_
  refine at_loop_only (r := r) (q := q20) ?_ ?_
  ·intro K
   refine colon_reader_read.l1.partial_correctness  (motive := fun i21 i22 x => x = r → Round (fun Y => At 63 [(0, .pointer (some ⟨b0_, 0, none⟩)), (1, .string i21)] (Wd w0 (f_ (cellsE b0_ (Cd.cs c_colon_reader i22) 210))) Y) _ _ _) ?_ _ _ _ hq20 K
   ·clear K hF
    intro g ih i21 i22 x hF K
    refine at_round ?_
    refine at_block ?_
    refine sr ?_
    refine av rfl (r_move rfl) ?_
    obtain ⟨t23, ht23, hF⟩ := of_bindM hF
    refine at_callB Tryz.func86 rfl (by kernel_rfl) rfl rfl (fun w hw => lines_Cut_ok _ _ _ ht23 w) ?_
    refine av rfl (r_move rfl) ?_
    refine av rfl (r_extract rfl rfl) ?_
    refine av rfl (r_extract rfl rfl) ?_
    refine av rfl (r_extract rfl rfl) ?_
    refine av rfl (r_assign rfl) ?_
    refine av rfl (r_assign rfl) ?_
    refine av rfl (r_assign rfl) ?_
    refine nwt [(0, _), (5, _), (6, _), (7, _)] ⟨rfl, rfl, rfl, rfl, trivial⟩ ?_
    refine at_seq ?_
    refine sr ?_
    refine av rfl (r_move rfl) ?_
    refine av rfl (r_not rfl) ?_
    refine nwt [(0, _), (5, _), (6, _), (26, _)] ⟨rfl, rfl, rfl, rfl, trivial⟩ ?_
    rcases of_ite hF with ⟨h24, hF⟩ | ⟨h24, hF⟩
    ·refine at_cond_true rfl h24 ?_
     refine sr ?_
     refine av rfl (r_move rfl) ?_
     refine av rfl (r_move rfl) ?_
     obtain ⟨t25, ht25, hF⟩ := of_bindM hF
     refine at_callP (E' := cellsE b0_ (Cd.cs c_colon_reader t25.2) 210) Tryz.func218 rfl (by kernel_rfl) rfl rfl (fun w hw => colon_reader_tail_ok _ _ _ _ ht25 w (Upd.again hu_ _) hw hg_strconv_ErrRange hg_strconv_ErrSyntax) ?_
     refine av rfl (r_assign rfl) ?_
     refine nwt [(4, _)] ⟨rfl, trivial⟩ ?_
     refine at_ret ?_
     refine at_then_ret (at_blk_ret (at_then_ret (at_blk_ret ?_)))
     obtain rfl := of_some hF
     subst K
     exact at_return1 rfl rfl (fun w1 hw => ⟨rfl, hw⟩)
    ·refine at_cond_false rfl h24 ?_
     refine sns ?_
     refine av rfl (r_move rfl) ?_
     obtain ⟨t26, ht26, hF⟩ := of_bindM hF
     refine at_call0 Tryz.func219 rfl (by kernel_rfl) rfl rfl (fun w => hexes_ReadGroup_ok _ _ ht26 w) ?_
     refine av rfl (r_move rfl) ?_
     refine av rfl (r_extract rfl rfl) ?_
     refine av rfl (r_extract rfl rfl) ?_
     refine av rfl (r_assign rfl) ?_
     refine av rfl (r_assign rfl) ?_
     refine nwt [(0, _), (6, _), (8, _), (9, _)] ⟨rfl, rfl, rfl, rfl, trivial⟩ ?_
     refine at_seq ?_
     refine sr ?_
     refine av rfl (r_move rfl) ?_
     refine av rfl (r_ineq rfl rfl) ?_
     refine av rfl (r_move rfl) ?_
     rcases of_ite hF with ⟨h27, hF⟩ | ⟨h27, hF⟩
     ·refine at_fix (g := 37) rfl h27 ?_
      refine at_guard_no rfl rfl rfl rfl rfl ?_
      refine at_guard_no rfl rfl rfl rfl rfl ?_
      refine at_guard_no rfl rfl rfl rfl rfl ?_
      refine at_guard_no rfl rfl rfl rfl rfl ?_
      refine av rfl (r_pick rfl rfl rfl) ?_
      refine nwt [(0, _), (6, _), (42, _)] ⟨rfl, rfl, rfl, trivial⟩ ?_
      refine at_cond_true rfl rfl ?_
      refine sr ?_
      refine av rfl (r_assign rfl) ?_
      refine nwt [(4, _)] ⟨rfl, trivial⟩ ?_
      refine at_ret ?_
      refine at_then_ret (at_blk_ret (at_then_ret (at_blk_ret ?_)))
      obtain rfl := of_some hF
      subst K
      exact at_return1 rfl rfl (fun w1 hw => ⟨rfl, hw⟩)
     ·refine at_fix (g := 37) rfl h27 ?_
      refine at_guard_yes rfl rfl rfl ?_
      refine av rfl (r_move rfl) ?_
      refine at_guard_yes rfl rfl rfl ?_
      refine av rfl (r_move rfl) ?_
      refine at_guard_yes rfl rfl rfl ?_
      obtain ⟨t28, ht28, hF⟩ := of_bindM hF
      refine at_callP (E' := cellsE b0_ (Cd.cs c_colon_reader t28.2) 210) Tryz.func220 rfl (by kernel_rfl) rfl rfl (fun w hw => colon_reader_put_ok _ _ _ _ ht28 w (Upd.again hu_ _) hw) ?_
      refine at_guard_yes rfl rfl rfl ?_
      refine av rfl (r_not rfl) ?_
      refine av rfl (r_pick rfl rfl rfl) ?_
      refine nwt [(0, _), (6, _), (42, _)] ⟨rfl, rfl, rfl, trivial⟩ ?_
      rcases of_ite hF with ⟨h29, hF⟩ | ⟨h29, hF⟩
      ·refine at_cond_true rfl h29 ?_
       refine sr ?_
       refine av rfl (r_assign rfl) ?_
       refine nwt [(4, _)] ⟨rfl, trivial⟩ ?_
       refine at_ret ?_
       refine at_then_ret (at_blk_ret (at_then_ret (at_blk_ret ?_)))
       obtain rfl := of_some hF
       subst K
       exact at_return1 rfl rfl (fun w1 hw => ⟨rfl, hw⟩)
      ·refine at_cond_false rfl h29 ?_
       refine sns ?_
       refine av rfl (r_move rfl) ?_
       refine av rfl (r_assign rfl) ?_
       refine nwt [(0, _), (1, _)] ⟨rfl, rfl, trivial⟩ ?_
       refine at_seq ?_
       refine sr ?_
       refine av rfl (r_move rfl) ?_
       obtain ⟨t30, ht30, hF⟩ := of_bindM hF
       refine at_call0 Tryz.func217 rfl (by kernel_rfl) rfl rfl (fun w => strings_HasPrefix_ok _ _ _ ht30 w) ?_
       refine av rfl (r_not rfl) ?_
       refine nwt [(0, _), (1, _), (46, _)] ⟨rfl, rfl, rfl, trivial⟩ ?_
       rcases of_ite hF with ⟨h31, hF⟩ | ⟨h31, hF⟩
       ·refine at_cond_true rfl h31 ?_
        refine at_exit ?_
        refine at_then_exit (at_blk_same (at_then_normal ?_))
        exact at_weak_k (ih _ _ _ hF K) ⟨rfl, rfl, trivial⟩
       ·refine at_cond_false rfl h31 ?_
        refine sn ?_
        refine at_seq ?_
        refine sr ?_
        refine av rfl (r_move rfl) ?_
        refine av rfl (r_nilCheck rfl) ?_
        refine av rfl (r_fieldAddr (fo := 9) Tryz.underlying210 rfl rfl (fun w => ⟨_, Tryz.sizeOf3 w⟩) rfl) ?_
        refine av rfl (r_load_cell Tryz.isAgg3 rfl (lens_cell0 (c := (cInt .i64)) (y := t28.2.f_gap) (Upd.again hu_ _) (Lens.comp (Lens.whole _ _) (fun z => { t28.2 with f_gap := z }) (c_colon_reader_f_gap t28.2)) rfl)) ?_
        refine av rfl (r_igeq rfl rfl) ?_
        refine nwt [(0, _), (1, _), (51, _)] ⟨rfl, rfl, rfl, trivial⟩ ?_
        rcases of_ite hF with ⟨h32, hF⟩ | ⟨h32, hF⟩
        ·refine at_cond_true rfl h32 ?_
         refine sr ?_
         refine av rfl (r_assign rfl) ?_
         refine nwt [(4, _)] ⟨rfl, trivial⟩ ?_
         refine at_ret ?_
         refine at_then_ret (at_blk_ret (at_then_ret (at_blk_ret ?_)))
         obtain rfl := of_some hF
         subst K
         exact at_return1 rfl rfl (fun w1 hw => ⟨rfl, hw⟩)
        ·refine at_cond_false rfl h32 ?_
         refine sns ?_
         refine av rfl (r_move rfl) ?_
         refine av rfl (r_move rfl) ?_
         refine av rfl (r_nilCheck rfl) ?_
         refine av rfl (r_fieldAddr (fo := 8) Tryz.underlying210 rfl rfl (fun w => ⟨_, Tryz.sizeOf3 w⟩) rfl) ?_
         refine av rfl (r_load_cell Tryz.isAgg3 rfl (lens_cell0 (c := (cInt .i64)) (y := t28.2.f_n) (Upd.again hu_ _) (Lens.comp (Lens.whole _ _) (fun z => { t28.2 with f_n := z }) (c_colon_reader_f_n t28.2)) rfl)) ?_
         refine av rfl (r_nilCheck rfl) ?_
         refine av rfl (r_fieldAddr (fo := 9) Tryz.underlying210 rfl rfl (fun w => ⟨_, Tryz.sizeOf3 w⟩) rfl) ?_
         refine at_store (c := (cInt .i64)) (z := t28.2.f_n) (Upd.again hu_ _) (Lens.comp (Lens.whole _ _) (fun z => { t28.2 with f_gap := z }) (c_colon_reader_f_gap t28.2)) Tryz.sizeOf3 rfl rfl rfl ?_
         refine nws [(0, _), (1, _)] ⟨rfl, rfl, trivial⟩ ?_
         refine av rfl (r_move rfl) ?_
         obtain ⟨h33, hF⟩ := of_guard hF
         refine av rfl (r_slice_str Tryz.underlying9 rfl ⟨_, rfl⟩ rfl h33) ?_
         refine av rfl (r_assign rfl) ?_
         refine nws [(0, _), (1, _)] ⟨rfl, rfl, trivial⟩ ?_
         refine av rfl (r_move rfl) ?_
         refine av rfl (r_seql rfl rfl) ?_
         refine nwt [(0, _), (1, _), (62, _)] ⟨rfl, rfl, rfl, trivial⟩ ?_
         rcases of_ite hF with ⟨h34, hF⟩ | ⟨h34, hF⟩
         ·refine at_cond_true rfl h34 ?_
          refine sr ?_
          refine av rfl (r_assign rfl) ?_
          refine nwt [(4, _)] ⟨rfl, trivial⟩ ?_
          refine at_ret ?_
          refine at_blk_ret (at_then_ret (at_blk_ret ?_))
          obtain rfl := of_some hF
          subst K
          exact at_return1 rfl rfl (fun w1 hw => ⟨rfl, hw⟩)
         ·refine at_cond_false rfl h34 ?_
          refine at_skip ?_
          refine at_blk_normal (at_then_normal ?_)
          exact at_weak_k (ih _ _ _ hF K) ⟨rfl, rfl, trivial⟩
  ·exact of_some hF
def colon_reader_spread (x0 : S_colon_reader) : Option ((Vector Int 8) × Bool × S_colon_reader) :=
  if (decide (x0.f_gap < 0)) = true then (some (x0.f_g, (x0.f_n == 8), x0)) else (if (x0.f_n == 8) = true then (some (x0.f_g, false, x0)) else (if (0 : Int) ≤ 0 ∧ 0 ≤ x0.f_gap ∧ x0.f_gap ≤ (8 : Int) then if (0 : Int) ≤ wr .i64 ((wr .i64 (8 - x0.f_n)) + x0.f_gap) ∧ wr .i64 ((wr .i64 (8 - x0.f_n)) + x0.f_gap) ≤ 8 ∧ 8 ≤ (8 : Int) then if (0 : Int) ≤ x0.f_gap ∧ x0.f_gap ≤ x0.f_n ∧ x0.f_n ≤ (8 : Int) then some (vcopy (vcopy (Vector.replicate 8 (0 : Int) : (Vector Int 8)) (Int.toNat 0) (List.take (Int.toNat (8 - 0)) (lsub (Vector.toList x0.f_g) 0 x0.f_gap))) (Int.toNat (wr .i64 ((wr .i64 (8 - x0.f_n)) + x0.f_gap))) (List.take (Int.toNat (8 - wr .i64 ((wr .i64 (8 - x0.f_n)) + x0.f_gap))) (lsub (Vector.toList x0.f_g) x0.f_gap x0.f_n)), true, x0) else none else none else none))
set_option maxHeartbeats 3200000 in
theorem colon_reader_spread_ok (x0 : S_colon_reader) (b0_ : Nat) (r : (Vector Int 8) × Bool × S_colon_reader) (hF : colon_reader_spread x0 = some r) (w : World) {w0 : World} {H_ G_ : List Ent} {f_ : Ent → List Ent} (hu_ : Upd H_ (cellsE b0_ (Cd.cs c_colon_reader x0) 210) f_ G_) (hw_ : Wd w0 H_ w) :
    Calls Tryz.prog 198 #[.pointer (some ⟨b0_, 0, none⟩)] w (fun e w' => e = .returned (.tuple #[.agg (Cd.cs (cVec (cInt .u16) 8 (by decide)) r.1).toArray, .bool r.2.1]) ∧ Wd w0 (f_ (cellsE b0_ (Cd.cs c_colon_reader r.2.2) 210)) w') := by
 unfold colon_reader_spread at hF
 refine calls_enter (l := [.pointer (some ⟨b0_, 0, none⟩)]) Tryz.func198 rfl rfl rfl ?_
 refine at_enter_ptr hu_ hw_ ?_
 refine at_weak [(0, _)] ⟨rfl, trivial⟩ ?_
 refine sr ?_
 refine at_alloc (cs := Cd.cs (cVec (cInt .u16) 8 (by decide)) (Vector.replicate 8 (0 : Int) : (Vector Int 8))) Tryz.zeroValue208 rfl rfl ?_
 intro b1
 refine av rfl (r_assign rfl) ?_
 refine nwt [(0, _), (2, _)] ⟨rfl, rfl, trivial⟩ ?_
 refine at_seq ?_
 refine sr ?_
 refine av rfl (r_move rfl) ?_
 refine av rfl (r_nilCheck rfl) ?_
 refine av rfl (r_fieldAddr (fo := 9) Tryz.underlying210 rfl rfl (fun w => ⟨_, Tryz.sizeOf3 w⟩) rfl) ?_
 refine av rfl (r_load_cell Tryz.isAgg3 rfl (lens_cell0 (c := (cInt .i64)) (y := x0.f_gap) (.s (Upd.again hu_ _)) (Lens.comp (Lens.whole _ _) (fun z => { x0 with f_gap := z }) (c_colon_reader_f_gap x0)) rfl)) ?_
 refine av rfl (r_ilss rfl rfl) ?_
 refine nwt [(0, _), (2, _), (9, _)] ⟨rfl, rfl, rfl, trivial⟩ ?_
 rcases of_ite hF with ⟨h2, hF⟩ | ⟨h2, hF⟩
 ·refine at_cond_true rfl h2 ?_
  refine at_seq ?_
  refine at_weak [(0, _), (2, _)] ⟨rfl, rfl, trivial⟩ ?_
  refine at_inv [.q 10 (fun g3 => .pointer (some ⟨b0_, 0, none⟩)) [] 0 0, .q 11 (fun g3 => .pointer (some ⟨b0_, 0, none⟩)) [0] 0 0, .q 12 (fun g3 => .pointer (some ⟨b0_, 0 + 0, none⟩)) [1] 0 0, .q 13 (fun g3 => .agg (Cd.cs (cVec (cInt .u16) 8 (by decide)) x0.f_g).toArray) [2] 0 0, .q 14 (fun g3 => .pointer (some ⟨b0_, 0, none⟩)) [] 0 1, .q 15 (fun g3 => .pointer (some ⟨b0_, 0, none⟩)) [4] 0 1, .q 16 (fun g3 => .pointer (some ⟨b0_, 0 + 8, none⟩)) [5] 0 1, .q 17 (fun g3 => .int .i64 x0.f_n) [6] 0 1, .q 18 (fun g3 => .bool (x0.f_n == 8)) [7] 0 1, .st 0 none [3], .q 3 (fun g3 => .bool (x0.f_n == 8)) [8] 1 1] (fun g3 s => match s with | 0 => (Wd w0 (cellsE b1 (Cd.cs (cVec (cInt .u16) 8 (by decide)) (Vector.replicate 8 (0 : Int) : (Vector Int 8))) 208 :: f_ (cellsE b0_ (Cd.cs c_colon_reader x0) 210))) | _ => (Wd w0 (cellsE b1 (Cd.cs (cVec (cInt .u16) 8 (by decide)) x0.f_g) 208 :: f_ (cellsE b0_ (Cd.cs c_colon_reader x0) 210)))) 1 (by kernel_rfl) (by kernel_rfl) (by kernel_rfl) (by kernel_rfl) (by kernel_rfl) ⟨fun _ _ _ => rfl, fun _ _ _ => rfl, fun _ _ _ => rfl, fun _ _ _ => rfl, fun _ _ _ => rfl, fun _ _ _ => rfl, fun _ _ _ => rfl, fun _ _ _ => rfl, fun _ _ _ => rfl, fun _ _ _ => rfl, fun _ _ _ => rfl, trivial⟩ (by kernel_rfl) (fun _ h => ⟨fun _ => (0, none, 0, none), h.drew⟩) ⟨?_, ?_, ?_, ?_, ?_, ?_, ?_, ?_, ?_, ?_, ?_, trivial⟩ ?_
  ·intro Lx g3 s K hl hh k
   show At 63 ((0, _) :: (2, _) :: Lx) _ _
   refine av rfl (r_move rfl) ?_
   exact at_nil k
  ·intro Lx g3 s K hl hh k
   show At 63 ((10, _) :: (0, _) :: (2, _) :: Lx) _ _
   refine av rfl (r_nilCheck rfl) ?_
   exact at_nil k
  ·intro Lx g3 s K hl hh k
   show At 63 ((11, _) :: (0, _) :: (2, _) :: Lx) _ _
   refine av rfl (r_fieldAddr (fo := 0) Tryz.underlying210 rfl rfl (fun w => ⟨_, Tryz.sizeOf208 w⟩) rfl) ?_
   exact at_nil k
  ·intro Lx g3 s K hl hh k
   show At 63 ((12, _) :: (0, _) :: (2, _) :: Lx) _ _
   obtain rfl : s = 0 := by omega
   refine av rfl (r_load_aggc (c := (cVec (cInt .u16) 8 (by decide))) (z := x0.f_g) Tryz.isAgg208 Tryz.sizeOf208 rfl (lens_cell (.s (Upd.again hu_ _)) (Lens.comp (Lens.whole _ _) (fun z => { x0 with f_g := z }) (c_colon_reader_f_g x0)))) ?_
   exact at_nil k
  ·intro Lx g3 s K hl hh k
   show At 63 ((0, _) :: (2, _) :: Lx) _ _
   refine av rfl (r_move rfl) ?_
   exact at_nil k
  ·intro Lx g3 s K hl hh k
   show At 63 ((14, _) :: (0, _) :: (2, _) :: Lx) _ _
   refine av rfl (r_nilCheck rfl) ?_
   exact at_nil k
  ·intro Lx g3 s K hl hh k
   show At 63 ((15, _) :: (0, _) :: (2, _) :: Lx) _ _
   refine av rfl (r_fieldAddr (fo := 8) Tryz.underlying210 rfl rfl (fun w => ⟨_, Tryz.sizeOf3 w⟩) rfl) ?_
   exact at_nil k
  ·intro Lx g3 s K hl hh k
   show At 63 ((16, _) :: (0, _) :: (2, _) :: Lx) _ _
   rcases (by omega : s = 0 ∨ s = 1) with rfl | rfl
   ·skip
    refine av rfl (r_load_cell Tryz.isAgg3 rfl (lens_cell0 (c := (cInt .i64)) (y := x0.f_n) (.s (Upd.again hu_ _)) (Lens.comp (Lens.whole _ _) (fun z => { x0 with f_n := z }) (c_colon_reader_f_n x0)) rfl)) ?_
    exact at_nil k
   ·skip
    refine av rfl (r_load_cell Tryz.isAgg3 rfl (lens_cell0 (c := (cInt .i64)) (y := x0.f_n) (.s (Upd.again hu_ _)) (Lens.comp (Lens.whole _ _) (fun z => { x0 with f_n := z }) (c_colon_reader_f_n x0)) rfl)) ?_
    exact at_nil k
  ·intro Lx g3 s K hl hh k
   show At 63 ((17, _) :: (0, _) :: (2, _) :: Lx) _ _
   refine av rfl (r_ieql rfl rfl) ?_
   exact at_nil k
  ·intro Lx g3 K k
   show At 63 ((13, _) :: (0, _) :: (2, _) :: Lx) _ _
   refine at_store (c := (cVec (cInt .u16) 8 (by decide))) (z := x0.f_g) .z (Lens.whole _ _) Tryz.sizeOf208 rfl rfl rfl ?_
   exact at_nil k
  ·intro Lx g3 s K hl hh k
   show At 63 ((18, _) :: (0, _) :: (2, _) :: Lx) _ _
   refine av rfl (r_assign rfl) ?_
   exact at_nil k
  intro g3
  show At 63 [(10, _), (11, _), (12, _), (13, _), (14, _), (15, _), (16, _), (17, _), (18, _), (3, _), (0, _), (2, _)] _ _
  refine at_weak [(2, _), (3, _)] ⟨rfl, rfl, trivial⟩ ?_
  refine at_then_normal ?_
  refine rt ?_
  have K := of_some hF
  subst K
  exact at_res2 rfl (res_cell (c := (cVec (cInt .u16) 8 (by decide))) (y := x0.f_g) rfl .z (Lens.whole _ _) Tryz.isAgg208 Tryz.sizeOf208 (.inl rfl)) (res_tmp rfl) (fun w1 hw => ⟨rfl, hw.pop⟩)
 ·refine at_cond_false rfl h2 ?_
  refine sn ?_
  refine at_seq ?_
  refine sr ?_
  refine av rfl (r_move rfl) ?_
  refine av rfl (r_nilCheck rfl) ?_
  refine av rfl (r_fieldAddr (fo := 8) Tryz.underlying210 rfl rfl (fun w => ⟨_, Tryz.sizeOf3 w⟩) rfl) ?_
  refine av rfl (r_load_cell Tryz.isAgg3 rfl (lens_cell0 (c := (cInt .i64)) (y := x0.f_n) (.s (Upd.again hu_ _)) (Lens.comp (Lens.whole _ _) (fun z => { x0 with f_n := z }) (c_colon_reader_f_n x0)) rfl)) ?_
  refine av rfl (r_ieql rfl rfl) ?_
  refine nwt [(0, _), (2, _), (23, _)] ⟨rfl, rfl, rfl, trivial⟩ ?_
  rcases of_ite hF with ⟨h4, hF⟩ | ⟨h4, hF⟩
  ·refine at_cond_true rfl h4 ?_
   refine sr ?_
   refine av rfl (r_move rfl) ?_
   refine av rfl (r_nilCheck rfl) ?_
   refine av rfl (r_fieldAddr (fo := 0) Tryz.underlying210 rfl rfl (fun w => ⟨_, Tryz.sizeOf208 w⟩) rfl) ?_
   refine av rfl (r_load_aggc (c := (cVec (cInt .u16) 8 (by decide))) (z := x0.f_g) Tryz.isAgg208 Tryz.sizeOf208 rfl (lens_cell (.s (Upd.again hu_ _)) (Lens.comp (Lens.whole _ _) (fun z => { x0 with f_g := z }) (c_colon_reader_f_g x0)))) ?_
   refine at_store (c := (cVec (cInt .u16) 8 (by decide))) (z := x0.f_g) .z (Lens.whole _ _) Tryz.sizeOf208 rfl rfl rfl ?_
   refine av rfl (r_assign rfl) ?_
   refine nwt [(2, _), (3, _)] ⟨rfl, rfl, trivial⟩ ?_
   refine rt ?_
   have K := of_some hF
   subst K
   exact at_res2 rfl (res_cell (c := (cVec (cInt .u16) 8 (by decide))) (y := x0.f_g) rfl .z (Lens.whole _ _) Tryz.isAgg208 Tryz.sizeOf208 (.inl rfl)) (res_tmp rfl) (fun w1 hw => ⟨rfl, hw.pop⟩)
  ·refine at_cond_false rfl h4 ?_
   refine sns ?_
   refine at_alloc (cs := Cd.cs (cVec (cInt .u16) 8 (by decide)) (Vector.replicate 8 (0 : Int) : (Vector Int 8))) Tryz.zeroValue208 rfl rfl ?_
   intro b5
   refine nwt [(0, _), (2, _), (4, _)] ⟨rfl, rfl, rfl, trivial⟩ ?_
   refine at_seq ?_
   refine at_weak [(0, _), (2, _), (4, _)] ⟨rfl, rfl, rfl, trivial⟩ ?_
   obtain ⟨h6, hF⟩ := of_guard hF
   refine at_inv [.q 28 (fun g7 => .slice (some ⟨b5, 0, none⟩) (Vector.toList (Vector.replicate 8 (0 : Int) : (Vector Int 8))).length 8) [] 0 0, .q 29 (fun g7 => .pointer (some ⟨b0_, 0, none⟩)) [] 0 0, .q 30 (fun g7 => .pointer (some ⟨b0_, 0, none⟩)) [1] 0 0, .q 31 (fun g7 => .pointer (some ⟨b0_, 0 + 0, none⟩)) [2] 0 0, .q 32 (fun g7 => .pointer (some ⟨b0_, 0, none⟩)) [] 0 0, .q 33 (fun g7 => .pointer (some ⟨b0_, 0, none⟩)) [4] 0 0, .q 34 (fun g7 => .pointer (some ⟨b0_, 0 + 9, none⟩)) [5] 0 0, .q 35 (fun g7 => .int .i64 x0.f_gap) [6] 0 0, .q 36 (fun g7 => .slice (rsp (some ⟨b0_, 0 + 0, none⟩) 8 0 (Cd.sz (cInt .u16))) (lsub (Vector.toList x0.f_g) 0 x0.f_gap).length (8 - Int.toNat 0)) [3, 7] 0 0, .st 0 (some (37, fun g7 => .int .i64 (min (List.length (lsub (Vector.toList x0.f_g) 0 x0.f_gap)) (Int.toNat (8 - 0)) : Nat))) [0, 8]] (fun g7 s => match s with | 0 => (Wd w0 (cellsE b5 (Cd.cs (cVec (cInt .u16) 8 (by decide)) (Vector.replicate 8 (0 : Int) : (Vector Int 8))) 208 :: cellsE b1 (Cd.cs (cVec (cInt .u16) 8 (by decide)) (Vector.replicate 8 (0 : Int) : (Vector Int 8))) 208 :: f_ (cellsE b0_ (Cd.cs c_colon_reader x0) 210))) | _ => (Wd w0 (cellsE b5 (Cd.cs (cVec (cInt .u16) 8 (by decide)) (vcopy (Vector.replicate 8 (0 : Int) : (Vector Int 8)) (Int.toNat 0) (List.take (Int.toNat (8 - 0)) (lsub (Vector.toList x0.f_g) 0 x0.f_gap)))) 208 :: cellsE b1 (Cd.cs (cVec (cInt .u16) 8 (by decide)) (Vector.replicate 8 (0 : Int) : (Vector Int 8))) 208 :: f_ (cellsE b0_ (Cd.cs c_colon_reader x0) 210)))) 1 (by kernel_rfl) (by kernel_rfl) (by kernel_rfl) (by kernel_rfl) (by kernel_rfl) ⟨fun _ _ _ => rfl, fun _ _ _ => rfl, fun _ _ _ => rfl, fun _ _ _ => rfl, fun _ _ _ => rfl, fun _ _ _ => rfl, fun _ _ _ => rfl, fun _ _ _ => rfl, fun _ _ _ => rfl, fun _ _ _ => rfl, trivial⟩ (by kernel_rfl) (fun _ h => ⟨fun _ => (0, none, 0, none), h.drew⟩) ⟨?_, ?_, ?_, ?_, ?_, ?_, ?_, ?_, ?_, ?_, trivial⟩ ?_
   ·intro Lx g7 s K hl hh k
    show At 63 ((0, _) :: (2, _) :: (4, _) :: Lx) _ _
    obtain rfl : s = 0 := by omega
    refine av rfl (r_slice_vec (Vector.replicate 8 (0 : Int) : (Vector Int 8)) Tryz.underlying208 Tryz.sizeOf191 rfl) ?_
    exact at_nil k
   ·intro Lx g7 s K hl hh k
    show At 63 ((0, _) :: (2, _) :: (4, _) :: Lx) _ _
    refine av rfl (r_move rfl) ?_
    exact at_nil k
   ·intro Lx g7 s K hl hh k
    show At 63 ((29, _) :: (0, _) :: (2, _) :: (4, _) :: Lx) _ _
    refine av rfl (r_nilCheck rfl) ?_
    exact at_nil k
   ·intro Lx g7 s K hl hh k
    show At 63 ((30, _) :: (0, _) :: (2, _) :: (4, _) :: Lx) _ _
    refine av rfl (r_fieldAddr (fo := 0) Tryz.underlying210 rfl rfl (fun w => ⟨_, Tryz.sizeOf208 w⟩) rfl) ?_
    exact at_nil k
   ·intro Lx g7 s K hl hh k
    show At 63 ((0, _) :: (2, _) :: (4, _) :: Lx) _ _
    refine av rfl (r_move rfl) ?_
    exact at_nil k
   ·intro Lx g7 s K hl hh k
    show At 63 ((32, _) :: (0, _) :: (2, _) :: (4, _) :: Lx) _ _
    refine av rfl (r_nilCheck rfl) ?_
    exact at_nil k
   ·intro Lx g7 s K hl hh k
    show At 63 ((33, _) :: (0, _) :: (2, _) :: (4, _) :: Lx) _ _
    refine av rfl (r_fieldAddr (fo := 9) Tryz.underlying210 rfl rfl (fun w => ⟨_, Tryz.sizeOf3 w⟩) rfl) ?_
    exact at_nil k
   ·intro Lx g7 s K hl hh k
    show At 63 ((34, _) :: (0, _) :: (2, _) :: (4, _) :: Lx) _ _
    obtain rfl : s = 0 := by omega
    refine av rfl (r_load_cell Tryz.isAgg3 rfl (lens_cell0 (c := (cInt .i64)) (y := x0.f_gap) (.s (.s (Upd.again hu_ _))) (Lens.comp (Lens.whole _ _) (fun z => { x0 with f_gap := z }) (c_colon_reader_f_gap x0)) rfl)) ?_
    exact at_nil k
   ·intro Lx g7 s K hl hh k
    show At 63 ((31, _) :: (35, _) :: (0, _) :: (2, _) :: (4, _) :: Lx) _ _
    obtain rfl : s = 0 := by omega
    refine av rfl (r_view (c := (cInt .u16)) (v := x0.f_g) (l := 0) (h := x0.f_gap) Tryz.underlying208 Tryz.sizeOf191 rfl rfl ⟨_, rfl⟩ h6) ?_
    exact at_nil k
   ·intro Lx g7 K k
    show At 63 ((28, _) :: (36, _) :: (0, _) :: (2, _) :: (4, _) :: Lx) _ _
    refine at_copy (lo := 0) (hi := 8) (xs := lsub (Vector.toList x0.f_g) 0 x0.f_gap) .z (Lens.whole _ _) rfl (by decide) Tryz.underlying218 (by kernel_rfl) rfl (rsp_zero (by decide)) (by simp) rfl rsp_some (fun w1 hw => (Row.sub (lens_row (.s (.s (Upd.again hu_ _))) (Lens.comp (Lens.whole _ _) (fun z => { x0 with f_g := z }) (c_colon_reader_f_g x0)) hw) (vbnd h6))) rfl ?_
    exact at_nil k
   intro g7
   show At 63 [(28, _), (29, _), (30, _), (31, _), (32, _), (33, _), (34, _), (35, _), (36, _), (37, _), (0, _), (2, _), (4, _)] _ _
   refine at_weak [(0, _), (2, _), (4, _)] ⟨rfl, rfl, rfl, trivial⟩ ?_
   refine at_then_normal ?_
   refine at_seq ?_
   refine at_weak [(0, _), (2, _), (4, _)] ⟨rfl, rfl, rfl, trivial⟩ ?_
   obtain ⟨h8, hF⟩ := of_guard hF
   obtain ⟨h9, hF⟩ := of_guard hF
   refine at_inv [.q 38 (fun g10 => .pointer (some ⟨b0_, 0, none⟩)) [] 0 1, .q 39 (fun g10 => .pointer (some ⟨b0_, 0, none⟩)) [0] 0 1, .q 40 (fun g10 => .pointer (some ⟨b0_, 0 + 8, none⟩)) [1] 0 0, .q 41 (fun g10 => .int .i64 x0.f_n) [2] 0 0, .q 42 (fun g10 => .int .i64 (wr .i64 (8 - x0.f_n))) [3] 0 0, .q 43 (fun g10 => .pointer (some ⟨b0_, 0, none⟩)) [] 0 1, .q 44 (fun g10 => .pointer (some ⟨b0_, 0, none⟩)) [5] 0 0, .q 45 (fun g10 => .pointer (some ⟨b0_, 0 + 9, none⟩)) [6] 0 0, .q 46 (fun g10 => .int .i64 x0.f_gap) [7] 0 0, .q 47 (fun g10 => .int .i64 (wr .i64 ((wr .i64 (8 - x0.f_n)) + x0.f_gap))) [4, 8] 0 0, .q 48 (fun g10 => .slice (rsp (some ⟨b5, 0, none⟩) 8 (wr .i64 ((wr .i64 (8 - x0.f_n)) + x0.f_gap)) (Cd.sz (cInt .u16))) (lsub (Vector.toList (vcopy (Vector.replicate 8 (0 : Int) : (Vector Int 8)) (Int.toNat 0) (List.take (Int.toNat (8 - 0)) (lsub (Vector.toList x0.f_g) 0 x0.f_gap)))) (wr .i64 ((wr .i64 (8 - x0.f_n)) + x0.f_gap)) 8).length (8 - Int.toNat (wr .i64 ((wr .i64 (8 - x0.f_n)) + x0.f_gap)))) [9] 0 0, .q 49 (fun g10 => .pointer (some ⟨b0_, 0, none⟩)) [] 0 0, .q 50 (fun g10 => .pointer (some ⟨b0_, 0, none⟩)) [11] 0 0, .q 51 (fun g10 => .pointer (some ⟨b0_, 0 + 0, none⟩)) [12] 0 0, .q 52 (fun g10 => .pointer (some ⟨b0_, 0, none⟩)) [] 0 0, .q 53 (fun g10 => .pointer (some ⟨b0_, 0, none⟩)) [14] 0 0, .q 54 (fun g10 => .pointer (some ⟨b0_, 0 + 9, none⟩)) [15] 0 0, .q 55 (fun g10 => .int .i64 x0.f_gap) [16] 0 0, .q 56 (fun g10 => .pointer (some ⟨b0_, 0, none⟩)) [] 0 0, .q 57 (fun g10 => .pointer (some ⟨b0_, 0, none⟩)) [18] 0 0, .q 58 (fun g10 => .pointer (some ⟨b0_, 0 + 8, none⟩)) [19] 0 0, .q 59 (fun g10 => .int .i64 x0.f_n) [20] 0 0, .q 60 (fun g10 => .slice (rsp (some ⟨b0_, 0 + 0, none⟩) 8 x0.f_gap (Cd.sz (cInt .u16))) (lsub (Vector.toList x0.f_g) x0.f_gap x0.f_n).length (8 - Int.toNat x0.f_gap)) [13, 17, 21] 0 0, .st 0 (some (61, fun g10 => .int .i64 (min (List.length (lsub (Vector.toList x0.f_g) x0.f_gap x0.f_n)) (Int.toNat (8 - wr .i64 ((wr .i64 (8 - x0.f_n)) + x0.f_gap))) : Nat))) [10, 22]] (fun g10 s => match s with | 0 => (Wd w0 (cellsE b5 (Cd.cs (cVec (cInt .u16) 8 (by decide)) (vcopy (Vector.replicate 8 (0 : Int) : (Vector Int 8)) (Int.toNat 0) (List.take (Int.toNat (8 - 0)) (lsub (Vector.toList x0.f_g) 0 x0.f_gap)))) 208 :: cellsE b1 (Cd.cs (cVec (cInt .u16) 8 (by decide)) (Vector.replicate 8 (0 : Int) : (Vector Int 8))) 208 :: f_ (cellsE b0_ (Cd.cs c_colon_reader x0) 210))) | _ => (Wd w0 (cellsE b5 (Cd.cs (cVec (cInt .u16) 8 (by decide)) (vcopy (vcopy (Vector.replicate 8 (0 : Int) : (Vector Int 8)) (Int.toNat 0) (List.take (Int.toNat (8 - 0)) (lsub (Vector.toList x0.f_g) 0 x0.f_gap))) (Int.toNat (wr .i64 ((wr .i64 (8 - x0.f_n)) + x0.f_gap))) (List.take (Int.toNat (8 - wr .i64 ((wr .i64 (8 - x0.f_n)) + x0.f_gap))) (lsub (Vector.toList x0.f_g) x0.f_gap x0.f_n)))) 208 :: cellsE b1 (Cd.cs (cVec (cInt .u16) 8 (by decide)) (Vector.replicate 8 (0 : Int) : (Vector Int 8))) 208 :: f_ (cellsE b0_ (Cd.cs c_colon_reader x0) 210)))) 1 (by kernel_rfl) (by kernel_rfl) (by kernel_rfl) (by kernel_rfl) (by kernel_rfl) ⟨fun _ _ _ => rfl, fun _ _ _ => rfl, fun _ _ _ => rfl, fun _ _ _ => rfl, fun _ _ _ => rfl, fun _ _ _ => rfl, fun _ _ _ => rfl, fun _ _ _ => rfl, fun _ _ _ => rfl, fun _ _ _ => rfl, fun _ _ _ => rfl, fun _ _ _ => rfl, fun _ _ _ => rfl, fun _ _ _ => rfl, fun _ _ _ => rfl, fun _ _ _ => rfl, fun _ _ _ => rfl, fun _ _ _ => rfl, fun _ _ _ => rfl, fun _ _ _ => rfl, fun _ _ _ => rfl, fun _ _ _ => rfl, fun _ _ _ => rfl, fun _ _ _ => rfl, trivial⟩ (by kernel_rfl) (fun _ h => ⟨fun _ => (0, none, 0, none), h.drew⟩) ⟨?_, ?_, ?_, ?_, ?_, ?_, ?_, ?_, ?_, ?_, ?_, ?_, ?_, ?_, ?_, ?_, ?_, ?_, ?_, ?_, ?_, ?_, ?_, ?_, trivial⟩ ?_
   ·intro Lx g10 s K hl hh k
    show At 63 ((0, _) :: (2, _) :: (4, _) :: Lx) _ _
    refine av rfl (r_move rfl) ?_
    exact at_nil k
   ·intro Lx g10 s K hl hh k
    show At 63 ((38, _) :: (0, _) :: (2, _) :: (4, _) :: Lx) _ _
    refine av rfl (r_nilCheck rfl) ?_
    exact at_nil k
   ·intro Lx g10 s K hl hh k
    show At 63 ((39, _) :: (0, _) :: (2, _) :: (4, _) :: Lx) _ _
    refine av rfl (r_fieldAddr (fo := 8) Tryz.underlying210 rfl rfl (fun w => ⟨_, Tryz.sizeOf3 w⟩) rfl) ?_
    exact at_nil k
   ·intro Lx g10 s K hl hh k
    show At 63 ((40, _) :: (0, _) :: (2, _) :: (4, _) :: Lx) _ _
    obtain rfl : s = 0 := by omega
    refine av rfl (r_load_cell Tryz.isAgg3 rfl (lens_cell0 (c := (cInt .i64)) (y := x0.f_n) (.s (.s (Upd.again hu_ _))) (Lens.comp (Lens.whole _ _) (fun z => { x0 with f_n := z }) (c_colon_reader_f_n x0)) rfl)) ?_
    exact at_nil k
   ·intro Lx g10 s K hl hh k
    show At 63 ((41, _) :: (0, _) :: (2, _) :: (4, _) :: Lx) _ _
    refine av rfl (r_isub rfl rfl) ?_
    exact at_nil k
   ·intro Lx g10 s K hl hh k
    show At 63 ((0, _) :: (2, _) :: (4, _) :: Lx) _ _
    refine av rfl (r_move rfl) ?_
    exact at_nil k
   ·intro Lx g10 s K hl hh k
    show At 63 ((43, _) :: (0, _) :: (2, _) :: (4, _) :: Lx) _ _
    refine av rfl (r_nilCheck rfl) ?_
    exact at_nil k
   ·intro Lx g10 s K hl hh k
    show At 63 ((44, _) :: (0, _) :: (2, _) :: (4, _) :: Lx) _ _
    refine av rfl (r_fieldAddr (fo := 9) Tryz.underlying210 rfl rfl (fun w => ⟨_, Tryz.sizeOf3 w⟩) rfl) ?_
    exact at_nil k
   ·intro Lx g10 s K hl hh k
    show At 63 ((45, _) :: (0, _) :: (2, _) :: (4, _) :: Lx) _ _
    obtain rfl : s = 0 := by omega
    refine av rfl (r_load_cell Tryz.isAgg3 rfl (lens_cell0 (c := (cInt .i64)) (y := x0.f_gap) (.s (.s (Upd.again hu_ _))) (Lens.comp (Lens.whole _ _) (fun z => { x0 with f_gap := z }) (c_colon_reader_f_gap x0)) rfl)) ?_
    exact at_nil k
   ·intro Lx g10 s K hl hh k
    show At 63 ((42, _) :: (46, _) :: (0, _) :: (2, _) :: (4, _) :: Lx) _ _
    refine av rfl (r_iadd rfl rfl) ?_
    exact at_nil k
   ·intro Lx g10 s K hl hh k
    show At 63 ((47, _) :: (0, _) :: (2, _) :: (4, _) :: Lx) _ _
    obtain rfl : s = 0 := by omega
    refine av rfl (r_view (c := (cInt .u16)) (v := vcopy (Vector.replicate 8 (0 : Int) : (Vector Int 8)) (Int.toNat 0) (List.take (Int.toNat (8 - 0)) (lsub (Vector.toList x0.f_g) 0 x0.f_gap))) (l := wr .i64 ((wr .i64 (8 - x0.f_n)) + x0.f_gap)) (h := 8) Tryz.underlying208 Tryz.sizeOf191 rfl ⟨_, rfl⟩ rfl h8) ?_
    exact at_nil k
   ·intro Lx g10 s K hl hh k
    show At 63 ((0, _) :: (2, _) :: (4, _) :: Lx) _ _
    refine av rfl (r_move rfl) ?_
    exact at_nil k
   ·intro Lx g10 s K hl hh k
    show At 63 ((49, _) :: (0, _) :: (2, _) :: (4, _) :: Lx) _ _
    refine av rfl (r_nilCheck rfl) ?_
    exact at_nil k
   ·intro Lx g10 s K hl hh k
    show At 63 ((50, _) :: (0, _) :: (2, _) :: (4, _) :: Lx) _ _
    refine av rfl (r_fieldAddr (fo := 0) Tryz.underlying210 rfl rfl (fun w => ⟨_, Tryz.sizeOf208 w⟩) rfl) ?_
    exact at_nil k
   ·intro Lx g10 s K hl hh k
    show At 63 ((0, _) :: (2, _) :: (4, _) :: Lx) _ _
    refine av rfl (r_move rfl) ?_
    exact at_nil k
   ·intro Lx g10 s K hl hh k
    show At 63 ((52, _) :: (0, _) :: (2, _) :: (4, _) :: Lx) _ _
    refine av rfl (r_nilCheck rfl) ?_
    exact at_nil k
   ·intro Lx g10 s K hl hh k
    show At 63 ((53, _) :: (0, _) :: (2, _) :: (4, _) :: Lx) _ _
    refine av rfl (r_fieldAddr (fo := 9) Tryz.underlying210 rfl rfl (fun w => ⟨_, Tryz.sizeOf3 w⟩) rfl) ?_
    exact at_nil k
   ·intro Lx g10 s K hl hh k
    show At 63 ((54, _) :: (0, _) :: (2, _) :: (4, _) :: Lx) _ _
    obtain rfl : s = 0 := by omega
    refine av rfl (r_load_cell Tryz.isAgg3 rfl (lens_cell0 (c := (cInt .i64)) (y := x0.f_gap) (.s (.s (Upd.again hu_ _))) (Lens.comp (Lens.whole _ _) (fun z => { x0 with f_gap := z }) (c_colon_reader_f_gap x0)) rfl)) ?_
    exact at_nil k
   ·intro Lx g10 s K hl hh k
    show At 63 ((0, _) :: (2, _) :: (4, _) :: Lx) _ _
    refine av rfl (r_move rfl) ?_
    exact at_nil k
   ·intro Lx g10 s K hl hh k
    show At 63 ((56, _) :: (0, _) :: (2, _) :: (4, _) :: Lx) _ _
    refine av rfl (r_nilCheck rfl) ?_
    exact at_nil k
   ·intro Lx g10 s K hl hh k
    show At 63 ((57, _) :: (0, _) :: (2, _) :: (4, _) :: Lx) _ _
    refine av rfl (r_fieldAddr (fo := 8) Tryz.underlying210 rfl rfl (fun w => ⟨_, Tryz.sizeOf3 w⟩) rfl) ?_
    exact at_nil k
   ·intro Lx g10 s K hl hh k
    show At 63 ((58, _) :: (0, _) :: (2, _) :: (4, _) :: Lx) _ _
    obtain rfl : s = 0 := by omega
    refine av rfl (r_load_cell Tryz.isAgg3 rfl (lens_cell0 (c := (cInt .i64)) (y := x0.f_n) (.s (.s (Upd.again hu_ _))) (Lens.comp (Lens.whole _ _) (fun z => { x0 with f_n := z }) (c_colon_reader_f_n x0)) rfl)) ?_
    exact at_nil k
   ·intro Lx g10 s K hl hh k
    show At 63 ((51, _) :: (55, _) :: (59, _) :: (0, _) :: (2, _) :: (4, _) :: Lx) _ _
    obtain rfl : s = 0 := by omega
    refine av rfl (r_view (c := (cInt .u16)) (v := x0.f_g) (l := x0.f_gap) (h := x0.f_n) Tryz.underlying208 Tryz.sizeOf191 rfl ⟨_, rfl⟩ ⟨_, rfl⟩ h9) ?_
    exact at_nil k
   ·intro Lx g10 K k
    show At 63 ((48, _) :: (60, _) :: (0, _) :: (2, _) :: (4, _) :: Lx) _ _
    refine at_copy (lo := wr .i64 ((wr .i64 (8 - x0.f_n)) + x0.f_gap)) (hi := 8) (xs := lsub (Vector.toList x0.f_g) x0.f_gap x0.f_n) .z (Lens.whole _ _) rfl h8 Tryz.underlying218 (by kernel_rfl) rfl rfl (lsub_length (vbnd h8)) rfl rsp_some (fun w1 hw => (Row.sub (lens_row (.s (.s (Upd.again hu_ _))) (Lens.comp (Lens.whole _ _) (fun z => { x0 with f_g := z }) (c_colon_reader_f_g x0)) hw) (vbnd h9))) rfl ?_
    exact at_nil k
   intro g10
   show At 63 [(38, _), (39, _), (40, _), (41, _), (42, _), (43, _), (44, _), (45, _), (46, _), (47, _), (48, _), (49, _), (50, _), (51, _), (52, _), (53, _), (54, _), (55, _), (56, _), (57, _), (58, _), (59, _), (60, _), (61, _), (0, _), (2, _), (4, _)] _ _
   refine at_weak [(2, _), (4, _)] ⟨rfl, rfl, trivial⟩ ?_
   refine at_then_normal ?_
   refine sr ?_
   refine av rfl (r_load_aggc (c := (cVec (cInt .u16) 8 (by decide))) (z := vcopy (vcopy (Vector.replicate 8 (0 : Int) : (Vector Int 8)) (Int.toNat 0) (List.take (Int.toNat (8 - 0)) (lsub (Vector.toList x0.f_g) 0 x0.f_gap))) (Int.toNat (wr .i64 ((wr .i64 (8 - x0.f_n)) + x0.f_gap))) (List.take (Int.toNat (8 - wr .i64 ((wr .i64 (8 - x0.f_n)) + x0.f_gap))) (lsub (Vector.toList x0.f_g) x0.f_gap x0.f_n))) Tryz.isAgg208 Tryz.sizeOf208 rfl (lens_cell .z (Lens.whole _ _))) ?_
   refine at_store (c := (cVec (cInt .u16) 8 (by decide))) (z := vcopy (vcopy (Vector.replicate 8 (0 : Int) : (Vector Int 8)) (Int.toNat 0) (List.take (Int.toNat (8 - 0)) (lsub (Vector.toList x0.f_g) 0 x0.f_gap))) (Int.toNat (wr .i64 ((wr .i64 (8 - x0.f_n)) + x0.f_gap))) (List.take (Int.toNat (8 - wr .i64 ((wr .i64 (8 - x0.f_n)) + x0.f_gap))) (lsub (Vector.toList x0.f_g) x0.f_gap x0.f_n))) (.s .z) (Lens.whole _ _) Tryz.sizeOf208 rfl rfl rfl ?_
   refine av rfl (r_assign rfl) ?_
   refine at_nil ?_
   refine at_drop (H := _) .z ?_
   refine at_weak [(2, _), (3, _)] ⟨rfl, rfl, trivial⟩ ?_
   refine at_then_normal ?_
   refine at_ret ?_
   have K := of_some hF
   subst K
   exact at_res2 rfl (res_cell (c := (cVec (cInt .u16) 8 (by decide))) (y := vcopy (vcopy (Vector.replicate 8 (0 : Int) : (Vector Int 8)) (Int.toNat 0) (List.take (Int.toNat (8 - 0)) (lsub (Vector.toList x0.f_g) 0 x0.f_gap))) (Int.toNat (wr .i64 ((wr .i64 (8 - x0.f_n)) + x0.f_gap))) (List.take (Int.toNat (8 - wr .i64 ((wr .i64 (8 - x0.f_n)) + x0.f_gap))) (lsub (Vector.toList x0.f_g) x0.f_gap x0.f_n))) rfl .z (Lens.whole _ _) Tryz.isAgg208 Tryz.sizeOf208 (.inl rfl)) (res_tmp rfl) (fun w1 hw => ⟨rfl, hw.pop⟩)
def colon_Parse.l0 (t5 : (Vector Int 8) × Bool × S_colon_reader) (i10 : Int) (i11 : (Vector Int 16)) : Option ((Vector Int 16)) :=
  if (decide (i10 < 8)) = true then (if (0 : Int) ≤ i10 ∧ i10 < 8 then if (0 : Int) ≤ wr .i64 (2 * i10) ∧ wr .i64 (2 * i10) < 16 then if (0 : Int) ≤ wr .i64 ((wr .i64 (2 * i10)) + 1) ∧ wr .i64 ((wr .i64 (2 * i10)) + 1) < 16 then colon_Parse.l0 t5 (wr .i64 (i10 + 1)) (vset (vset i11 (wr .i64 (2 * i10)) (wr .u8 (ishr .u16 (vget t5.1 i10) 8))) (wr .i64 ((wr .i64 (2 * i10)) + 1)) (wr .u8 (vget t5.1 i10))) else none else none else none) else (some i11)
  partial_fixpoint
def colon_Parse (x0 : ByteArray) : Option ((Vector Int 16) × Int) :=
  colon_reader_read ({ ({ f_g := (Vector.replicate 8 (0 : Int) : (Vector Int 8)), f_n := (0 : Int), f_gap := (0 : Int) } : S_colon_reader) with f_gap := (-1) }) x0 >>= fun t3 => if (!t3.1) = true then (some ((Vector.replicate 16 (0 : Int) : (Vector Int 16)), 5)) else (colon_reader_spread t3.2 >>= fun t5 => if (!t5.2.1) = true then (some ((Vector.replicate 16 (0 : Int) : (Vector Int 16)), 5)) else (colon_Parse.l0 t5 0 (Vector.replicate 16 (0 : Int) : (Vector Int 16)) >>= fun q9 => some (q9, 0)))
theorem colon_Parse_ok (x0 : ByteArray) (r : (Vector Int 16) × Int) (hF : colon_Parse x0 = some r) (w : World) (hg_strconv_ErrRange : GV_strconv_ErrRange w) (hg_strconv_ErrSyntax : GV_strconv_ErrSyntax w) :
    Calls Tryz.prog 179 #[.string x0] w (fun e w' => e = .returned (.tuple #[.agg (Cd.cs (cVec (cInt .u8) 16 (by decide)) r.1).toArray, .int .i64 r.2]) ∧ Below w.heap.size w w') := by
 unfold colon_Parse at hF
 refine calls_enter (l := [.string x0]) Tryz.func179 rfl rfl rfl ?_
 refine at_start ?_
 refine at_weak [(0, _)] ⟨rfl, trivial⟩ ?_
 refine sr ?_
 refine at_alloc (cs := Cd.cs (cVec (cInt .u8) 16 (by decide)) (Vector.replicate 16 (0 : Int) : (Vector Int 16))) Tryz.zeroValue23 rfl rfl ?_
 intro b1
 refine av rfl (r_assign rfl) ?_
 refine nws [(0, _), (2, _)] ⟨rfl, rfl, trivial⟩ ?_
 refine av rfl (r_build_struct (zs := Cd.cs c_colon_reader zqG3_0) (cs := Cd.cs c_colon_reader ({ zqG3_0 with f_gap := (-1) })) Tryz.underlying210 Tryz.zeroValue210 rfl (places_colon_reader_210) rfl (fill_step (c := (cInt .i64)) (z := (-1)) rfl (c_colon_reader_f_gap zqG3_0) rfl rfl)) ?_
 refine at_box (cs := Cd.cs c_colon_reader ({ zqG3_0 with f_gap := (-1) })) rfl rfl rfl ?_
 intro b2
 refine av rfl (r_assign rfl) ?_
 refine nwt [(0, _), (2, _), (4, _)] ⟨rfl, rfl, rfl, trivial⟩ ?_
 refine at_seq ?_
 refine sr ?_
 refine av rfl (r_move rfl) ?_
 refine av rfl (r_move rfl) ?_
 obtain ⟨t3, ht3, hF⟩ := of_bindM hF
 refine at_callP (E' := cellsE b2 (Cd.cs c_colon_reader t3.2) 210) Tryz.func197 rfl (by kernel_rfl) rfl rfl (fun w hw => colon_reader_read_ok _ _ _ _ ht3 w .z hw hg_strconv_ErrRange hg_strconv_ErrSyntax) ?_
 refine av rfl (r_not rfl) ?_
 refine nwt [(2, _), (4, _), (15, _)] ⟨rfl, rfl, rfl, trivial⟩ ?_
 rcases of_ite hF with ⟨h4, hF⟩ | ⟨h4, hF⟩
 ·refine at_cond_true rfl h4 ?_
  refine sr ?_
  refine av rfl (r_build_array (zs := Cd.cs (cVec (cInt .u8) 16 (by decide)) (Vector.replicate 16 (0 : Int) : (Vector Int 16))) (cs := Cd.cs (cVec (cInt .u8) 16 (by decide)) (Vector.replicate 16 (0 : Int) : (Vector Int 16))) Tryz.underlying23 Tryz.zeroValue23 rfl Tryz.sizeOf5 rfl rfl) ?_
  refine at_store (c := (cVec (cInt .u8) 16 (by decide))) (z := (Vector.replicate 16 (0 : Int) : (Vector Int 16))) (.s .z) (Lens.whole _ _) Tryz.sizeOf23 rfl rfl rfl ?_
  refine av rfl (r_assign rfl) ?_
  refine at_nil ?_
  refine at_drop (H := _) .z ?_
  refine at_weak [(2, _), (3, _)] ⟨rfl, rfl, trivial⟩ ?_
  refine at_then_normal ?_
  refine rt ?_
  have K := of_some hF
  subst K
  exact at_res2 rfl (res_cell (c := (cVec (cInt .u8) 16 (by decide))) (y := (Vector.replicate 16 (0 : Int) : (Vector Int 16))) rfl .z (Lens.whole _ _) Tryz.isAgg23 Tryz.sizeOf23 (.inl rfl)) (res_tmp rfl) (fun w1 hw => ⟨rfl, hw.below⟩)
 ·refine at_cond_false rfl h4 ?_
  refine sns ?_
  refine av rfl (r_move rfl) ?_
  obtain ⟨t5, ht5, hF⟩ := of_bindM hF
  refine at_callP (E' := cellsE b2 (Cd.cs c_colon_reader t5.2.2) 210) Tryz.func198 rfl (by kernel_rfl) rfl rfl (fun w hw => colon_reader_spread_ok _ _ _ ht5 w .z hw) ?_
  refine av rfl (r_move rfl) ?_
  refine av rfl (r_extract rfl rfl) ?_
  refine av rfl (r_extract rfl rfl) ?_
  refine at_alloc (cs := Cd.cs (cVec (cInt .u16) 8 (by decide)) (Vector.replicate 8 (0 : Int) : (Vector Int 8))) Tryz.zeroValue208 rfl rfl ?_
  intro b6
  refine at_store (c := (cVec (cInt .u16) 8 (by decide))) (z := t5.1) .z (Lens.whole _ _) Tryz.sizeOf208 rfl rfl rfl ?_
  refine av rfl (r_assign rfl) ?_
  refine at_nil ?_
  refine at_drop (H := _) (.s .z) ?_
  refine at_weak [(2, _), (5, _), (6, _)] ⟨rfl, rfl, rfl, trivial⟩ ?_
  refine at_then_normal ?_
  refine at_seq ?_
  refine sr ?_
  refine av rfl (r_move rfl) ?_
  refine av rfl (r_not rfl) ?_
  refine nwt [(2, _), (5, _), (23, _)] ⟨rfl, rfl, rfl, trivial⟩ ?_
  rcases of_ite hF with ⟨h7, hF⟩ | ⟨h7, hF⟩
  ·refine at_cond_true rfl h7 ?_
   refine sr ?_
   refine av rfl (r_build_array (zs := Cd.cs (cVec (cInt .u8) 16 (by decide)) (Vector.replicate 16 (0 : Int) : (Vector Int 16))) (cs := Cd.cs (cVec (cInt .u8) 16 (by decide)) (Vector.replicate 16 (0 : Int) : (Vector Int 16))) Tryz.underlying23 Tryz.zeroValue23 rfl Tryz.sizeOf5 rfl rfl) ?_
   refine at_store (c := (cVec (cInt .u8) 16 (by decide))) (z := (Vector.replicate 16 (0 : Int) : (Vector Int 16))) (.s .z) (Lens.whole _ _) Tryz.sizeOf23 rfl rfl rfl ?_
   refine av rfl (r_assign rfl) ?_
   refine at_nil ?_
   refine at_drop (H := _) .z ?_
   refine at_weak [(2, _), (3, _)] ⟨rfl, rfl, trivial⟩ ?_
   refine at_then_normal ?_
   refine rt ?_
   have K := of_some hF
   subst K
   exact at_res2 rfl (res_cell (c := (cVec (cInt .u8) 16 (by decide))) (y := (Vector.replicate 16 (0 : Int) : (Vector Int 16))) rfl .z (Lens.whole _ _) Tryz.isAgg23 Tryz.sizeOf23 (.inl rfl)) (res_tmp rfl) (fun w1 hw => ⟨rfl, hw.below⟩)
  ·refine at_cond_false rfl h7 ?_
   refine sns ?_
   refine at_alloc (cs := Cd.cs (cVec (cInt .u8) 16 (by decide)) (Vector.replicate 16 (0 : Int) : (Vector Int 16))) Tryz.zeroValue23 rfl rfl ?_
   intro b8
   refine nwt [(2, _), (5, _), (7, _)] ⟨rfl, rfl, rfl, trivial⟩ ?_
   refine at_seq ?_
   refine sr ?_
   refine av rfl (r_load_aggc (c := (cVec (cInt .u16) 8 (by decide))) (z := t5.1) Tryz.isAgg208 Tryz.sizeOf208 rfl (lens_cell (.s .z) (Lens.whole _ _))) ?_
   refine av rfl (r_move rfl) ?_
   refine at_nil ?_
   refine at_drop (H := _) (.s .z) ?_
   refine at_weak [(2, _), (7, _), (25, _), (26, _)] ⟨rfl, rfl, rfl, rfl, trivial⟩ ?_
   refine at_then_normal ?_
   refine at_block ?_
   obtain ⟨q9, hq9, hF⟩ := of_bindM hF
   refine at_weak [(2, _), (7, _), (25, _), (26, _)] ⟨rfl, rfl, rfl, rfl, trivial⟩ ?_
   refine at_loop_n (B := 0) (A := fun Y => At 44 [(2, .pointer (some ⟨b1, 0, none⟩)), (7, .pointer (some ⟨b8, 0, none⟩))] (Wd w [cellsE b8 (Cd.cs (cVec (cInt .u8) 16 (by decide)) q9) 23, cellsE b1 (Cd.cs (cVec (cInt .u8) 16 (by decide)) (Vector.replicate 16 (0 : Int) : (Vector Int 16))) 23]) Y) ?_ ?_
   ·intro K
    refine colon_Parse.l0.partial_correctness t5 (motive := fun i10 i11 x => KN (fun Y => At 44 [(2, .pointer (some ⟨b1, 0, none⟩)), (7, .pointer (some ⟨b8, 0, none⟩))] (Wd w [cellsE b8 (Cd.cs (cVec (cInt .u8) 16 (by decide)) x) 23, cellsE b1 (Cd.cs (cVec (cInt .u8) 16 (by decide)) (Vector.replicate 16 (0 : Int) : (Vector Int 16))) 23]) Y) _ 0 → Round (fun Y => At 44 [(2, .pointer (some ⟨b1, 0, none⟩)), (7, .pointer (some ⟨b8, 0, none⟩)), (25, .agg (Cd.cs (cVec (cInt .u16) 8 (by decide)) t5.1).toArray), (26, .int .i64 i10)] (Wd w [cellsE b8 (Cd.cs (cVec (cInt .u8) 16 (by decide)) i11) 23, cellsE b1 (Cd.cs (cVec (cInt .u8) 16 (by decide)) (Vector.replicate 16 (0 : Int) : (Vector Int 16))) 23]) Y) _ _ _) ?_ _ _ _ hq9 K
    ·clear K hF
     intro g ih i10 i11 x hF K
     refine at_round ?_
     refine sr ?_
     refine av rfl (r_ilss rfl rfl) ?_
     refine nwt [(2, _), (7, _), (25, _), (26, _), (27, _)] ⟨rfl, rfl, rfl, rfl, rfl, trivial⟩ ?_
     refine at_seq ?_
     rcases of_ite hF with ⟨h12, hF⟩ | ⟨h12, hF⟩
     ·refine at_cond_true rfl h12 ?_
      refine sn ?_
      refine at_seq ?_
      refine at_block ?_
      refine sr ?_
      refine av rfl (r_move rfl) ?_
      obtain ⟨h13, hF⟩ := of_guard hF
      refine av rfl (r_idxVal Tryz.underlying208 Tryz.sizeOf191 rfl rfl h13 (part_vOf (Lens.vec (cInt .u16) (by decide) t5.1 i10 h13) Tryz.isAgg191 Tryz.sizeOf191 (.inr rfl))) ?_
      refine av rfl (r_assign rfl) ?_
      refine av rfl (r_assign rfl) ?_
      refine nwt [(2, _), (7, _), (8, _), (9, _), (25, _), (26, _)] ⟨rfl, rfl, rfl, rfl, rfl, rfl, trivial⟩ ?_
      refine at_region ?_
      refine av rfl (r_move rfl) ?_
      refine av rfl (r_imul rfl rfl) ?_
      refine av rfl (r_move rfl) ?_
      refine av rfl (r_imul rfl rfl) ?_
      refine av rfl (r_iadd rfl rfl) ?_
      refine av rfl (r_move rfl) ?_
      refine av rfl (r_ishr rfl rfl (by decide)) ?_
      refine av rfl (r_conv Tryz.underlying191 Tryz.underlying5 rfl) ?_
      refine av rfl (r_move rfl) ?_
      refine av rfl (r_conv Tryz.underlying191 Tryz.underlying5 rfl) ?_
      obtain ⟨h14, hF⟩ := of_guard hF
      refine av rfl (r_idxArr Tryz.underlying23 Tryz.sizeOf5 rfl rfl h14) ?_
      refine at_store (c := (cInt .u8)) (z := wr .u8 (ishr .u16 (vget t5.1 i10) 8)) .z (Lens.comp (Lens.whole _ _) (fun z => vset i11 (wr .i64 (2 * i10)) z) (Lens.vec (cInt .u8) (by decide) i11 (wr .i64 (2 * i10)) h14)) Tryz.sizeOf5 rfl rfl rfl ?_
      obtain ⟨h15, hF⟩ := of_guard hF
      refine av rfl (r_idxArr Tryz.underlying23 Tryz.sizeOf5 rfl rfl h15) ?_
      refine at_store (c := (cInt .u8)) (z := wr .u8 (vget t5.1 i10)) .z (Lens.comp (Lens.whole _ _) (fun z => vset (vset i11 (wr .i64 (2 * i10)) (wr .u8 (ishr .u16 (vget t5.1 i10) 8))) (wr .i64 ((wr .i64 (2 * i10)) + 1)) z) (Lens.vec (cInt .u8) (by decide) (vset i11 (wr .i64 (2 * i10)) (wr .u8 (ishr .u16 (vget t5.1 i10) 8))) (wr .i64 ((wr .i64 (2 * i10)) + 1)) h15)) Tryz.sizeOf5 rfl rfl rfl ?_
      refine at_nil ?_
      refine at_weak [(2, _), (7, _), (25, _), (26, _)] ⟨rfl, rfl, rfl, rfl, trivial⟩ ?_
      refine at_blk_normal (at_then_normal ?_)
      refine at_region ?_
      refine av rfl (r_iadd rfl rfl) ?_
      refine av rfl (r_move rfl) ?_
      refine nwt [(2, _), (7, _), (25, _), (26, _)] ⟨rfl, rfl, rfl, rfl, trivial⟩ ?_
      exact at_weak_k (ih _ _ _ hF K) ⟨rfl, rfl, rfl, rfl, trivial⟩
     ·refine at_cond_false rfl h12 ?_
      refine at_exit ?_
      refine at_then_exit (at_then_exit ?_)
      obtain rfl := of_some hF
      exact at_weak_k K ⟨rfl, rfl, trivial⟩
   ·skip
    skip
    refine at_blk_same ?_
    refine at_then_normal ?_
    refine sr ?_
    refine av rfl (r_load_aggc (c := (cVec (cInt .u8) 16 (by decide))) (z := q9) Tryz.isAgg23 Tryz.sizeOf23 rfl (lens_cell .z (Lens.whole _ _))) ?_
    refine at_store (c := (cVec (cInt .u8) 16 (by decide))) (z := q9) (.s .z) (Lens.whole _ _) Tryz.sizeOf23 rfl rfl rfl ?_
    refine av rfl (r_assign rfl) ?_
    refine at_nil ?_
    refine at_drop (H := _) .z ?_
    refine at_weak [(2, _), (3, _)] ⟨rfl, rfl, trivial⟩ ?_
    refine at_then_normal ?_
    refine at_ret ?_
    have K := of_some hF
    subst K
    exact at_res2 rfl (res_cell (c := (cVec (cInt .u8) 16 (by decide))) (y := q9) rfl .z (Lens.whole _ _) Tryz.isAgg23 Tryz.sizeOf23 (.inl rfl)) (res_tmp rfl) (fun w1 hw => ⟨rfl, hw.below⟩)
def endian_sized (x0 : List Int) : Option (Bool) :=
  if (decide ((x0.length : Int) ≥ 1)) = true then (some (decide ((x0.length : Int) ≤ 8))) else (some false)
theorem endian_sized_ok (x0 : List Int) (p0_ : Option Addr) (c0_ : Nat) (r : Bool) (hF : endian_sized x0 = some r) (w : World) (hr0 : Row (cInt .u8) w p0_ c0_ x0) :
    Calls Tryz.prog 236 #[.slice p0_ x0.length c0_] w (fun e w' => e = .returned (.bool r) ∧ w' = w) := by
 unfold endian_sized at hF
 refine calls_enter (l := [.slice p0_ x0.length c0_]) Tryz.func236 rfl rfl rfl ?_
 refine at_weak [(0, _)] ⟨rfl, trivial⟩ ?_
 refine sr ?_
 refine av rfl (r_assign rfl) ?_
 refine nws [(0, _)] ⟨rfl, trivial⟩ ?_
 refine av rfl (r_move rfl) ?_
 refine av rfl (r_len_sl Tryz.underlying22 rfl) ?_
 refine av rfl (r_igeq rfl rfl) ?_
 refine av rfl (r_move rfl) ?_
 rcases of_ite hF with ⟨h1, hF⟩ | ⟨h1, hF⟩
 ·refine at_fix (g := 6) rfl h1 ?_
  refine at_guard_yes rfl rfl rfl ?_
  refine av rfl (r_move rfl) ?_
  refine at_guard_yes rfl rfl rfl ?_
  refine av rfl (r_len_sl Tryz.underlying22 rfl) ?_
  refine at_guard_yes rfl rfl rfl ?_
  refine av rfl (r_ileq rfl rfl) ?_
  refine av rfl (r_pick rfl rfl rfl) ?_
  refine av rfl (r_assign rfl) ?_
  refine nwt [(2, _)] ⟨rfl, trivial⟩ ?_
  refine at_ret ?_
  have K := of_some hF
  subst K
  exact at_return1 rfl rfl (fun w1 hw => ⟨rfl, hw⟩)
 ·refine at_fix (g := 6) rfl h1 ?_
  refine at_guard_no rfl rfl rfl rfl rfl ?_
  refine at_guard_no rfl rfl rfl rfl rfl ?_
  refine at_guard_no rfl rfl rfl rfl rfl ?_
  refine av rfl (r_pick rfl rfl rfl) ?_
  refine av rfl (r_assign rfl) ?_
  refine nwt [(2, _)] ⟨rfl, trivial⟩ ?_
  refine at_ret ?_
  have K := of_some hF
  subst K
  exact at_return1 rfl rfl (fun w1 hw => ⟨rfl, hw⟩)
def endian_OfBig.l0 (x0 : List Int) (i4 : Int) (i5 : Int) : Option (Int) :=
  if (decide (i5 < (x0.length : Int))) = true then (if (0 : Int) ≤ i5 ∧ i5 < (x0.length : Int) then endian_OfBig.l0 x0 (ior .u64 (ishl .u64 i4 8) (wr .u64 (lget x0 i5))) (wr .i64 (i5 + 1)) else none) else (some i4)
  partial_fixpoint
def endian_OfBig (x0 : List Int) : Option (Int × Int) :=
  endian_sized x0 >>= fun t1 => if (!t1) = true then (some (0, 1)) else (endian_OfBig.l0 x0 0 0 >>= fun q3 => some (q3, 0))
theorem endian_OfBig_ok (x0 : List Int) (p0_ : Option Addr) (c0_ : Nat) (r : Int × Int) (hF : endian_OfBig x0 = some r) (w : World) (hr0 : Row (cInt .u8) w p0_ c0_ x0) :
    Calls Tryz.prog 221 #[.slice p0_ x0.length c0_] w (fun e w' => e = .returned (.tuple #[.int .u64 r.1, .int .i64 r.2]) ∧ w' = w) := by
 unfold endian_OfBig at hF
 refine calls_enter (l := [.slice p0_ x0.length c0_]) Tryz.func221 rfl rfl rfl ?_
 refine at_weak [(0, _)] ⟨rfl, trivial⟩ ?_
 refine sr ?_
 refine av rfl (r_assign rfl) ?_
 refine av rfl (r_assign rfl) ?_
 refine nwt [(0, _)] ⟨rfl, trivial⟩ ?_
 refine at_seq ?_
 refine sr ?_
 refine av rfl (r_move rfl) ?_
 obtain ⟨t1, ht1, hF⟩ := of_bindM hF
 refine at_call0w Tryz.func236 rfl (by kernel_rfl) rfl rfl (fun w hw => endian_sized_ok _ _ _ _ ht1 w (hr0.below (by subst hw; exact Below.refl _ _))) ?_
 refine av rfl (r_not rfl) ?_
 refine nwt [(0, _), (9, _)] ⟨rfl, rfl, trivial⟩ ?_
 rcases of_ite hF with ⟨h2, hF⟩ | ⟨h2, hF⟩
 ·refine at_cond_true rfl h2 ?_
  refine sr ?_
  refine av rfl (r_assign rfl) ?_
  refine av rfl (r_assign rfl) ?_
  refine nwt [(2, _), (3, _)] ⟨rfl, rfl, trivial⟩ ?_
  refine rt ?_
  have K := of_some hF
  subst K
  exact at_return2 rfl rfl rfl (fun w1 hw => ⟨rfl, hw⟩)
 ·refine at_cond_false rfl h2 ?_
  refine sns ?_
  refine av rfl (r_assign rfl) ?_
  refine nwt [(0, _), (4, _)] ⟨rfl, rfl, trivial⟩ ?_
  refine at_seq ?_
  refine sr ?_
  refine av rfl (r_move rfl) ?_
  refine av rfl (r_len_sl Tryz.underlying22 rfl) ?_
  refine av rfl (r_move rfl) ?_
  refine nwt [(4, _), (10, _), (11, _), (12, _)] ⟨rfl, rfl, rfl, rfl, trivial⟩ ?_
  refine at_block ?_
  obtain ⟨q3, hq3, hF⟩ := of_bindM hF
  refine at_weak [(4, _), (10, _), (11, _), (12, _)] ⟨rfl, rfl, rfl, rfl, trivial⟩ ?_
  refine at_loop_n (B := 0) (A := fun Y => At 23 [(4, .int .u64 q3)] (fun w' => w' = w) Y) ?_ ?_
  ·intro K
   refine endian_OfBig.l0.partial_correctness x0 (motive := fun i4 i5 x => KN (fun Y => At 23 [(4, .int .u64 x)] (fun w' => w' = w) Y) _ 0 → Round (fun Y => At 23 [(4, .int .u64 i4), (10, .slice p0_ x0.length c0_), (11, .int .i64 (x0.length : Int)), (12, .int .i64 i5)] (fun w' => w' = w) Y) _ _ _) ?_ _ _ _ hq3 K
   ·clear K hF
    intro g ih i4 i5 x hF K
    refine at_round ?_
    refine sr ?_
    refine av rfl (r_ilss rfl rfl) ?_
    refine nwt [(4, _), (10, _), (11, _), (12, _), (13, _)] ⟨rfl, rfl, rfl, rfl, rfl, trivial⟩ ?_
    refine at_seq ?_
    rcases of_ite hF with ⟨h6, hF⟩ | ⟨h6, hF⟩
    ·refine at_cond_true rfl h6 ?_
     refine sn ?_
     refine at_seq ?_
     refine at_block ?_
     refine sr ?_
     obtain ⟨h7, hF⟩ := of_guard hF
     obtain ⟨b9, o10, hp8⟩ := row_ptr hr0 h7
     refine av rfl (r_idx Tryz.underlying22 Tryz.sizeOf5 rfl rfl h7 hp8) ?_
     refine av rfl (r_load_cell Tryz.isAgg5 rfl (row_cell0 (fun w1 (h : w1 = w) => by subst h; exact Below.refl _ _) hr0 h7 hp8 rfl)) ?_
     refine av rfl (r_assign rfl) ?_
     refine nwt [(4, _), (6, _), (10, _), (11, _), (12, _)] ⟨rfl, rfl, rfl, rfl, rfl, trivial⟩ ?_
     refine at_region ?_
     refine av rfl (r_move rfl) ?_
     refine av rfl (r_ishl rfl rfl (by decide)) ?_
     refine av rfl (r_move rfl) ?_
     refine av rfl (r_conv Tryz.underlying5 Tryz.underlying31 rfl) ?_
     refine av rfl (r_ior rfl rfl) ?_
     refine av rfl (r_assign rfl) ?_
     refine at_nil ?_
     refine at_weak [(4, _), (10, _), (11, _), (12, _)] ⟨rfl, rfl, rfl, rfl, trivial⟩ ?_
     refine at_blk_normal (at_then_normal ?_)
     refine at_region ?_
     refine av rfl (r_iadd rfl rfl) ?_
     refine av rfl (r_move rfl) ?_
     refine nwt [(4, _), (10, _), (11, _), (12, _)] ⟨rfl, rfl, rfl, rfl, trivial⟩ ?_
     exact at_weak_k (ih _ _ _ hF K) ⟨rfl, rfl, rfl, rfl, trivial⟩
    ·refine at_cond_false rfl h6 ?_
     refine at_exit ?_
     refine at_then_exit (at_then_exit ?_)
     obtain rfl := of_some hF
     exact at_weak_k K ⟨rfl, trivial⟩
  ·skip
   skip
   refine at_blk_same ?_
   refine at_then_normal ?_
   refine sr ?_
   refine av rfl (r_move rfl) ?_
   refine av rfl (r_assign rfl) ?_
   refine av rfl (r_assign rfl) ?_
   refine nwt [(2, _), (3, _)] ⟨rfl, rfl, trivial⟩ ?_
   refine at_ret ?_
   have K := of_some hF
   subst K
   exact at_return2 rfl rfl rfl (fun w1 hw => ⟨rfl, hw⟩)
def colon_groups.l0 (x0 : (Vector Int 16)) (i5 : Int) (i6 : (Vector Int 8)) : Option ((Vector Int 8)) :=
  if (decide (i5 < 8)) = true then (if (0 : Int) ≤ wr .i64 (2 * i5) ∧ wr .i64 (2 * i5) ≤ wr .i64 ((wr .i64 (2 * i5)) + 2) ∧ wr .i64 ((wr .i64 (2 * i5)) + 2) ≤ (16 : Int) then endian_OfBig (lsub (Vector.toList x0) (wr .i64 (2 * i5)) (wr .i64 ((wr .i64 (2 * i5)) + 2))) >>= fun t9 => if (0 : Int) ≤ i5 ∧ i5 < 8 then colon_groups.l0 x0 (wr .i64 (i5 + 1)) (vset i6 i5 (wr .u16 t9.1)) else none else none) else (some i6)
  partial_fixpoint
def colon_groups (x0 : (Vector Int 16)) : Option ((Vector Int 8)) :=
  colon_groups.l0 x0 0 (Vector.replicate 8 (0 : Int) : (Vector Int 8)) >>= fun q4 => some q4
theorem colon_groups_ok (x0 : (Vector Int 16)) (r : (Vector Int 8)) (hF : colon_groups x0 = some r) (w : World) :
    Calls Tryz.prog 199 #[.agg (Cd.cs (cVec (cInt .u8) 16 (by decide)) x0).toArray] w (fun e w' => e = .returned (.agg (Cd.cs (cVec (cInt .u16) 8 (by decide)) r).toArray) ∧ Below w.heap.size w w') := by
 unfold colon_groups at hF
 refine calls_enter (l := [.agg (Cd.cs (cVec (cInt .u8) 16 (by decide)) x0).toArray]) Tryz.func199 rfl rfl rfl ?_
 refine at_start ?_
 refine at_weak [(0, _)] ⟨rfl, trivial⟩ ?_
 refine sr ?_
 refine at_box (cs := Cd.cs (cVec (cInt .u8) 16 (by decide)) x0) rfl rfl rfl ?_
 intro b1
 refine at_alloc (cs := Cd.cs (cVec (cInt .u16) 8 (by decide)) (Vector.replicate 8 (0 : Int) : (Vector Int 8))) Tryz.zeroValue208 rfl rfl ?_
 intro b2
 refine nws [(1, _), (2, _)] ⟨rfl, rfl, trivial⟩ ?_
 refine at_alloc (cs := Cd.cs (cVec (cInt .u16) 8 (by decide)) (Vector.replicate 8 (0 : Int) : (Vector Int 8))) Tryz.zeroValue208 rfl rfl ?_
 intro b3
 refine nwt [(1, _), (2, _), (3, _)] ⟨rfl, rfl, rfl, trivial⟩ ?_
 refine at_seq ?_
 refine sr ?_
 refine av rfl (r_move rfl) ?_
 refine nwt [(1, _), (2, _), (3, _), (7, _)] ⟨rfl, rfl, rfl, rfl, trivial⟩ ?_
 refine at_block ?_
 obtain ⟨q4, hq4, hF⟩ := of_bindM hF
 refine at_weak [(1, _), (2, _), (3, _), (7, _)] ⟨rfl, rfl, rfl, rfl, trivial⟩ ?_
 refine at_loop_n (B := 0) (A := fun Y => At 26 [(2, .pointer (some ⟨b2, 0, none⟩)), (3, .pointer (some ⟨b3, 0, none⟩))] (Wd w [cellsE b3 (Cd.cs (cVec (cInt .u16) 8 (by decide)) q4) 208, cellsE b2 (Cd.cs (cVec (cInt .u16) 8 (by decide)) (Vector.replicate 8 (0 : Int) : (Vector Int 8))) 208]) Y) ?_ ?_
 ·intro K
  refine colon_groups.l0.partial_correctness x0 (motive := fun i5 i6 x => KN (fun Y => At 26 [(2, .pointer (some ⟨b2, 0, none⟩)), (3, .pointer (some ⟨b3, 0, none⟩))] (Wd w [cellsE b3 (Cd.cs (cVec (cInt .u16) 8 (by decide)) x) 208, cellsE b2 (Cd.cs (cVec (cInt .u16) 8 (by decide)) (Vector.replicate 8 (0 : Int) : (Vector Int 8))) 208]) Y) _ 0 → Round (fun Y => At 26 [(1, .pointer (some ⟨b1, 0, none⟩)), (2, .pointer (some ⟨b2, 0, none⟩)), (3, .pointer (some ⟨b3, 0, none⟩)), (7, .int .i64 i5)] (Wd w [cellsE b3 (Cd.cs (cVec (cInt .u16) 8 (by decide)) i6) 208, cellsE b2 (Cd.cs (cVec (cInt .u16) 8 (by decide)) (Vector.replicate 8 (0 : Int) : (Vector Int 8))) 208, cellsE b1 (Cd.cs (cVec (cInt .u8) 16 (by decide)) x0) 23]) Y) _ _ _) ?_ _ _ _ hq4 K
  ·clear K hF
   intro g ih i5 i6 x hF K
   refine at_round ?_
   refine sr ?_
   refine av rfl (r_ilss rfl rfl) ?_
   refine nwt [(1, _), (2, _), (3, _), (7, _), (8, _)] ⟨rfl, rfl, rfl, rfl, rfl, trivial⟩ ?_
   refine at_seq ?_
   rcases of_ite hF with ⟨h7, hF⟩ | ⟨h7, hF⟩
   ·refine at_cond_true rfl h7 ?_
    refine sn ?_
    refine at_seq ?_
    refine at_block ?_
    refine sr ?_
    refine av rfl (r_move rfl) ?_
    refine av rfl (r_assign rfl) ?_
    refine nws [(1, _), (2, _), (3, _), (4, _), (7, _)] ⟨rfl, rfl, rfl, rfl, rfl, trivial⟩ ?_
    refine av rfl (r_move rfl) ?_
    refine av rfl (r_imul rfl rfl) ?_
    refine av rfl (r_move rfl) ?_
    refine av rfl (r_imul rfl rfl) ?_
    refine av rfl (r_iadd rfl rfl) ?_
    obtain ⟨h8, hF⟩ := of_guard hF
    refine av rfl (r_view (c := (cInt .u8)) (v := x0) (l := wr .i64 (2 * i5)) (h := wr .i64 ((wr .i64 (2 * i5)) + 2)) Tryz.underlying23 Tryz.sizeOf5 rfl ⟨_, rfl⟩ ⟨_, rfl⟩ h8) ?_
    obtain ⟨t9, ht9, hF⟩ := of_bindM hF
    refine at_callB Tryz.func221 rfl (by kernel_rfl) rfl rfl (fun w hw => callB_of_call0 (endian_OfBig_ok _ _ _ _ ht9 w (Row.sub (lens_row (.s (.s .z)) (Lens.whole _ _) hw) (vbnd h8)))) ?_
    refine av rfl (r_move rfl) ?_
    refine av rfl (r_extract rfl rfl) ?_
    refine av rfl (r_extract rfl rfl) ?_
    refine av rfl (r_assign rfl) ?_
    refine av rfl (r_assign rfl) ?_
    refine nwt [(1, _), (2, _), (3, _), (4, _), (5, _), (7, _)] ⟨rfl, rfl, rfl, rfl, rfl, rfl, trivial⟩ ?_
    refine at_region ?_
    refine av rfl (r_move rfl) ?_
    refine av rfl (r_move rfl) ?_
    refine av rfl (r_conv Tryz.underlying31 Tryz.underlying191 rfl) ?_
    obtain ⟨h10, hF⟩ := of_guard hF
    refine av rfl (r_idxArr Tryz.underlying208 Tryz.sizeOf191 rfl rfl h10) ?_
    refine at_store (c := (cInt .u16)) (z := wr .u16 t9.1) .z (Lens.comp (Lens.whole _ _) (fun z => vset i6 i5 z) (Lens.vec (cInt .u16) (by decide) i6 i5 h10)) Tryz.sizeOf191 rfl rfl rfl ?_
    refine at_nil ?_
    refine at_weak [(1, _), (2, _), (3, _), (7, _)] ⟨rfl, rfl, rfl, rfl, trivial⟩ ?_
    refine at_blk_normal (at_then_normal ?_)
    refine at_region ?_
    refine av rfl (r_iadd rfl rfl) ?_
    refine av rfl (r_move rfl) ?_
    refine nwt [(1, _), (2, _), (3, _), (7, _)] ⟨rfl, rfl, rfl, rfl, trivial⟩ ?_
    exact at_weak_k (ih _ _ _ hF K) ⟨rfl, rfl, rfl, rfl, trivial⟩
   ·refine at_cond_false rfl h7 ?_
    refine at_exit ?_
    refine at_then_exit (at_then_exit ?_)
    refine at_drop (H := _) (.s (.s .z)) ?_
    obtain rfl := of_some hF
    exact at_weak_k K ⟨rfl, rfl, trivial⟩
 ·skip
  skip
  refine at_blk_same ?_
  refine at_then_normal ?_
  refine sr ?_
  refine av rfl (r_load_aggc (c := (cVec (cInt .u16) 8 (by decide))) (z := q4) Tryz.isAgg208 Tryz.sizeOf208 rfl (lens_cell .z (Lens.whole _ _))) ?_
  refine at_store (c := (cVec (cInt .u16) 8 (by decide))) (z := q4) (.s .z) (Lens.whole _ _) Tryz.sizeOf208 rfl rfl rfl ?_
  refine at_nil ?_
  refine at_drop (H := _) .z ?_
  refine at_weak [(2, _)] ⟨rfl, trivial⟩ ?_
  refine at_then_normal ?_
  refine at_ret ?_
  have K := of_some hF
  subst K
  exact at_res1 rfl (res_cell (c := (cVec (cInt .u16) 8 (by decide))) (y := q4) rfl .z (Lens.whole _ _) Tryz.isAgg208 Tryz.sizeOf208 (.inl rfl)) (fun w1 hw => ⟨rfl, hw.below⟩)
def colon_longest.l0 (x0 : (Vector Int 8)) (i3 : Int) (i4 : Int) (i5 : Int) (i6 : Int) : Option (Int × Int) :=
  if (decide (i6 < 8)) = true then (if (0 : Int) ≤ i6 ∧ i6 < 8 then if (vget x0 i6 != 0) = true then (colon_longest.l0 x0 i3 i4 0 (wr .i64 (i6 + 1))) else (if (decide (wr .i64 (i5 + 1) > i4)) = true then (colon_longest.l0 x0 (wr .i64 ((wr .i64 (i6 + 1)) - (wr .i64 (i5 + 1)))) (wr .i64 (i5 + 1)) (wr .i64 (i5 + 1)) (wr .i64 (i6 + 1))) else (colon_longest.l0 x0 i3 i4 (wr .i64 (i5 + 1)) (wr .i64 (i6 + 1)))) else none) else (some (i3, i4))
  partial_fixpoint
def colon_longest (x0 : (Vector Int 8)) : Option (Int × Int) :=
  colon_longest.l0 x0 0 0 0 0 >>= fun q2 => some (q2.1, q2.2)
theorem colon_longest_ok (x0 : (Vector Int 8)) (r : Int × Int) (hF : colon_longest x0 = some r) (w : World) :
    Calls Tryz.prog 200 #[.agg (Cd.cs (cVec (cInt .u16) 8 (by decide)) x0).toArray] w (fun e w' => e = .returned (.tuple #[.int .i64 r.1, .int .i64 r.2]) ∧ Below w.heap.size w w') := by
 unfold colon_longest at hF
 refine calls_enter (l := [.agg (Cd.cs (cVec (cInt .u16) 8 (by decide)) x0).toArray]) Tryz.func200 rfl rfl rfl ?_
 refine at_start ?_
 refine at_weak [(0, _)] ⟨rfl, trivial⟩ ?_
 refine sr ?_
 refine at_box (cs := Cd.cs (cVec (cInt .u16) 8 (by decide)) x0) rfl rfl rfl ?_
 intro b1
 refine av rfl (r_assign rfl) ?_
 refine av rfl (r_assign rfl) ?_
 refine nws [(1, _), (2, _), (3, _)] ⟨rfl, rfl, rfl, trivial⟩ ?_
 refine av rfl (r_assign rfl) ?_
 refine nwt [(1, _), (2, _), (3, _), (4, _)] ⟨rfl, rfl, rfl, rfl, trivial⟩ ?_
 refine at_seq ?_
 refine sr ?_
 refine av rfl (r_load_aggc (c := (cVec (cInt .u16) 8 (by decide))) (z := x0) Tryz.isAgg208 Tryz.sizeOf208 rfl (lens_cell .z (Lens.whole _ _))) ?_
 refine av rfl (r_move rfl) ?_
 refine at_nil ?_
 refine at_drop (H := _) .z ?_
 refine at_weak [(2, _), (3, _), (4, _), (7, _), (8, _)] ⟨rfl, rfl, rfl, rfl, rfl, trivial⟩ ?_
 refine at_then_normal ?_
 refine at_block ?_
 obtain ⟨q2, hq2, hF⟩ := of_bindM hF
 refine at_weak [(2, _), (3, _), (4, _), (7, _), (8, _)] ⟨rfl, rfl, rfl, rfl, rfl, trivial⟩ ?_
 refine at_loop_n (B := 0) (A := fun Y => At 27 [(2, .int .i64 q2.1), (3, .int .i64 q2.2)] (Wd w []) Y) ?_ ?_
 ·intro K
  refine colon_longest.l0.partial_correctness x0 (motive := fun i3 i4 i5 i6 x => KN (fun Y => At 27 [(2, .int .i64 x.1), (3, .int .i64 x.2)] (Wd w []) Y) _ 0 → Round (fun Y => At 27 [(2, .int .i64 i3), (3, .int .i64 i4), (4, .int .i64 i5), (7, .agg (Cd.cs (cVec (cInt .u16) 8 (by decide)) x0).toArray), (8, .int .i64 i6)] (Wd w []) Y) _ _ _) ?_ _ _ _ _ _ hq2 K
  ·clear K hF
   intro g ih i3 i4 i5 i6 x hF K
   refine at_round ?_
   refine sr ?_
   refine av rfl (r_ilss rfl rfl) ?_
   refine nwt [(2, _), (3, _), (4, _), (7, _), (8, _), (9, _)] ⟨rfl, rfl, rfl, rfl, rfl, rfl, trivial⟩ ?_
   refine at_seq ?_
   rcases of_ite hF with ⟨h7, hF⟩ | ⟨h7, hF⟩
   ·refine at_cond_true rfl h7 ?_
    refine sn ?_
    refine at_seq ?_
    refine at_block ?_
    refine sr ?_
    refine av rfl (r_move rfl) ?_
    obtain ⟨h8, hF⟩ := of_guard hF
    refine av rfl (r_idxVal Tryz.underlying208 Tryz.sizeOf191 rfl rfl h8 (part_vOf (Lens.vec (cInt .u16) (by decide) x0 i6 h8) Tryz.isAgg191 Tryz.sizeOf191 (.inr rfl))) ?_
    refine av rfl (r_assign rfl) ?_
    refine av rfl (r_assign rfl) ?_
    refine nwt [(2, _), (3, _), (4, _), (5, _), (6, _), (7, _), (8, _)] ⟨rfl, rfl, rfl, rfl, rfl, rfl, rfl, trivial⟩ ?_
    refine at_seq ?_
    refine sr ?_
    refine av rfl (r_move rfl) ?_
    refine av rfl (r_ineq rfl rfl) ?_
    refine nwt [(2, _), (3, _), (4, _), (5, _), (7, _), (8, _), (13, _)] ⟨rfl, rfl, rfl, rfl, rfl, rfl, rfl, trivial⟩ ?_
    rcases of_ite hF with ⟨h9, hF⟩ | ⟨h9, hF⟩
    ·refine at_cond_true rfl h9 ?_
     refine sr ?_
     refine av rfl (r_assign rfl) ?_
     refine nwt [(2, _), (3, _), (4, _), (7, _), (8, _)] ⟨rfl, rfl, rfl, rfl, rfl, trivial⟩ ?_
     refine at_exit ?_
     refine at_then_exit (at_blk_same (at_then_normal ?_))
     refine at_region ?_
     refine av rfl (r_iadd rfl rfl) ?_
     refine av rfl (r_move rfl) ?_
     refine nwt [(2, _), (3, _), (4, _), (7, _), (8, _)] ⟨rfl, rfl, rfl, rfl, rfl, trivial⟩ ?_
     exact at_weak_k (ih _ _ _ _ _ hF K) ⟨rfl, rfl, rfl, rfl, rfl, trivial⟩
    ·refine at_cond_false rfl h9 ?_
     refine sns ?_
     refine av rfl (r_move rfl) ?_
     refine av rfl (r_iadd rfl rfl) ?_
     refine av rfl (r_assign rfl) ?_
     refine nws [(2, _), (3, _), (4, _), (5, _), (7, _), (8, _)] ⟨rfl, rfl, rfl, rfl, rfl, rfl, trivial⟩ ?_
     refine av rfl (r_move rfl) ?_
     refine av rfl (r_move rfl) ?_
     refine av rfl (r_igtr rfl rfl) ?_
     refine nwt [(2, _), (3, _), (4, _), (5, _), (7, _), (8, _), (18, _)] ⟨rfl, rfl, rfl, rfl, rfl, rfl, rfl, trivial⟩ ?_
     rcases of_ite hF with ⟨h10, hF⟩ | ⟨h10, hF⟩
     ·refine at_cond_true rfl h10 ?_
      refine at_region ?_
      refine av rfl (r_move rfl) ?_
      refine av rfl (r_iadd rfl rfl) ?_
      refine av rfl (r_move rfl) ?_
      refine av rfl (r_isub rfl rfl) ?_
      refine av rfl (r_move rfl) ?_
      refine av rfl (r_assign rfl) ?_
      refine av rfl (r_assign rfl) ?_
      refine at_nil ?_
      refine at_weak [(2, _), (3, _), (4, _), (7, _), (8, _)] ⟨rfl, rfl, rfl, rfl, rfl, trivial⟩ ?_
      refine at_blk_normal (at_then_normal ?_)
      refine at_region ?_
      refine av rfl (r_iadd rfl rfl) ?_
      refine av rfl (r_move rfl) ?_
      refine nwt [(2, _), (3, _), (4, _), (7, _), (8, _)] ⟨rfl, rfl, rfl, rfl, rfl, trivial⟩ ?_
      exact at_weak_k (ih _ _ _ _ _ hF K) ⟨rfl, rfl, rfl, rfl, rfl, trivial⟩
     ·refine at_cond_false rfl h10 ?_
      refine at_skip ?_
      refine at_blk_normal (at_then_normal ?_)
      refine at_region ?_
      refine av rfl (r_iadd rfl rfl) ?_
      refine av rfl (r_move rfl) ?_
      refine nwt [(2, _), (3, _), (4, _), (7, _), (8, _)] ⟨rfl, rfl, rfl, rfl, rfl, trivial⟩ ?_
      exact at_weak_k (ih _ _ _ _ _ hF K) ⟨rfl, rfl, rfl, rfl, rfl, trivial⟩
   ·refine at_cond_false rfl h7 ?_
    refine at_exit ?_
    refine at_then_exit (at_then_exit ?_)
    obtain rfl := of_some hF
    exact at_weak_k K ⟨rfl, rfl, trivial⟩
 ·skip
  skip
  refine at_blk_same ?_
  refine at_then_normal ?_
  refine sr ?_
  refine av rfl (r_move rfl) ?_
  refine av rfl (r_move rfl) ?_
  refine av rfl (r_assign rfl) ?_
  refine av rfl (r_assign rfl) ?_
  refine nwt [(2, _), (3, _)] ⟨rfl, rfl, trivial⟩ ?_
  refine at_ret ?_
  have K := of_some hF
  subst K
  exact at_return2 rfl rfl rfl (fun w1 hw => ⟨rfl, hw.below⟩)
def hexes_Group.l0 (i2 : Int) (i3 : ByteArray) : Option (ByteArray) :=
  if (0 : Int) ≤ iand .u16 i2 15 ∧ iand .u16 i2 15 < ((⟨#[48, 49, 50, 51, 52, 53, 54, 55, 56, 57, 97, 98, 99, 100, 101, 102]⟩ : ByteArray).size : Int) then if (Utf8.encode (bt (⟨#[48, 49, 50, 51, 52, 53, 54, 55, 56, 57, 97, 98, 99, 100, 101, 102]⟩ : ByteArray) (iand .u16 i2 15))).size + i3.size ≤ 140737488355328 then if (ishr .u16 i2 4 == 0) = true then (some ((Utf8.encode (bt (⟨#[48, 49, 50, 51, 52, 53, 54, 55, 56, 57, 97, 98, 99, 100, 101, 102]⟩ : ByteArray) (iand .u16 i2 15))) ++ i3)) else (hexes_Group.l0 (ishr .u16 i2 4) ((Utf8.encode (bt (⟨#[48, 49, 50, 51, 52, 53, 54, 55, 56, 57, 97, 98, 99, 100, 101, 102]⟩ : ByteArray) (iand .u16 i2 15))) ++ i3)) else none else none
  partial_fixpoint
def hexes_Group (x0 : Int) : Option (ByteArray) :=
  hexes_Group.l0 x0 (⟨#[]⟩) >>= fun q1 => some q1
theorem hexes_Group_ok (x0 : Int) (r : ByteArray) (hF : hexes_Group x0 = some r) (w : World) :
    Calls Tryz.prog 222 #[.int .u16 x0] w (fun e w' => e = .returned (.string r) ∧ w' = w) := by
 unfold hexes_Group at hF
 refine calls_enter (l := [.int .u16 x0]) Tryz.func222 rfl rfl rfl ?_
 refine at_weak [(0, _)] ⟨rfl, trivial⟩ ?_
 refine sr ?_
 refine av rfl (r_assign rfl) ?_
 refine nws [(0, _)] ⟨rfl, trivial⟩ ?_
 refine av rfl (r_assign rfl) ?_
 refine nwt [(0, _), (3, _)] ⟨rfl, rfl, trivial⟩ ?_
 refine at_block ?_
 obtain ⟨q1, hq1, hF⟩ := of_bindM hF
 refine at_weak [(0, _), (3, _)] ⟨rfl, rfl, trivial⟩ ?_
 refine at_loop_only (r := r) (q := q1) ?_ ?_
 ·intro K
  refine hexes_Group.l0.partial_correctness  (motive := fun i2 i3 x => x = r → Round (fun Y => At 15 [(0, .int .u16 i2), (3, .string i3)] (fun w' => w' = w) Y) _ _ _) ?_ _ _ _ hq1 K
  ·clear K hF
   intro g ih i2 i3 x hF K
   refine at_round ?_
   refine at_block ?_
   refine sr ?_
   refine av rfl (r_move rfl) ?_
   refine av rfl (r_iand rfl rfl) ?_
   obtain ⟨h4, hF⟩ := of_guard hF
   refine av rfl (r_index_str Tryz.underlying9 rfl rfl h4) ?_
   refine av rfl (r_conv_str Tryz.underlying5 Tryz.underlying9 rfl) ?_
   refine av rfl (r_move rfl) ?_
   obtain ⟨h5, hF⟩ := of_guard hF
   refine av rfl (r_concat rfl rfl h5) ?_
   refine av rfl (r_assign rfl) ?_
   refine nws [(0, _), (3, _)] ⟨rfl, rfl, trivial⟩ ?_
   refine av rfl (r_move rfl) ?_
   refine av rfl (r_ishr rfl rfl (by decide)) ?_
   refine av rfl (r_assign rfl) ?_
   refine nws [(0, _), (3, _)] ⟨rfl, rfl, trivial⟩ ?_
   refine av rfl (r_move rfl) ?_
   refine av rfl (r_ieql rfl rfl) ?_
   refine nwt [(0, _), (3, _), (13, _)] ⟨rfl, rfl, rfl, trivial⟩ ?_
   rcases of_ite hF with ⟨h6, hF⟩ | ⟨h6, hF⟩
   ·refine at_cond_true rfl h6 ?_
    refine sr ?_
    refine av rfl (r_move rfl) ?_
    refine av rfl (r_assign rfl) ?_
    refine nwt [(2, _)] ⟨rfl, trivial⟩ ?_
    refine at_ret ?_
    refine at_blk_ret (at_then_ret (at_blk_ret ?_))
    obtain rfl := of_some hF
    subst K
    exact at_return1 rfl rfl (fun w1 hw => ⟨rfl, hw⟩)
   ·refine at_cond_false rfl h6 ?_
    refine at_skip ?_
    refine at_blk_normal (at_then_normal ?_)
    exact at_weak_k (ih _ _ _ hF K) ⟨rfl, rfl, trivial⟩
 ·exact of_some hF
def colon_row.l0 (x0 : List Int) (i4 : List ByteArray) (i5 : Int) : Option (List ByteArray) :=
  if (decide (i5 < (x0.length : Int))) = true then (if (0 : Int) ≤ i5 ∧ i5 < (x0.length : Int) then hexes_Group (lget x0 i5) >>= fun t15 => if (i4.length + 1) * 16 ≤ 140737488355328 then colon_row.l0 x0 (i4 ++ [t15]) (wr .i64 (i5 + 1)) else none else none) else (some i4)
  partial_fixpoint
def colon_row (x0 : List Int) : Option (ByteArray) :=
  colon_row.l0 x0 ([] : List ByteArray) 0 >>= fun q3 => if List.length q3 ≤ 140737488355328 then if (bjoin q3 (⟨#[58]⟩ : ByteArray)).size ≤ 140737488355328 then some (bjoin q3 (⟨#[58]⟩ : ByteArray)) else none else none
theorem colon_row_ok (x0 : List Int) (p0_ : Option Addr) (c0_ : Nat) (r : ByteArray) (hF : colon_row x0 = some r) (w : World) (hr0 : Row (cInt .u16) w p0_ c0_ x0) :
    Calls Tryz.prog 201 #[.slice p0_ x0.length c0_] w (fun e w' => e = .returned (.string r) ∧ Below w.heap.size w w') := by
 unfold colon_row at hF
 refine calls_enter (l := [.slice p0_ x0.length c0_]) Tryz.func201 rfl rfl rfl ?_
 refine at_start ?_
 refine at_weak [(0, _)] ⟨rfl, trivial⟩ ?_
 refine sr ?_
 refine av rfl (r_assign rfl) ?_
 refine nws [(0, _)] ⟨rfl, trivial⟩ ?_
 refine av rfl (r_assign rfl) ?_
 refine nwt [(0, _), (3, _)] ⟨rfl, rfl, trivial⟩ ?_
 refine at_seq ?_
 refine sr ?_
 refine av rfl (r_move rfl) ?_
 refine av rfl (r_len_sl Tryz.underlying218 rfl) ?_
 refine av rfl (r_move rfl) ?_
 refine nwt [(3, _), (6, _), (7, _), (8, _)] ⟨rfl, rfl, rfl, rfl, trivial⟩ ?_
 refine at_block ?_
 refine at_own_nil cStr 9 ?_
 refine at_weak [(3, .slice none ([] : List ByteArray).length 0), (6, _), (7, _), (8, _)] ⟨rfl, rfl, rfl, rfl, trivial⟩ ?_
 obtain ⟨q3, hq3, hF⟩ := of_bindM hF
 refine at_weak [(3, _), (6, _), (7, _), (8, _)] ⟨rfl, rfl, rfl, rfl, trivial⟩ ?_
 refine at_loop_n (B := 0) (A := fun Y => ∀ (p8 : Option Addr) (c9 : Nat), At 20 [(3, .slice p8 q3.length c9)] (Wd w [rowE cStr 9 p8 c9 q3]) Y) ?_ ?_
 ·intro K
  refine colon_row.l0.partial_correctness x0 (motive := fun i4 i5 x => KN (fun Y => ∀ (p8 : Option Addr) (c9 : Nat), At 20 [(3, .slice p8 x.length c9)] (Wd w [rowE cStr 9 p8 c9 x]) Y) _ 0 → Round (fun Y => ∀ (p6 : Option Addr) (c7 : Nat), At 20 [(3, .slice p6 i4.length c7), (6, .slice p0_ x0.length c0_), (7, .int .i64 (x0.length : Int)), (8, .int .i64 i5)] (Wd w [rowE cStr 9 p6 c7 i4]) Y) _ _ _) ?_ _ _ _ hq3 K none 0
  ·clear K hF
   intro g ih i4 i5 x hF K p6 c7
   refine at_round ?_
   refine sr ?_
   refine av rfl (r_ilss rfl rfl) ?_
   refine nwt [(3, _), (6, _), (7, _), (8, _), (9, _)] ⟨rfl, rfl, rfl, rfl, rfl, trivial⟩ ?_
   refine at_seq ?_
   rcases of_ite hF with ⟨h10, hF⟩ | ⟨h10, hF⟩
   ·refine at_cond_true rfl h10 ?_
    refine sn ?_
    refine at_seq ?_
    refine at_block ?_
    refine sr ?_
    obtain ⟨h11, hF⟩ := of_guard hF
    obtain ⟨b13, o14, hp12⟩ := row_ptr hr0 h11
    refine av rfl (r_idx Tryz.underlying218 Tryz.sizeOf191 rfl rfl h11 hp12) ?_
    refine av rfl (r_load_cell Tryz.isAgg191 rfl (row_cell0 (fun _ h => h.below) hr0 h11 hp12 rfl)) ?_
    refine av rfl (r_assign rfl) ?_
    refine nwt [(3, _), (5, _), (6, _), (7, _), (8, _)] ⟨rfl, rfl, rfl, rfl, rfl, trivial⟩ ?_
    refine at_region ?_
    refine av rfl (r_move rfl) ?_
    refine av rfl (r_move rfl) ?_
    obtain ⟨t15, ht15, hF⟩ := of_bindM hF
    refine at_call0 Tryz.func222 rfl (by kernel_rfl) rfl rfl (fun w => hexes_Group_ok _ _ ht15 w) ?_
    refine at_lit (cs := cStr.all ([t15] : List ByteArray)) Tryz.underlying38 Tryz.sizeOf9 Tryz.zeroValue9 rfl rfl rfl (by kernel_rfl) rfl ?_
    intro b16
    obtain ⟨h17, hF⟩ := of_guard hF
    refine at_append (z := .string ⟨#[]⟩) (c := cStr) (ys := ([t15] : List ByteArray)) (.s .z) Tryz.underlying38 infoG39 (by kernel_rfl) (by kernel_rfl) rfl rfl rfl rfl (fun _ hw => cells_src (hw.ok (Upd.mem .z))) (by kernel_rfl) h17 (app_small h17) rfl ?_
    intro p18 c19
    refine av rfl (r_assign rfl) ?_
    refine at_nil ?_
    refine at_drop (H := _) .z ?_
    refine at_weak [(3, _), (6, _), (7, _), (8, _)] ⟨rfl, rfl, rfl, rfl, trivial⟩ ?_
    refine at_blk_normal (at_then_normal ?_)
    refine at_region ?_
    refine av rfl (r_iadd rfl rfl) ?_
    refine av rfl (r_move rfl) ?_
    refine nwt [(3, _), (6, _), (7, _), (8, _)] ⟨rfl, rfl, rfl, rfl, trivial⟩ ?_
    exact at_weak_k (ih _ _ _ hF K p18 c19) ⟨rfl, rfl, rfl, rfl, trivial⟩
   ·refine at_cond_false rfl h10 ?_
    refine at_exit ?_
    refine at_then_exit (at_then_exit ?_)
    obtain rfl := of_some hF
    exact at_weak_k (K p6 c7) ⟨rfl, trivial⟩
 ·skip
  intro p8 c9
  refine at_blk_same ?_
  refine at_then_normal ?_
  refine sr ?_
  refine av rfl (r_move rfl) ?_
  obtain ⟨h20, hF⟩ := of_guard hF
  obtain ⟨h21, hF⟩ := of_guard hF
  refine at_callB Tryz.func47 rfl (by kernel_rfl) rfl rfl (fun w1 hw => join_ok _ _ h20 h21 _ _ w1 (hw.own .z).row) ?_
  refine av rfl (r_assign rfl) ?_
  refine at_nil ?_
  refine at_drop (H := _) .z ?_
  refine at_weak [(2, _)] ⟨rfl, trivial⟩ ?_
  refine at_then_normal ?_
  refine at_ret ?_
  have K := of_some hF
  subst K
  exact at_return1 rfl rfl (fun w1 hw => ⟨rfl, hw.below⟩)
def colon_Text (x0 : (Vector Int 16)) : Option (ByteArray) :=
  colon_groups x0 >>= fun t2 => colon_longest t2 >>= fun t4 => if (decide (t4.2 < 2)) = true then (colon_row (Vector.toList t2) >>= fun t6 => some t6) else (if (0 : Int) ≤ 0 ∧ 0 ≤ t4.1 ∧ t4.1 ≤ (8 : Int) then colon_row (lsub (Vector.toList t2) 0 t4.1) >>= fun t8 => if t8.size + (⟨#[58, 58]⟩ : ByteArray).size ≤ 140737488355328 then if (0 : Int) ≤ wr .i64 (t4.1 + t4.2) ∧ wr .i64 (t4.1 + t4.2) ≤ 8 ∧ 8 ≤ (8 : Int) then colon_row (lsub (Vector.toList t2) (wr .i64 (t4.1 + t4.2)) 8) >>= fun t11 => if (t8 ++ (⟨#[58, 58]⟩ : ByteArray)).size + t11.size ≤ 140737488355328 then some ((t8 ++ (⟨#[58, 58]⟩ : ByteArray)) ++ t11) else none else none else none else none)
theorem colon_Text_ok (x0 : (Vector Int 16)) (r : ByteArray) (hF : colon_Text x0 = some r) (w : World) :
    Calls Tryz.prog 184 #[.agg (Cd.cs (cVec (cInt .u8) 16 (by decide)) x0).toArray] w (fun e w' => e = .returned (.string r) ∧ Below w.heap.size w w') := by
 unfold colon_Text at hF
 refine calls_enter (l := [.agg (Cd.cs (cVec (cInt .u8) 16 (by decide)) x0).toArray]) Tryz.func184 rfl rfl rfl ?_
 refine at_start ?_
 refine at_weak [(0, _)] ⟨rfl, trivial⟩ ?_
 refine sr ?_
 refine at_box (cs := Cd.cs (cVec (cInt .u8) 16 (by decide)) x0) rfl rfl rfl ?_
 intro b1
 refine av rfl (r_assign rfl) ?_
 refine nws [(1, _)] ⟨rfl, trivial⟩ ?_
 refine av rfl (r_load_aggc (c := (cVec (cInt .u8) 16 (by decide))) (z := x0) Tryz.isAgg23 Tryz.sizeOf23 rfl (lens_cell .z (Lens.whole _ _))) ?_
 obtain ⟨t2, ht2, hF⟩ := of_bindM hF
 refine at_callB Tryz.func199 rfl (by kernel_rfl) rfl rfl (fun w hw => colon_groups_ok _ _ ht2 w) ?_
 refine at_alloc (cs := Cd.cs (cVec (cInt .u16) 8 (by decide)) (Vector.replicate 8 (0 : Int) : (Vector Int 8))) Tryz.zeroValue208 rfl rfl ?_
 intro b3
 refine at_store (c := (cVec (cInt .u16) 8 (by decide))) (z := t2) .z (Lens.whole _ _) Tryz.sizeOf208 rfl rfl rfl ?_
 refine at_nil ?_
 refine at_drop (H := _) (.s .z) ?_
 refine at_weak [(3, _)] ⟨rfl, trivial⟩ ?_
 refine at_then_normal ?_
 refine sr ?_
 refine av rfl (r_load_aggc (c := (cVec (cInt .u16) 8 (by decide))) (z := t2) Tryz.isAgg208 Tryz.sizeOf208 rfl (lens_cell .z (Lens.whole _ _))) ?_
 obtain ⟨t4, ht4, hF⟩ := of_bindM hF
 refine at_callB Tryz.func200 rfl (by kernel_rfl) rfl rfl (fun w hw => colon_longest_ok _ _ ht4 w) ?_
 refine av rfl (r_move rfl) ?_
 refine av rfl (r_extract rfl rfl) ?_
 refine av rfl (r_extract rfl rfl) ?_
 refine av rfl (r_assign rfl) ?_
 refine av rfl (r_assign rfl) ?_
 refine nwt [(3, _), (4, _), (5, _)] ⟨rfl, rfl, rfl, trivial⟩ ?_
 refine at_seq ?_
 refine sr ?_
 refine av rfl (r_move rfl) ?_
 refine av rfl (r_ilss rfl rfl) ?_
 refine nwt [(3, _), (4, _), (5, _), (14, _)] ⟨rfl, rfl, rfl, rfl, trivial⟩ ?_
 rcases of_ite hF with ⟨h5, hF⟩ | ⟨h5, hF⟩
 ·refine at_cond_true rfl h5 ?_
  refine sr ?_
  refine av rfl (r_slice_vec t2 Tryz.underlying208 Tryz.sizeOf191 rfl) ?_
  obtain ⟨t6, ht6, hF⟩ := of_bindM hF
  refine at_callB Tryz.func201 rfl (by kernel_rfl) rfl rfl (fun w hw => colon_row_ok _ _ _ _ ht6 w (vec_row (hw.ok (Upd.mem .z)))) ?_
  refine av rfl (r_assign rfl) ?_
  refine at_nil ?_
  refine at_drop (H := _) .z ?_
  refine at_weak [(2, _)] ⟨rfl, trivial⟩ ?_
  refine at_then_normal ?_
  refine rt ?_
  have K := of_some hF
  subst K
  exact at_return1 rfl rfl (fun w1 hw => ⟨rfl, hw.below⟩)
 ·refine at_cond_false rfl h5 ?_
  refine sn ?_
  refine at_seq ?_
  refine at_draw (by kernel_rfl) (by kernel_rfl) (fun _ h => h.drew) ?_
  refine atq_val rfl rfl rfl (r_move rfl) ?_
  obtain ⟨h7, hF⟩ := of_guard hF
  refine atq_val rfl rfl rfl (r_view (c := (cInt .u16)) (v := t2) (l := 0) (h := t4.1) Tryz.underlying208 Tryz.sizeOf191 rfl rfl ⟨_, rfl⟩ h7) ?_
  obtain ⟨t8, ht8, hF⟩ := of_bindM hF
  refine atq_call Tryz.func201 rfl (by kernel_rfl) rfl rfl (fun w hw => (colon_row_ok _ _ _ _ ht8 w (Row.sub (lens_row .z (Lens.whole _ _) hw) (vbnd h7))).mono fun _ _ h => ⟨h.1, hw.call h.2⟩) ?_
  obtain ⟨h9, hF⟩ := of_guard hF
  refine atq_val rfl rfl rfl (r_concat rfl rfl h9) ?_
  refine atq_val rfl rfl rfl (r_move rfl) ?_
  refine atq_val rfl rfl rfl (r_move rfl) ?_
  refine atq_val rfl rfl rfl (r_iadd rfl rfl) ?_
  obtain ⟨h10, hF⟩ := of_guard hF
  refine atq_val rfl rfl rfl (r_view (c := (cInt .u16)) (v := t2) (l := wr .i64 (t4.1 + t4.2)) (h := 8) Tryz.underlying208 Tryz.sizeOf191 rfl ⟨_, rfl⟩ rfl h10) ?_
  obtain ⟨t11, ht11, hF⟩ := of_bindM hF
  refine atq_call Tryz.func201 rfl (by kernel_rfl) rfl rfl (fun w hw => (colon_row_ok _ _ _ _ ht11 w (Row.sub (lens_row .z (Lens.whole _ _) hw) (vbnd h10))).mono fun _ _ h => ⟨h.1, hw.call h.2⟩) ?_
  obtain ⟨h12, hF⟩ := of_guard hF
  refine atq_val rfl rfl rfl (r_concat rfl rfl h12) ?_
  refine atq_val rfl rfl rfl (r_assign rfl) ?_
  refine atq_nil ?_
  refine at_drop (H := _) .z ?_
  refine at_weak [(2, _)] ⟨rfl, trivial⟩ ?_
  refine at_then_normal ?_
  refine at_ret ?_
  have K := of_some hF
  subst K
  exact at_return1 rfl rfl (fun w1 hw => ⟨rfl, hw.below⟩)
end Go.Proofs.YtkkmmpofdcccmaaGreatDoor
namespace Go.Proofs.YtkkmmpofdcccmaaGreatDoor
open E Go.RowKit
def crawlwayref09_gap.l0 (x0 : ByteArray) (i2 : Int) : Option (Ctl (Int) (Unit)) :=
  if (decide (wr .i64 (i2 + 1) < (x0.size : Int))) = true then (if (0 : Int) ≤ i2 ∧ i2 < (x0.size : Int) then if (bt x0 i2 == 58) = true then (if (0 : Int) ≤ wr .i64 (i2 + 1) ∧ wr .i64 (i2 + 1) < (x0.size : Int) then if (bt x0 (wr .i64 (i2 + 1)) == 58) = true then (some (.ret i2)) else (crawlwayref09_gap.l0 x0 (wr .i64 (i2 + 1))) else none) else (crawlwayref09_gap.l0 x0 (wr .i64 (i2 + 1))) else none) else (some (.nx ()))
  partial_fixpoint
def crawlwayref09_gap (x0 : ByteArray) : Option (Int) :=
  crawlwayref09_gap.l0 x0 0 >>= fun q1 => match q1 with | .ret r' => some r' | .nx sq1 => (some (-1))
def crawlwayref05_digit (x0 : Int) : Option (ByteArray) :=
  if (0 : Int) ≤ x0 ∧ x0 ≤ wr .i64 (x0 + 1) ∧ wr .i64 (x0 + 1) ≤ ((⟨#[48, 49, 50, 51, 52, 53, 54, 55, 56, 57, 97, 98, 99, 100, 101, 102]⟩ : ByteArray).size : Int) then some ((⟨#[48, 49, 50, 51, 52, 53, 54, 55, 56, 57, 97, 98, 99, 100, 101, 102]⟩ : ByteArray).extract (Int.toNat x0) (Int.toNat (wr .i64 (x0 + 1)))) else none
theorem crawlwayref05_digit_ok (x0 : Int) (r : ByteArray) (hF : crawlwayref05_digit x0 = some r) (w : World) :
    Calls Tryz.prog 88 #[.int .i64 x0] w (fun e w' => e = .returned (.string r) ∧ w' = w) := by
 unfold crawlwayref05_digit at hF
 refine calls_enter (l := [.int .i64 x0]) Tryz.func88 rfl rfl rfl ?_
 refine at_weak [(0, _)] ⟨rfl, trivial⟩ ?_
 refine sr ?_
 refine av rfl (r_assign rfl) ?_
 refine nws [(0, _)] ⟨rfl, trivial⟩ ?_
 refine av rfl (r_move rfl) ?_
 refine av rfl (r_move rfl) ?_
 refine av rfl (r_iadd rfl rfl) ?_
 obtain ⟨h1, hF⟩ := of_guard hF
 refine av rfl (r_slice_str Tryz.underlying9 rfl ⟨_, rfl⟩ ⟨_, rfl⟩ h1) ?_
 refine av rfl (r_assign rfl) ?_
 refine nwt [(2, _)] ⟨rfl, trivial⟩ ?_
 refine at_ret ?_
 have K := of_some hF
 subst K
 exact at_return1 rfl rfl (fun w1 hw => ⟨rfl, hw⟩)
def crawlwayref05_Value.l0 (x0 : Int) (x1 : Bool) (i2 : Int) : Option (Ctl (Int) (Unit)) :=
  if (decide (i2 < 16)) = true then (crawlwayref05_digit i2 >>= fun t4 => if (0 : Int) ≤ 0 ∧ 0 < (t4.size : Int) then if (bt t4 0 == x0) = true then (some (.ret i2)) else (if x1 = true then (if (decide (i2 > 9)) = true then (crawlwayref05_digit i2 >>= fun t9 => if (0 : Int) ≤ 0 ∧ 0 < (t9.size : Int) then if (bt t9 0 == wr .u8 (x0 + 32)) = true then (some (.ret i2)) else (crawlwayref05_Value.l0 x0 x1 (wr .i64 (i2 + 1))) else none) else (crawlwayref05_Value.l0 x0 x1 (wr .i64 (i2 + 1)))) else (crawlwayref05_Value.l0 x0 x1 (wr .i64 (i2 + 1)))) else none) else (some (.nx ()))
  partial_fixpoint
def crawlwayref05_Value (x0 : Int) (x1 : Bool) : Option (Int) :=
  crawlwayref05_Value.l0 x0 x1 0 >>= fun q1 => match q1 with | .ret r' => some r' | .nx sq1 => (some (-1))
def crawlwayref05_ReadGroup.l0 (x0 : ByteArray) (i4 : Int) (i5 : Int) : Option (Ctl (Int) (Int)) :=
  if (decide (i5 < (x0.size : Int))) = true then (if (0 : Int) ≤ i5 ∧ i5 < (x0.size : Int) then crawlwayref05_Value (bt x0 i5) true >>= fun t8 => if (decide (t8 < 0)) = true then (some (.ret (-1))) else (crawlwayref05_ReadGroup.l0 x0 (wr .i64 ((wr .i64 (16 * i4)) + t8)) (wr .i64 (i5 + 1))) else none) else (some (.nx i4))
  partial_fixpoint
def crawlwayref05_ReadGroup (x0 : ByteArray) : Option (Int) :=
  if (decide ((x0.size : Int) < 1)) = true then (some (-1)) else (if (decide ((x0.size : Int) > 4)) = true then (some (-1)) else (crawlwayref05_ReadGroup.l0 x0 0 0 >>= fun q3 => match q3 with | .ret r' => some r' | .nx sq3 => (some sq3)))
def crawlwayref09_list.l0 (x1 : Bool) (t2 : List ByteArray) (i8 : List Int) (i9 : Int) : Option (Ctl (List Int × Bool) (List Int)) :=
  if (decide (i9 < (t2.length : Int))) = true then (if (0 : Int) ≤ i9 ∧ i9 < (t2.length : Int) then crawlwayref05_ReadGroup (lget t2 i9) >>= fun t19 => if (decide (t19 ≥ 0)) = true then (if (i8.length + 1) * 8 ≤ 140737488355328 then crawlwayref09_list.l0 x1 t2 (i8 ++ [t19]) (wr .i64 (i9 + 1)) else none) else (if (0 : Int) ≤ i9 ∧ i9 < (t2.length : Int) then crawlwayref08_Parse (lget t2 i9) >>= fun t29 => if (t29.2 != 0) = true then (some (.ret ([], false))) else (if (!x1) = true then (some (.ret ([], false))) else (if (decide (i9 < wr .i64 ((t2.length : Int) - 1))) = true then (some (.ret ([], false))) else (if (i8.length + 2) * 8 ≤ 140737488355328 then crawlwayref09_list.l0 x1 t2 (i8 ++ [wr .i64 ((wr .i64 (256 * (wr .i64 (vget t29.1 0)))) + (wr .i64 (vget t29.1 1))), wr .i64 ((wr .i64 (256 * (wr .i64 (vget t29.1 2)))) + (wr .i64 (vget t29.1 3)))]) (wr .i64 (i9 + 1)) else none))) else none) else none) else (some (.nx i8))
  partial_fixpoint
def crawlwayref09_list (x0 : ByteArray) (x1 : Bool) : Option (List Int × Bool) :=
  if (seq x0 (⟨#[]⟩ : ByteArray)) = true then (some ([], true)) else (crawlwayref06_Parts x0 58 >>= fun t2 => crawlwayref09_list.l0 x1 t2 ([] : List Int) 0 >>= fun q7 => match q7 with | .ret r' => some r' | .nx sq7 => (some (sq7, true)))
def crawlwayref09_Parse.l0 (t5 : List Int × Bool) (i11 : Int) (i12 : (Vector Int 16)) : Option ((Vector Int 16)) :=
  if (decide (i11 < 8)) = true then (if (0 : Int) ≤ i11 ∧ i11 < (t5.1.length : Int) then if (0 : Int) ≤ wr .i64 (2 * i11) ∧ wr .i64 (2 * i11) < 16 then if (0 : Int) ≤ i11 ∧ i11 < (t5.1.length : Int) then if (0 : Int) ≤ wr .i64 ((wr .i64 (2 * i11)) + 1) ∧ wr .i64 ((wr .i64 (2 * i11)) + 1) < 16 then crawlwayref09_Parse.l0 t5 (wr .i64 (i11 + 1)) (vset (vset i12 (wr .i64 (2 * i11)) (wr .u8 (wr .i64 (Int.tdiv (lget t5.1 i11) 256)))) (wr .i64 ((wr .i64 (2 * i11)) + 1)) (wr .u8 (Int.tmod (lget t5.1 i11) 256))) else none else none else none else none) else (some i12)
  partial_fixpoint
def crawlwayref09_Parse.l1 (t25 : List Int × Bool) (i38 : List Int) (i39 : Int) : Option (List Int) :=
  if (decide (i39 < (t25.1.length : Int))) = true then (if (0 : Int) ≤ i39 ∧ i39 < (t25.1.length : Int) then if (i38.length + 1) * 8 ≤ 140737488355328 then crawlwayref09_Parse.l1 t25 (i38 ++ [lget t25.1 i39]) (wr .i64 (i39 + 1)) else none else none) else (some i38)
  partial_fixpoint
def crawlwayref09_Parse.l2 (t29 : List Int × Bool) (i56 : List Int) : Option (List Int) :=
  if (decide (wr .i64 ((i56.length : Int) + (t29.1.length : Int)) < 8)) = true then (if (i56.length + 1) * 8 ≤ 140737488355328 then crawlwayref09_Parse.l2 t29 (i56 ++ [0]) else none) else (some i56)
  partial_fixpoint
def crawlwayref09_Parse.l3 (t29 : List Int × Bool) (q55 : List Int) (i70 : Int) (i71 : (Vector Int 16)) : Option ((Vector Int 16)) :=
  if (decide (i70 < 8)) = true then (if (0 : Int) ≤ i70 ∧ i70 < ((q55 ++ t29.1).length : Int) then if (0 : Int) ≤ wr .i64 (2 * i70) ∧ wr .i64 (2 * i70) < 16 then if (0 : Int) ≤ i70 ∧ i70 < ((q55 ++ t29.1).length : Int) then if (0 : Int) ≤ wr .i64 ((wr .i64 (2 * i70)) + 1) ∧ wr .i64 ((wr .i64 (2 * i70)) + 1) < 16 then crawlwayref09_Parse.l3 t29 q55 (wr .i64 (i70 + 1)) (vset (vset i71 (wr .i64 (2 * i70)) (wr .u8 (wr .i64 (Int.tdiv (lget (q55 ++ t29.1) i70) 256)))) (wr .i64 ((wr .i64 (2 * i70)) + 1)) (wr .u8 (Int.tmod (lget (q55 ++ t29.1) i70) 256))) else none else none else none else none) else (some i71)
  partial_fixpoint
def crawlwayref09_Parse (x0 : ByteArray) : Option ((Vector Int 16) × Bool) :=
  crawlwayref09_gap x0 >>= fun t3 => if (decide (t3 < 0)) = true then (crawlwayref09_list x0 true >>= fun t5 => if (!t5.2) = true then (some ((Vector.replicate 16 (0 : Int) : (Vector Int 16)), false)) else (if ((t5.1.length : Int) != 8) = true then (some ((Vector.replicate 16 (0 : Int) : (Vector Int 16)), false)) else (crawlwayref09_Parse.l0 t5 0 (Vector.replicate 16 (0 : Int) : (Vector Int 16)) >>= fun q10 => some (q10, true)))) else (if (0 : Int) ≤ 0 ∧ 0 ≤ t3 ∧ t3 ≤ (x0.size : Int) then crawlwayref09_list (x0.extract (Int.toNat 0) (Int.toNat t3)) false >>= fun t25 => if (0 : Int) ≤ wr .i64 (t3 + 2) ∧ wr .i64 (t3 + 2) ≤ (x0.size : Int) ∧ (x0.size : Int) ≤ (x0.size : Int) then crawlwayref09_list (x0.extract (Int.toNat (wr .i64 (t3 + 2))) (Int.toNat (x0.size : Int))) true >>= fun t29 => if (!t25.2) = true then (some ((Vector.replicate 16 (0 : Int) : (Vector Int 16)), false)) else (if (!t29.2) = true then (some ((Vector.replicate 16 (0 : Int) : (Vector Int 16)), false)) else (if (decide (wr .i64 ((t25.1.length : Int) + (t29.1.length : Int)) > 7)) = true then (some ((Vector.replicate 16 (0 : Int) : (Vector Int 16)), false)) else (crawlwayref09_Parse.l1 t25 ([] : List Int) 0 >>= fun q37 => crawlwayref09_Parse.l2 t29 q37 >>= fun q55 => if (q55.length + t29.1.length) * 8 ≤ 140737488355328 then crawlwayref09_Parse.l3 t29 q55 0 (Vector.replicate 16 (0 : Int) : (Vector Int 16)) >>= fun q69 => some (q69, true) else none))) else none else none)
def crawlwayref09_groups.l0 (x0 : (Vector Int 16)) (i5 : Int) (i6 : (Vector Int 8)) : Option ((Vector Int 8)) :=
  if (decide (i5 < 8)) = true then (if (0 : Int) ≤ wr .i64 (2 * i5) ∧ wr .i64 (2 * i5) < 16 then if (0 : Int) ≤ wr .i64 ((wr .i64 (2 * i5)) + 1) ∧ wr .i64 ((wr .i64 (2 * i5)) + 1) < 16 then if (0 : Int) ≤ i5 ∧ i5 < 8 then crawlwayref09_groups.l0 x0 (wr .i64 (i5 + 1)) (vset i6 i5 (wr .i64 ((wr .i64 (256 * (wr .i64 (vget x0 (wr .i64 (2 * i5)))))) + (wr .i64 (vget x0 (wr .i64 ((wr .i64 (2 * i5)) + 1))))))) else none else none else none) else (some i6)
  partial_fixpoint
def crawlwayref09_groups (x0 : (Vector Int 16)) : Option ((Vector Int 8)) :=
  crawlwayref09_groups.l0 x0 0 (Vector.replicate 8 (0 : Int) : (Vector Int 8)) >>= fun q4 => some q4
set_option maxRecDepth 10000 in
theorem crawlwayref09_groups_ok (x0 : (Vector Int 16)) (r : (Vector Int 8)) (hF : crawlwayref09_groups x0 = some r) (w : World) :
    Calls Tryz.prog 169 #[.agg (Cd.cs (cVec (cInt .u8) 16 (by decide)) x0).toArray] w (fun e w' => e = .returned (.agg (Cd.cs (cVec (cInt .i64) 8 (by decide)) r).toArray) ∧ Below w.heap.size w w') := by
 unfold crawlwayref09_groups at hF
 refine calls_enter (l := [.agg (Cd.cs (cVec (cInt .u8) 16 (by decide)) x0).toArray]) Tryz.func169 rfl rfl rfl ?_
 refine at_start ?_
 refine at_weak [(0, _)] ⟨rfl, trivial⟩ ?_
 refine sr ?_
 refine at_box (cs := Cd.cs (cVec (cInt .u8) 16 (by decide)) x0) rfl rfl rfl ?_
 intro b1
 refine at_alloc (cs := Cd.cs (cVec (cInt .i64) 8 (by decide)) (Vector.replicate 8 (0 : Int) : (Vector Int 8))) Tryz.zeroValue186 rfl rfl ?_
 intro b2
 refine nws [(1, _), (2, _)] ⟨rfl, rfl, trivial⟩ ?_
 refine at_alloc (cs := Cd.cs (cVec (cInt .i64) 8 (by decide)) (Vector.replicate 8 (0 : Int) : (Vector Int 8))) Tryz.zeroValue186 rfl rfl ?_
 intro b3
 refine nwt [(1, _), (2, _), (3, _)] ⟨rfl, rfl, rfl, trivial⟩ ?_
 refine at_seq ?_
 refine sr ?_
 refine av rfl (r_assign rfl) ?_
 refine nwt [(1, _), (2, _), (3, _), (4, _)] ⟨rfl, rfl, rfl, rfl, trivial⟩ ?_
 refine at_block ?_
 obtain ⟨q4, hq4, hF⟩ := of_bindM hF
 refine at_weak [(1, _), (2, _), (3, _), (4, _)] ⟨rfl, rfl, rfl, rfl, trivial⟩ ?_
 refine at_loop_n (B := 0) (A := fun Y => At 25 [(2, .pointer (some ⟨b2, 0, none⟩)), (3, .pointer (some ⟨b3, 0, none⟩))] (Wd w [cellsE b3 (Cd.cs (cVec (cInt .i64) 8 (by decide)) q4) 186, cellsE b2 (Cd.cs (cVec (cInt .i64) 8 (by decide)) (Vector.replicate 8 (0 : Int) : (Vector Int 8))) 186]) Y) ?_ ?_
 ·intro K
  refine crawlwayref09_groups.l0.partial_correctness x0 (motive := fun i5 i6 x => KN (fun Y => At 25 [(2, .pointer (some ⟨b2, 0, none⟩)), (3, .pointer (some ⟨b3, 0, none⟩))] (Wd w [cellsE b3 (Cd.cs (cVec (cInt .i64) 8 (by decide)) x) 186, cellsE b2 (Cd.cs (cVec (cInt .i64) 8 (by decide)) (Vector.replicate 8 (0 : Int) : (Vector Int 8))) 186]) Y) _ 0 → Round (fun Y => At 25 [(1, .pointer (some ⟨b1, 0, none⟩)), (2, .pointer (some ⟨b2, 0, none⟩)), (3, .pointer (some ⟨b3, 0, none⟩)), (4, .int .i64 i5)] (Wd w [cellsE b3 (Cd.cs (cVec (cInt .i64) 8 (by decide)) i6) 186, cellsE b2 (Cd.cs (cVec (cInt .i64) 8 (by decide)) (Vector.replicate 8 (0 : Int) : (Vector Int 8))) 186, cellsE b1 (Cd.cs (cVec (cInt .u8) 16 (by decide)) x0) 23]) Y) _ _ _) ?_ _ _ _ hq4 K
  ·clear K hF
   intro g ih i5 i6 x hF K
   refine at_round ?_
   refine at_seq ?_
   refine sr ?_
   refine av rfl (r_move rfl) ?_
   refine av rfl (r_ilss rfl rfl) ?_
   refine nwt [(1, _), (2, _), (3, _), (4, _), (6, _)] ⟨rfl, rfl, rfl, rfl, rfl, trivial⟩ ?_
   rcases of_ite hF with ⟨h7, hF⟩ | ⟨h7, hF⟩
   ·refine at_cond_true rfl h7 ?_
    refine sn ?_
    refine at_seq ?_
    refine at_block ?_
    refine at_draw_tail 15 (by kernel_rfl) (by kernel_rfl) (fun _ h => h.drew) ?_
    simp only [List.take_succ_cons, List.take_zero, List.drop_succ_cons, List.drop_zero]
    refine ats_val rfl rfl rfl (r_move rfl) ?_
    refine ats_val rfl rfl rfl (r_move rfl) ?_
    refine ats_val rfl rfl rfl (r_imul rfl rfl) ?_
    obtain ⟨h8, hF⟩ := of_guard hF
    refine ats_val rfl rfl rfl (r_idxArr Tryz.underlying23 Tryz.sizeOf5 rfl rfl h8) ?_
    refine ats_val rfl rfl rfl (r_load_cell Tryz.isAgg5 rfl (lens_cell0 (c := (cInt .u8)) (y := vget x0 (wr .i64 (2 * i5))) (.s (.s .z)) (Lens.comp (Lens.whole _ _) (fun z => vset x0 (wr .i64 (2 * i5)) z) (Lens.vec (cInt .u8) (by decide) x0 (wr .i64 (2 * i5)) h8)) rfl)) ?_
    refine ats_val rfl rfl rfl (r_conv Tryz.underlying5 Tryz.underlying3 rfl) ?_
    refine ats_val rfl rfl rfl (r_imul rfl rfl) ?_
    refine ats_val rfl rfl rfl (r_move rfl) ?_
    refine ats_val rfl rfl rfl (r_imul rfl rfl) ?_
    refine ats_val rfl rfl rfl (r_iadd rfl rfl) ?_
    obtain ⟨h9, hF⟩ := of_guard hF
    refine ats_val rfl rfl rfl (r_idxArr Tryz.underlying23 Tryz.sizeOf5 rfl rfl h9) ?_
    refine ats_val rfl rfl rfl (r_load_cell Tryz.isAgg5 rfl (lens_cell0 (c := (cInt .u8)) (y := vget x0 (wr .i64 ((wr .i64 (2 * i5)) + 1))) (.s (.s .z)) (Lens.comp (Lens.whole _ _) (fun z => vset x0 (wr .i64 ((wr .i64 (2 * i5)) + 1)) z) (Lens.vec (cInt .u8) (by decide) x0 (wr .i64 ((wr .i64 (2 * i5)) + 1)) h9)) rfl)) ?_
    refine ats_val rfl rfl rfl (r_conv Tryz.underlying5 Tryz.underlying3 rfl) ?_
    refine ats_val rfl rfl rfl (r_iadd rfl rfl) ?_
    obtain ⟨h10, hF⟩ := of_guard hF
    refine ats_val rfl rfl rfl (r_idxArr Tryz.underlying186 Tryz.sizeOf3 rfl rfl h10) ?_
    refine ats_nil ?_
    refine at_store (c := (cInt .i64)) (z := wr .i64 ((wr .i64 (256 * (wr .i64 (vget x0 (wr .i64 (2 * i5)))))) + (wr .i64 (vget x0 (wr .i64 ((wr .i64 (2 * i5)) + 1)))))) .z (Lens.comp (Lens.whole _ _) (fun z => vset i6 i5 z) (Lens.vec (cInt .i64) (by decide) i6 i5 h10)) Tryz.sizeOf3 rfl rfl rfl ?_
    refine at_nil ?_
    refine at_weak [(1, _), (2, _), (3, _), (4, _)] ⟨rfl, rfl, rfl, rfl, trivial⟩ ?_
    refine at_blk_normal (at_then_normal ?_)
    refine at_region ?_
    refine av rfl (r_move rfl) ?_
    refine av rfl (r_iadd rfl rfl) ?_
    refine av rfl (r_assign rfl) ?_
    refine nwt [(1, _), (2, _), (3, _), (4, _)] ⟨rfl, rfl, rfl, rfl, trivial⟩ ?_
    exact at_weak_k (ih _ _ _ hF K) ⟨rfl, rfl, rfl, rfl, trivial⟩
   ·refine at_cond_false rfl h7 ?_
    refine at_exit ?_
    refine at_then_exit (at_then_exit ?_)
    refine at_drop (H := _) (.s (.s .z)) ?_
    obtain rfl := of_some hF
    exact at_weak_k K ⟨rfl, rfl, trivial⟩
 ·skip
  skip
  refine at_blk_same ?_
  refine at_then_normal ?_
  refine sr ?_
  refine av rfl (r_load_aggc (c := (cVec (cInt .i64) 8 (by decide))) (z := q4) Tryz.isAgg186 Tryz.sizeOf186 rfl (lens_cell .z (Lens.whole _ _))) ?_
  refine at_store (c := (cVec (cInt .i64) 8 (by decide))) (z := q4) (.s .z) (Lens.whole _ _) Tryz.sizeOf186 rfl rfl rfl ?_
  refine at_nil ?_
  refine at_drop (H := _) .z ?_
  refine at_weak [(2, _)] ⟨rfl, trivial⟩ ?_
  refine at_then_normal ?_
  refine at_ret ?_
  have K := of_some hF
  subst K
  exact at_res1 rfl (res_cell (c := (cVec (cInt .i64) 8 (by decide))) (y := q4) rfl .z (Lens.whole _ _) Tryz.isAgg186 Tryz.sizeOf186 (.inl rfl)) (fun w1 hw => ⟨rfl, hw.below⟩)
def crawlwayref09_run.l0 (x0 : (Vector Int 8)) (x1 : Int) (i3 : Int) : Option (Int) :=
  if (decide (wr .i64 (x1 + i3) < 8)) = true then (if (0 : Int) ≤ wr .i64 (x1 + i3) ∧ wr .i64 (x1 + i3) < 8 then if (vget x0 (wr .i64 (x1 + i3)) == 0) = true then (crawlwayref09_run.l0 x0 x1 (wr .i64 (i3 + 1))) else (some i3) else none) else (some i3)
  partial_fixpoint
def crawlwayref09_run (x0 : (Vector Int 8)) (x1 : Int) : Option (Int) :=
  crawlwayref09_run.l0 x0 x1 0 >>= fun q2 => some q2
theorem crawlwayref09_run_ok (x0 : (Vector Int 8)) (x1 : Int) (r : Int) (hF : crawlwayref09_run x0 x1 = some r) (w : World) :
    Calls Tryz.prog 170 #[.agg (Cd.cs (cVec (cInt .i64) 8 (by decide)) x0).toArray, .int .i64 x1] w (fun e w' => e = .returned (.int .i64 r) ∧ Below w.heap.size w w') := by
 unfold crawlwayref09_run at hF
 refine calls_enter (l := [.agg (Cd.cs (cVec (cInt .i64) 8 (by decide)) x0).toArray, .int .i64 x1]) Tryz.func170 rfl rfl rfl ?_
 refine at_start ?_
 refine at_weak [(0, _), (1, _)] ⟨rfl, rfl, trivial⟩ ?_
 refine sr ?_
 refine at_box (cs := Cd.cs (cVec (cInt .i64) 8 (by decide)) x0) rfl rfl rfl ?_
 intro b1
 refine av rfl (r_assign rfl) ?_
 refine nws [(1, _), (2, _)] ⟨rfl, rfl, trivial⟩ ?_
 refine av rfl (r_assign rfl) ?_
 refine nwt [(1, _), (2, _), (5, _)] ⟨rfl, rfl, rfl, trivial⟩ ?_
 refine at_seq ?_
 refine at_block ?_
 obtain ⟨q2, hq2, hF⟩ := of_bindM hF
 refine at_weak [(1, _), (2, _), (5, _)] ⟨rfl, rfl, rfl, trivial⟩ ?_
 refine at_loop_n (B := 0) (A := fun Y => At 21 [(5, .int .i64 q2)] (Wd w []) Y) ?_ ?_
 ·intro K
  refine crawlwayref09_run.l0.partial_correctness x0 x1 (motive := fun i3 x => KN (fun Y => At 21 [(5, .int .i64 x)] (Wd w []) Y) _ 0 → Round (fun Y => At 21 [(1, .int .i64 x1), (2, .pointer (some ⟨b1, 0, none⟩)), (5, .int .i64 i3)] (Wd w [cellsE b1 (Cd.cs (cVec (cInt .i64) 8 (by decide)) x0) 186]) Y) _ _ _) ?_ _ _ hq2 K
  ·clear K hF
   intro g ih i3 x hF K
   refine at_round ?_
   refine at_seq ?_
   refine sr ?_
   refine av rfl (r_move rfl) ?_
   refine av rfl (r_move rfl) ?_
   refine av rfl (r_iadd rfl rfl) ?_
   refine av rfl (r_ilss rfl rfl) ?_
   refine av rfl (r_move rfl) ?_
   rcases of_ite hF with ⟨h4, hF⟩ | ⟨h4, hF⟩
   ·refine at_fix (g := 10) rfl h4 ?_
    refine at_guard_yes rfl rfl rfl ?_
    refine av rfl (r_move rfl) ?_
    refine at_guard_yes rfl rfl rfl ?_
    refine av rfl (r_move rfl) ?_
    refine at_guard_yes rfl rfl rfl ?_
    refine av rfl (r_iadd rfl rfl) ?_
    refine at_guard_yes rfl rfl rfl ?_
    obtain ⟨h5, hF⟩ := of_guard hF
    refine av rfl (r_idxArr Tryz.underlying186 Tryz.sizeOf3 rfl rfl h5) ?_
    refine at_guard_yes rfl rfl rfl ?_
    refine av rfl (r_load_cell Tryz.isAgg3 rfl (lens_cell0 (c := (cInt .i64)) (y := vget x0 (wr .i64 (x1 + i3))) .z (Lens.comp (Lens.whole _ _) (fun z => vset x0 (wr .i64 (x1 + i3)) z) (Lens.vec (cInt .i64) (by decide) x0 (wr .i64 (x1 + i3)) h5)) rfl)) ?_
    refine at_guard_yes rfl rfl rfl ?_
    refine av rfl (r_ieql rfl rfl) ?_
    refine av rfl (r_pick rfl rfl rfl) ?_
    refine nwt [(1, _), (2, _), (5, _), (17, _)] ⟨rfl, rfl, rfl, rfl, trivial⟩ ?_
    rcases of_ite hF with ⟨h6, hF⟩ | ⟨h6, hF⟩
    ·refine at_cond_true rfl h6 ?_
     refine sn ?_
     refine at_block ?_
     refine at_region ?_
     refine av rfl (r_move rfl) ?_
     refine av rfl (r_iadd rfl rfl) ?_
     refine av rfl (r_assign rfl) ?_
     refine at_nil ?_
     refine at_weak [(1, _), (2, _), (5, _)] ⟨rfl, rfl, rfl, trivial⟩ ?_
     refine at_blk_normal (at_then_normal ?_)
     exact at_weak_k (ih _ _ hF K) ⟨rfl, rfl, rfl, trivial⟩
    ·refine at_cond_false rfl h6 ?_
     refine at_exit ?_
     refine at_then_exit (at_then_exit ?_)
     refine at_drop (H := _) .z ?_
     obtain rfl := of_some hF
     exact at_weak_k K ⟨rfl, trivial⟩
   ·refine at_fix (g := 10) rfl h4 ?_
    refine at_guard_no rfl rfl rfl rfl rfl ?_
    refine at_guard_no rfl rfl rfl rfl rfl ?_
    refine at_guard_no rfl rfl rfl rfl rfl ?_
    refine at_guard_no rfl rfl rfl rfl rfl ?_
    refine at_guard_no rfl rfl rfl rfl rfl ?_
    refine at_guard_no rfl rfl rfl rfl rfl ?_
    refine av rfl (r_pick rfl rfl rfl) ?_
    refine nwt [(1, _), (2, _), (5, _), (17, _)] ⟨rfl, rfl, rfl, rfl, trivial⟩ ?_
    refine at_cond_false rfl rfl ?_
    refine at_exit ?_
    refine at_then_exit (at_then_exit ?_)
    refine at_drop (H := _) .z ?_
    obtain rfl := of_some hF
    exact at_weak_k K ⟨rfl, trivial⟩
 ·skip
  skip
  refine at_blk_same ?_
  refine at_then_normal ?_
  refine sr ?_
  refine av rfl (r_move rfl) ?_
  refine av rfl (r_assign rfl) ?_
  refine nwt [(4, _)] ⟨rfl, trivial⟩ ?_
  refine at_ret ?_
  have K := of_some hF
  subst K
  exact at_return1 rfl rfl (fun w1 hw => ⟨rfl, hw.below⟩)
def crawlwayref05_Group (x0 : Int) : Option (ByteArray) :=
  if (decide (x0 < 16)) = true then (crawlwayref05_digit x0 >>= fun t2 => some t2) else (crawlwayref05_Group (wr .i64 (Int.tdiv x0 16)) >>= fun t3 => crawlwayref05_digit (Int.tmod x0 16) >>= fun t4 => if t3.size + t4.size ≤ 140737488355328 then some (t3 ++ t4) else none)
  partial_fixpoint
theorem crawlwayref05_Group_ok (x0 : Int) (r : ByteArray) (hF : crawlwayref05_Group x0 = some r) (w : World) :
    Calls Tryz.prog 191 #[.int .i64 x0] w (fun e w' => e = .returned (.string r) ∧ w' = w) := by
 refine crawlwayref05_Group.partial_correctness (motive := fun x0 r => ∀ (w : World), Calls Tryz.prog 191 #[.int .i64 x0] w (fun e w' => e = .returned (.string r) ∧ w' = w)) ?_ _ _ hF w
 clear hF
 intro g ihf0 x0 r hF w
 have ihf : ∀ (x0 : Int) (r : ByteArray) (hF : g x0 = some r) (w : World), Calls Tryz.prog 191 #[.int .i64 x0] w (fun e w' => e = .returned (.string r) ∧ w' = w) := fun x0 r hF w => ihf0 x0 r hF w
 refine calls_enter (l := [.int .i64 x0]) Tryz.func191 rfl rfl rfl ?_
 refine at_weak [(0, _)] ⟨rfl, trivial⟩ ?_
 refine sr ?_
 refine av rfl (r_assign rfl) ?_
 refine nwt [(0, _)] ⟨rfl, trivial⟩ ?_
 refine at_seq ?_
 refine sr ?_
 refine av rfl (r_move rfl) ?_
 refine av rfl (r_ilss rfl rfl) ?_
 refine nwt [(0, _), (4, _)] ⟨rfl, rfl, trivial⟩ ?_
 rcases of_ite hF with ⟨h1, hF⟩ | ⟨h1, hF⟩
 ·refine at_cond_true rfl h1 ?_
  refine sr ?_
  refine av rfl (r_move rfl) ?_
  obtain ⟨t2, ht2, hF⟩ := of_bindM hF
  refine at_call0 Tryz.func88 rfl (by kernel_rfl) rfl rfl (fun w => crawlwayref05_digit_ok _ _ ht2 w) ?_
  refine av rfl (r_assign rfl) ?_
  refine nwt [(2, _)] ⟨rfl, trivial⟩ ?_
  refine rt ?_
  have K := of_some hF
  subst K
  exact at_return1 rfl rfl (fun w1 hw => ⟨rfl, hw⟩)
 ·refine at_cond_false rfl h1 ?_
  refine sns ?_
  refine av rfl (r_move rfl) ?_
  refine av rfl (r_iquo rfl rfl (by decide)) ?_
  obtain ⟨t3, ht3, hF⟩ := of_bindM hF
  refine at_call0 Tryz.func191 rfl (by kernel_rfl) rfl rfl (fun w => ihf _ _ ht3 w) ?_
  refine av rfl (r_move rfl) ?_
  refine av rfl (r_irem rfl rfl (by decide)) ?_
  obtain ⟨t4, ht4, hF⟩ := of_bindM hF
  refine at_call0 Tryz.func88 rfl (by kernel_rfl) rfl rfl (fun w => crawlwayref05_digit_ok _ _ ht4 w) ?_
  obtain ⟨h5, hF⟩ := of_guard hF
  refine av rfl (r_concat rfl rfl h5) ?_
  refine av rfl (r_assign rfl) ?_
  refine nwt [(2, _)] ⟨rfl, trivial⟩ ?_
  refine at_ret ?_
  have K := of_some hF
  subst K
  exact at_return1 rfl rfl (fun w1 hw => ⟨rfl, hw⟩)
def crawlwayref09_row.l0 (x0 : (Vector Int 8)) (x1 : Int) (x2 : Int) (i3 : ByteArray) (i4 : Int) : Option (ByteArray) :=
  if (decide (i4 < x2)) = true then (if (decide (i4 > x1)) = true then (if i3.size + (⟨#[58]⟩ : ByteArray).size ≤ 140737488355328 then if (0 : Int) ≤ i4 ∧ i4 < 8 then crawlwayref05_Group (vget x0 i4) >>= fun t9 => if (i3 ++ (⟨#[58]⟩ : ByteArray)).size + t9.size ≤ 140737488355328 then crawlwayref09_row.l0 x0 x1 x2 ((i3 ++ (⟨#[58]⟩ : ByteArray)) ++ t9) (wr .i64 (i4 + 1)) else none else none else none) else (if (0 : Int) ≤ i4 ∧ i4 < 8 then crawlwayref05_Group (vget x0 i4) >>= fun t12 => if i3.size + t12.size ≤ 140737488355328 then crawlwayref09_row.l0 x0 x1 x2 (i3 ++ t12) (wr .i64 (i4 + 1)) else none else none)) else (some i3)
  partial_fixpoint
def crawlwayref09_row (x0 : (Vector Int 8)) (x1 : Int) (x2 : Int) : Option (ByteArray) :=
  crawlwayref09_row.l0 x0 x1 x2 (⟨#[]⟩) x1 >>= fun q2 => some q2
theorem crawlwayref09_row_ok (x0 : (Vector Int 8)) (x1 : Int) (x2 : Int) (r : ByteArray) (hF : crawlwayref09_row x0 x1 x2 = some r) (w : World) :
    Calls Tryz.prog 171 #[.agg (Cd.cs (cVec (cInt .i64) 8 (by decide)) x0).toArray, .int .i64 x1, .int .i64 x2] w (fun e w' => e = .returned (.string r) ∧ Below w.heap.size w w') := by
 unfold crawlwayref09_row at hF
 refine calls_enter (l := [.agg (Cd.cs (cVec (cInt .i64) 8 (by decide)) x0).toArray, .int .i64 x1, .int .i64 x2]) Tryz.func171 rfl rfl rfl ?_
 refine at_start ?_
 refine at_weak [(0, _), (1, _), (2, _)] ⟨rfl, rfl, rfl, trivial⟩ ?_
 refine sr ?_
 refine at_box (cs := Cd.cs (cVec (cInt .i64) 8 (by decide)) x0) rfl rfl rfl ?_
 intro b1
 refine av rfl (r_assign rfl) ?_
 refine nws [(1, _), (2, _), (3, _)] ⟨rfl, rfl, rfl, trivial⟩ ?_
 refine av rfl (r_assign rfl) ?_
 refine nwt [(1, _), (2, _), (3, _), (7, _)] ⟨rfl, rfl, rfl, rfl, trivial⟩ ?_
 refine at_seq ?_
 refine sr ?_
 refine av rfl (r_move rfl) ?_
 refine av rfl (r_assign rfl) ?_
 refine nwt [(1, _), (2, _), (3, _), (7, _), (8, _)] ⟨rfl, rfl, rfl, rfl, rfl, trivial⟩ ?_
 refine at_block ?_
 obtain ⟨q2, hq2, hF⟩ := of_bindM hF
 refine at_weak [(1, _), (2, _), (3, _), (7, _), (8, _)] ⟨rfl, rfl, rfl, rfl, rfl, trivial⟩ ?_
 refine at_loop_n (B := 0) (A := fun Y => At 27 [(7, .string q2)] (Wd w []) Y) ?_ ?_
 ·intro K
  refine crawlwayref09_row.l0.partial_correctness x0 x1 x2 (motive := fun i3 i4 x => KN (fun Y => At 27 [(7, .string x)] (Wd w []) Y) _ 0 → Round (fun Y => At 27 [(1, .int .i64 x1), (2, .int .i64 x2), (3, .pointer (some ⟨b1, 0, none⟩)), (7, .string i3), (8, .int .i64 i4)] (Wd w [cellsE b1 (Cd.cs (cVec (cInt .i64) 8 (by decide)) x0) 186]) Y) _ _ _) ?_ _ _ _ hq2 K
  ·clear K hF
   intro g ih i3 i4 x hF K
   refine at_round ?_
   refine at_seq ?_
   refine sr ?_
   refine av rfl (r_move rfl) ?_
   refine av rfl (r_move rfl) ?_
   refine av rfl (r_ilss rfl rfl) ?_
   refine nwt [(1, _), (2, _), (3, _), (7, _), (8, _), (12, _)] ⟨rfl, rfl, rfl, rfl, rfl, rfl, trivial⟩ ?_
   rcases of_ite hF with ⟨h5, hF⟩ | ⟨h5, hF⟩
   ·refine at_cond_true rfl h5 ?_
    refine sn ?_
    refine at_seq ?_
    refine at_block ?_
    refine at_seq ?_
    refine sr ?_
    refine av rfl (r_move rfl) ?_
    refine av rfl (r_move rfl) ?_
    refine av rfl (r_igtr rfl rfl) ?_
    refine nwt [(1, _), (2, _), (3, _), (7, _), (8, _), (17, _)] ⟨rfl, rfl, rfl, rfl, rfl, rfl, trivial⟩ ?_
    rcases of_ite hF with ⟨h6, hF⟩ | ⟨h6, hF⟩
    ·refine at_cond_true rfl h6 ?_
     refine at_region ?_
     refine av rfl (r_move rfl) ?_
     obtain ⟨h7, hF⟩ := of_guard hF
     refine av rfl (r_concat rfl rfl h7) ?_
     refine av rfl (r_assign rfl) ?_
     refine nwt [(1, _), (2, _), (3, _), (7, _), (8, _)] ⟨rfl, rfl, rfl, rfl, rfl, trivial⟩ ?_
     refine at_region ?_
     refine av rfl (r_move rfl) ?_
     refine av rfl (r_move rfl) ?_
     obtain ⟨h8, hF⟩ := of_guard hF
     refine av rfl (r_idxArr Tryz.underlying186 Tryz.sizeOf3 rfl rfl h8) ?_
     refine av rfl (r_load_cell Tryz.isAgg3 rfl (lens_cell0 (c := (cInt .i64)) (y := vget x0 i4) .z (Lens.comp (Lens.whole _ _) (fun z => vset x0 i4 z) (Lens.vec (cInt .i64) (by decide) x0 i4 h8)) rfl)) ?_
     obtain ⟨t9, ht9, hF⟩ := of_bindM hF
     refine at_call0 Tryz.func191 rfl (by kernel_rfl) rfl rfl (fun w => crawlwayref05_Group_ok _ _ ht9 w) ?_
     obtain ⟨h10, hF⟩ := of_guard hF
     refine av rfl (r_concat rfl rfl h10) ?_
     refine av rfl (r_assign rfl) ?_
     refine at_nil ?_
     refine at_weak [(1, _), (2, _), (3, _), (7, _), (8, _)] ⟨rfl, rfl, rfl, rfl, rfl, trivial⟩ ?_
     refine at_blk_normal (at_then_normal ?_)
     refine at_region ?_
     refine av rfl (r_move rfl) ?_
     refine av rfl (r_iadd rfl rfl) ?_
     refine av rfl (r_assign rfl) ?_
     refine nwt [(1, _), (2, _), (3, _), (7, _), (8, _)] ⟨rfl, rfl, rfl, rfl, rfl, trivial⟩ ?_
     exact at_weak_k (ih _ _ _ hF K) ⟨rfl, rfl, rfl, rfl, rfl, trivial⟩
    ·refine at_cond_false rfl h6 ?_
     refine sn ?_
     refine at_region ?_
     refine av rfl (r_move rfl) ?_
     refine av rfl (r_move rfl) ?_
     obtain ⟨h11, hF⟩ := of_guard hF
     refine av rfl (r_idxArr Tryz.underlying186 Tryz.sizeOf3 rfl rfl h11) ?_
     refine av rfl (r_load_cell Tryz.isAgg3 rfl (lens_cell0 (c := (cInt .i64)) (y := vget x0 i4) .z (Lens.comp (Lens.whole _ _) (fun z => vset x0 i4 z) (Lens.vec (cInt .i64) (by decide) x0 i4 h11)) rfl)) ?_
     obtain ⟨t12, ht12, hF⟩ := of_bindM hF
     refine at_call0 Tryz.func191 rfl (by kernel_rfl) rfl rfl (fun w => crawlwayref05_Group_ok _ _ ht12 w) ?_
     obtain ⟨h13, hF⟩ := of_guard hF
     refine av rfl (r_concat rfl rfl h13) ?_
     refine av rfl (r_assign rfl) ?_
     refine at_nil ?_
     refine at_weak [(1, _), (2, _), (3, _), (7, _), (8, _)] ⟨rfl, rfl, rfl, rfl, rfl, trivial⟩ ?_
     refine at_blk_normal (at_then_normal ?_)
     refine at_region ?_
     refine av rfl (r_move rfl) ?_
     refine av rfl (r_iadd rfl rfl) ?_
     refine av rfl (r_assign rfl) ?_
     refine nwt [(1, _), (2, _), (3, _), (7, _), (8, _)] ⟨rfl, rfl, rfl, rfl, rfl, trivial⟩ ?_
     exact at_weak_k (ih _ _ _ hF K) ⟨rfl, rfl, rfl, rfl, rfl, trivial⟩
   ·refine at_cond_false rfl h5 ?_
    refine at_exit ?_
    refine at_then_exit (at_then_exit ?_)
    refine at_drop (H := _) .z ?_
    obtain rfl := of_some hF
    exact at_weak_k K ⟨rfl, trivial⟩
 ·skip
  skip
  refine at_blk_same ?_
  refine at_then_normal ?_
  refine sr ?_
  refine av rfl (r_move rfl) ?_
  refine av rfl (r_assign rfl) ?_
  refine nwt [(6, _)] ⟨rfl, trivial⟩ ?_
  refine at_ret ?_
  have K := of_some hF
  subst K
  exact at_return1 rfl rfl (fun w1 hw => ⟨rfl, hw.below⟩)
def crawlwayref09_Text.l0 (t2 : (Vector Int 8)) (i5 : Int) (i6 : Int) (i7 : Int) : Option (Int × Int) :=
  if (decide (i7 < 8)) = true then (crawlwayref09_run t2 i7 >>= fun t9 => if (decide (t9 > i6)) = true then (crawlwayref09_run t2 i7 >>= fun t11 => crawlwayref09_Text.l0 t2 i7 t11 (wr .i64 (i7 + 1))) else (crawlwayref09_Text.l0 t2 i5 i6 (wr .i64 (i7 + 1)))) else (some (i5, i6))
  partial_fixpoint
def crawlwayref09_Text (x0 : (Vector Int 16)) : Option (ByteArray) :=
  crawlwayref09_groups x0 >>= fun t2 => crawlwayref09_Text.l0 t2 0 0 0 >>= fun q4 => if (decide (q4.2 < 2)) = true then (crawlwayref09_row t2 0 8 >>= fun t13 => some t13) else (crawlwayref09_row t2 0 q4.1 >>= fun t14 => if t14.size + (⟨#[58, 58]⟩ : ByteArray).size ≤ 140737488355328 then crawlwayref09_row t2 (wr .i64 (q4.1 + q4.2)) 8 >>= fun t16 => if (t14 ++ (⟨#[58, 58]⟩ : ByteArray)).size + t16.size ≤ 140737488355328 then some ((t14 ++ (⟨#[58, 58]⟩ : ByteArray)) ++ t16) else none else none)
theorem crawlwayref09_Text_ok (x0 : (Vector Int 16)) (r : ByteArray) (hF : crawlwayref09_Text x0 = some r) (w : World) :
    Calls Tryz.prog 145 #[.agg (Cd.cs (cVec (cInt .u8) 16 (by decide)) x0).toArray] w (fun e w' => e = .returned (.string r) ∧ Below w.heap.size w w') := by
 unfold crawlwayref09_Text at hF
 refine calls_enter (l := [.agg (Cd.cs (cVec (cInt .u8) 16 (by decide)) x0).toArray]) Tryz.func145 rfl rfl rfl ?_
 refine at_start ?_
 refine at_weak [(0, _)] ⟨rfl, trivial⟩ ?_
 refine sr ?_
 refine at_box (cs := Cd.cs (cVec (cInt .u8) 16 (by decide)) x0) rfl rfl rfl ?_
 intro b1
 refine av rfl (r_assign rfl) ?_
 refine nws [(1, _)] ⟨rfl, trivial⟩ ?_
 refine av rfl (r_load_aggc (c := (cVec (cInt .u8) 16 (by decide))) (z := x0) Tryz.isAgg23 Tryz.sizeOf23 rfl (lens_cell .z (Lens.whole _ _))) ?_
 obtain ⟨t2, ht2, hF⟩ := of_bindM hF
 refine at_callB Tryz.func169 rfl (by kernel_rfl) rfl rfl (fun w hw => crawlwayref09_groups_ok _ _ ht2 w) ?_
 refine at_alloc (cs := Cd.cs (cVec (cInt .i64) 8 (by decide)) (Vector.replicate 8 (0 : Int) : (Vector Int 8))) Tryz.zeroValue186 rfl rfl ?_
 intro b3
 refine at_store (c := (cVec (cInt .i64) 8 (by decide))) (z := t2) .z (Lens.whole _ _) Tryz.sizeOf186 rfl rfl rfl ?_
 refine at_nil ?_
 refine at_drop (H := _) (.s .z) ?_
 refine at_weak [(3, _)] ⟨rfl, trivial⟩ ?_
 refine at_then_normal ?_
 refine sr ?_
 refine av rfl (r_assign rfl) ?_
 refine nws [(3, _), (4, _)] ⟨rfl, rfl, trivial⟩ ?_
 refine av rfl (r_assign rfl) ?_
 refine nwt [(3, _), (4, _), (5, _)] ⟨rfl, rfl, rfl, trivial⟩ ?_
 refine at_seq ?_
 refine sr ?_
 refine av rfl (r_assign rfl) ?_
 refine nwt [(3, _), (4, _), (5, _), (6, _)] ⟨rfl, rfl, rfl, rfl, trivial⟩ ?_
 refine at_block ?_
 obtain ⟨q4, hq4, hF⟩ := of_bindM hF
 refine at_weak [(3, _), (4, _), (5, _), (6, _)] ⟨rfl, rfl, rfl, rfl, trivial⟩ ?_
 refine at_loop_n (B := 0) (A := fun Y => At 36 [(3, .pointer (some ⟨b3, 0, none⟩)), (4, .int .i64 q4.1), (5, .int .i64 q4.2)] (Wd w [cellsE b3 (Cd.cs (cVec (cInt .i64) 8 (by decide)) t2) 186]) Y) ?_ ?_
 ·intro K
  refine crawlwayref09_Text.l0.partial_correctness t2 (motive := fun i5 i6 i7 x => KN (fun Y => At 36 [(3, .pointer (some ⟨b3, 0, none⟩)), (4, .int .i64 x.1), (5, .int .i64 x.2)] (Wd w [cellsE b3 (Cd.cs (cVec (cInt .i64) 8 (by decide)) t2) 186]) Y) _ 0 → Round (fun Y => At 36 [(3, .pointer (some ⟨b3, 0, none⟩)), (4, .int .i64 i5), (5, .int .i64 i6), (6, .int .i64 i7)] (Wd w [cellsE b3 (Cd.cs (cVec (cInt .i64) 8 (by decide)) t2) 186]) Y) _ _ _) ?_ _ _ _ _ hq4 K
  ·clear K hF
   intro g ih i5 i6 i7 x hF K
   refine at_round ?_
   refine at_seq ?_
   refine sr ?_
   refine av rfl (r_move rfl) ?_
   refine av rfl (r_ilss rfl rfl) ?_
   refine nwt [(3, _), (4, _), (5, _), (6, _), (10, _)] ⟨rfl, rfl, rfl, rfl, rfl, trivial⟩ ?_
   rcases of_ite hF with ⟨h8, hF⟩ | ⟨h8, hF⟩
   ·refine at_cond_true rfl h8 ?_
    refine sn ?_
    refine at_seq ?_
    refine at_block ?_
    refine sr ?_
    refine av rfl (r_load_aggc (c := (cVec (cInt .i64) 8 (by decide))) (z := t2) Tryz.isAgg186 Tryz.sizeOf186 rfl (lens_cell .z (Lens.whole _ _))) ?_
    refine av rfl (r_move rfl) ?_
    obtain ⟨t9, ht9, hF⟩ := of_bindM hF
    refine at_callB Tryz.func170 rfl (by kernel_rfl) rfl rfl (fun w hw => crawlwayref09_run_ok _ _ _ ht9 w) ?_
    refine av rfl (r_move rfl) ?_
    refine av rfl (r_igtr rfl rfl) ?_
    refine nwt [(3, _), (4, _), (5, _), (6, _), (17, _)] ⟨rfl, rfl, rfl, rfl, rfl, trivial⟩ ?_
    rcases of_ite hF with ⟨h10, hF⟩ | ⟨h10, hF⟩
    ·refine at_cond_true rfl h10 ?_
     refine sr ?_
     refine av rfl (r_move rfl) ?_
     refine av rfl (r_assign rfl) ?_
     refine nwt [(3, _), (4, _), (6, _)] ⟨rfl, rfl, rfl, trivial⟩ ?_
     refine at_region ?_
     refine av rfl (r_load_aggc (c := (cVec (cInt .i64) 8 (by decide))) (z := t2) Tryz.isAgg186 Tryz.sizeOf186 rfl (lens_cell .z (Lens.whole _ _))) ?_
     refine av rfl (r_move rfl) ?_
     obtain ⟨t11, ht11, hF⟩ := of_bindM hF
     refine at_callB Tryz.func170 rfl (by kernel_rfl) rfl rfl (fun w hw => crawlwayref09_run_ok _ _ _ ht11 w) ?_
     refine av rfl (r_assign rfl) ?_
     refine at_nil ?_
     refine at_weak [(3, _), (4, _), (5, _), (6, _)] ⟨rfl, rfl, rfl, rfl, trivial⟩ ?_
     refine at_blk_normal (at_then_normal ?_)
     refine at_region ?_
     refine av rfl (r_move rfl) ?_
     refine av rfl (r_iadd rfl rfl) ?_
     refine av rfl (r_assign rfl) ?_
     refine nwt [(3, _), (4, _), (5, _), (6, _)] ⟨rfl, rfl, rfl, rfl, trivial⟩ ?_
     exact at_weak_k (ih _ _ _ _ hF K) ⟨rfl, rfl, rfl, rfl, trivial⟩
    ·refine at_cond_false rfl h10 ?_
     refine at_skip ?_
     refine at_blk_normal (at_then_normal ?_)
     refine at_region ?_
     refine av rfl (r_move rfl) ?_
     refine av rfl (r_iadd rfl rfl) ?_
     refine av rfl (r_assign rfl) ?_
     refine nwt [(3, _), (4, _), (5, _), (6, _)] ⟨rfl, rfl, rfl, rfl, trivial⟩ ?_
     exact at_weak_k (ih _ _ _ _ hF K) ⟨rfl, rfl, rfl, rfl, trivial⟩
   ·refine at_cond_false rfl h8 ?_
    refine at_exit ?_
    refine at_then_exit (at_then_exit ?_)
    obtain rfl := of_some hF
    exact at_weak_k K ⟨rfl, rfl, rfl, trivial⟩
 ·skip
  skip
  refine at_blk_same ?_
  refine at_then_normal ?_
  refine at_seq ?_
  refine sr ?_
  refine av rfl (r_move rfl) ?_
  refine av rfl (r_ilss rfl rfl) ?_
  refine nwt [(3, _), (4, _), (5, _), (23, _)] ⟨rfl, rfl, rfl, rfl, trivial⟩ ?_
  rcases of_ite hF with ⟨h12, hF⟩ | ⟨h12, hF⟩
  ·refine at_cond_true rfl h12 ?_
   refine sr ?_
   refine av rfl (r_load_aggc (c := (cVec (cInt .i64) 8 (by decide))) (z := t2) Tryz.isAgg186 Tryz.sizeOf186 rfl (lens_cell .z (Lens.whole _ _))) ?_
   obtain ⟨t13, ht13, hF⟩ := of_bindM hF
   refine at_callB Tryz.func171 rfl (by kernel_rfl) rfl rfl (fun w hw => crawlwayref09_row_ok _ _ _ _ ht13 w) ?_
   refine av rfl (r_assign rfl) ?_
   refine at_nil ?_
   refine at_drop (H := _) .z ?_
   refine at_weak [(2, _)] ⟨rfl, trivial⟩ ?_
   refine at_then_normal ?_
   refine rt ?_
   have K := of_some hF
   subst K
   exact at_return1 rfl rfl (fun w1 hw => ⟨rfl, hw.below⟩)
  ·refine at_cond_false rfl h12 ?_
   refine sn ?_
   refine at_seq ?_
   refine at_draw (by kernel_rfl) (by kernel_rfl) (fun _ h => h.drew) ?_
   refine atq_val rfl rfl rfl (r_load_aggc (c := (cVec (cInt .i64) 8 (by decide))) (z := t2) Tryz.isAgg186 Tryz.sizeOf186 rfl (lens_cell .z (Lens.whole _ _))) ?_
   refine atq_val rfl rfl rfl (r_move rfl) ?_
   obtain ⟨t14, ht14, hF⟩ := of_bindM hF
   refine atq_call Tryz.func171 rfl (by kernel_rfl) rfl rfl (fun w hw => (crawlwayref09_row_ok _ _ _ _ ht14 w).mono fun _ _ h => ⟨h.1, hw.call h.2⟩) ?_
   obtain ⟨h15, hF⟩ := of_guard hF
   refine atq_val rfl rfl rfl (r_concat rfl rfl h15) ?_
   refine atq_val rfl rfl rfl (r_load_aggc (c := (cVec (cInt .i64) 8 (by decide))) (z := t2) Tryz.isAgg186 Tryz.sizeOf186 rfl (lens_cell .z (Lens.whole _ _))) ?_
   refine atq_val rfl rfl rfl (r_move rfl) ?_
   refine atq_val rfl rfl rfl (r_move rfl) ?_
   refine atq_val rfl rfl rfl (r_iadd rfl rfl) ?_
   obtain ⟨t16, ht16, hF⟩ := of_bindM hF
   refine atq_call Tryz.func171 rfl (by kernel_rfl) rfl rfl (fun w hw => (crawlwayref09_row_ok _ _ _ _ ht16 w).mono fun _ _ h => ⟨h.1, hw.call h.2⟩) ?_
   obtain ⟨h17, hF⟩ := of_guard hF
   refine atq_val rfl rfl rfl (r_concat rfl rfl h17) ?_
   refine atq_val rfl rfl rfl (r_assign rfl) ?_
   refine atq_nil ?_
   refine at_drop (H := _) .z ?_
   refine at_weak [(2, _)] ⟨rfl, trivial⟩ ?_
   refine at_then_normal ?_
   refine at_ret ?_
   have K := of_some hF
   subst K
   exact at_return1 rfl rfl (fun w1 hw => ⟨rfl, hw.below⟩)
end Go.Proofs.YtkkmmpofdcccmaaGreatDoor
namespace Go.Proofs.YtkkmmpofdcccmaaGreatDoor
open E Go.RowKit
abbrev zqG5_0 : S_api_Addr := ({ f_V := (0 : Int), f_B := (Vector.replicate 16 (0 : Int) : (Vector Int 16)) } : S_api_Addr)
def addr_Four (x0 : (Vector Int 4)) : Option (S_api_Addr) :=
  some ({ { ({ f_V := (0 : Int), f_B := (Vector.replicate 16 (0 : Int) : (Vector Int 16)) } : S_api_Addr) with f_V := 4 } with f_B := vcopy (({ ({ f_V := (0 : Int), f_B := (Vector.replicate 16 (0 : Int) : (Vector Int 16)) } : S_api_Addr) with f_V := 4 }).f_B) (Int.toNat 0) (List.take (Int.toNat (16 - 0)) (Vector.toList x0)) })
set_option maxHeartbeats 3200000 in
theorem addr_Four_ok (x0 : (Vector Int 4)) (r : S_api_Addr) (hF : addr_Four x0 = some r) (w : World) :
    Calls Tryz.prog 182 #[.agg (Cd.cs (cVec (cInt .u8) 4 (by decide)) x0).toArray] w (fun e w' => e = .returned (.agg (Cd.cs c_api_Addr r).toArray) ∧ Below w.heap.size w w') := by
 unfold addr_Four at hF
 refine calls_enter (l := [.agg (Cd.cs (cVec (cInt .u8) 4 (by decide)) x0).toArray]) Tryz.func182 rfl rfl rfl ?_
 refine at_start ?_
 refine at_weak [(0, _)] ⟨rfl, trivial⟩ ?_
 refine sr ?_
 refine at_box (cs := Cd.cs (cVec (cInt .u8) 4 (by decide)) x0) rfl rfl rfl ?_
 intro b1
 refine at_alloc (cs := Cd.cs c_api_Addr zqG5_0) Tryz.zeroValue25 rfl rfl ?_
 intro b2
 refine nws [(1, _), (2, _)] ⟨rfl, rfl, trivial⟩ ?_
 refine av rfl (r_build_struct (zs := Cd.cs c_api_Addr zqG5_0) (cs := Cd.cs c_api_Addr ({ zqG5_0 with f_V := 4 })) Tryz.underlying25 Tryz.zeroValue25 rfl (places_api_Addr_25) rfl (fill_step (c := (cInt .i64)) (z := 4) rfl (c_api_Addr_f_V zqG5_0) rfl rfl)) ?_
 refine at_alloc (cs := Cd.cs c_api_Addr zqG5_0) Tryz.zeroValue25 rfl rfl ?_
 intro b3
 refine at_store (c := c_api_Addr) (z := { zqG5_0 with f_V := 4 }) .z (Lens.whole _ _) Tryz.sizeOf25 rfl rfl rfl ?_
 refine nwt [(1, _), (2, _), (3, _)] ⟨rfl, rfl, rfl, trivial⟩ ?_
 refine at_seq ?_
 refine at_weak [(1, _), (2, _), (3, _)] ⟨rfl, rfl, rfl, trivial⟩ ?_
 refine at_inv [.q 5 (fun g4 => .pointer (some ⟨b3, 0 + 1, none⟩)) [] 0 0, .q 6 (fun g4 => .slice (some ⟨b3, 0 + 1, none⟩) (Vector.toList (({ zqG5_0 with f_V := 4 }).f_B)).length 16) [0] 0 0, .q 7 (fun g4 => .slice (some ⟨b1, 0, none⟩) (Vector.toList x0).length 4) [] 0 0, .st 0 (some (8, fun g4 => .int .i64 (min (List.length (Vector.toList x0)) (Int.toNat (16 - 0)) : Nat))) [1, 2]] (fun g4 s => match s with | 0 => (Wd w [cellsE b3 (Cd.cs c_api_Addr ({ zqG5_0 with f_V := 4 })) 25, cellsE b2 (Cd.cs c_api_Addr zqG5_0) 25, cellsE b1 (Cd.cs (cVec (cInt .u8) 4 (by decide)) x0) 159]) | _ => (Wd w [cellsE b3 (Cd.cs c_api_Addr ({ { zqG5_0 with f_V := 4 } with f_B := vcopy (({ zqG5_0 with f_V := 4 }).f_B) (Int.toNat 0) (List.take (Int.toNat (16 - 0)) (Vector.toList x0)) })) 25, cellsE b2 (Cd.cs c_api_Addr zqG5_0) 25, cellsE b1 (Cd.cs (cVec (cInt .u8) 4 (by decide)) x0) 159])) 1 (by kernel_rfl) (by kernel_rfl) (by kernel_rfl) (by kernel_rfl) (by kernel_rfl) ⟨fun _ _ _ => rfl, fun _ _ _ => rfl, fun _ _ _ => rfl, fun _ _ _ => rfl, trivial⟩ (by kernel_rfl) (fun _ h => ⟨fun _ => (0, none, 0, none), h.drew⟩) ⟨?_, ?_, ?_, ?_, trivial⟩ ?_
 ·intro Lx g4 s K hl hh k
  show At 10 ((1, _) :: (2, _) :: (3, _) :: Lx) _ _
  refine av rfl (r_fieldAddr (fo := 1) Tryz.underlying25 rfl rfl (fun w => ⟨_, Tryz.sizeOf23 w⟩) rfl) ?_
  exact at_nil k
 ·intro Lx g4 s K hl hh k
  show At 10 ((5, _) :: (1, _) :: (2, _) :: (3, _) :: Lx) _ _
  obtain rfl : s = 0 := by omega
  refine av rfl (r_view_all (c := (cInt .u8)) (({ zqG5_0 with f_V := 4 }).f_B) (by decide) Tryz.underlying23 Tryz.sizeOf5 rfl) ?_
  exact at_nil k
 ·intro Lx g4 s K hl hh k
  show At 10 ((1, _) :: (2, _) :: (3, _) :: Lx) _ _
  obtain rfl : s = 0 := by omega
  refine av rfl (r_slice_vec x0 Tryz.underlying159 Tryz.sizeOf5 rfl) ?_
  exact at_nil k
 ·intro Lx g4 K k
  show At 10 ((6, _) :: (7, _) :: (1, _) :: (2, _) :: (3, _) :: Lx) _ _
  refine at_copy (lo := 0) (hi := 16) (xs := Vector.toList x0) .z (Lens.comp (Lens.whole _ _) (fun z => { { zqG5_0 with f_V := 4 } with f_B := z }) (c_api_Addr_f_B ({ zqG5_0 with f_V := 4 }))) rfl (by decide) Tryz.underlying22 (by kernel_rfl) rfl (rsp_zero (by decide)) (by simp) rfl ⟨_, rfl⟩ (fun w1 hw => (vec_row (hw.ok (Upd.mem (.s (.s .z)))))) rfl ?_
  exact at_nil k
 intro g4
 show At 10 [(5, _), (6, _), (7, _), (8, _), (1, _), (2, _), (3, _)] _ _
 refine at_drop (H := _) (.s (.s .z)) ?_
 refine at_weak [(2, _), (3, _)] ⟨rfl, rfl, trivial⟩ ?_
 refine at_then_normal ?_
 refine sr ?_
 refine av rfl (r_load_aggc (c := c_api_Addr) (z := { { zqG5_0 with f_V := 4 } with f_B := vcopy (({ zqG5_0 with f_V := 4 }).f_B) (Int.toNat 0) (List.take (Int.toNat (16 - 0)) (Vector.toList x0)) }) Tryz.isAgg25 Tryz.sizeOf25 rfl (lens_cell .z (Lens.whole _ _))) ?_
 refine at_store (c := c_api_Addr) (z := { { zqG5_0 with f_V := 4 } with f_B := vcopy (({ zqG5_0 with f_V := 4 }).f_B) (Int.toNat 0) (List.take (Int.toNat (16 - 0)) (Vector.toList x0)) }) (.s .z) (Lens.whole _ _) Tryz.sizeOf25 rfl rfl rfl ?_
 refine at_nil ?_
 refine at_drop (H := _) .z ?_
 refine at_weak [(2, _)] ⟨rfl, trivial⟩ ?_
 refine at_then_normal ?_
 refine at_ret ?_
 have K := of_some hF
 subst K
 exact at_res1 rfl (res_cell (c := c_api_Addr) (y := { { zqG5_0 with f_V := 4 } with f_B := vcopy (({ zqG5_0 with f_V := 4 }).f_B) (Int.toNat 0) (List.take (Int.toNat (16 - 0)) (Vector.toList x0)) }) rfl .z (Lens.whole _ _) Tryz.isAgg25 Tryz.sizeOf25 (.inl rfl)) (fun w1 hw => ⟨rfl, hw.below⟩)
def addr_Six (x0 : (Vector Int 16)) : Option (S_api_Addr) :=
  some ({ { ({ f_V := (0 : Int), f_B := (Vector.replicate 16 (0 : Int) : (Vector Int 16)) } : S_api_Addr) with f_V := 6 } with f_B := x0 })
theorem addr_Six_ok (x0 : (Vector Int 16)) (r : S_api_Addr) (hF : addr_Six x0 = some r) (w : World) :
    Calls Tryz.prog 180 #[.agg (Cd.cs (cVec (cInt .u8) 16 (by decide)) x0).toArray] w (fun e w' => e = .returned (.agg (Cd.cs c_api_Addr r).toArray) ∧ Below w.heap.size w w') := by
 unfold addr_Six at hF
 refine calls_enter (l := [.agg (Cd.cs (cVec (cInt .u8) 16 (by decide)) x0).toArray]) Tryz.func180 rfl rfl rfl ?_
 refine at_start ?_
 refine at_weak [(0, _)] ⟨rfl, trivial⟩ ?_
 refine sr ?_
 refine at_box (cs := Cd.cs (cVec (cInt .u8) 16 (by decide)) x0) rfl rfl rfl ?_
 intro b1
 refine at_alloc (cs := Cd.cs c_api_Addr zqG5_0) Tryz.zeroValue25 rfl rfl ?_
 intro b2
 refine nws [(1, _), (2, _)] ⟨rfl, rfl, trivial⟩ ?_
 refine av rfl (r_load_aggc (c := (cVec (cInt .u8) 16 (by decide))) (z := x0) Tryz.isAgg23 Tryz.sizeOf23 rfl (lens_cell (.s .z) (Lens.whole _ _))) ?_
 refine av rfl (r_build_struct (zs := Cd.cs c_api_Addr zqG5_0) (cs := Cd.cs c_api_Addr ({ { zqG5_0 with f_V := 6 } with f_B := x0 })) Tryz.underlying25 Tryz.zeroValue25 rfl (places_api_Addr_25) rfl (fill_step (c := (cInt .i64)) (z := 6) rfl (c_api_Addr_f_V zqG5_0) rfl (fill_step (c := (cVec (cInt .u8) 16 (by decide))) (z := x0) rfl (c_api_Addr_f_B ({ zqG5_0 with f_V := 6 })) rfl rfl))) ?_
 refine at_store (c := c_api_Addr) (z := { { zqG5_0 with f_V := 6 } with f_B := x0 }) .z (Lens.whole _ _) Tryz.sizeOf25 rfl rfl rfl ?_
 refine at_nil ?_
 refine at_drop (H := _) (.s .z) ?_
 refine at_weak [(2, _)] ⟨rfl, trivial⟩ ?_
 refine at_then_normal ?_
 refine at_ret ?_
 have K := of_some hF
 subst K
 exact at_res1 rfl (res_cell (c := c_api_Addr) (y := { { zqG5_0 with f_V := 6 } with f_B := x0 }) rfl .z (Lens.whole _ _) Tryz.isAgg25 Tryz.sizeOf25 (.inl rfl)) (fun w1 hw => ⟨rfl, hw.below⟩)
def addr_Right (x0 : S_api_Addr) : Option (Bool) :=
  if (x0.f_V == 6) = true then (some true) else (if (x0.f_V == 4) = true then (if 4 ≤ (lsub (Vector.toList x0.f_B) 0 4).length then addr_Four (lvec 4 (lsub (Vector.toList x0.f_B) 0 4)) >>= fun t8 => some (decide (x0 = t8)) else none) else (some false))
theorem addr_Right_ok (x0 : S_api_Addr) (r : Bool) (hF : addr_Right x0 = some r) (w : World) :
    Calls Tryz.prog 158 #[.agg (Cd.cs c_api_Addr x0).toArray] w (fun e w' => e = .returned (.bool r) ∧ Below w.heap.size w w') := by
 unfold addr_Right at hF
 refine calls_enter (l := [.agg (Cd.cs c_api_Addr x0).toArray]) Tryz.func158 rfl rfl rfl ?_
 refine at_start ?_
 refine at_weak [(0, _)] ⟨rfl, trivial⟩ ?_
 refine sr ?_
 refine at_box (cs := Cd.cs c_api_Addr x0) rfl rfl rfl ?_
 intro b1
 refine av rfl (r_assign rfl) ?_
 refine nwt [(1, _)] ⟨rfl, trivial⟩ ?_
 refine at_seq ?_
 refine at_draw (by kernel_rfl) (by kernel_rfl) (fun _ h => h.drew) ?_
 refine atq_val rfl rfl rfl (r_fieldAddr (fo := 0) Tryz.underlying25 rfl rfl (fun w => ⟨_, Tryz.sizeOf3 w⟩) rfl) ?_
 refine atq_val rfl rfl rfl (r_load_cell Tryz.isAgg3 rfl (lens_cell0 (c := (cInt .i64)) (y := x0.f_V) .z (Lens.comp (Lens.whole _ _) (fun z => { x0 with f_V := z }) (c_api_Addr_f_V x0)) rfl)) ?_
 refine atq_val rfl rfl rfl (r_ieql rfl rfl) ?_
 refine atq_val rfl rfl rfl (r_move rfl) ?_
 rcases of_ite hF with ⟨h2, hF⟩ | ⟨h2, hF⟩
 ·refine atq_fix (g := 6) rfl h2 ?_
  refine atq_guard_no rfl rfl rfl rfl rfl ?_
  refine atq_guard_no rfl rfl rfl rfl rfl ?_
  refine atq_guard_no rfl rfl rfl rfl rfl ?_
  refine atq_guard_no rfl rfl rfl rfl rfl ?_
  refine atq_guard_undef rfl rfl rfl rfl ?_
  refine atq_guard_undef rfl rfl rfl rfl ?_
  refine atq_guard_undef rfl rfl rfl rfl ?_
  refine atq_guard_undef rfl rfl rfl rfl ?_
  refine atq_guard_undef rfl rfl rfl rfl ?_
  refine atq_guard_undef rfl rfl rfl rfl ?_
  refine atq_guard_undef rfl rfl rfl rfl ?_
  refine atq_guard_no rfl rfl rfl rfl rfl ?_
  refine atq_val rfl rfl rfl (r_pick rfl rfl rfl) ?_
  refine atq_val rfl rfl rfl (r_assign rfl) ?_
  refine atq_nil ?_
  refine at_drop (H := _) .z ?_
  refine at_weak [(2, _)] ⟨rfl, trivial⟩ ?_
  refine at_then_normal ?_
  refine at_ret ?_
  have K := of_some hF
  subst K
  exact at_return1 rfl rfl (fun w1 hw => ⟨rfl, hw.below⟩)
 ·refine atq_fix (g := 6) rfl h2 ?_
  refine atq_guard_yes rfl rfl rfl ?_
  refine atq_val rfl rfl rfl (r_fieldAddr (fo := 0) Tryz.underlying25 rfl rfl (fun w => ⟨_, Tryz.sizeOf3 w⟩) rfl) ?_
  refine atq_guard_yes rfl rfl rfl ?_
  refine atq_val rfl rfl rfl (r_load_cell Tryz.isAgg3 rfl (lens_cell0 (c := (cInt .i64)) (y := x0.f_V) .z (Lens.comp (Lens.whole _ _) (fun z => { x0 with f_V := z }) (c_api_Addr_f_V x0)) rfl)) ?_
  refine atq_guard_yes rfl rfl rfl ?_
  refine atq_val rfl rfl rfl (r_ieql rfl rfl) ?_
  refine atq_guard_yes rfl rfl rfl ?_
  refine atq_val rfl rfl rfl (r_move rfl) ?_
  rcases of_ite hF with ⟨h3, hF⟩ | ⟨h3, hF⟩
  ·refine atq_fix (g := 10) rfl h3 ?_
   refine atq_guard_yes rfl rfl rfl ?_
   refine atq_val rfl rfl rfl (r_load_aggc (c := c_api_Addr) (z := x0) Tryz.isAgg25 Tryz.sizeOf25 rfl (lens_cell .z (Lens.whole _ _))) ?_
   refine atq_guard_yes rfl rfl rfl ?_
   refine atq_val rfl rfl rfl (r_fieldAddr (fo := 1) Tryz.underlying25 rfl rfl (fun w => ⟨_, Tryz.sizeOf23 w⟩) rfl) ?_
   refine atq_guard_yes rfl rfl rfl ?_
   refine atq_val rfl rfl rfl (r_view (c := (cInt .u8)) (v := x0.f_B) (l := 0) (h := 4) Tryz.underlying23 Tryz.sizeOf5 rfl rfl ⟨_, rfl⟩ (by decide)) ?_
   refine atq_guard_yes rfl rfl rfl ?_
   obtain ⟨h4, hF⟩ := of_guard hF
   refine atq_val rfl rfl rfl (r_arrptr Tryz.underlying159 rfl h4) ?_
   refine atq_guard_yes rfl rfl rfl ?_
   obtain ⟨b5, o6, hp7⟩ : ∃ b o, rsp (some ⟨b1, 0 + 1, none⟩) 16 0 (Cd.sz (cInt .u8)) = some ⟨b, o, none⟩ := rsp_plain
   refine atq_val rfl rfl rfl (r_load_aggc (c := (cVec (cInt .u8) 4 (by decide))) (z := lvec 4 (lsub (Vector.toList x0.f_B) 0 4)) Tryz.isAgg159 Tryz.sizeOf159 (by rw [← hp7]; rfl) (fun w1 hw => row_lvec (Row.sub (lens_row .z (Lens.comp (Lens.whole _ _) (fun z => { x0 with f_B := z }) (c_api_Addr_f_B x0)) hw) (vbnd (by decide))) h4 hp7)) ?_
   refine atq_guard_yes rfl rfl rfl ?_
   obtain ⟨t8, ht8, hF⟩ := of_bindM hF
   refine atq_call Tryz.func182 rfl (by kernel_rfl) rfl rfl (fun w hw => (addr_Four_ok _ _ ht8 w).mono fun _ _ h => ⟨h.1, hw.call h.2⟩) ?_
   refine atq_guard_yes rfl rfl rfl ?_
   refine atq_val rfl rfl rfl (r_eqagg (c := c_api_Addr) (a := x0) (b := t8) (eq_api_Addr_25) rfl Tryz.eqGuardType25 rfl rfl (.inl rfl) rfl) ?_
   refine atq_guard_yes rfl rfl rfl ?_
   refine atq_val rfl rfl rfl (r_pick rfl rfl rfl) ?_
   refine atq_val rfl rfl rfl (r_pick rfl rfl rfl) ?_
   refine atq_val rfl rfl rfl (r_assign rfl) ?_
   refine atq_nil ?_
   refine at_drop (H := _) .z ?_
   refine at_weak [(2, _)] ⟨rfl, trivial⟩ ?_
   refine at_then_normal ?_
   refine at_ret ?_
   have K := of_some hF
   subst K
   exact at_return1 rfl rfl (fun w1 hw => ⟨rfl, hw.below⟩)
  ·refine atq_fix (g := 10) rfl h3 ?_
   refine atq_guard_no rfl rfl rfl rfl rfl ?_
   refine atq_guard_no rfl rfl rfl rfl rfl ?_
   refine atq_guard_no rfl rfl rfl rfl rfl ?_
   refine atq_guard_no rfl rfl rfl rfl rfl ?_
   refine atq_guard_no rfl rfl rfl rfl rfl ?_
   refine atq_guard_no rfl rfl rfl rfl rfl ?_
   refine atq_guard_no rfl rfl rfl rfl rfl ?_
   refine atq_guard_yes rfl rfl rfl ?_
   refine atq_val rfl rfl rfl (r_pick rfl rfl rfl) ?_
   refine atq_val rfl rfl rfl (r_pick rfl rfl rfl) ?_
   refine atq_val rfl rfl rfl (r_assign rfl) ?_
   refine atq_nil ?_
   refine at_drop (H := _) .z ?_
   refine at_weak [(2, _)] ⟨rfl, trivial⟩ ?_
   refine at_then_normal ?_
   refine at_ret ?_
   have K := of_some hF
   subst K
   exact at_return1 rfl rfl (fun w1 hw => ⟨rfl, hw.below⟩)
def addr_Width (x0 : S_api_Addr) : Option (Int) :=
  addr_Right x0 >>= fun t2 => if (!t2) = true then (some 0) else (if (x0.f_V == 4) = true then (some 32) else (some 128))
theorem addr_Width_ok (x0 : S_api_Addr) (r : Int) (hF : addr_Width x0 = some r) (w : World) :
    Calls Tryz.prog 156 #[.agg (Cd.cs c_api_Addr x0).toArray] w (fun e w' => e = .returned (.int .i64 r) ∧ Below w.heap.size w w') := by
 unfold addr_Width at hF
 refine calls_enter (l := [.agg (Cd.cs c_api_Addr x0).toArray]) Tryz.func156 rfl rfl rfl ?_
 refine at_start ?_
 refine at_weak [(0, _)] ⟨rfl, trivial⟩ ?_
 refine sr ?_
 refine at_box (cs := Cd.cs c_api_Addr x0) rfl rfl rfl ?_
 intro b1
 refine av rfl (r_assign rfl) ?_
 refine nwt [(1, _)] ⟨rfl, trivial⟩ ?_
 refine at_seq ?_
 refine at_block ?_
 refine sr ?_
 refine av rfl (r_load_aggc (c := c_api_Addr) (z := x0) Tryz.isAgg25 Tryz.sizeOf25 rfl (lens_cell .z (Lens.whole _ _))) ?_
 obtain ⟨t2, ht2, hF⟩ := of_bindM hF
 refine at_callB Tryz.func158 rfl (by kernel_rfl) rfl rfl (fun w hw => addr_Right_ok _ _ ht2 w) ?_
 refine av rfl (r_not rfl) ?_
 refine av rfl (r_assign rfl) ?_
 refine nwt [(1, _), (3, _)] ⟨rfl, rfl, trivial⟩ ?_
 rcases of_ite hF with ⟨h3, hF⟩ | ⟨h3, hF⟩
 ·refine at_cond_true rfl h3 ?_
  refine sr ?_
  refine av rfl (r_assign rfl) ?_
  refine at_nil ?_
  refine at_drop (H := _) .z ?_
  refine at_weak [(2, _)] ⟨rfl, trivial⟩ ?_
  refine at_then_normal ?_
  refine at_ret ?_
  refine at_blk_ret (at_then_ret ?_)
  have K := of_some hF
  subst K
  exact at_return1 rfl rfl (fun w1 hw => ⟨rfl, hw.below⟩)
 ·refine at_cond_false rfl h3 ?_
  refine sr ?_
  refine av rfl (r_fieldAddr (fo := 0) Tryz.underlying25 rfl rfl (fun w => ⟨_, Tryz.sizeOf3 w⟩) rfl) ?_
  refine av rfl (r_load_cell Tryz.isAgg3 rfl (lens_cell0 (c := (cInt .i64)) (y := x0.f_V) .z (Lens.comp (Lens.whole _ _) (fun z => { x0 with f_V := z }) (c_api_Addr_f_V x0)) rfl)) ?_
  refine av rfl (r_ieql rfl rfl) ?_
  refine av rfl (r_assign rfl) ?_
  refine at_nil ?_
  refine at_drop (H := _) .z ?_
  refine at_weak [(7, _)] ⟨rfl, trivial⟩ ?_
  refine at_then_normal ?_
  rcases of_ite hF with ⟨h4, hF⟩ | ⟨h4, hF⟩
  ·refine at_cond_true rfl h4 ?_
   refine sr ?_
   refine av rfl (r_assign rfl) ?_
   refine nwt [(2, _)] ⟨rfl, trivial⟩ ?_
   refine at_ret ?_
   refine at_blk_ret (at_then_ret ?_)
   have K := of_some hF
   subst K
   exact at_return1 rfl rfl (fun w1 hw => ⟨rfl, hw.below⟩)
  ·refine at_cond_false rfl h4 ?_
   refine at_skip ?_
   refine at_blk_normal (at_then_normal ?_)
   refine sr ?_
   refine av rfl (r_assign rfl) ?_
   refine nwt [(2, _)] ⟨rfl, trivial⟩ ?_
   refine at_ret ?_
   have K := of_some hF
   subst K
   exact at_return1 rfl rfl (fun w1 hw => ⟨rfl, hw.below⟩)
def addr_Text (x0 : S_api_Addr) : Option (ByteArray) :=
  addr_Right x0 >>= fun t2 => if (!t2) = true then (some (⟨#[]⟩)) else (if (x0.f_V == 4) = true then (if 4 ≤ (lsub (Vector.toList x0.f_B) 0 4).length then quad_Text (lvec 4 (lsub (Vector.toList x0.f_B) 0 4)) >>= fun t9 => some t9 else none) else (colon_Text x0.f_B >>= fun t10 => some t10))
theorem addr_Text_ok (x0 : S_api_Addr) (r : ByteArray) (hF : addr_Text x0 = some r) (w : World) (hg_strconv_uint64pow10 : GV_strconv_uint64pow10 w) :
    Calls Tryz.prog 157 #[.agg (Cd.cs c_api_Addr x0).toArray] w (fun e w' => e = .returned (.string r) ∧ Below w.heap.size w w') := by
 unfold addr_Text at hF
 refine calls_enter (l := [.agg (Cd.cs c_api_Addr x0).toArray]) Tryz.func157 rfl rfl rfl ?_
 refine at_start ?_
 refine at_weak [(0, _)] ⟨rfl, trivial⟩ ?_
 refine sr ?_
 refine at_box (cs := Cd.cs c_api_Addr x0) rfl rfl rfl ?_
 intro b1
 refine av rfl (r_assign rfl) ?_
 refine nwt [(1, _)] ⟨rfl, trivial⟩ ?_
 refine at_seq ?_
 refine at_block ?_
 refine sr ?_
 refine av rfl (r_load_aggc (c := c_api_Addr) (z := x0) Tryz.isAgg25 Tryz.sizeOf25 rfl (lens_cell .z (Lens.whole _ _))) ?_
 obtain ⟨t2, ht2, hF⟩ := of_bindM hF
 refine at_callB Tryz.func158 rfl (by kernel_rfl) rfl rfl (fun w hw => addr_Right_ok _ _ ht2 w) ?_
 refine av rfl (r_not rfl) ?_
 refine av rfl (r_assign rfl) ?_
 refine nwt [(1, _), (3, _)] ⟨rfl, rfl, trivial⟩ ?_
 rcases of_ite hF with ⟨h3, hF⟩ | ⟨h3, hF⟩
 ·refine at_cond_true rfl h3 ?_
  refine sr ?_
  refine av rfl (r_assign rfl) ?_
  refine at_nil ?_
  refine at_drop (H := _) .z ?_
  refine at_weak [(2, _)] ⟨rfl, trivial⟩ ?_
  refine at_then_normal ?_
  refine at_ret ?_
  refine at_blk_ret (at_then_ret ?_)
  have K := of_some hF
  subst K
  exact at_return1 rfl rfl (fun w1 hw => ⟨rfl, hw.below⟩)
 ·refine at_cond_false rfl h3 ?_
  refine sr ?_
  refine av rfl (r_fieldAddr (fo := 0) Tryz.underlying25 rfl rfl (fun w => ⟨_, Tryz.sizeOf3 w⟩) rfl) ?_
  refine av rfl (r_load_cell Tryz.isAgg3 rfl (lens_cell0 (c := (cInt .i64)) (y := x0.f_V) .z (Lens.comp (Lens.whole _ _) (fun z => { x0 with f_V := z }) (c_api_Addr_f_V x0)) rfl)) ?_
  refine av rfl (r_ieql rfl rfl) ?_
  refine av rfl (r_assign rfl) ?_
  refine nwt [(1, _), (7, _)] ⟨rfl, rfl, trivial⟩ ?_
  rcases of_ite hF with ⟨h4, hF⟩ | ⟨h4, hF⟩
  ·refine at_cond_true rfl h4 ?_
   refine sr ?_
   refine av rfl (r_fieldAddr (fo := 1) Tryz.underlying25 rfl rfl (fun w => ⟨_, Tryz.sizeOf23 w⟩) rfl) ?_
   refine av rfl (r_view (c := (cInt .u8)) (v := x0.f_B) (l := 0) (h := 4) Tryz.underlying23 Tryz.sizeOf5 rfl rfl ⟨_, rfl⟩ (by decide)) ?_
   obtain ⟨h5, hF⟩ := of_guard hF
   refine av rfl (r_arrptr Tryz.underlying159 rfl h5) ?_
   obtain ⟨b6, o7, hp8⟩ : ∃ b o, rsp (some ⟨b1, 0 + 1, none⟩) 16 0 (Cd.sz (cInt .u8)) = some ⟨b, o, none⟩ := rsp_plain
   refine av rfl (r_load_aggc (c := (cVec (cInt .u8) 4 (by decide))) (z := lvec 4 (lsub (Vector.toList x0.f_B) 0 4)) Tryz.isAgg159 Tryz.sizeOf159 (by rw [← hp8]; rfl) (fun w1 hw => row_lvec (Row.sub (lens_row .z (Lens.comp (Lens.whole _ _) (fun z => { x0 with f_B := z }) (c_api_Addr_f_B x0)) hw) (vbnd (by decide))) h5 hp8)) ?_
   obtain ⟨t9, ht9, hF⟩ := of_bindM hF
   refine at_callB Tryz.func183 rfl (by kernel_rfl) rfl rfl (fun w hw => quad_Text_ok _ _ ht9 w (hg_strconv_uint64pow10.on hw.below)) ?_
   refine av rfl (r_assign rfl) ?_
   refine at_nil ?_
   refine at_drop (H := _) .z ?_
   refine at_weak [(2, _)] ⟨rfl, trivial⟩ ?_
   refine at_then_normal ?_
   refine at_ret ?_
   refine at_blk_ret (at_then_ret ?_)
   have K := of_some hF
   subst K
   exact at_return1 rfl rfl (fun w1 hw => ⟨rfl, hw.below⟩)
  ·refine at_cond_false rfl h4 ?_
   refine at_skip ?_
   refine at_blk_normal (at_then_normal ?_)
   refine sr ?_
   refine av rfl (r_fieldAddr (fo := 1) Tryz.underlying25 rfl rfl (fun w => ⟨_, Tryz.sizeOf23 w⟩) rfl) ?_
   refine av rfl (r_load_aggc (c := (cVec (cInt .u8) 16 (by decide))) (z := x0.f_B) Tryz.isAgg23 Tryz.sizeOf23 rfl (lens_cell .z (Lens.comp (Lens.whole _ _) (fun z => { x0 with f_B := z }) (c_api_Addr_f_B x0)))) ?_
   obtain ⟨t10, ht10, hF⟩ := of_bindM hF
   refine at_callB Tryz.func184 rfl (by kernel_rfl) rfl rfl (fun w hw => colon_Text_ok _ _ ht10 w) ?_
   refine av rfl (r_assign rfl) ?_
   refine at_nil ?_
   refine at_drop (H := _) .z ?_
   refine at_weak [(2, _)] ⟨rfl, trivial⟩ ?_
   refine at_then_normal ?_
   refine at_ret ?_
   have K := of_some hF
   subst K
   exact at_return1 rfl rfl (fun w1 hw => ⟨rfl, hw.below⟩)
def addr_Parse (x0 : ByteArray) : Option (S_api_Addr × Int) :=
  lines_Cut x0 58 >>= fun t2 => if t2.2.2 = true then (colon_Parse x0 >>= fun t4 => if (t4.2 != 0) = true then (some (({ f_V := (0 : Int), f_B := (Vector.replicate 16 (0 : Int) : (Vector Int 16)) } : S_api_Addr), t4.2)) else (addr_Six t4.1 >>= fun t7 => some (t7, 0))) else (quad_Parse x0 >>= fun t8 => if (t8.2 != 0) = true then (some (({ f_V := (0 : Int), f_B := (Vector.replicate 16 (0 : Int) : (Vector Int 16)) } : S_api_Addr), t8.2)) else (addr_Four t8.1 >>= fun t11 => some (t11, 0)))
theorem addr_Parse_ok (x0 : ByteArray) (r : S_api_Addr × Int) (hF : addr_Parse x0 = some r) (w : World) (hg_strconv_ErrRange : GV_strconv_ErrRange w) (hg_strconv_ErrSyntax : GV_strconv_ErrSyntax w) :
    Calls Tryz.prog 155 #[.string x0] w (fun e w' => e = .returned (.tuple #[.agg (Cd.cs c_api_Addr r.1).toArray, .int .i64 r.2]) ∧ Below w.heap.size w w') := by
 unfold addr_Parse at hF
 refine calls_enter (l := [.string x0]) Tryz.func155 rfl rfl rfl ?_
 refine at_start ?_
 refine at_weak [(0, _)] ⟨rfl, trivial⟩ ?_
 refine sr ?_
 refine at_alloc (cs := Cd.cs c_api_Addr zqG5_0) Tryz.zeroValue25 rfl rfl ?_
 intro b1
 refine av rfl (r_assign rfl) ?_
 refine nwt [(0, _), (2, _)] ⟨rfl, rfl, trivial⟩ ?_
 refine at_seq ?_
 refine sr ?_
 refine av rfl (r_move rfl) ?_
 obtain ⟨t2, ht2, hF⟩ := of_bindM hF
 refine at_callB Tryz.func86 rfl (by kernel_rfl) rfl rfl (fun w hw => lines_Cut_ok _ _ _ ht2 w) ?_
 refine av rfl (r_move rfl) ?_
 refine av rfl (r_extract rfl rfl) ?_
 refine av rfl (r_extract rfl rfl) ?_
 refine av rfl (r_extract rfl rfl) ?_
 refine av rfl (r_assign rfl) ?_
 refine av rfl (r_assign rfl) ?_
 refine av rfl (r_assign rfl) ?_
 refine nws [(0, _), (2, _), (6, _)] ⟨rfl, rfl, rfl, trivial⟩ ?_
 refine av rfl (r_move rfl) ?_
 refine nwt [(0, _), (2, _), (17, _)] ⟨rfl, rfl, rfl, trivial⟩ ?_
 rcases of_ite hF with ⟨h3, hF⟩ | ⟨h3, hF⟩
 ·refine at_cond_true rfl h3 ?_
  refine sr ?_
  refine av rfl (r_move rfl) ?_
  obtain ⟨t4, ht4, hF⟩ := of_bindM hF
  refine at_callB Tryz.func179 rfl (by kernel_rfl) rfl rfl (fun w hw => colon_Parse_ok _ _ ht4 w (hg_strconv_ErrRange.on hw.below) (hg_strconv_ErrSyntax.on hw.below)) ?_
  refine av rfl (r_move rfl) ?_
  refine av rfl (r_extract rfl rfl) ?_
  refine av rfl (r_extract rfl rfl) ?_
  refine at_alloc (cs := Cd.cs (cVec (cInt .u8) 16 (by decide)) (Vector.replicate 16 (0 : Int) : (Vector Int 16))) Tryz.zeroValue23 rfl rfl ?_
  intro b5
  refine at_store (c := (cVec (cInt .u8) 16 (by decide))) (z := t4.1) .z (Lens.whole _ _) Tryz.sizeOf23 rfl rfl rfl ?_
  refine av rfl (r_assign rfl) ?_
  refine nwt [(2, _), (7, _), (8, _)] ⟨rfl, rfl, rfl, trivial⟩ ?_
  refine at_seq ?_
  refine sr ?_
  refine av rfl (r_move rfl) ?_
  refine av rfl (r_ineq rfl rfl) ?_
  refine nwt [(2, _), (7, _), (8, _), (24, _)] ⟨rfl, rfl, rfl, rfl, trivial⟩ ?_
  rcases of_ite hF with ⟨h6, hF⟩ | ⟨h6, hF⟩
  ·refine at_cond_true rfl h6 ?_
   refine sr ?_
   refine av rfl (r_build_struct (zs := Cd.cs c_api_Addr zqG5_0) (cs := Cd.cs c_api_Addr zqG5_0) Tryz.underlying25 Tryz.zeroValue25 rfl (places_api_Addr_25) rfl rfl) ?_
   refine av rfl (r_move rfl) ?_
   refine at_store (c := c_api_Addr) (z := zqG5_0) (.s .z) (Lens.whole _ _) Tryz.sizeOf25 rfl rfl rfl ?_
   refine av rfl (r_assign rfl) ?_
   refine at_nil ?_
   refine at_drop (H := _) .z ?_
   refine at_weak [(2, _), (3, _)] ⟨rfl, rfl, trivial⟩ ?_
   refine at_then_normal ?_
   refine at_ret ?_
   refine at_then_ret (at_then_ret ?_)
   have K := of_some hF
   subst K
   exact at_res2 rfl (res_cell (c := c_api_Addr) (y := zqG5_0) rfl .z (Lens.whole _ _) Tryz.isAgg25 Tryz.sizeOf25 (.inl rfl)) (res_tmp rfl) (fun w1 hw => ⟨rfl, hw.below⟩)
  ·refine at_cond_false rfl h6 ?_
   refine sns ?_
   refine av rfl (r_load_aggc (c := (cVec (cInt .u8) 16 (by decide))) (z := t4.1) Tryz.isAgg23 Tryz.sizeOf23 rfl (lens_cell .z (Lens.whole _ _))) ?_
   obtain ⟨t7, ht7, hF⟩ := of_bindM hF
   refine at_callB Tryz.func180 rfl (by kernel_rfl) rfl rfl (fun w hw => addr_Six_ok _ _ ht7 w) ?_
   refine at_store (c := c_api_Addr) (z := t7) (.s .z) (Lens.whole _ _) Tryz.sizeOf25 rfl rfl rfl ?_
   refine av rfl (r_assign rfl) ?_
   refine at_nil ?_
   refine at_drop (H := _) .z ?_
   refine at_weak [(2, _), (3, _)] ⟨rfl, rfl, trivial⟩ ?_
   refine at_then_normal ?_
   refine rt ?_
   have K := of_some hF
   subst K
   exact at_res2 rfl (res_cell (c := c_api_Addr) (y := t7) rfl .z (Lens.whole _ _) Tryz.isAgg25 Tryz.sizeOf25 (.inl rfl)) (res_tmp rfl) (fun w1 hw => ⟨rfl, hw.below⟩)
 ·refine at_cond_false rfl h3 ?_
  refine sns ?_
  refine av rfl (r_move rfl) ?_
  obtain ⟨t8, ht8, hF⟩ := of_bindM hF
  refine at_callB Tryz.func181 rfl (by kernel_rfl) rfl rfl (fun w hw => quad_Parse_ok _ _ ht8 w (hg_strconv_ErrRange.on hw.below) (hg_strconv_ErrSyntax.on hw.below)) ?_
  refine av rfl (r_move rfl) ?_
  refine av rfl (r_extract rfl rfl) ?_
  refine av rfl (r_extract rfl rfl) ?_
  refine at_alloc (cs := Cd.cs (cVec (cInt .u8) 4 (by decide)) (Vector.replicate 4 (0 : Int) : (Vector Int 4))) Tryz.zeroValue159 rfl rfl ?_
  intro b9
  refine at_store (c := (cVec (cInt .u8) 4 (by decide))) (z := t8.1) .z (Lens.whole _ _) Tryz.sizeOf159 rfl rfl rfl ?_
  refine av rfl (r_assign rfl) ?_
  refine nwt [(2, _), (9, _), (10, _)] ⟨rfl, rfl, rfl, trivial⟩ ?_
  refine at_seq ?_
  refine sr ?_
  refine av rfl (r_move rfl) ?_
  refine av rfl (r_ineq rfl rfl) ?_
  refine nwt [(2, _), (9, _), (10, _), (35, _)] ⟨rfl, rfl, rfl, rfl, trivial⟩ ?_
  rcases of_ite hF with ⟨h10, hF⟩ | ⟨h10, hF⟩
  ·refine at_cond_true rfl h10 ?_
   refine sr ?_
   refine av rfl (r_build_struct (zs := Cd.cs c_api_Addr zqG5_0) (cs := Cd.cs c_api_Addr zqG5_0) Tryz.underlying25 Tryz.zeroValue25 rfl (places_api_Addr_25) rfl rfl) ?_
   refine av rfl (r_move rfl) ?_
   refine at_store (c := c_api_Addr) (z := zqG5_0) (.s .z) (Lens.whole _ _) Tryz.sizeOf25 rfl rfl rfl ?_
   refine av rfl (r_assign rfl) ?_
   refine at_nil ?_
   refine at_drop (H := _) .z ?_
   refine at_weak [(2, _), (3, _)] ⟨rfl, rfl, trivial⟩ ?_
   refine at_then_normal ?_
   refine rt ?_
   have K := of_some hF
   subst K
   exact at_res2 rfl (res_cell (c := c_api_Addr) (y := zqG5_0) rfl .z (Lens.whole _ _) Tryz.isAgg25 Tryz.sizeOf25 (.inl rfl)) (res_tmp rfl) (fun w1 hw => ⟨rfl, hw.below⟩)
  ·refine at_cond_false rfl h10 ?_
   refine sns ?_
   refine av rfl (r_load_aggc (c := (cVec (cInt .u8) 4 (by decide))) (z := t8.1) Tryz.isAgg159 Tryz.sizeOf159 rfl (lens_cell .z (Lens.whole _ _))) ?_
   obtain ⟨t11, ht11, hF⟩ := of_bindM hF
   refine at_callB Tryz.func182 rfl (by kernel_rfl) rfl rfl (fun w hw => addr_Four_ok _ _ ht11 w) ?_
   refine at_store (c := c_api_Addr) (z := t11) (.s .z) (Lens.whole _ _) Tryz.sizeOf25 rfl rfl rfl ?_
   refine av rfl (r_assign rfl) ?_
   refine at_nil ?_
   refine at_drop (H := _) .z ?_
   refine at_weak [(2, _), (3, _)] ⟨rfl, rfl, trivial⟩ ?_
   refine at_then_normal ?_
   refine at_ret ?_
   have K := of_some hF
   subst K
   exact at_res2 rfl (res_cell (c := c_api_Addr) (y := t11) rfl .z (Lens.whole _ _) Tryz.isAgg25 Tryz.sizeOf25 (.inl rfl)) (res_tmp rfl) (fun w1 hw => ⟨rfl, hw.below⟩)
def crawlwayref10_Right.l0 (x0 : S_api_Addr) (i4 : Int) : Option (Ctl (Bool) (Unit)) :=
  if (decide (i4 < 16)) = true then (if (0 : Int) ≤ i4 ∧ i4 < 16 then if (vget x0.f_B i4 != 0) = true then (some (.ret false)) else (crawlwayref10_Right.l0 x0 (wr .i64 (i4 + 1))) else none) else (some (.nx ()))
  partial_fixpoint
def crawlwayref10_Right (x0 : S_api_Addr) : Option (Bool) :=
  if (x0.f_V == 6) = true then (some true) else (crawlwayref10_Right.l0 x0 4 >>= fun q3 => match q3 with | .ret r' => some r' | .nx sq3 => (some (x0.f_V == 4)))
theorem crawlwayref10_Right_ok (x0 : S_api_Addr) (r : Bool) (hF : crawlwayref10_Right x0 = some r) (w : World) :
    Calls Tryz.prog 74 #[.agg (Cd.cs c_api_Addr x0).toArray] w (fun e w' => e = .returned (.bool r) ∧ Below w.heap.size w w') := by
 unfold crawlwayref10_Right at hF
 refine calls_enter (l := [.agg (Cd.cs c_api_Addr x0).toArray]) Tryz.func74 rfl rfl rfl ?_
 refine at_start ?_
 refine at_weak [(0, _)] ⟨rfl, trivial⟩ ?_
 refine sr ?_
 refine at_box (cs := Cd.cs c_api_Addr x0) rfl rfl rfl ?_
 intro b1
 refine av rfl (r_assign rfl) ?_
 refine nwt [(1, _)] ⟨rfl, trivial⟩ ?_
 refine at_seq ?_
 refine sr ?_
 refine av rfl (r_fieldAddr (fo := 0) Tryz.underlying25 rfl rfl (fun w => ⟨_, Tryz.sizeOf3 w⟩) rfl) ?_
 refine av rfl (r_load_cell Tryz.isAgg3 rfl (lens_cell0 (c := (cInt .i64)) (y := x0.f_V) .z (Lens.comp (Lens.whole _ _) (fun z => { x0 with f_V := z }) (c_api_Addr_f_V x0)) rfl)) ?_
 refine av rfl (r_ieql rfl rfl) ?_
 refine nwt [(1, _), (6, _)] ⟨rfl, rfl, trivial⟩ ?_
 rcases of_ite hF with ⟨h2, hF⟩ | ⟨h2, hF⟩
 ·refine at_cond_true rfl h2 ?_
  refine sr ?_
  refine av rfl (r_assign rfl) ?_
  refine at_nil ?_
  refine at_drop (H := _) .z ?_
  refine at_weak [(2, _)] ⟨rfl, trivial⟩ ?_
  refine at_then_normal ?_
  refine rt ?_
  have K := of_some hF
  subst K
  exact at_return1 rfl rfl (fun w1 hw => ⟨rfl, hw.below⟩)
 ·refine at_cond_false rfl h2 ?_
  refine sn ?_
  refine at_seq ?_
  refine sr ?_
  refine av rfl (r_assign rfl) ?_
  refine nwt [(1, _), (3, _)] ⟨rfl, rfl, trivial⟩ ?_
  refine at_block ?_
  obtain ⟨q3, hq3, hF⟩ := of_bindM hF
  refine at_weak [(1, _), (3, _)] ⟨rfl, rfl, trivial⟩ ?_
  refine at_loop_r (B := 0) (r := r) (q := q3) (A := fun (_ : Unit) Y => At 19 [(1, .pointer (some ⟨b1, 0, none⟩))] (Wd w [cellsE b1 (Cd.cs c_api_Addr x0) 25]) Y) ?_ ?_
  ·intro K
   refine crawlwayref10_Right.l0.partial_correctness x0 (motive := fun i4 x => KR (fun (_ : Unit) Y => At 19 [(1, .pointer (some ⟨b1, 0, none⟩))] (Wd w [cellsE b1 (Cd.cs c_api_Addr x0) 25]) Y) _ 0 r x → Round (fun Y => At 19 [(1, .pointer (some ⟨b1, 0, none⟩)), (3, .int .i64 i4)] (Wd w [cellsE b1 (Cd.cs c_api_Addr x0) 25]) Y) _ _ _) ?_ _ _ hq3 K
   ·clear K hF
    intro g ih i4 x hF K
    refine at_round ?_
    refine at_seq ?_
    refine sr ?_
    refine av rfl (r_move rfl) ?_
    refine av rfl (r_ilss rfl rfl) ?_
    refine nwt [(1, _), (3, _), (8, _)] ⟨rfl, rfl, rfl, trivial⟩ ?_
    rcases of_ite hF with ⟨h5, hF⟩ | ⟨h5, hF⟩
    ·refine at_cond_true rfl h5 ?_
     refine sn ?_
     refine at_seq ?_
     refine at_block ?_
     refine sr ?_
     refine av rfl (r_move rfl) ?_
     refine av rfl (r_fieldAddr (fo := 1) Tryz.underlying25 rfl rfl (fun w => ⟨_, Tryz.sizeOf23 w⟩) rfl) ?_
     obtain ⟨h6, hF⟩ := of_guard hF
     refine av rfl (r_idxArr Tryz.underlying23 Tryz.sizeOf5 rfl rfl h6) ?_
     refine av rfl (r_load_cell Tryz.isAgg5 rfl (lens_cell0 (c := (cInt .u8)) (y := vget x0.f_B i4) .z (Lens.comp (Lens.comp (Lens.whole _ _) (fun z => { x0 with f_B := z }) (c_api_Addr_f_B x0)) (fun z => vset x0.f_B i4 z) (Lens.vec (cInt .u8) (by decide) x0.f_B i4 h6)) rfl)) ?_
     refine av rfl (r_ineq rfl rfl) ?_
     refine nwt [(1, _), (3, _), (15, _)] ⟨rfl, rfl, rfl, trivial⟩ ?_
     rcases of_ite hF with ⟨h7, hF⟩ | ⟨h7, hF⟩
     ·refine at_cond_true rfl h7 ?_
      refine sr ?_
      refine av rfl (r_assign rfl) ?_
      refine at_nil ?_
      refine at_drop (H := _) .z ?_
      refine at_weak [(2, _)] ⟨rfl, trivial⟩ ?_
      refine at_then_normal ?_
      refine at_ret ?_
      refine at_blk_ret (at_then_ret (at_then_ret (at_blk_ret (at_then_ret ?_))))
      obtain rfl := of_some hF
      subst K
      exact at_return1 rfl rfl (fun w1 hw => ⟨rfl, hw.below⟩)
     ·refine at_cond_false rfl h7 ?_
      refine at_skip ?_
      refine at_blk_normal (at_then_normal ?_)
      refine at_region ?_
      refine av rfl (r_move rfl) ?_
      refine av rfl (r_iadd rfl rfl) ?_
      refine av rfl (r_assign rfl) ?_
      refine nwt [(1, _), (3, _)] ⟨rfl, rfl, trivial⟩ ?_
      exact at_weak_k (ih _ _ hF K) ⟨rfl, rfl, trivial⟩
    ·refine at_cond_false rfl h5 ?_
     refine at_exit ?_
     refine at_then_exit (at_then_exit ?_)
     obtain rfl := of_some hF
     exact at_weak_k K ⟨rfl, trivial⟩
  ·cases q3 with
   | ret r' => exact of_some hF
   | nx sq3 =>
    skip
    refine at_blk_same ?_
    refine at_then_normal ?_
    refine sr ?_
    refine av rfl (r_fieldAddr (fo := 0) Tryz.underlying25 rfl rfl (fun w => ⟨_, Tryz.sizeOf3 w⟩) rfl) ?_
    refine av rfl (r_load_cell Tryz.isAgg3 rfl (lens_cell0 (c := (cInt .i64)) (y := x0.f_V) .z (Lens.comp (Lens.whole _ _) (fun z => { x0 with f_V := z }) (c_api_Addr_f_V x0)) rfl)) ?_
    refine av rfl (r_ieql rfl rfl) ?_
    refine av rfl (r_assign rfl) ?_
    refine at_nil ?_
    refine at_drop (H := _) .z ?_
    refine at_weak [(2, _)] ⟨rfl, trivial⟩ ?_
    refine at_then_normal ?_
    refine at_ret ?_
    have K := of_some hF
    subst K
    exact at_return1 rfl rfl (fun w1 hw => ⟨rfl, hw.below⟩)
def crawlwayref10_Of.l0 (x0 : List Int) (i9 : Int) (i10 : S_api_Addr) : Option (S_api_Addr) :=
  if (decide (i9 < (x0.length : Int))) = true then (if (0 : Int) ≤ i9 ∧ i9 < (x0.length : Int) then if (0 : Int) ≤ i9 ∧ i9 < 16 then crawlwayref10_Of.l0 x0 (wr .i64 (i9 + 1)) ({ i10 with f_B := vset i10.f_B i9 (lget x0 i9) }) else none else none) else (some i10)
  partial_fixpoint
def crawlwayref10_Of.l1 (x0 : List Int) (i21 : Int) (i22 : S_api_Addr) : Option (S_api_Addr) :=
  if (decide (i21 < (x0.length : Int))) = true then (if (0 : Int) ≤ i21 ∧ i21 < (x0.length : Int) then if (0 : Int) ≤ i21 ∧ i21 < 16 then crawlwayref10_Of.l1 x0 (wr .i64 (i21 + 1)) ({ i22 with f_B := vset i22.f_B i21 (lget x0 i21) }) else none else none) else (some i22)
  partial_fixpoint
def crawlwayref10_Of (x0 : List Int) : Option (S_api_Addr × Bool) :=
  if ((x0.length : Int) != 4) = true then (if ((x0.length : Int) != 16) = true then (some (({ f_V := (0 : Int), f_B := (Vector.replicate 16 (0 : Int) : (Vector Int 16)) } : S_api_Addr), false)) else ((if ((x0.length : Int) == 16) = true then (some ({ { ({ f_V := (0 : Int), f_B := (Vector.replicate 16 (0 : Int) : (Vector Int 16)) } : S_api_Addr) with f_V := 4 } with f_V := 6 })) else (some ({ ({ f_V := (0 : Int), f_B := (Vector.replicate 16 (0 : Int) : (Vector Int 16)) } : S_api_Addr) with f_V := 4 }))) >>= fun q5 => crawlwayref10_Of.l0 x0 0 q5 >>= fun q8 => some (q8, true))) else ((if ((x0.length : Int) == 16) = true then (some ({ { ({ f_V := (0 : Int), f_B := (Vector.replicate 16 (0 : Int) : (Vector Int 16)) } : S_api_Addr) with f_V := 4 } with f_V := 6 })) else (some ({ ({ f_V := (0 : Int), f_B := (Vector.replicate 16 (0 : Int) : (Vector Int 16)) } : S_api_Addr) with f_V := 4 }))) >>= fun q17 => crawlwayref10_Of.l1 x0 0 q17 >>= fun q20 => some (q20, true))
def crawlwayref10_Text (x0 : S_api_Addr) : Option (ByteArray) :=
  crawlwayref10_Right x0 >>= fun t2 => if (!t2) = true then (some (⟨#[]⟩)) else (if (x0.f_V == 6) = true then (crawlwayref09_Text x0.f_B >>= fun t5 => some t5) else (crawlwayref08_Text (vset (vset (vset (vset (Vector.replicate 4 (0 : Int) : (Vector Int 4)) 0 (vget x0.f_B 0)) 1 (vget x0.f_B 1)) 2 (vget x0.f_B 2)) 3 (vget x0.f_B 3)) >>= fun t6 => some t6))
theorem crawlwayref10_Text_ok (x0 : S_api_Addr) (r : ByteArray) (hF : crawlwayref10_Text x0 = some r) (w : World) :
    Calls Tryz.prog 87 #[.agg (Cd.cs c_api_Addr x0).toArray] w (fun e w' => e = .returned (.string r) ∧ Below w.heap.size w w') := by
 unfold crawlwayref10_Text at hF
 refine calls_enter (l := [.agg (Cd.cs c_api_Addr x0).toArray]) Tryz.func87 rfl rfl rfl ?_
 refine at_start ?_
 refine at_weak [(0, _)] ⟨rfl, trivial⟩ ?_
 refine sr ?_
 refine at_box (cs := Cd.cs c_api_Addr x0) rfl rfl rfl ?_
 intro b1
 refine av rfl (r_assign rfl) ?_
 refine nwt [(1, _)] ⟨rfl, trivial⟩ ?_
 refine at_seq ?_
 refine sr ?_
 refine av rfl (r_load_aggc (c := c_api_Addr) (z := x0) Tryz.isAgg25 Tryz.sizeOf25 rfl (lens_cell .z (Lens.whole _ _))) ?_
 obtain ⟨t2, ht2, hF⟩ := of_bindM hF
 refine at_callB Tryz.func74 rfl (by kernel_rfl) rfl rfl (fun w hw => crawlwayref10_Right_ok _ _ ht2 w) ?_
 refine av rfl (r_not rfl) ?_
 refine nwt [(1, _), (5, _)] ⟨rfl, rfl, trivial⟩ ?_
 rcases of_ite hF with ⟨h3, hF⟩ | ⟨h3, hF⟩
 ·refine at_cond_true rfl h3 ?_
  refine sr ?_
  refine av rfl (r_assign rfl) ?_
  refine at_nil ?_
  refine at_drop (H := _) .z ?_
  refine at_weak [(2, _)] ⟨rfl, trivial⟩ ?_
  refine at_then_normal ?_
  refine rt ?_
  have K := of_some hF
  subst K
  exact at_return1 rfl rfl (fun w1 hw => ⟨rfl, hw.below⟩)
 ·refine at_cond_false rfl h3 ?_
  refine sn ?_
  refine at_seq ?_
  refine sr ?_
  refine av rfl (r_fieldAddr (fo := 0) Tryz.underlying25 rfl rfl (fun w => ⟨_, Tryz.sizeOf3 w⟩) rfl) ?_
  refine av rfl (r_load_cell Tryz.isAgg3 rfl (lens_cell0 (c := (cInt .i64)) (y := x0.f_V) .z (Lens.comp (Lens.whole _ _) (fun z => { x0 with f_V := z }) (c_api_Addr_f_V x0)) rfl)) ?_
  refine av rfl (r_ieql rfl rfl) ?_
  refine nwt [(1, _), (8, _)] ⟨rfl, rfl, trivial⟩ ?_
  rcases of_ite hF with ⟨h4, hF⟩ | ⟨h4, hF⟩
  ·refine at_cond_true rfl h4 ?_
   refine sr ?_
   refine av rfl (r_fieldAddr (fo := 1) Tryz.underlying25 rfl rfl (fun w => ⟨_, Tryz.sizeOf23 w⟩) rfl) ?_
   refine av rfl (r_load_aggc (c := (cVec (cInt .u8) 16 (by decide))) (z := x0.f_B) Tryz.isAgg23 Tryz.sizeOf23 rfl (lens_cell .z (Lens.comp (Lens.whole _ _) (fun z => { x0 with f_B := z }) (c_api_Addr_f_B x0)))) ?_
   obtain ⟨t5, ht5, hF⟩ := of_bindM hF
   refine at_callB Tryz.func145 rfl (by kernel_rfl) rfl rfl (fun w hw => crawlwayref09_Text_ok _ _ ht5 w) ?_
   refine av rfl (r_assign rfl) ?_
   refine at_nil ?_
   refine at_drop (H := _) .z ?_
   refine at_weak [(2, _)] ⟨rfl, trivial⟩ ?_
   refine at_then_normal ?_
   refine rt ?_
   have K := of_some hF
   subst K
   exact at_return1 rfl rfl (fun w1 hw => ⟨rfl, hw.below⟩)
  ·refine at_cond_false rfl h4 ?_
   refine sns ?_
   refine av rfl (r_fieldAddr (fo := 1) Tryz.underlying25 rfl rfl (fun w => ⟨_, Tryz.sizeOf23 w⟩) rfl) ?_
   refine av rfl (r_idxArr Tryz.underlying23 Tryz.sizeOf5 rfl rfl (by decide)) ?_
   refine av rfl (r_load_cell Tryz.isAgg5 rfl (lens_cell0 (c := (cInt .u8)) (y := vget x0.f_B 0) .z (Lens.comp (Lens.comp (Lens.whole _ _) (fun z => { x0 with f_B := z }) (c_api_Addr_f_B x0)) (fun z => vset x0.f_B 0 z) (Lens.vec (cInt .u8) (by decide) x0.f_B 0 (by decide))) rfl)) ?_
   refine av rfl (r_fieldAddr (fo := 1) Tryz.underlying25 rfl rfl (fun w => ⟨_, Tryz.sizeOf23 w⟩) rfl) ?_
   refine av rfl (r_idxArr Tryz.underlying23 Tryz.sizeOf5 rfl rfl (by decide)) ?_
   refine av rfl (r_load_cell Tryz.isAgg5 rfl (lens_cell0 (c := (cInt .u8)) (y := vget x0.f_B 1) .z (Lens.comp (Lens.comp (Lens.whole _ _) (fun z => { x0 with f_B := z }) (c_api_Addr_f_B x0)) (fun z => vset x0.f_B 1 z) (Lens.vec (cInt .u8) (by decide) x0.f_B 1 (by decide))) rfl)) ?_
   refine av rfl (r_fieldAddr (fo := 1) Tryz.underlying25 rfl rfl (fun w => ⟨_, Tryz.sizeOf23 w⟩) rfl) ?_
   refine av rfl (r_idxArr Tryz.underlying23 Tryz.sizeOf5 rfl rfl (by decide)) ?_
   refine av rfl (r_load_cell Tryz.isAgg5 rfl (lens_cell0 (c := (cInt .u8)) (y := vget x0.f_B 2) .z (Lens.comp (Lens.comp (Lens.whole _ _) (fun z => { x0 with f_B := z }) (c_api_Addr_f_B x0)) (fun z => vset x0.f_B 2 z) (Lens.vec (cInt .u8) (by decide) x0.f_B 2 (by decide))) rfl)) ?_
   refine av rfl (r_fieldAddr (fo := 1) Tryz.underlying25 rfl rfl (fun w => ⟨_, Tryz.sizeOf23 w⟩) rfl) ?_
   refine av rfl (r_idxArr Tryz.underlying23 Tryz.sizeOf5 rfl rfl (by decide)) ?_
   refine av rfl (r_load_cell Tryz.isAgg5 rfl (lens_cell0 (c := (cInt .u8)) (y := vget x0.f_B 3) .z (Lens.comp (Lens.comp (Lens.whole _ _) (fun z => { x0 with f_B := z }) (c_api_Addr_f_B x0)) (fun z => vset x0.f_B 3 z) (Lens.vec (cInt .u8) (by decide) x0.f_B 3 (by decide))) rfl)) ?_
   refine av rfl (r_build_array (zs := Cd.cs (cVec (cInt .u8) 4 (by decide)) (Vector.replicate 4 (0 : Int) : (Vector Int 4))) (cs := Cd.cs (cVec (cInt .u8) 4 (by decide)) (vset (vset (vset (vset (Vector.replicate 4 (0 : Int) : (Vector Int 4)) 0 (vget x0.f_B 0)) 1 (vget x0.f_B 1)) 2 (vget x0.f_B 2)) 3 (vget x0.f_B 3))) Tryz.underlying159 Tryz.zeroValue159 rfl Tryz.sizeOf5 rfl (fill_step (c := (cInt .u8)) (z := vget x0.f_B 0) rfl (Lens.vec (cInt .u8) (by decide) (Vector.replicate 4 (0 : Int) : (Vector Int 4)) 0 (by decide)) rfl (fill_step (c := (cInt .u8)) (z := vget x0.f_B 1) rfl (Lens.vec (cInt .u8) (by decide) (vset (Vector.replicate 4 (0 : Int) : (Vector Int 4)) 0 (vget x0.f_B 0)) 1 (by decide)) rfl (fill_step (c := (cInt .u8)) (z := vget x0.f_B 2) rfl (Lens.vec (cInt .u8) (by decide) (vset (vset (Vector.replicate 4 (0 : Int) : (Vector Int 4)) 0 (vget x0.f_B 0)) 1 (vget x0.f_B 1)) 2 (by decide)) rfl (fill_step (c := (cInt .u8)) (z := vget x0.f_B 3) rfl (Lens.vec (cInt .u8) (by decide) (vset (vset (vset (Vector.replicate 4 (0 : Int) : (Vector Int 4)) 0 (vget x0.f_B 0)) 1 (vget x0.f_B 1)) 2 (vget x0.f_B 2)) 3 (by decide)) rfl rfl))))) ?_
   obtain ⟨t6, ht6, hF⟩ := of_bindM hF
   refine at_callB Tryz.func146 rfl (by kernel_rfl) rfl rfl (fun w hw => crawlwayref08_Text_ok _ _ ht6 w) ?_
   refine av rfl (r_assign rfl) ?_
   refine at_nil ?_
   refine at_drop (H := _) .z ?_
   refine at_weak [(2, _)] ⟨rfl, trivial⟩ ?_
   refine at_then_normal ?_
   refine at_ret ?_
   have K := of_some hF
   subst K
   exact at_return1 rfl rfl (fun w1 hw => ⟨rfl, hw.below⟩)
def crawlwayref10_Parse (x0 : ByteArray) : Option (S_api_Addr × Int) :=
  crawlwayref06_Parts x0 58 >>= fun t2 => if (decide ((t2.length : Int) > 1)) = true then (crawlwayref09_Parse x0 >>= fun t6 => if (!t6.2) = true then (some (({ f_V := (0 : Int), f_B := (Vector.replicate 16 (0 : Int) : (Vector Int 16)) } : S_api_Addr), 5)) else (some ({ { ({ f_V := (0 : Int), f_B := (Vector.replicate 16 (0 : Int) : (Vector Int 16)) } : S_api_Addr) with f_V := 6 } with f_B := t6.1 }, 0))) else (crawlwayref08_Parse x0 >>= fun t9 => if (t9.2 != 0) = true then (some (({ f_V := (0 : Int), f_B := (Vector.replicate 16 (0 : Int) : (Vector Int 16)) } : S_api_Addr), t9.2)) else (crawlwayref10_Of ([vget t9.1 0, vget t9.1 1, vget t9.1 2, vget t9.1 3]) >>= fun t13 => some (t13.1, 0)))
end Go.Proofs.YtkkmmpofdcccmaaGreatDoor
