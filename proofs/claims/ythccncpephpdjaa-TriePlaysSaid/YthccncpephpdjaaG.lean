/- The engine's laws on package variables, iterators over strings, errors. -/
import Derived.Test.YthccncpephpdjaaV
import Derived.Test.YthccncpephpdjaaB
import Derived.Lib.AppendIntMem
import Derived.Lib.OthersKept
import Derived.Lib.Itoa
import Derived.Lib.ParseIntB
import Derived.Lib.LaidTab
import Derived.LaidOnce
set_option linter.unusedVariables false
set_option linter.unusedSimpArgs false
namespace Go.Proofs.Ythccncpephpdjaa.E
open Go.RowKit
variable {n : Nat} {L L' : List (Nat × Value)} {a : Act} {W : World → Prop} {P : Program} {ops : Array Oper} {Q : Exit → Act → World → Prop} {rest : List Oper} {w0 : World} {H : List Ent}
section
variable {d : Nat} {ty : TypeId} {pos : String} {aft : Array Edge} {t e : TypeId}

/-! ### package variables -/
theorem var_on {P : Program} {w w' : World} {name : String} {cs : Array Value} (h : w.var? P name = some cs) (hb : Below w.heap.size w w') : w'.var? P name = some cs := by
  unfold World.var? at *
  cases hg : P.globalNamed name with
  | none => simp [hg] at h
  | some g =>
    simp only [hg, Option.bind_some] at h ⊢
    have hlt : g < w.heap.size := by
      rcases Nat.lt_or_ge g w.heap.size with h' | h'
      · exact h'
      · rw [Array.getElem?_eq_none h'] at h; simp at h
    rw [hb.block g hlt]; exact h
/-- The cells of a package variable that reads as a value of a Lean type. -/
def Gv {α : Type} (P : Program) (w : World) (name : String) (c : Cd α) (x : α) : Prop := w.var? P name = some (c.cs x).toArray
theorem Gv.on {α : Type} {P : Program} {w w' : World} {name : String} {c : Cd α} {x : α} (h : Gv P w name c x) (hb : Below w.heap.size w w') : Gv P w' name c x := var_on h hb
theorem Gv.cell {α : Type} {P : Program} {w : World} {name : String} {g : Nat} {c : Cd α} {x : α} (hg : P.globalNamed name = some g) (h : Gv P w name c x) (k : Nat) (v : Value) (hv : (c.cs x)[k]? = some v) : w.cell? ⟨g, k, none⟩ = some v := by
  rw [World.var?_cell hg h k]; simpa using hv
/-- A package variable that holds an error. -/
def GErr (P : Program) (w : World) (name : String) : Prop := ∃ tp p, w.var? P name = some #[.iface tp p]
theorem GErr.on {P : Program} {w w' : World} {name : String} (h : GErr P w name) (hb : Below w.heap.size w w') : GErr P w' name := let ⟨tp, p, h⟩ := h; ⟨tp, p, var_on h hb⟩
theorem r_global {g : Nat} {x : Operand} (hx : x = .global g) : ev L x = some (.pointer (some ⟨g, 0, none⟩)) := by subst hx; rfl
theorem glob_cell {α β : Type} {name : String} {g o : Nat} {c : Cd α} {x : α} {c' : Cd β} {y : β} {put : β → List Value} (hW : ∀ w, W w → Below w0.heap.size w0 w) (h : Gv P w0 name c x) (hg : P.globalNamed name = some g)
    (l : Lens (c.cs x) o c' y put) : ∀ k v, (c'.cs y)[k]? = some v → ∀ w, W w → w.cell? ⟨g, o + k, none⟩ = some v := fun k v hv w hw =>
  (h.on (hW w hw)).cell hg _ _ (l.get k v hv)
theorem glob_cell0 {α β : Type} {name : String} {g o : Nat} {c : Cd α} {x : α} {c' : Cd β} {y : β} {put : β → List Value} {v : Value} (hW : ∀ w, W w → Below w0.heap.size w0 w) (h : Gv P w0 name c x) (hg : P.globalNamed name = some g)
    (l : Lens (c.cs x) o c' y put) (hv : c'.cs y = [v]) : ∀ w, W w → w.cell? ⟨g, o, none⟩ = some v := glob_cell hW h hg l 0 v (by simp [hv])

/-! ### errors -/
def ErrV (v : Value) (b : Bool) : Prop := (b = false ∧ v = .nilIface) ∨ (b = true ∧ ∃ t x, v = .iface t x)
theorem eqGuard_err {v : Value} {b : Bool} (hv : ErrV v b) (op : BinOp) (t : TypeId) (x : Operand) (w : World) : (eqGuard op t x (.const .nilIface) v .nilIface).run P w = .ok () w := by
  rcases hv with ⟨_, rfl⟩ | ⟨_, u, z, rfl⟩
  · cases op <;> cases x <;> rfl
  · cases op <;> rfl
theorem run_equalIn_err {v : Value} {b : Bool} {ms : Array (String × TypeId)} (ht : P.underlying t = some (.interface ms)) (hv : ErrV v b) (d : Nat) (w : World) : (Op.equalIn (d + 1) t v .nilIface).run P w = .ok (!b) w := by
  unfold Op.equalIn
  simp only [Sem.run_bind, run_underlying ht, Result.andThen_ok]
  rcases hv with ⟨rfl, rfl⟩ | ⟨rfl, u, z, rfl⟩ <;> rfl
theorem run_equal_err {v : Value} {b : Bool} {ms : Array (String × TypeId)} (ht : P.underlying t = some (.interface ms)) (hv : ErrV v b) (w : World) : (Op.equal t v .nilIface).run P w = .ok (!b) w := run_equalIn_err ht hv 9999 w
theorem r_err {op : BinOp} {xt yt : TypeId} {x : Operand} {v u : Value} {b : Bool} {ms : Array (String × TypeId)} (ht : P.underlying xt = some (.interface ms)) (hx : ev L x = some v) (hv : ErrV v b)
    (ho : op = .eql ∨ op = .neq) (hu : (match op with | .eql => Value.bool (!b) | _ => .bool (!(!b))) = u) :
    Runs n L W P ⟨some d, .binOp op xt x (.const .nilIface) yt, ty, pos, aft, none⟩ u := fun a w h _ => by
  subst hu
  have hy : a.eval (.const .nilIface) = .nilIface := h.eval (L := L) rfl
  simp only [execOp, h.eval hx, hy, Sem.run_bind, eqGuard_err hv, Result.andThen_ok]
  rcases ho with rfl | rfl <;> simp only [binOp, Sem.run_bind, run_equal_err ht hv, Result.andThen_ok] <;> rfl

/-! ### iterators -/
def iterE (b : Nat) (s : ByteArray) (pos : Nat) : Ent := ⟨[b], fun w => w.heap[b]? = some (.stringIter s pos), fun _ _ h hk => (h b (by simp)).trans hk⟩
theorem at_range {x : Operand} {s : ByteArray} (ht : P.underlying t = some .string) (hx : ev L x = some (.string s)) (hdn : Nat.blt d n = true)
    (k : ∀ b, At n ((d, .pointer (some ⟨b, 0, none⟩)) :: L) (Wd w0 (iterE b s 0 :: H)) (wpList P ops Q rest)) :
    At n L (Wd w0 H) (wpList P ops Q (⟨some d, .range t x, ty, pos, aft, none⟩ :: rest)) :=
  at_any (W' := fun v w' => ∃ b, v = .pointer (some ⟨b, 0, none⟩) ∧ Wd w0 (iterE b s 0 :: H) w') rfl rfl hdn (fun a w h hw => by
    refine ⟨_, w.alloc (.stringIter s 0), ?_, w.heap.size, rfl, hw.push ((Below.refl _ _).alloc (Nat.le_refl _) _) ?_ ?_⟩
    · simp [execOp, h.eval hx, Instr.range, run_underlying ht, newObj, Sem.run]
    · exact heap_alloc_new w _
    · intro k hk; simp [iterE] at hk; subst hk; simp) fun v a w h ⟨b, hv, hw⟩ => by subst hv; exact k b a w h hw
abbrev dcode (s : ByteArray) (pos : Nat) : Int := (Utf8.decode s pos).1
abbrev dstep (s : ByteArray) (pos : Nat) : Nat := pos + (Utf8.decode s pos).2
theorem at_next {x : Operand} {s : ByteArray} {b p : Nat} {f : Ent → List Ent} {G : List Ent} (hu : Upd H (iterE b s p) f G) (hx : ev L x = some (.pointer (some ⟨b, 0, none⟩))) (hdn : Nat.blt d n = true) (hp : decide (p < s.size) = true)
    (k : At n ((d, .tuple #[.bool true, .int .i64 p, .int .i32 (dcode s p)]) :: L) (Wd w0 (f (iterE b s (dstep s p)))) (wpList P ops Q rest)) :
    At n L (Wd w0 H) (wpList P ops Q (⟨some d, .next x true, ty, pos, aft, none⟩ :: rest)) :=
  at_any (W' := fun v w' => v = .tuple #[.bool true, .int .i64 p, .int .i32 (dcode s p)] ∧ Wd w0 (f (iterE b s (dstep s p))) w') rfl rfl hdn (fun a w h hw => by
    have hok : w.heap[b]? = some (.stringIter s p) := hw.ok hu.mem
    refine ⟨_, w.iterAt b s (dstep s p), ?_, rfl, hw.upd hu ?_ rfl rfl rfl (fun k hk hk' => ?_) ?_ fun k hk => .inl hk⟩
    · have := Lib.run_next_any_at (P := P) w b s p ty hok (of_decide_eq_true hp)
      simp [execOp, h.eval hx, this]
    · exact Nat.le_of_eq (Lib.iterAt_size ..).symm
    · exact Lib.iterAt_other w b k s _ (by intro e; exact hk' (by rw [e]; simp [iterE]))
    · exact Lib.iterAt_heap w b s p _ hok) fun v a w h ⟨hv, hw⟩ => by subst hv; exact k a w h hw
theorem at_over {x : Operand} {s : ByteArray} {b p : Nat} {f : Ent → List Ent} {G : List Ent} (hu : Upd H (iterE b s p) f G) (hx : ev L x = some (.pointer (some ⟨b, 0, none⟩))) (hdn : Nat.blt d n = true) (hp : decide (p < s.size) = false)
    (k : At n ((d, .tuple #[.bool false]) :: L) (Wd w0 H) (wpList P ops Q rest)) :
    At n L (Wd w0 H) (wpList P ops Q (⟨some d, .next x true, ty, pos, aft, none⟩ :: rest)) :=
  at_any (W' := fun v w' => v = .tuple #[.bool false] ∧ Wd w0 H w') rfl rfl hdn (fun a w h hw => by
    have hok : w.heap[b]? = some (.stringIter s p) := hw.ok hu.mem
    refine ⟨_, w, ?_, rfl, hw⟩
    have := Lib.run_next_end_at (P := P) w b s p ty hok (of_decide_eq_false hp)
    simp [execOp, h.eval hx, this]) fun v a w h ⟨hv, hw⟩ => by subst hv; exact k a w h hw
/-- Bytes as a text. -/
theorem unb_foldl : ∀ (xs : List Int) (r : ByteArray), xs.foldl (fun r n => r.push (UInt8.ofNat n.toNat)) r = ⟨r.data ++ (unb xs).toArray⟩
  | [], r => by simp [unb]
  | b :: l, r => by
    rw [List.foldl_cons, unb_foldl l]
    simp [unb, ByteArray.push]
theorem r_conv_bytes {s : TypeId} {x : Operand} {p : Option Addr} {cap : Nat} {xs : List Int} (hs : P.underlying s = some (.slice e)) (he : P.underlying e = some (.int .u8)) (ht : P.underlying t = some .string) (hx : ev L x = some (.slice p xs.length cap))
    (hr : ∀ w, W w → Row (cInt .u8) w p cap xs) : Runs n L W P ⟨some d, .convert s t x, ty, pos, aft, none⟩ (.string ⟨(unb xs).toArray⟩) := fun a w h hw => by
  have hcv : (convert s t (.slice p xs.length cap)).run P w = .ok (.string ⟨(unb xs).toArray⟩) w := by
    rcases (hr w hw).2 with h0 | ⟨b, o, hp, hc⟩
    · subst h0
      rw [run_convert_bytes_string w s t e p ([] : List Int).length cap hs he ht]
      cases p <;> rfl
    · subst hp
      rw [run_convert_bytes_string w s t e (some ⟨b, o, none⟩) xs.length cap hs he ht]
      have hl := run_loadCells_list (P := P) w ⟨b, o, none⟩ (xs.map (Value.int .u8)) (fun j v hj => by
        rw [Addr.add_lit]
        refine hc j v ?_
        have e1 : (cInt .u8).all xs = xs.map (Value.int .u8) := by
          show xs.flatMap (fun n => [Value.int .u8 n]) = _
          rw [List.map_eq_flatMap]
        rw [e1]; exact hj)
      simp only [List.length_map] at hl
      rw [run_bytesToString w ⟨b, o, none⟩ xs.length cap _ hl, unb_foldl]
      have he0 : ByteArray.empty.data = #[] := rfl
      rw [he0]
      simp
  simp only [execOp, h.eval hx, Sem.run_bind, hcv, Result.andThen_ok]
  rfl
/-- A call that hands back an error behind a value. -/
theorem at_callE {f : FuncId} {fn : Func} {xs : List Operand} {ats : Array TypeId} {l : List Value} {v : Value} {b : Bool} (hf : P.funcs[f]? = some fn) (hb : fn.body.isSome = true) (hnm : (fn.name == "runtime.NumGoroutine") = false)
    (hx : evs L xs = some l) (hdn : Nat.blt d n = true) (hc : ∀ w, Wd w0 H w → Calls P f l.toArray w fun e w' => ∃ u, e = .returned (.tuple #[v, u]) ∧ ErrV u b ∧ Below w.heap.size w w')
    (kk : ∀ u, ErrV u b → At n ((d, .tuple #[v, u]) :: L) (Wd w0 H) (wpList P ops Q rest)) :
    At n L (Wd w0 H) (wpList P ops Q (⟨some d, .call { callee := .value (.func f), args := xs.toArray, argTypes := ats }, ty, pos, aft, none⟩ :: rest)) :=
  at_call (W' := fun x w' => ∃ u, x = .tuple #[v, u] ∧ ErrV u b ∧ Wd w0 H w') hf hb hnm hx hdn (fun w hw => (hc w hw).mono fun e w' ⟨u, he, hu, hw'⟩ => ⟨_, he, u, rfl, hu, hw.call hw'⟩) fun x a w h hw => by
    obtain ⟨u, rfl, hu, hw⟩ := hw
    exact kk u hu a w h hw
end
/-! ### numbers as texts, in the printed functions' words -/
def fmtU (n : Int) : ByteArray := ⟨(Lib.decDigits n.toNat).toArray⟩
def fmtI (n : Int) : ByteArray := ⟨(Lib.itoa n).toArray⟩
def parU (s : ByteArray) : Int × Bool := match Lib.parseUintB 64 s.data.toList with
  | .ok u => ((u : Int), false)
  | .range => (18446744073709551615, true)
  | _ => (0, true)
/-! ### what the listed variables hold -/
/-- A package variable, read as data. -/
def Reads (P : Program) (w : World) (n : String) (d : DataW Unit) : Prop :=
  ∃ g t cs k q, P.globalNamed n = some g ∧ (P.globals[g]?).map (·.type) = some t ∧ w.var? P n = some cs ∧ DataW.trod (fun _ => ()) P w 0 (fun _ => true) false k t cs.toList = some (d, q)
theorem reads_mem {P : Program} {w : World} : ∀ {l : List (String × DataW Unit)} {ps : List MemPlace}, DataW.LaidVars P w l ps → ∀ {n d}, (n, d) ∈ l → Reads P w n d
  | [], _, _, _, _, hm => by cases hm
  | (_, _) :: _, _, ⟨g, t, cs, k, q, _, h1, h2, h3, h4, h5, _⟩, _, _, hm => by
    cases hm with
    | head => exact ⟨g, t, cs, k, q, h1, h2, h3, h4⟩
    | tail _ hm => exact reads_mem h5 hm
theorem reads_of {P : Program} {w : World} {l : List (String × DataW Unit)} (h : laidMet P l w) {n : String} {d : DataW Unit} (hm : (n, d) ∈ l) : Reads P w n d :=
  let ⟨_, hv, _⟩ := h
  reads_mem hv hm
section
variable {Hh : Type} {enc : TypeId × Value → Hh} {w : World} {base : Nat} {sp : Nat → Bool} {held : Bool} {fuel : Nat} {t e : TypeId} {m : Nat} {cs : List Value} {p : List MemPlace}
theorem cells_of_strs {zs : List ByteArray} (ht : P.underlying t = some (.array m e)) (he : P.underlying e = some .string) (hce : P.cellsOf e = 1) (hct : P.cellsOf t = m)
    (h : DataW.trod enc P w base sp held fuel t cs = some (.agg (zs.map fun s => .lit (.string s.data.toList)), p)) : cs = zs.map Value.string := by
  cases fuel with
  | zero => simp [DataW.trod] at h
  | succ fuel =>
    simp only [DataW.trod, ht, hce, hct, Nat.mul_one] at h
    split at h
    · rename_i hl
      obtain ⟨xs, hm, hx⟩ := Option.map_eq_some_iff.1 h
      have hxs : xs.map (·.1) = zs.map fun s => (DataW.lit (.string s.data.toList) : DataW Hh) := by
        have := congrArg Prod.fst hx
        simpa using this
      have hxl : xs.length = m := by simpa using Lib.mapM_length hm
      have hzl : zs.length = m := by
        have := congrArg List.length hxs
        simp at this
        omega
      apply List.ext_getElem?
      intro i
      by_cases hi : i < m
      · obtain ⟨b, hb, hf⟩ := Lib.mapM_at hm i i (by simp [hi])
        obtain ⟨z, hc, rfl, _⟩ := DataW.trod_string he hf
        have h1 : cs[i]? = some (.string z) := by
          have := congrArg (·[0]?) hc
          simpa [List.getElem?_take, List.getElem?_drop] using this
        have h2 : (xs.map (·.1))[i]? = some (DataW.lit (.string z.data.toList) : DataW Hh) := by simp [hb]
        rw [hxs] at h2
        simp only [List.getElem?_map, Option.map_eq_some_iff, DataW.lit.injEq, Lit.string.injEq] at h2
        obtain ⟨z', hz', he'⟩ := h2
        have : z' = z := by
          cases z' with | mk a => cases z with | mk b => simp at he'; subst he'; rfl
        subst this
        simp [h1, hz']
      · rw [List.getElem?_eq_none (by omega), List.getElem?_eq_none (by simp; omega)]
    · cases h
theorem cells_of_iface {ms : Array (String × TypeId)} {nm : String} {d : DataW Hh} (ht : P.underlying t = some (.interface ms)) (h : DataW.trod enc P w base sp held fuel t cs = some (.iface nm d, p)) : ∃ u v, cs = [.iface u v] := by
  cases fuel with
  | zero => simp [DataW.trod] at h
  | succ fuel =>
    unfold DataW.trod at h
    rw [ht] at h
    split at h <;> simp_all
theorem gv_of_strs {name : String} {g : Nat} {zs : Vector ByteArray m} {hm : 0 < m} (hg : P.globalNamed name = some g) (hty : (P.globals[g]?).map (·.type) = some t) (ht : P.underlying t = some (.array m e)) (he : P.underlying e = some .string) (hce : P.cellsOf e = 1) (hct : P.cellsOf t = m)
    (h : Reads P w name (.agg (zs.toList.map fun s => .lit (.string s.data.toList)))) : Gv P w name (cVec cStr m hm) zs := by
  obtain ⟨g', t', cs, fuel, p, hg', hty', hvar, hd⟩ := h
  obtain rfl := Option.some.inj (hg.symm.trans hg')
  obtain rfl := Option.some.inj (hty.symm.trans hty')
  have hcs := cells_of_strs ht he hce hct hd
  show w.var? P name = some ((cStr.all zs.toList)).toArray
  rw [hvar]
  congr 1
  refine Array.toList_inj.1 ?_
  rw [hcs]
  show zs.toList.map Value.string = zs.toList.flatMap fun s => [.string s]
  rw [List.map_eq_flatMap]
theorem tab_of_reads {name : String} {g : Nat} {k : IntKind} {zs : List Int} (hg : P.globalNamed name = some g) (hty : (P.globals[g]?).map (·.type) = some t) (ht : P.underlying t = some (.array m e)) (he : P.underlying e = some (.int k)) (hce : P.cellsOf e = 1) (hct : P.cellsOf t = m)
    (h : Reads P w name (Lib.tabData k zs)) : Lib.TabIs P w name k zs := by
  obtain ⟨g', t', cs, fuel, p, hg', hty', hvar, hd⟩ := h
  obtain rfl := Option.some.inj (hg.symm.trans hg')
  obtain rfl := Option.some.inj (hty.symm.trans hty')
  unfold Lib.TabIs
  rw [hvar, ← Lib.cells_of_tab ht he hce hct hd]
theorem gerr_of_reads {name nm : String} {g : Nat} {d : DataW Unit} {ms : Array (String × TypeId)} (hg : P.globalNamed name = some g) (hty : (P.globals[g]?).map (·.type) = some t) (ht : P.underlying t = some (.interface ms))
    (h : Reads P w name (.iface nm d)) : GErr P w name := by
  obtain ⟨g', t', cs, fuel, p, hg', hty', hvar, hd⟩ := h
  obtain rfl := Option.some.inj (hg.symm.trans hg')
  obtain rfl := Option.some.inj (hty.symm.trans hty')
  obtain ⟨u, v, hcs⟩ := cells_of_iface ht hd
  exact ⟨u, v, by rw [hvar]; congr 1; exact Array.toList_inj.1 hcs⟩
end
end Go.Proofs.Ythccncpephpdjaa.E
