/- Maps of the call's own: a list of keys and values. -/
import Derived.Test.YtkkmmpofdcccmaaGreatDoorR
import Derived.Test.YtkkmmpofdcccmaaGreatDoorPure
import Derived.MapKept
set_option linter.unusedVariables false
set_option linter.unusedSimpArgs false
namespace Go.Proofs.YtkkmmpofdcccmaaGreatDoor.E
open Go.RowKit
variable {n : Nat} {L L' : List (Nat × Value)} {a : Act} {W : World → Prop} {P : Program} {ops : Array Oper} {Q : Exit → Act → World → Prop} {rest : List Oper} {w0 : World} {H : List Ent}
variable {κ ν : Type}

/-! ### a list as a map -/
def mfind [DecidableEq κ] : List (κ × ν) → κ → Option ν
  | [], _ => none
  | (a, b) :: r, k => if k = a then some b else mfind r k
def mput [DecidableEq κ] : List (κ × ν) → κ → ν → List (κ × ν)
  | [], k, v => [(k, v)]
  | (a, b) :: r, k, v => if k = a then (k, v) :: r else (a, b) :: mput r k v
def mget [DecidableEq κ] (l : List (κ × ν)) (k : κ) (z : ν) : ν := (mfind l k).getD z
def mix [DecidableEq κ] : List (κ × ν) → κ → Nat → Option (Nat × ν)
  | [], _, _ => none
  | (a, b) :: r, k, i => if k = a then some (i, b) else mix r k (i + 1)
theorem mix_find [DecidableEq κ] : ∀ (l : List (κ × ν)) (k : κ) (i : Nat), (mix l k i).map (·.2) = mfind l k
  | [], _, _ => rfl
  | (a, b) :: r, k, i => by
    unfold mix mfind
    split
    · rfl
    · exact mix_find r k (i + 1)
theorem mix_none [DecidableEq κ] : ∀ (l : List (κ × ν)) (k : κ) (i : Nat) (v : ν), mix l k i = none → mput l k v = l ++ [(k, v)]
  | [], _, _, _, _ => rfl
  | (a, b) :: r, k, i, v, h => by
    unfold mix at h
    unfold mput
    split at h
    · cases h
    · next hk => rw [if_neg hk, mix_none r k (i + 1) v h]; rfl
theorem mix_some [DecidableEq κ] : ∀ (l : List (κ × ν)) (k : κ) (i j : Nat) (v u : ν), mix l k i = some (j, u) → i ≤ j ∧ l[j - i]? = some (k, u) ∧ mput l k v = l.set (j - i) (k, v)
  | [], _, _, _, _, _, h => by cases h
  | (a, b) :: r, k, i, j, v, u, h => by
    unfold mix at h
    unfold mput
    split at h
    · next hk =>
      cases h
      rw [if_pos hk, Nat.sub_self]
      exact ⟨Nat.le_refl _, by rw [hk]; rfl, rfl⟩
    · next hk =>
      obtain ⟨h1, h2, h3⟩ := mix_some r k (i + 1) j v u h
      have e : j - i = (j - (i + 1)) + 1 := by omega
      rw [if_neg hk, e, h3]
      exact ⟨by omega, by simpa using h2, by simp⟩
/-! ### keys -/
structure KeyLaw [DecidableEq κ] (P : Program) (t : TypeId) (c : Cd κ) : Prop where
  chk : ∀ e x w, (Instr.checkKey e 10000 t (.agg (c.cs x).toArray)).run P w = .ok () w
  eq : ∀ x y w, (Op.equal t (.agg (c.cs x).toArray) (.agg (c.cs y).toArray)).run P w = .ok (decide (x = y)) w
  same : ∀ x, Instr.sameBits 10000 (.agg (c.cs x).toArray) (.agg (c.cs x).toArray) = true
  under : ∃ d, P.underlying t = some d
def mkv (c : Cd κ) (d : Cd ν) (va : Bool) (p : κ × ν) : Value × Value := (.agg (c.cs p.1).toArray, vOf va (d.cs p.2))
def Ments (c : Cd κ) (d : Cd ν) (va : Bool) (es : List MapEntry) (l : List (κ × ν)) : Prop := es.map (fun e => (e.key, e.val)) = l.map (mkv c d va)
theorem ask [DecidableEq κ] {t : TypeId} {c : Cd κ} {d : Cd ν} {va : Bool} (K : KeyLaw P t c) (k : κ) (w : World) : ∀ (es : List MapEntry) (l : List (κ × ν)) (i : Nat), Ments c d va es l →
    (Instr.findAsking t (.agg (c.cs k).toArray) es i).run P w = .ok ((mix l k i).map fun q => (q.1, vOf va (d.cs q.2))) w
  | [], l, i, h => by
    cases l with
    | nil => rfl
    | cons p r => simp [Ments] at h
  | e :: es, l, i, h => by
    cases l with
    | nil => simp [Ments] at h
    | cons p r =>
      obtain ⟨a, b⟩ := p
      simp only [Ments, List.map_cons, List.cons.injEq, mkv, Prod.mk.injEq] at h
      obtain ⟨⟨h1, h2⟩, h3⟩ := h
      unfold Instr.findAsking mix
      simp only [Sem.run_bind, h1, K.eq, Result.andThen_ok]
      by_cases hk : k = a
      · simp [hk, h2]
      · simp only [hk, decide_false, Bool.false_eq_true, if_false]
        exact ask K k w es r (i + 1) h3
theorem sameNow_agg (d : TypeDesc) (a : Array Value) (v : Value) : Instr.sameNow d (.agg a) v = none := by
  cases d <;> rfl
theorem find_key [DecidableEq κ] {t : TypeId} {c : Cd κ} {d : Cd ν} {va : Bool} (K : KeyLaw P t c) (k : κ) (w : World) (es : List MapEntry) (l : List (κ × ν)) (h : Ments c d va es l) :
    (Instr.findKey t (.agg (c.cs k).toArray) es).run P w = .ok ((mix l k 0).map fun q => (q.1, vOf va (d.cs q.2))) w := by
  obtain ⟨td, hu⟩ := K.under
  unfold Instr.findKey
  simp only [Sem.run_bind, run_underlying hu, Result.andThen_ok]
  cases es with
  | nil =>
    cases l with
    | nil => rfl
    | cons p r => simp [Ments] at h
  | cons e es =>
    have : Instr.findNow td (.agg (c.cs k).toArray) (e :: es) 0 = none := by
      unfold Instr.findNow
      rw [sameNow_agg]
    rw [this]
    exact ask K k w _ _ _ h
def mapE (b : Nat) (c : Cd κ) (d : Cd ν) (va : Bool) (l : List (κ × ν)) : Ent :=
  ⟨[b], fun w => ∃ es clock, w.heap[b]? = some (.map es clock) ∧ Ments c d va es.toList l, fun w w' h ⟨es, cl, h1, h2⟩ => ⟨es, cl, (h b (by simp)).trans h1, h2⟩⟩
section
variable {d' : Nat} {ty : TypeId} {pos : String} {aft : Array Edge} {t kt et : TypeId} {x y z : Operand} {b : Nat} {c : Cd κ} {d : Cd ν} {va : Bool} {l : List (κ × ν)} {f : Ent → List Ent} {G : List Ent}
theorem r_lookup [DecidableEq κ] {k : κ} {zv : ν} (ht : P.underlying t = some (.map kt et)) (K : KeyLaw P kt c) (hz : ∀ w, (zeroValue et).run P w = .ok (vOf va (d.cs zv)) w) (hx : ev L x = some (.map (some b))) (hy : ev L y = some (.agg (c.cs k).toArray))
    (hm : ∀ w, W w → (mapE b c d va l).ok w) :
    Runs n L W P (⟨some d', .lookup t x y false, ty, pos, aft, none⟩) (vOf va (d.cs (mget l k zv))) := fun a w h hw => by
  obtain ⟨es, clock, h1, h2⟩ := hm w hw
  simp only [execOp, h.eval hx, h.eval hy]
  have e1 : (Instr.lookup t (.map (some b)) (.agg (c.cs k).toArray) false).run P w = .ok (vOf va (d.cs (mget l k zv))) w := by
    unfold Instr.lookup
    simp only [Sem.run_bind, run_underlying ht, Result.andThen_ok, MapKept.run_getObj_map h1, Sem.run_pure, K.chk, find_key K k w es.toList l h2]
    unfold mget
    rw [← mix_find l k 0]
    cases mix l k 0 with
    | none => simp [hz]
    | some q => simp
  simp [e1]
theorem r_len_map (ht : P.underlying t = some (.map kt et)) (hx : ev L x = some (.map (some b))) (hm : ∀ w, W w → (mapE b c d va l).ok w) :
    Runs n L W P (⟨some d', .call { callee := .builtin .len, args := #[x], argTypes := #[t] }, ty, pos, aft, none⟩) (.int .i64 (l.length : Int)) := fun a w h hw => by
  obtain ⟨es, clock, h1, h2⟩ := hm w hw
  have hl : es.size = l.length := by have := congrArg List.length h2; simpa using this
  have e1 : (Builtin.len_ #[t] ty #[.map (some b)]).run P w = .ok (.int .i64 (l.length : Int)) w := by
    simp [Builtin.len_, run_underlying ht, MapKept.run_getObj_map h1, goInt, hl]
  simp only [execOp, resolve, invoke, builtin, Sem.run_bind, Sem.run_pure, Result.andThen_ok, List.map_toArray, List.map_cons, List.map_nil, h.eval hx, e1]
theorem at_makeMap (c : Cd κ) (d : Cd ν) (va : Bool) (hdn : Nat.blt d' n = true)
    (k : ∀ b, At n ((d', .map (some b)) :: L) (Wd w0 (mapE b c d va ([] : List (κ × ν)) :: H)) (wpList P ops Q rest)) :
    At n L (Wd w0 H) (wpList P ops Q (⟨some d', .makeMap t none, ty, pos, aft, none⟩ :: rest)) :=
  at_any (W' := fun v w' => ∃ b, v = .map (some b) ∧ Wd w0 (mapE b c d va ([] : List (κ × ν)) :: H) w') rfl rfl hdn (fun a w h hw => by
    refine ⟨_, w.alloc (.map #[] 0), ?_, w.heap.size, rfl, hw.push ((Below.refl _ _).alloc (Nat.le_refl _) _) ⟨#[], 0, heap_alloc_new w _, rfl⟩ ?_⟩
    · simp [execOp, Instr.makeMap, newObj, Sem.run]
    · intro k hk; simp [mapE] at hk; subst hk; simp) fun v a w h ⟨b, hv, hw⟩ => by subst hv; exact k b a w h hw
theorem at_mapUpdate [DecidableEq κ] {k : κ} {v : ν} {vv : Value} (hu : Upd H (mapE b c d va l) f G) (ht : P.underlying t = some (.map kt et)) (K : KeyLaw P kt c) (hx : ev L x = some (.map (some b))) (hy : ev L y = some (.agg (c.cs k).toArray)) (hz : ev L z = some vv) (hv : vv = vOf va (d.cs v))
    (kk : At n L (Wd w0 (f (mapE b c d va (mput l k v)))) (wpList P ops Q rest)) :
    At n L (Wd w0 H) (wpList P ops Q (⟨none, .mapUpdate t x y z, ty, pos, aft, none⟩ :: rest)) :=
  at_unit (W' := Wd w0 (f (mapE b c d va (mput l k v)))) rfl rfl (fun a w h hw => by
    subst hv
    obtain ⟨es, clock, h1, h2⟩ := hw.ok hu.mem
    have key : ∃ es' cl', (Instr.mapUpdate t (.map (some b)) (.agg (c.cs k).toArray) (vOf va (d.cs v))).run P w = .ok () { w with heap := w.heap.setIfInBounds b (.map es' cl') } ∧ Ments c d va es'.toList (mput l k v) := by
      unfold Instr.mapUpdate
      simp only [Sem.run_bind, run_underlying ht, Result.andThen_ok, MapKept.run_getObj_map h1, Sem.run_pure, K.chk, find_key K k w es.toList l h2]
      cases hm : mix l k 0 with
      | none =>
        refine ⟨es.push { key := .agg (c.cs k).toArray, val := vOf va (d.cs v), born := clock }, clock + 1, ?_, ?_⟩
        · exact MapKept.run_setObj_map _ h1
        · rw [mix_none l k 0 v hm]
          simp only [Ments, Array.toList_push, List.map_append, List.map_cons, List.map_nil] at h2 ⊢
          rw [h2]; rfl
      | some q =>
        obtain ⟨j, u⟩ := q
        obtain ⟨_, hj, hp⟩ := mix_some l k 0 j v u hm
        rw [Nat.sub_zero] at hj hp
        have hlen : es.size = l.length := by have := congrArg List.length h2; simpa using this
        have hjl : j < l.length := (List.getElem?_eq_some_iff.1 hj).1
        have hje : j < es.size := by omega
        have hkey : es[j].key = .agg (c.cs k).toArray := by
          have := congrArg (fun z : List (Value × Value) => z[j]?) h2
          simp only [List.getElem?_map, Array.getElem?_toList, hj, Array.getElem?_eq_getElem hje, Option.map_some, mkv, Option.some.injEq, Prod.mk.injEq] at this
          exact this.1
        refine ⟨es.modify j fun e => { e with key := .agg (c.cs k).toArray, val := vOf va (d.cs v) }, clock, ?_, ?_⟩
        · simp only [Option.map_some, Array.getElem?_eq_getElem hje, hkey, Option.getD_some, Instr.keyThatStays, K.same, if_true, Sem.run_bind, Sem.run_pure, Result.andThen_ok]
          exact MapKept.run_setObj_map _ h1
        · rw [hp]
          simp only [Ments] at h2 ⊢
          rw [List.map_set, ← h2]
          apply List.ext_getElem?
          intro i
          rw [List.getElem?_map, Array.getElem?_toList, Array.getElem?_modify, List.getElem?_set, List.getElem?_map, Array.getElem?_toList]
          by_cases hij : j = i
          · subst hij
            simp [hje, mkv]
          · simp [hij]
    obtain ⟨es', cl', hrun, hm⟩ := key
    have hs := MapKept.heap_set (o' := .map es' cl') h1
    refine ⟨_, ?_, hw.upd (w' := { w with heap := w.heap.setIfInBounds b (.map es' cl') }) hu (by simp) rfl rfl rfl (fun k hk hk' => hs.2 k (by intro e; exact hk' (by rw [e]; simp [mapE]))) ⟨es', cl', hs.1, hm⟩ fun k hk => .inl hk⟩
    simp only [execOp, h.eval hx, h.eval hy, h.eval hz]
    simp [hrun]) kk
end
/-- A call that hands a new map back. -/
theorem at_callM {d' : Nat} {ty : TypeId} {pos : String} {aft : Array Edge} {fid : FuncId} {fn : Func} {xs : List Operand} {ats : Array TypeId} {l : List Value} {c : Cd κ} {d : Cd ν} {va : Bool} {ys : List (κ × ν)} (hf : P.funcs[fid]? = some fn) (hb : fn.body.isSome = true) (hnm : (fn.name == "runtime.NumGoroutine") = false)
    (hx : evs L xs = some l) (hdn : Nat.blt d' n = true) (hc : ∀ w, Wd w0 H w → Calls P fid l.toArray w fun en w' => ∃ b, en = .returned (.map (some b)) ∧ (mapE b c d va ys).ok w' ∧ (w.heap.size ≤ b ∧ b < w'.heap.size) ∧ Below w.heap.size w w')
    (kk : ∀ b, At n ((d', .map (some b)) :: L) (Wd w0 (mapE b c d va ys :: H)) (wpList P ops Q rest)) :
    At n L (Wd w0 H) (wpList P ops Q (⟨some d', .call { callee := .value (.func fid), args := xs.toArray, argTypes := ats }, ty, pos, aft, none⟩ :: rest)) :=
  at_call (W' := fun u w' => ∃ b, u = .map (some b) ∧ Wd w0 (mapE b c d va ys :: H) w') hf hb hnm hx hdn (fun w hw => (hc w hw).mono fun en w' ⟨b, he, ho, hlt, hw'⟩ => ⟨_, he, b, rfl, hw.push hw' ho (by intro k hk; simp [mapE] at hk; subst hk; exact hlt)⟩) fun u a w h hw => by
    obtain ⟨b, rfl, hw⟩ := hw
    exact kk b a w h hw
/-! ### keys that are arrays of numbers -/
theorem run_forIn {body : Nat → Sem Unit} {w : World} : ∀ (l : List Nat), (∀ i ∈ l, (body i).run P w = .ok () w) → (forIn l PUnit.unit (fun i _ => do body i; pure (ForInStep.yield PUnit.unit)) : Sem PUnit).run P w = .ok PUnit.unit w
  | [], _ => by simp
  | i :: l, h => by
    rw [List.forIn_cons]
    simp only [Sem.run_bind, h i (List.mem_cons_self ..), Result.andThen_ok, Sem.run_pure]
    exact run_forIn l fun j hj => h j (List.mem_cons_of_mem _ hj)
theorem keylaw_vec {t e : TypeId} {k : IntKind} {m dp : Nat} {hm : 0 < m} (ht : P.underlying t = some (.array m e)) (he : P.underlying e = some (.int k)) (hz : ∀ w, (sizeOf e).run P w = .ok 1 w) (ha : ∀ w, (isAgg e).run P w = .ok false w)
    (hq : Eqs P t (cVec (cInt k) m hm) true dp) (hdp : dp ≤ 9999) : KeyLaw P t (cVec (cInt k) m hm) where
  chk := fun em x w => by
    unfold Instr.checkKey
    simp only [Sem.run_bind, run_underlying ht, Result.andThen_ok]
    rw [Std.Legacy.Range.forIn_eq_forIn_range']
    have key := run_forIn (P := P) (w := w) (body := fun i => do
      let sz ← sizeOf e
      let v ← part e ((cVec (cInt k) m hm).cs x).toArray (i * sz)
      Instr.checkKey em 9999 e v) (List.range' 0 m) (fun i hi => by
        have hi' : i < m := by simpa using hi
        have l := Lens.vec (cInt k) hm x (i : Int) (by omega)
        have e1 : (i : Int).toNat * (cInt k).sz = i * 1 := by simp [cInt]
        rw [e1] at l
        have h2 := part_scalar (P := P) (t := e) (v := .int k (vget x (i : Int))) l ha rfl w
        simp only [Sem.run_bind, hz, Result.andThen_ok, h2]
        unfold Instr.checkKey
        simp [run_underlying he])
    have e0 : ([0:m] : Std.Legacy.Range).size = m := by simp [Std.Legacy.Range.size]
    simp only [Sem.run_bind] at key ⊢
    simp [e0] at key ⊢
    rw [key]; rfl
  eq := fun x y w => hq 9999 hdp x y w
  same := fun x => by
    have key : ∀ (v : Value), v.oneCell' = true → True := fun _ _ => trivial
    show (_ == _ && _) = true
    simp only [List.size_toArray, beq_self_eq_true, Bool.true_and]
    rw [List.all_eq_true]
    rintro ⟨p, q⟩ hpq
    have hz' : (p, q) ∈ List.zip ((cVec (cInt k) m hm).cs x) ((cVec (cInt k) m hm).cs x) := by simpa using hpq
    have hpe : p = q ∧ p ∈ (cVec (cInt k) m hm).cs x := by
      rw [List.mem_iff_getElem?] at hz'
      obtain ⟨i, hi⟩ := hz'
      rw [List.getElem?_zip_eq_some] at hi
      have := hi.1.symm.trans hi.2
      exact ⟨by simpa using this, List.mem_of_getElem? hi.1⟩
    obtain ⟨rfl, hp⟩ := hpe
    have : ∃ z, p = .int k z := by
      have hp' : p ∈ (cInt k).all x.toList := hp
      rw [all_int] at hp'
      obtain ⟨z, _, rfl⟩ := List.mem_map.1 hp'
      exact ⟨z, rfl⟩
    obtain ⟨z, rfl⟩ := this
    simp [Instr.sameBits]
  under := ⟨_, ht⟩
end Go.Proofs.YtkkmmpofdcccmaaGreatDoor.E
