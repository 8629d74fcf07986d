/- The engine's laws on parts of arrays as slices, and on copying into them. -/
import Derived.Test.YthccncpephpdjaaG
import Derived.Laws.CopyRow
import Derived.StillTail
set_option linter.unusedVariables false
set_option linter.unusedSimpArgs false
namespace Go.Proofs.Ythccncpephpdjaa.E
open Go.RowKit
variable {n : Nat} {L L' : List (Nat × Value)} {a : Act} {W : World → Prop} {P : Program} {ops : Array Oper} {Q : Exit → Act → World → Prop} {rest : List Oper} {w0 : World} {H : List Ent}
variable {α β : Type} {d : Nat} {ty : TypeId} {pos : String} {aft : Array Edge} {t e : TypeId}
theorem vbnd {m : Nat} {v : Vector α m} {l h : Int} (hb : 0 ≤ l ∧ l ≤ h ∧ h ≤ (m : Int)) : 0 ≤ l ∧ l ≤ h ∧ h ≤ (v.toList.length : Int) := by
  rw [Vector.length_toList]; exact hb
theorem rsp_eq {a : Addr} {cap sz : Nat} {l : Int} : rsp (some a) cap l sz = some (if cap = l.toNat then a else a.add (l.toNat * sz)) := by
  unfold rsp; split <;> rfl
/-- A part of an array variable, wherever the array lies in it. -/
theorem r_view {b o m : Nat} {c : Cd α} {x : Operand} {lo hi : Option Operand} {v : Vector α m} {l h : Int} (ht : P.underlying t = some (.array m e)) (hz : ∀ w, (sizeOf e).run P w = .ok c.sz w) (hx : ev L x = some (.pointer (some ⟨b, o, none⟩)))
    (hlo : match lo with | none => l = 0 | some y => ∃ k, ev L y = some (.int k l)) (hhi : match hi with | none => h = (m : Int) | some y => ∃ k, ev L y = some (.int k h)) (hb : 0 ≤ l ∧ l ≤ h ∧ h ≤ (m : Int)) :
    Runs n L W P (⟨some d, .slice t x lo hi none, ty, pos, aft, none⟩) (.slice (rsp (some ⟨b, o, none⟩) m l c.sz) (lsub v.toList l h).length (m - l.toNat)) := fun a w he _ => by
  have hlen := lsub_length (xs := v.toList) (l := l) (h := h) (vbnd hb)
  obtain ⟨h1, h2, h3⟩ := hb
  have h0 : 0 ≤ h := by omega
  have h5 : l ≤ (m : Int) := by omega
  have e1 : (h.toNat : Int) = h := Int.toNat_of_nonneg h0
  rw [hlen, rsp_eq]
  simp only [execOp, he.eval hx]
  cases lo <;> cases hi <;> simp only at hlo hhi
  · subst hlo hhi
    simp [Instr.sliceAt, Instr.sureAddr, Instr.sliceBounds, run_underlying ht, hz]
  · obtain ⟨k, hk⟩ := hhi
    subst hlo
    simp [Instr.sliceAt, Instr.sureAddr, Instr.sliceBounds, Instr.sliceBound, asIntOf, run_underlying ht, hz, he.eval hk, h0, h3]
  · obtain ⟨k, hk⟩ := hlo
    subst hhi
    simp [Instr.sliceAt, Instr.sureAddr, Instr.sliceBounds, Instr.sliceBound, asIntOf, run_underlying ht, hz, he.eval hk, h1, h2]
  · obtain ⟨k, hk⟩ := hlo
    obtain ⟨k', hk'⟩ := hhi
    simp [Instr.sliceAt, Instr.sureAddr, Instr.sliceBounds, Instr.sliceBound, asIntOf, run_underlying ht, hz, he.eval hk, he.eval hk', h0, h1, h2, h3, e1]
theorem r_view_all {b o m : Nat} {c : Cd α} {x : Operand} (v : Vector α m) (hm : 0 < m) (ht : P.underlying t = some (.array m e)) (hz : ∀ w, (sizeOf e).run P w = .ok c.sz w) (hx : ev L x = some (.pointer (some ⟨b, o, none⟩))) :
    Runs n L W P (⟨some d, .slice t x none none none, ty, pos, aft, none⟩) (.slice (some ⟨b, o, none⟩) v.toList.length m) := fun a w he _ => by
  simp only [execOp, he.eval hx]
  have h0 : m ≠ 0 := by omega
  simp [Instr.sliceAt, Instr.sureAddr, Instr.sliceBounds, run_underlying ht, hz, h0, Addr.add]
theorem rsp_zero {b o m sz : Nat} (hm : 0 < m) : (some ⟨b, o, none⟩ : Option Addr) = rsp (some ⟨b, o, none⟩) m 0 sz := by
  have : m ≠ 0 := by omega
  simp [rsp, Addr.add_lit, this]
theorem lens_row {b tb o m : Nat} {cells : List Value} {c : Cd β} {hm : 0 < m} {v : Vector β m} {put : Vector β m → List Value} {f : Ent → List Ent} {G : List Ent} (hu : Upd H (cellsE b cells tb) f G) (l : Lens cells o (cVec c m hm) v put) {w : World} (hw : Wd w0 H w) :
    Row c w (some ⟨b, o, none⟩) m v.toList :=
  ⟨by simp, .inr ⟨b, o, rfl, fun j u hj => cells_get (hw.ok hu.mem) _ _ (l.get j u hj)⟩⟩
theorem rsp_some {a : Addr} {cap sz : Nat} {l : Int} : ∃ b, rsp (some a) cap l sz = some b := by
  unfold rsp; split
  · exact ⟨_, rfl⟩
  · exact ⟨_, rfl⟩
theorem Cd.all_take {c : Cd β} (h : c.sz = 1) : ∀ (xs : List β) (k : Nat), c.all (xs.take k) = (c.all xs).take k
  | [], k => by simp [Cd.all]
  | x :: xs, 0 => by simp [Cd.all]
  | x :: xs, k + 1 => by
    obtain ⟨v, hv⟩ := List.length_eq_one_iff.1 (show (c.cs x).length = 1 by rw [c.len, h])
    rw [List.take_succ_cons, Cd.all_cons, Cd.all_cons, hv, Cd.all_take h xs k]; rfl
theorem Cd.all_drop {c : Cd β} (h : c.sz = 1) : ∀ (xs : List β) (k : Nat), c.all (xs.drop k) = (c.all xs).drop k
  | [], k => by simp [Cd.all]
  | x :: xs, 0 => by simp
  | x :: xs, k + 1 => by
    obtain ⟨v, hv⟩ := List.length_eq_one_iff.1 (show (c.cs x).length = 1 by rw [c.len, h])
    rw [List.drop_succ_cons, Cd.all_cons, hv, Cd.all_drop h xs k]; rfl
theorem rsp_plain {b o cap sz : Nat} {l : Int} : ∃ b' o', rsp (some ⟨b, o, none⟩) cap l sz = some ⟨b', o', none⟩ := by
  unfold rsp; split
  · exact ⟨_, _, rfl⟩
  · exact ⟨b, o + l.toNat * sz, by simp [Addr.add_lit]⟩
/-- An array, overwritten from a place on. -/
def vcopy [Inhabited α] {m : Nat} (v : Vector α m) (l : Nat) (xs : List α) : Vector α m := lvec m (v.toList.take l ++ xs ++ v.toList.drop (l + xs.length))
theorem vcopy_toList [Inhabited α] {m : Nat} (v : Vector α m) (l : Nat) (xs : List α) (h : l + xs.length ≤ m) : (vcopy v l xs).toList = v.toList.take l ++ xs ++ v.toList.drop (l + xs.length) := by
  have hl : (v.toList.take l ++ xs ++ v.toList.drop (l + xs.length)).length = m := by
    simp; omega
  unfold vcopy
  rw [lvec_toList m _ (by omega), List.take_of_length_le (by omega)]
theorem at_copy [Inhabited β] {b tb o m cap : Nat} {cells : List Value} {c : Cd β} {hm : 0 < m} {v : Vector β m} {put : Vector β m → List Value} {f : Ent → List Ent} {G : List Ent} {lo hi : Int} {xs : List β} {p : Option Addr} {x y : Operand} {dT sT : TypeId} {q : Option Addr} {dl dc : Nat}
    (hu : Upd H (cellsE b cells tb) f G) (l : Lens cells o (cVec c m hm) v put) (hc1 : c.sz = 1) (hlh : 0 ≤ lo ∧ lo ≤ hi ∧ hi ≤ (m : Int)) (hud : P.underlying dT = some (.slice e)) (hs : (P.info? e).map (·.size) = some 1)
    (hx : ev L x = some (.slice q dl dc)) (hq : q = rsp (some ⟨b, o, none⟩) m lo c.sz) (hdl : dl = hi.toNat - lo.toNat) (hy : ev L y = some (.slice p xs.length cap)) (hp : ∃ a, p = some a) (hr : ∀ w, Wd w0 H w → Row c w p cap xs) (hdn : Nat.blt d n = true)
    (k : At n ((d, .int .i64 (min xs.length (hi - lo).toNat : Nat)) :: L) (Wd w0 (f (cellsE b (put (vcopy v lo.toNat (xs.take (hi - lo).toNat))) tb))) (wpList P ops Q rest)) :
    At n L (Wd w0 H) (wpList P ops Q (⟨some d, .call { callee := .builtin .copy, args := #[x, y], argTypes := #[dT, sT] }, ty, pos, aft, none⟩ :: rest)) :=
  at_any (W' := fun u w' => u = .int .i64 (min xs.length (hi - lo).toNat : Nat) ∧ Wd w0 (f (cellsE b (put (vcopy v lo.toNat (xs.take (hi - lo).toNat))) tb)) w') rfl rfl hdn (fun a w h hw => by
    have hok : w.heap[b]? = some (.cells cells.toArray tb (0, 0)) := hw.ok hu.mem
    subst hq hdl
    obtain ⟨pa, rfl⟩ := hp
    have hsz := l.size
    have hsz' : o + m * c.sz ≤ cells.length := hsz
    have hall : ∀ (ys : List β), (c.all ys).length = ys.length := fun ys => by rw [c.all_len, hc1, Nat.mul_one]
    have hn : (xs.take (hi - lo).toNat).length = Nat.min xs.length (hi.toNat - lo.toNat) := by rw [List.length_take]; show min _ _ = min _ _; omega
    have hfit : lo.toNat + (xs.take (hi - lo).toNat).length ≤ m := by rw [hn]; show lo.toNat + min _ _ ≤ m; omega
    -- the place
    obtain ⟨o', hrs, ho'⟩ : ∃ o', rsp (some (⟨b, o, none⟩ : Addr)) m lo c.sz = some ⟨b, o', none⟩ ∧ ((xs.take (hi - lo).toNat) = [] ∨ o' = o + lo.toNat) := by
      unfold rsp
      by_cases hml : m = lo.toNat
      · rw [if_pos hml]
        exact ⟨o, rfl, .inl (List.eq_nil_of_length_eq_zero (by omega))⟩
      · rw [if_neg hml, hc1, Nat.mul_one]
        exact ⟨o + lo.toNat, by simp [Addr.add_lit], .inr rfl⟩
    have hrow := hr w hw
    have hsrc : ∀ j u, (c.all (xs.take (hi - lo).toNat))[j]? = some u → w.cell? (pa.add j) = some u := fun j u hj => by
      rcases hrow.2 with h0 | ⟨b2, o2, hp2, hc2⟩
      · subst h0; simp [Cd.all] at hj
      · cases hp2
        rw [Addr.add_lit]
        refine hc2 j u ?_
        have e1 : c.all xs = c.all (xs.take (hi - lo).toNat) ++ c.all (xs.drop (hi - lo).toNat) := by rw [← c.all_append, List.take_append_drop]
        rw [e1, List.getElem?_append_left (List.getElem?_eq_some_iff.1 hj).1]
        exact hj
    by_cases hnil : xs.take (hi - lo).toNat = []
    · -- nothing
      have hrun2 : (Builtin.copy_ #[dT, sT] ty #[.slice (some ⟨b, o', none⟩) (hi.toNat - lo.toNat) dc, .slice (some pa) xs.length cap]).run P w = .ok (goInt 0) w := by
        have hmin : Nat.min xs.length (hi.toNat - lo.toNat) = 0 := by rw [← hn, hnil]; rfl
        cases hq : P.info? e with
        | none => simp [hq] at hs
        | some i =>
          have hi' : i.size = 1 := by simpa [hq] using hs
          have hl := run_loadCells_list (P := P) w pa [] (fun j v hj => by simp at hj)
          simp only [List.length_nil] at hl
          simp [Builtin.copy_, run_underlying hud, Builtin.lenOf, Builtin.firstCells, sizeOf, typeInfo, hq, hi', hmin, hl, storeCells]
      have hz0 : min xs.length (hi - lo).toNat = 0 := by
        have := hn; rw [hnil] at this; simp at this
        have e3 : (hi - lo).toNat = hi.toNat - lo.toNat := by omega
        rw [e3]; have h4 : Nat.min xs.length (hi.toNat - lo.toNat) = 0 := by rw [← hn, hnil]; rfl
        exact h4
      refine ⟨_, w, ?_, by rw [hz0], ?_⟩
      · simp only [execOp, resolve, invoke, builtin, Sem.run_bind, Sem.run_pure, Result.andThen_ok, List.map_toArray, List.map_cons, List.map_nil, h.eval hx, h.eval hy, hrs, hrun2]
        rfl
      · have ev1 : vcopy v lo.toNat (xs.take (hi - lo).toNat) = v := by
          apply Vector.toList_inj.1
          rw [vcopy_toList _ _ _ (by rw [hnil]; simp; omega), hnil]; simp
        rw [ev1]
        have e2 : put v = cells := by rw [l.splice v, ← List.take_append_drop o cells]; obtain ⟨pre, post, hcells, hlen1, _⟩ := l; subst hcells; simp [← hlen1, Cd.len]
        rw [e2, hu.same]; exact hw
    · have ho2 : o' = o + lo.toNat := by rcases ho' with h1 | h1; exact absurd h1 hnil; exact h1
      subst ho2
      have hrun := run_copy_row (P := P) w dT sT ty e b (o + lo.toNat) (hi.toNat - lo.toNat) dc pa xs.length cap cells.toArray tb (c.all (xs.take (hi - lo).toNat)) hud hs hok (by rw [hall, hn]) hsrc
        (by rw [hall]; rw [hc1, Nat.mul_one] at hsz'; simp; omega) (c.all_one _)
      rw [hall] at hrun
      have hput : (cells.toArray.toList.take (o + lo.toNat) ++ c.all (xs.take (hi - lo).toNat) ++ cells.toArray.toList.drop (o + lo.toNat + (xs.take (hi - lo).toNat).length)).toArray = (put (vcopy v lo.toNat (xs.take (hi - lo).toNat))).toArray := by
        congr 1
        obtain ⟨pre, post, hcells, hlen1, hput⟩ := l
        have e4 := hput (vcopy v lo.toNat (xs.take (hi - lo).toNat))
        rw [e4]
        show _ = pre ++ c.all (vcopy v lo.toNat (xs.take (hi - lo).toNat)).toList ++ post
        rw [vcopy_toList _ _ _ hfit, c.all_append, c.all_append]
        have hvl : (c.all v.toList).length = m := by rw [hall]; simp
        have ht1 := Cd.all_take hc1 v.toList lo.toNat
        have ht2 := Cd.all_drop hc1 v.toList (lo.toNat + (xs.take (hi - lo).toNat).length)
        rw [ht1, ht2]
        have hcells' : cells = pre ++ (c.all v.toList ++ post) := by rw [hcells]; simp [cVec]
        subst hlen1
        rw [List.toList_toArray, hcells']
        rw [List.take_append, List.take_of_length_le (by omega), List.take_append_of_le_length (by omega)]
        rw [show pre.length + lo.toNat - pre.length = lo.toNat by omega]
        rw [Nat.add_assoc, List.drop_append, List.drop_eq_nil_of_le (by omega), List.nil_append, show pre.length + (lo.toNat + (xs.take (hi - lo).toNat).length) - pre.length = lo.toNat + (xs.take (hi - lo).toNat).length by omega]
        rw [List.drop_append_of_le_length (by omega)]
        simp [List.append_assoc]
      refine ⟨goInt ((xs.take (hi - lo).toNat).length : Nat), w.setRow b (put (vcopy v lo.toNat (xs.take (hi - lo).toNat))).toArray, ?_, ?_, hw.upd hu ?_ rfl rfl rfl (fun k hk hk' => ?_) ?_ fun k hk => .inl hk⟩
      · rw [hput] at hrun
        simp only [execOp, resolve, invoke, builtin, Sem.run_bind, Sem.run_pure, Result.andThen_ok, List.map_toArray, List.map_cons, List.map_nil, h.eval hx, h.eval hy, hrs, hrun]
      · show goInt _ = _
        rw [hn, show (hi - lo).toNat = hi.toNat - lo.toNat by omega]; rfl
      · exact Nat.le_of_eq (by simp [World.setRow])
      · exact setRow_other w b k _ (by intro e; exact hk' (by rw [e]; simp [cellsE]))
      · exact setRow_heap w b cells.toArray _ tb _ hok) fun u a w h ⟨hu', hw⟩ => by subst hu'; exact k a w h hw
/-! ### a region that draws its order and ends in a forced tail -/
def Sx (P : Program) (ops : Array Oper) (K : Act → World → Prop) (l : List Oper) (a : Act) (w : World) : Prop := wpStill P ops w (fun a' => K a' w) l a
theorem at_draw_tail {id : Nat} {l : List Oper} (m : Nat) (hm : P.follows .mixedOrders = true) (hB : Region.lexTailB .any l.toArray m = true) (hWd : ∀ w, W w → W { w with drawn := w.drawn + 1 })
    (k : At n L W (Sx P l.toArray (wpList P l.toArray Q (l.drop m)) (l.take m))) : At n L W ((Code.region id l.toArray true).wp P Q) := fun a w h hw =>
  wp_region_still_tail m hm hB (k a _ h (hWd w hw))
section
variable {K : Act → World → Prop}
theorem ats_nil (k : At n L W K) : At n L W (Sx P ops K []) := fun a w h hw => wpStill_nil (k a w h hw)
theorem ats_val {o : Oper} {v : Value} (hg : o.guard = none) (hd : o.dst = some d) (hdn : Nat.blt d n = true) (hr : Runs n L W P o v)
    (k : At n ((d, v) :: L) W (Sx P ops K rest)) : At n L W (Sx P ops K (o :: rest)) := fun a w h hw =>
  wpStill_step fun K' hK => by
    simp only [Region.wanted, hg, if_true]
    unfold Oper.still
    rw [hr a w h hw, Oper.stillUpon_value, hd]
    exact hK _ (k _ _ (h.put hdn v) hw)
theorem ats_call {f : FuncId} {fn : Func} {xs : List Operand} {ats : Array TypeId} {l : List Value} {v : Value} {ty : TypeId} {pos : String} {aft : Array Edge} (hf : P.funcs[f]? = some fn) (hb : fn.body.isSome = true) (hnm : (fn.name == "runtime.NumGoroutine") = false)
    (hx : evs L xs = some l) (hdn : Nat.blt d n = true) (hc : ∀ w, W w → Calls P f l.toArray w fun e w' => e = .returned v ∧ w' = w)
    (k : At n ((d, v) :: L) W (Sx P ops K rest)) :
    At n L W (Sx P ops K (⟨some d, .call { callee := .value (.func f), args := xs.toArray, argTypes := ats }, ty, pos, aft, none⟩ :: rest)) := fun a w h hw =>
  wpStill_step fun K' hK => by
    simp only [Region.wanted, if_true]
    unfold Oper.still
    have hargs := h.evals hx
    rw [execOp_call_go]
    have hrun : (callFunc f (#[] ++ xs.toArray.map a.eval ++ #[])).run P w = .ok (.enter f l.toArray) w := by
      have hbn : ¬ fn.body = none := by intro hq; simp [hq] at hb
      have hn' : ¬ fn.name = "runtime.NumGoroutine" := by intro hq; rw [hq] at hnm; simp at hnm
      simp [callFunc, program, Sem.run, hf, hn', hbn, hargs]
    rw [hrun]
    exact ⟨rfl, v, hc w hw, hK _ (k _ _ (h.put hdn v) hw)⟩
variable {dst : Option Tmp} {op : Op} {j g : Nat} {oj : Oper} {b b' : Bool} {ty : TypeId} {pos : String} {aft : Array Edge}
theorem ats_guard_yes (hj : ops[j]? = some oj) (hd : oj.dst = some g) (hg : lk L g = some (.bool b)) (k : At n L W (Sx P ops K (⟨dst, op, ty, pos, aft, none⟩ :: rest))) :
    At n L W (Sx P ops K (⟨dst, op, ty, pos, aft, some (j, b)⟩ :: rest)) := fun a w h hw => by
  have hk := k a w h hw
  have hy := yields_of h hj hd hg
  unfold Sx wpStill at hk ⊢
  rw [if_pos (by simp [Region.wanted])] at hk
  rw [if_pos (by simp [Region.wanted, hy])]
  exact hk
theorem ats_guard_no (hj : ops[j]? = some oj) (hd : oj.dst = some g) (hg : lk L g = some (.bool b)) (hne : (b == b') = false) (hdn : Nat.blt d n = true) (k : At n ((d, undef) :: L) W (Sx P ops K rest)) :
    At n L W (Sx P ops K (⟨some d, op, ty, pos, aft, some (j, b')⟩ :: rest)) := fun a w h hw => by
  have hy := yields_of h hj hd hg
  unfold Sx wpStill
  rw [if_neg (by simp [Region.wanted, hy]; simpa using hne)]
  exact k _ _ (h.put hdn _) hw
theorem ats_guard_undef (hj : ops[j]? = some oj) (hd : oj.dst = some g) (hg : lk L g = some undef) (hdn : Nat.blt d n = true) (k : At n ((d, undef) :: L) W (Sx P ops K rest)) :
    At n L W (Sx P ops K (⟨some d, op, ty, pos, aft, some (j, b')⟩ :: rest)) := fun a w h hw => by
  have hy : yielded ops a.tmps j = none := by
    have := h.vals g _ hg
    rw [Array.getD_eq_getD_getElem?] at this
    unfold yielded
    simp only [hj, hd, Option.bind_some]
    cases hq : a.tmps[g]? with
    | none => rfl
    | some u => rw [hq] at this; simp only [Option.getD_some] at this; subst this; rfl
  unfold Sx wpStill
  rw [if_neg (by simp [Region.wanted, hy])]
  exact k _ _ (h.put hdn _) hw
theorem ats_fix {X : Act → World → Prop} {g : Nat} {b b' : Bool} (hg : lk L g = some (.bool b)) (hb : b = b') (k : At n ((g, .bool b') :: L) W X) : At n L W X := at_fix hg hb k
end
end Go.Proofs.Ythccncpephpdjaa.E
