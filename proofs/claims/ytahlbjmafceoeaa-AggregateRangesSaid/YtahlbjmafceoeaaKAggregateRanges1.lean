/- Texts of this claim, those in one that belong together; printed by a program of this project. -/
import Derived.Test.YtahlbjmafceoeaaProg
import Derived.Lib.Bytealg
import Derived.Test.YtahlbjmafceoeaaKAggregateRanges0
set_option linter.unusedVariables false
set_option linter.unusedSimpArgs false
namespace Go.Proofs.Ytahlbjmafceoeaa
open E Go.RowKit _root_.Go.Proofs.Try
abbrev zv0 := ({ f_V := (0 : Int), f_B := (Vector.replicate 16 (0 : Int) : (Vector Int 16)) } : S_api_Addr)
abbrev zv1 := (Vector.replicate 16 (0 : Int) : (Vector Int 16))
abbrev zv2 := ({ f_A := zv0, f_Bits := (0 : Int) } : S_api_Prefix)
abbrev zv3 := ({ f_From := zv0, f_To := zv0 } : S_aggregate_Range)
section
variable {n d m : Nat} {L : List (Nat × Value)} {W : World → Prop} {P : Program} {ops : Array Oper} {Q : Exit → Act → World → Prop} {rest : List Oper} {w0 : World} {H : List Ent} {f : FuncId} {fn : Func} {xs : List Operand} {ats : Array TypeId} {ty : TypeId} {pos : String} {aft : Array Edge} {l : List Value}
theorem cB {v : Value} (hf : P.funcs[f]? = some fn) (hx : evs L xs = some l) (hc : ∀ w, Wd w0 H w → Calls P f l.toArray w fun e w' => e = .returned v ∧ Below w.heap.size w w') (kk : At n ((d, v) :: L) (Wd w0 H) (wpList P ops Q rest)) (hb : fn.body.isSome = true := by exact rfl) (hnm : (fn.name == "runtime.NumGoroutine") = false := by kernel_rfl) (hdn : Nat.blt d n = true := by exact rfl) : At n L (Wd w0 H) (wpList P ops Q (⟨some d, .call { callee := .value (.func f), args := xs.toArray, argTypes := ats }, ty, pos, aft, none⟩ :: rest)) := at_callB hf hb hnm hx hdn hc kk
end
theorem wb {β : Type} {v : β} {w0 : World} {H : List Ent} : ∀ w1, Wd w0 H w1 → v = v ∧ Below w0.heap.size w0 w1 := fun _ h => ⟨rfl, h.below⟩
theorem lw {α : Type} {c : Cd α} {x : α} : Lens (c.cs x) 0 c x c.cs := Lens.whole c x
def okc (k : Nat) (cs : List Value) : Bool := Nat.beq cs.length k && cs.all Value.oneCell'
theorem okc_ok {k : Nat} {cs : List Value} (h : okc k cs = true) : cs.length = k ∧ ∀ v ∈ cs, v.oneCell' = true := by
  unfold okc at h
  rw [Bool.and_eq_true] at h
  exact ⟨Nat.eq_of_beq_eq_true h.1, List.all_eq_true.1 h.2⟩
abbrev ck (k : Nat) (cs : List Value) (h : okc k cs = true) : {l : List Value // l.length = k ∧ ∀ v ∈ l, v.oneCell' = true} := ⟨cs, okc_ok h⟩
theorem fa {n d : Nat} {L : List (Nat × Value)} {W : World → Prop} {P : Program} {ops : Array Oper} {Q : Exit → Act → World → Prop} {rest : List Oper} {s : TypeId} {x : Operand} {ty : TypeId} {pos : String} {aft : Array Edge} {fs : Array Field} {f : Field} {j b o m : Nat} (fo : Nat) (hs : P.underlying s = some (.struct fs)) (hf : fs[j]? = some f) (hz : ∀ w, (sizeOf f.type).run P w = .ok (m + 1) w) (k : At n ((d, .pointer (some ⟨b, o + fo, none⟩)) :: L) W (wpList P ops Q rest)) (hfo : f.offset = fo := by exact rfl) (hdn : Nat.blt d n = true := by exact rfl) (hx : ev L x = some (.pointer (some ⟨b, o, none⟩)) := by exact rfl) : At n L W (wpList P ops Q (⟨some d, .fieldAddr s x j, ty, pos, aft, none⟩ :: rest)) :=
  av hdn (r_fieldAddr hs hf hfo (fun w => ⟨m, hz w⟩) hx) k
def addr_Four(x0:(Vector Int 4)):Option (S_api_Addr) :=
 some ({ { ({ f_V:=(0:Int),f_B:=(Vector.replicate 16 (0:Int):(Vector Int 16)) }:S_api_Addr) with f_V:=4 } with f_B:=vcopy (({ ({ f_V:=(0:Int),f_B:=(Vector.replicate 16 (0:Int):(Vector Int 16)) }:S_api_Addr) with f_V:=4 }).f_B) (Int.toNat 0) (List.take (Int.toNat (16-0)) (Vector.toList x0)) })
set_option maxHeartbeats 3200000 in
theorem addr_Four_ok(x0:(Vector Int 4))(r:S_api_Addr)(hF:addr_Four x0=some r)(w:World) :
    Calls Try.prog 73 #[.agg (Cd.cs (cVec (cInt .u8) 4 (by decide)) x0).toArray] w (fun e w'=>e=.returned (.agg (Cd.cs c_api_Addr r).toArray)∧Below w.heap.size w w'):=by
 unfold addr_Four at hF
 refine ce (l:=[.agg (Cd.cs (cVec (cInt .u8) 4 (by decide)) x0).toArray]) func73 rfl rfl ?_
 refine at_start ?_
 refine sr ?_
 refine at_box (cs:=Cd.cs (cVec (cInt .u8) 4 (by decide)) x0) rfl rfl rfl ?_
 intro b1
 refine al (cs:=Cd.cs c_api_Addr zv0) zeroValue24 ?_
 intro b2
 refine ns ?_
 refine aw (r_build_struct (zs:=Cd.cs c_api_Addr zv0) (cs:=Cd.cs c_api_Addr ({ zv0 with f_V:=4 })) underlying24 zeroValue24 rfl (places_api_Addr_24) rfl (fill_step (c:=(cInt .i64)) (z:=4) rfl (c_api_Addr_f_V zv0) rfl rfl)) ?_
 refine al (cs:=Cd.cs c_api_Addr zv0) zeroValue24 ?_
 intro b3
 refine at_store (c:=c_api_Addr) (z:={ zv0 with f_V:=4 }) .z lw sizeOf24 rfl rfl rfl ?_
 refine nt (qs (wq [3,2,1] ?_))
 refine at_inv [.q 5 (fun g4=>.pointer (some ⟨b3,0+1,none⟩)) [] 0 0,.q 6 (fun g4=>.slice (some ⟨b3,0+1,none⟩) (Vector.toList (({ zv0 with f_V:=4 }).f_B)).length 16) [0] 0 0,.q 7 (fun g4=>.slice (some ⟨b1,0,none⟩) (Vector.toList x0).length 4) [] 0 0,.st 0 (some (8,fun g4=>.int .i64 (min (List.length (Vector.toList x0)) (Int.toNat (16-0)):Nat))) [1,2]] (fun g4 s=>match s with | 0=>(Wd w [cellsE b3 (Cd.cs c_api_Addr ({ zv0 with f_V:=4 })) 24,cellsE b2 (Cd.cs c_api_Addr zv0) 24,cellsE b1 (Cd.cs (cVec (cInt .u8) 4 (by decide)) x0) 108]) | _=>(Wd w [cellsE b3 (Cd.cs c_api_Addr ({ { zv0 with f_V:=4 } with f_B:=vcopy (({ zv0 with f_V:=4 }).f_B) (Int.toNat 0) (List.take (Int.toNat (16-0)) (Vector.toList x0)) })) 24,cellsE b2 (Cd.cs c_api_Addr zv0) 24,cellsE b1 (Cd.cs (cVec (cInt .u8) 4 (by decide)) x0) 108])) 1 (by kernel_rfl) (by kernel_rfl) (by kernel_rfl) (by kernel_rfl) (by kernel_rfl) ⟨fun _ _ _=>rfl,fun _ _ _=>rfl,fun _ _ _=>rfl,fun _ _ _=>rfl,trivial⟩ (by kernel_rfl) (fun w_ h=>⟨fun _=>g3 0 none 0 none w_,h.drew⟩) ⟨?_,?_,?_,?_,trivial⟩ ?_
 ·intro Lx g4 s K hl hh k
  show At 10 ((1,_)::(2,_)::(3,_)::Lx) _ _
  refine fa 1 underlying24 rfl sizeOf22 ?_
  exact at_nil k
 ·intro Lx g4 s K hl hh k
  show At 10 ((5,_)::(1,_)::(2,_)::(3,_)::Lx) _ _
  obtain rfl:s=0:=by omega
  refine aw (r_view_all (c:=(cInt .u8)) (({ zv0 with f_V:=4 }).f_B) (by decide) underlying22 sizeOf5 rfl) ?_
  exact at_nil k
 ·intro Lx g4 s K hl hh k
  show At 10 ((1,_)::(2,_)::(3,_)::Lx) _ _
  obtain rfl:s=0:=by omega
  refine aw (r_slice_vec x0 underlying108 sizeOf5 rfl) ?_
  exact at_nil k
 ·intro Lx g4 K k
  show At 10 ((6,_)::(7,_)::(1,_)::(2,_)::(3,_)::Lx) _ _
  refine at_copy (lo:=0) (hi:=16) (xs:=Vector.toList x0) .z (Lens.comp lw (fun z=>{ { zv0 with f_V:=4 } with f_B:=z }) (c_api_Addr_f_B ({ zv0 with f_V:=4 }))) rfl (by decide) underlying106 (by kernel_rfl) rfl (rsp_zero (by decide)) (by simp) rfl ⟨_,rfl⟩ (fun w1 hw=>(vec_row (hw.ok (Upd.mem (.s (.s .z)))))) rfl ?_
  exact at_nil k
 intro g4
 show At 10 [(5,_),(6,_),(7,_),(8,_),(1,_),(2,_),(3,_)] _ _
 refine at_drop (H:=_) (.s (.s .z)) ?_
 refine tn (sr ?_)
 refine aw (r_load_aggc (c:=c_api_Addr) (z:={ { zv0 with f_V:=4 } with f_B:=vcopy (({ zv0 with f_V:=4 }).f_B) (Int.toNat 0) (List.take (Int.toNat (16-0)) (Vector.toList x0)) }) isAgg24 sizeOf24 rfl (lens_cell .z lw)) ?_
 refine at_store (c:=c_api_Addr) (z:={ { zv0 with f_V:=4 } with f_B:=vcopy (({ zv0 with f_V:=4 }).f_B) (Int.toNat 0) (List.take (Int.toNat (16-0)) (Vector.toList x0)) }) (.s .z) lw sizeOf24 rfl rfl rfl ?_
 refine qn (dz (wq [2] ?_))
 refine tn (qt ?_)
 have K:=os hF
 subst K
 exact at_res1 rfl (res_cell (c:=c_api_Addr) (y:={ { zv0 with f_V:=4 } with f_B:=vcopy (({ zv0 with f_V:=4 }).f_B) (Int.toNat 0) (List.take (Int.toNat (16-0)) (Vector.toList x0)) }) rfl .z lw isAgg24 sizeOf24 (.inl rfl)) wb
def addr_Right(x0:S_api_Addr):Option (Bool) :=
 if (x0.f_V==6)=true then (some true) else (if (x0.f_V==4)=true then (if 4≤(lsub (Vector.toList x0.f_B) 0 4).length then addr_Four (lvec 4 (lsub (Vector.toList x0.f_B) 0 4))>>=fun t8=>some (decide (x0=t8)) else none) else (some false))
theorem addr_Right_ok(x0:S_api_Addr)(r:Bool)(hF:addr_Right x0=some r)(w:World) :
    Calls Try.prog 40 #[.agg (Cd.cs c_api_Addr x0).toArray] w (fun e w'=>e=.returned (.bool r)∧Below w.heap.size w w'):=by
 unfold addr_Right at hF
 refine ce (l:=[.agg (Cd.cs c_api_Addr x0).toArray]) func40 rfl rfl ?_
 refine at_start ?_
 refine sr ?_
 refine at_box (cs:=Cd.cs c_api_Addr x0) rfl rfl rfl ?_
 intro b1
 refine aa (nwq [1] ?_)
 refine qs ?_
 refine at_draw (by kernel_rfl) (by kernel_rfl) (fun _ h=>h.drew) ?_
 refine atq_val rfl rfl rfl (r_fieldAddr (fo:=0) underlying24 rfl rfl (fun w=>⟨_,sizeOf3 w⟩) rfl) ?_
 refine atq_val rfl rfl rfl (r_load_cell isAgg3 rfl (lens_cell0 (c:=(cInt .i64)) (y:=x0.f_V) .z (Lens.comp lw (fun z=>{ x0 with f_V:=z }) (c_api_Addr_f_V x0)) rfl)) ?_
 refine atq_val rfl rfl rfl (r_ieql rfl rfl) ?_
 refine atq_val rfl rfl rfl (r_move rfl) ?_
 obtain ⟨h2,hF⟩|⟨h2,hF⟩:=oi hF
 ·refine atq_fix (g:=6) rfl h2 ?_
  refine atq_guard_no rfl rfl rfl rfl rfl ?_
  refine atq_guard_no rfl rfl rfl rfl rfl ?_
  refine atq_guard_no rfl rfl rfl rfl rfl ?_
  refine atq_guard_no rfl rfl rfl rfl rfl ?_
  refine atq_guard_undef rfl rfl rfl rfl ?_
  refine atq_guard_undef rfl rfl rfl rfl ?_
  refine atq_guard_undef rfl rfl rfl rfl ?_
  refine atq_guard_undef rfl rfl rfl rfl ?_
  refine atq_guard_undef rfl rfl rfl rfl ?_
  refine atq_guard_undef rfl rfl rfl rfl ?_
  refine atq_guard_undef rfl rfl rfl rfl ?_
  refine atq_guard_no rfl rfl rfl rfl rfl ?_
  refine atq_val rfl rfl rfl (r_pick rfl rfl rfl) ?_
  refine atq_val rfl rfl rfl (r_assign rfl) ?_
  refine atq_nil ?_
  refine dz (wq [2] ?_)
  refine tn (qt ?_)
  have K:=os hF
  subst K
  exact r1 wb
 refine atq_fix (g:=6) rfl h2 ?_
 refine atq_guard_yes rfl rfl rfl ?_
 refine atq_val rfl rfl rfl (r_fieldAddr (fo:=0) underlying24 rfl rfl (fun w=>⟨_,sizeOf3 w⟩) rfl) ?_
 refine atq_guard_yes rfl rfl rfl ?_
 refine atq_val rfl rfl rfl (r_load_cell isAgg3 rfl (lens_cell0 (c:=(cInt .i64)) (y:=x0.f_V) .z (Lens.comp lw (fun z=>{ x0 with f_V:=z }) (c_api_Addr_f_V x0)) rfl)) ?_
 refine atq_guard_yes rfl rfl rfl ?_
 refine atq_val rfl rfl rfl (r_ieql rfl rfl) ?_
 refine atq_guard_yes rfl rfl rfl ?_
 refine atq_val rfl rfl rfl (r_move rfl) ?_
 obtain ⟨h3,hF⟩|⟨h3,hF⟩:=oi hF
 ·refine atq_fix (g:=10) rfl h3 ?_
  refine atq_guard_yes rfl rfl rfl ?_
  refine atq_val rfl rfl rfl (r_load_aggc (c:=c_api_Addr) (z:=x0) isAgg24 sizeOf24 rfl (lens_cell .z lw)) ?_
  refine atq_guard_yes rfl rfl rfl ?_
  refine atq_val rfl rfl rfl (r_fieldAddr (fo:=1) underlying24 rfl rfl (fun w=>⟨_,sizeOf22 w⟩) rfl) ?_
  refine atq_guard_yes rfl rfl rfl ?_
  refine atq_val rfl rfl rfl (r_view (c:=(cInt .u8)) (v:=x0.f_B) (l:=0) (h:=4) underlying22 sizeOf5 rfl rfl ⟨_,rfl⟩ (by decide)) ?_
  refine atq_guard_yes rfl rfl rfl ?_
  obtain ⟨h4,hF⟩:=gd hF
  refine atq_val rfl rfl rfl (r_arrptr underlying108 rfl h4) ?_
  refine atq_guard_yes rfl rfl rfl ?_
  obtain ⟨b5,o6,hp7⟩:∃ b o,rsp (some ⟨b1,0+1,none⟩) 16 0 (Cd.sz (cInt .u8))=some ⟨b,o,none⟩:=rsp_plain
  refine atq_val rfl rfl rfl (r_load_aggc (c:=(cVec (cInt .u8) 4 (by decide))) (z:=lvec 4 (lsub (Vector.toList x0.f_B) 0 4)) isAgg108 sizeOf108 (by rw [←hp7];rfl) (fun w1 hw=>row_lvec (Row.sub (lens_row .z (Lens.comp lw (fun z=>{ x0 with f_B:=z }) (c_api_Addr_f_B x0)) hw) (vbnd (by decide))) h4 hp7)) ?_
  refine atq_guard_yes rfl rfl rfl ?_
  obtain ⟨t8,ht8,hF⟩:=bM hF
  refine atq_call func73 rfl (by kernel_rfl) rfl rfl (fun w hw=>(addr_Four_ok _ _ ht8 w).mono fun _ _ h=>⟨h.1,hw.call h.2⟩) ?_
  refine atq_guard_yes rfl rfl rfl ?_
  refine atq_val rfl rfl rfl (r_eqagg (c:=c_api_Addr) (a:=x0) (b:=t8) (eq_api_Addr_24) rfl Try.eqGuardType24 rfl rfl (.inl rfl) rfl) ?_
  refine atq_guard_yes rfl rfl rfl ?_
  refine atq_val rfl rfl rfl (r_pick rfl rfl rfl) ?_
  refine atq_val rfl rfl rfl (r_pick rfl rfl rfl) ?_
  refine atq_val rfl rfl rfl (r_assign rfl) ?_
  refine atq_nil ?_
  refine dz (wq [2] ?_)
  refine tn (qt ?_)
  have K:=os hF
  subst K
  exact r1 wb
 refine atq_fix (g:=10) rfl h3 ?_
 refine atq_guard_no rfl rfl rfl rfl rfl ?_
 refine atq_guard_no rfl rfl rfl rfl rfl ?_
 refine atq_guard_no rfl rfl rfl rfl rfl ?_
 refine atq_guard_no rfl rfl rfl rfl rfl ?_
 refine atq_guard_no rfl rfl rfl rfl rfl ?_
 refine atq_guard_no rfl rfl rfl rfl rfl ?_
 refine atq_guard_no rfl rfl rfl rfl rfl ?_
 refine atq_guard_yes rfl rfl rfl ?_
 refine atq_val rfl rfl rfl (r_pick rfl rfl rfl) ?_
 refine atq_val rfl rfl rfl (r_pick rfl rfl rfl) ?_
 refine atq_val rfl rfl rfl (r_assign rfl) ?_
 refine atq_nil ?_
 refine dz (wq [2] ?_)
 refine tn (qt ?_)
 have K:=os hF
 subst K
 exact r1 wb
def addr_Width(x0:S_api_Addr):Option (Int) :=
 addr_Right x0>>=fun t2=>if (!t2)=true then (some 0) else (if (x0.f_V==4)=true then (some 32) else (some 128))
theorem addr_Width_ok(x0:S_api_Addr)(r:Int)(hF:addr_Width x0=some r)(w:World) :
    Calls Try.prog 53 #[.agg (Cd.cs c_api_Addr x0).toArray] w (fun e w'=>e=.returned (.int .i64 r)∧Below w.heap.size w w'):=by
 unfold addr_Width at hF
 refine ce (l:=[.agg (Cd.cs c_api_Addr x0).toArray]) func53 rfl rfl ?_
 refine at_start ?_
 refine sr ?_
 refine at_box (cs:=Cd.cs c_api_Addr x0) rfl rfl rfl ?_
 intro b1
 refine aa (nwq [1] ?_)
 refine qs ?_
 refine qb ?_
 refine sr ?_
 refine aw (r_load_aggc (c:=c_api_Addr) (z:=x0) isAgg24 sizeOf24 rfl (lens_cell .z lw)) ?_
 obtain ⟨t2,ht2,hF⟩:=bM hF
 refine cB func40 rfl (fun w hw=>addr_Right_ok _ _ ht2 w) ?_
 refine aw (r_not rfl) ?_
 refine aa (nwq [3,1] ?_)
 obtain ⟨h3,hF⟩|⟨h3,hF⟩:=oi hF
 ·refine ct h3 ?_
  refine sr (aa (qn (dz (wq [2] ?_))))
  refine tn (qt ?_)
  refine br (tr ?_)
  have K:=os hF
  subst K
  exact r1 wb
 refine cf h3 ?_
 refine sr (fa 0 underlying24 rfl sizeOf3 ?_)
 refine aw (r_load_cell isAgg3 rfl (lens_cell0 (c:=(cInt .i64)) (y:=x0.f_V) .z (Lens.comp lw (fun z=>{ x0 with f_V:=z }) (c_api_Addr_f_V x0)) rfl)) ?_
 refine aw xq (aa (qn (dz (wq [7] ?_))))
 refine tn ?_
 obtain ⟨h4,hF⟩|⟨h4,hF⟩:=oi hF
 ·refine ct h4 ?_
  refine sr (aa (nwq [2] ?_))
  refine qt ?_
  refine br (tr ?_)
  have K:=os hF
  subst K
  exact r1 wb
 refine cf h4 ?_
 refine at_skip ?_
 refine bm ?_
 refine sr (aa (nwq [2] ?_))
 refine qt ?_
 have K:=os hF
 subst K
 exact r1 wb
def addr_Mask.l0(x1:Int)(i6:Int)(i7:S_api_Addr):Option (S_api_Addr) :=
 if (decide (i6<16))=true then (if (decide (x1<0))=true then (if (0:Int)≤i6∧i6<16 then if (0:Int)≤wr .u64 (wr .i64 (8-0)) then if (0:Int)≤i6∧i6<16 then addr_Mask.l0 x1 (wr .i64 (i6+1)) ({ i7 with f_B:=vset i7.f_B i6 (iand .u8 (vget i7.f_B i6) (ishl .u8 255 (wr .u64 (wr .i64 (8-0))))) }) else none else none else none) else (if (0:Int)≤i6∧i6<16 then if (0:Int)≤wr .u64 (wr .i64 (8-(if 8<(if wr .i64 (x1-(wr .i64 (8*i6)))<0 then 0 else wr .i64 (x1-(wr .i64 (8*i6)))) then 8 else (if wr .i64 (x1-(wr .i64 (8*i6)))<0 then 0 else wr .i64 (x1-(wr .i64 (8*i6))))))) then if (0:Int)≤i6∧i6<16 then addr_Mask.l0 x1 (wr .i64 (i6+1)) ({ i7 with f_B:=vset i7.f_B i6 (iand .u8 (vget i7.f_B i6) (ishl .u8 255 (wr .u64 (wr .i64 (8-(if 8<(if wr .i64 (x1-(wr .i64 (8*i6)))<0 then 0 else wr .i64 (x1-(wr .i64 (8*i6)))) then 8 else (if wr .i64 (x1-(wr .i64 (8*i6)))<0 then 0 else wr .i64 (x1-(wr .i64 (8*i6)))))))))) }) else none else none else none)) else (some i7)
 partial_fixpoint
def addr_Mask(x0:S_api_Addr)(x1:Int):Option (S_api_Addr) :=
 addr_Right x0>>=fun t3=>if (!t3)=true then (some ({ f_V:=(0:Int),f_B:=(Vector.replicate 16 (0:Int):(Vector Int 16)) }:S_api_Addr)) else (addr_Mask.l0 x1 0 x0>>=fun q5=>some q5)
theorem addr_Mask_ok(x0:S_api_Addr)(x1:Int)(r:S_api_Addr)(hF:addr_Mask x0 x1=some r)(w:World) :
    Calls Try.prog 85 #[.agg (Cd.cs c_api_Addr x0).toArray,.int .i64 x1] w (fun e w'=>e=.returned (.agg (Cd.cs c_api_Addr r).toArray)∧Below w.heap.size w w'):=by
 unfold addr_Mask at hF
 refine ce (l:=[.agg (Cd.cs c_api_Addr x0).toArray,.int .i64 x1]) func85 rfl rfl ?_
 refine at_start ?_
 refine sr ?_
 refine at_box (cs:=Cd.cs c_api_Addr x0) rfl rfl rfl ?_
 intro b1
 refine al (cs:=Cd.cs c_api_Addr zv0) zeroValue24 ?_
 intro b2
 refine nt (qs (sr ?_))
 refine aw (r_load_aggc (c:=c_api_Addr) (z:=x0) isAgg24 sizeOf24 rfl (lens_cell (.s .z) lw)) ?_
 obtain ⟨t3,ht3,hF⟩:=bM hF
 refine cB func40 rfl (fun w hw=>addr_Right_ok _ _ ht3 w) ?_
 refine aw (r_not rfl) ?_
 refine nwq [9,4,2,1] ?_
 obtain ⟨h4,hF⟩|⟨h4,hF⟩:=oi hF
 ·refine ct h4 ?_
  refine sr ?_
  refine aw (r_build_struct (zs:=Cd.cs c_api_Addr zv0) (cs:=Cd.cs c_api_Addr zv0) underlying24 zeroValue24 rfl (places_api_Addr_24) rfl rfl) ?_
  refine at_store (c:=c_api_Addr) (z:=zv0) .z lw sizeOf24 rfl rfl rfl ?_
  refine qn ?_
  refine at_drop (H:=_) (.s .z) ?_
  refine wq [4] ?_
  refine tn (rt ?_)
  have K:=os hF
  subst K
  exact at_res1 rfl (res_cell (c:=c_api_Addr) (y:=zv0) rfl .z lw isAgg24 sizeOf24 (.inl rfl)) wb
 refine cf h4 ?_
 refine sn (qs (sr (am (nwq [11,4,2,1] ?_))))
 refine qb ?_
 obtain ⟨q5,hq5,hF⟩:=bM hF
 refine wq [11,4,2,1] ?_
 refine at_loop_n (B:=0) (A:=fun Y=>At 35 [(2,.pointer (some ⟨b1,0,none⟩)),(4,.pointer (some ⟨b2,0,none⟩))] (Wd w [cellsE b2 (Cd.cs c_api_Addr zv0) 24,cellsE b1 (Cd.cs c_api_Addr q5) 24]) Y) ?_ ?_
 ·intro K
  refine addr_Mask.l0.partial_correctness x1 (motive:=fun i6 i7 x=>KN (fun Y=>At 35 [(2,.pointer (some ⟨b1,0,none⟩)),(4,.pointer (some ⟨b2,0,none⟩))] (Wd w [cellsE b2 (Cd.cs c_api_Addr zv0) 24,cellsE b1 (Cd.cs c_api_Addr x) 24]) Y) _ 0→Round (fun Y=>At 35 [(1,.int .i64 x1),(2,.pointer (some ⟨b1,0,none⟩)),(4,.pointer (some ⟨b2,0,none⟩)),(11,.int .i64 i6)] (Wd w [cellsE b2 (Cd.cs c_api_Addr zv0) 24,cellsE b1 (Cd.cs c_api_Addr i7) 24]) Y) _ _ _) ?_ _ _ _ hq5 K
  ·clear K hF
   intro g ih i6 i7 x hF K
   refine at_round ?_
   refine sr (aw xl (nwq [12,11,4,2,1] ?_))
   refine qs ?_
   obtain ⟨h8,hF⟩|⟨h8,hF⟩:=oi hF
   ·refine ct h8 ?_
    refine sn (qs ?_)
    refine qb ?_
    refine sr (am (aa (ns (am (am ?_)))))
    refine aw (r_imul rfl rfl) ?_
    refine aw (r_isub rfl rfl) ?_
    refine aw (r_max rfl rfl) ?_
    refine aw (r_min rfl rfl) ?_
    refine aa (nt (qs (sr (am (aw xl (nwq [21,11,6,5,4,2,1] ?_))))))
    obtain ⟨h9,hF⟩|⟨h9,hF⟩:=oi hF
    ·refine ct h9 ?_
     refine qr (aa (nt (qr (am (fa 1 underlying24 rfl sizeOf22 ?_)))))
     obtain ⟨h10,hF⟩:=gd hF
     refine aw (r_idxArr underlying22 sizeOf5 rfl rfl h10) ?_
     refine aw (r_load_cell isAgg5 rfl (lens_cell0 (c:=(cInt .u8)) (y:=vget i7.f_B i6) (.s .z) (Lens.comp (Lens.comp lw (fun z=>{ i7 with f_B:=z }) (c_api_Addr_f_B i7)) (fun z=>vset i7.f_B i6 z) (Lens.vec (cInt .u8) (by decide) i7.f_B i6 h10)) rfl)) ?_
     refine am ?_
     refine aw (r_isub rfl rfl) ?_
     refine aw (r_conv underlying3 underlying81 rfl) ?_
     obtain ⟨h11,hF⟩:=gd hF
     refine aw (r_ishl rfl rfl h11) ?_
     refine aw (r_iand rfl rfl) ?_
     refine fa 1 underlying24 rfl sizeOf22 ?_
     obtain ⟨h12,hF⟩:=gd hF
     refine aw (r_idxArr underlying22 sizeOf5 rfl rfl h12) ?_
     refine at_store (c:=(cInt .u8)) (z:=iand .u8 (vget i7.f_B i6) (ishl .u8 255 (wr .u64 (wr .i64 (8-0))))) (.s .z) (Lens.comp (Lens.comp lw (fun z=>{ i7 with f_B:=z }) (c_api_Addr_f_B i7)) (fun z=>vset i7.f_B i6 z) (Lens.vec (cInt .u8) (by decide) i7.f_B i6 h12)) sizeOf5 rfl rfl rfl ?_
     refine qn (wq [11,4,2,1] ?_)
     refine bm ?_
     refine qr (aw xa (am (nwq [11,4,2,1] ?_)))
     exact at_weak_k (ih _ _ _ hF K) ⟨rfl,rfl,rfl,rfl,trivial⟩
    refine cf h9 ?_
    refine sn (qr (am (fa 1 underlying24 rfl sizeOf22 ?_)))
    obtain ⟨h13,hF⟩:=gd hF
    refine aw (r_idxArr underlying22 sizeOf5 rfl rfl h13) ?_
    refine aw (r_load_cell isAgg5 rfl (lens_cell0 (c:=(cInt .u8)) (y:=vget i7.f_B i6) (.s .z) (Lens.comp (Lens.comp lw (fun z=>{ i7 with f_B:=z }) (c_api_Addr_f_B i7)) (fun z=>vset i7.f_B i6 z) (Lens.vec (cInt .u8) (by decide) i7.f_B i6 h13)) rfl)) ?_
    refine am ?_
    refine aw (r_isub rfl rfl) ?_
    refine aw (r_conv underlying3 underlying81 rfl) ?_
    obtain ⟨h14,hF⟩:=gd hF
    refine aw (r_ishl rfl rfl h14) ?_
    refine aw (r_iand rfl rfl) ?_
    refine fa 1 underlying24 rfl sizeOf22 ?_
    obtain ⟨h15,hF⟩:=gd hF
    refine aw (r_idxArr underlying22 sizeOf5 rfl rfl h15) ?_
    refine at_store (c:=(cInt .u8)) (z:=iand .u8 (vget i7.f_B i6) (ishl .u8 255 (wr .u64 (wr .i64 (8-(if 8<(if wr .i64 (x1-(wr .i64 (8*i6)))<0 then 0 else wr .i64 (x1-(wr .i64 (8*i6)))) then 8 else (if wr .i64 (x1-(wr .i64 (8*i6)))<0 then 0 else wr .i64 (x1-(wr .i64 (8*i6)))))))))) (.s .z) (Lens.comp (Lens.comp lw (fun z=>{ i7 with f_B:=z }) (c_api_Addr_f_B i7)) (fun z=>vset i7.f_B i6 z) (Lens.vec (cInt .u8) (by decide) i7.f_B i6 h15)) sizeOf5 rfl rfl rfl ?_
    refine qn (wq [11,4,2,1] ?_)
    refine bm ?_
    refine qr (aw xa (am (nwq [11,4,2,1] ?_)))
    exact at_weak_k (ih _ _ _ hF K) ⟨rfl,rfl,rfl,rfl,trivial⟩
   refine cf h8 ?_
   refine at_exit ?_
   refine te (te ?_)
   obtain rfl:=os hF
   exact at_weak_k K ⟨rfl,rfl,trivial⟩
 skip
 skip
 refine at_blk_same ?_
 refine tn (sr ?_)
 refine aw (r_load_aggc (c:=c_api_Addr) (z:=q5) isAgg24 sizeOf24 rfl (lens_cell (.s .z) lw)) ?_
 refine at_store (c:=c_api_Addr) (z:=q5) .z lw sizeOf24 rfl rfl rfl ?_
 refine qn ?_
 refine at_drop (H:=_) (.s .z) ?_
 refine wq [4] ?_
 refine tn (qt ?_)
 have K:=os hF
 subst K
 exact at_res1 rfl (res_cell (c:=c_api_Addr) (y:=q5) rfl .z lw isAgg24 sizeOf24 (.inl rfl)) wb
def addr_Bit(x0:S_api_Addr)(x1:Int):Option (Int) :=
 if (decide (x1<0))=true then (some (-1)) else (addr_Width x0>>=fun t3=>if (decide (x1≥t3))=true then (some (-1)) else (if (0:Int)≤ishr .i64 x1 3∧ishr .i64 x1 3<16 then if (0:Int)≤wr .u64 (wr .i64 (7-(iand .i64 x1 7))) then some (iand .i64 (wr .i64 (ishr .u8 (vget x0.f_B (ishr .i64 x1 3)) (wr .u64 (wr .i64 (7-(iand .i64 x1 7)))))) 1) else none else none))
theorem addr_Bit_ok(x0:S_api_Addr)(x1:Int)(r:Int)(hF:addr_Bit x0 x1=some r)(w:World) :
    Calls Try.prog 84 #[.agg (Cd.cs c_api_Addr x0).toArray,.int .i64 x1] w (fun e w'=>e=.returned (.int .i64 r)∧Below w.heap.size w w'):=by
 unfold addr_Bit at hF
 refine ce (l:=[.agg (Cd.cs c_api_Addr x0).toArray,.int .i64 x1]) func84 rfl rfl ?_
 refine at_start ?_
 refine sr ?_
 refine at_box (cs:=Cd.cs c_api_Addr x0) rfl rfl rfl ?_
 intro b1
 refine aa (nwq [2,1] ?_)
 refine qs (sr (am (aw xl (am ?_))))
 obtain ⟨h2,hF⟩|⟨h2,hF⟩:=oi hF
 ·refine fx 7 h2 ?_
  refine gn ?_
  refine gn ?_
  refine gn ?_
  refine gn ?_
  refine aw xp (nwq [12,2,1] ?_)
  refine ct rfl ?_
  refine sr (aa (qn (dz (wq [4] ?_))))
  refine tn (rt ?_)
  have K:=os hF
  subst K
  exact r1 wb
 refine fx 7 h2 ?_
 refine gy ?_
 refine am ?_
 refine gy ?_
 refine aw (r_load_aggc (c:=c_api_Addr) (z:=x0) isAgg24 sizeOf24 rfl (lens_cell .z lw)) ?_
 refine gy ?_
 obtain ⟨t3,ht3,hF⟩:=bM hF
 refine cB func53 rfl (fun w hw=>addr_Width_ok _ _ ht3 w) ?_
 refine gy ?_
 refine aw (r_igeq rfl rfl) ?_
 refine aw xp (nwq [12,2,1] ?_)
 obtain ⟨h4,hF⟩|⟨h4,hF⟩:=oi hF
 ·refine ct h4 ?_
  refine sr (aa (qn (dz (wq [4] ?_))))
  refine tn (rt ?_)
  have K:=os hF
  subst K
  exact r1 wb
 refine cf h4 ?_
 refine sns (am ?_)
 refine aw (r_ishr rfl rfl (by decide)) ?_
 refine fa 1 underlying24 rfl sizeOf22 ?_
 obtain ⟨h5,hF⟩:=gd hF
 refine aw (r_idxArr underlying22 sizeOf5 rfl rfl h5) ?_
 refine aw (r_load_cell isAgg5 rfl (lens_cell0 (c:=(cInt .u8)) (y:=vget x0.f_B (ishr .i64 x1 3)) .z (Lens.comp (Lens.comp lw (fun z=>{ x0 with f_B:=z }) (c_api_Addr_f_B x0)) (fun z=>vset x0.f_B (ishr .i64 x1 3) z) (Lens.vec (cInt .u8) (by decide) x0.f_B (ishr .i64 x1 3) h5)) rfl)) ?_
 refine am ?_
 refine aw (r_iand rfl rfl) ?_
 refine aw (r_isub rfl rfl) ?_
 refine aw (r_conv underlying3 underlying81 rfl) ?_
 obtain ⟨h6,hF⟩:=gd hF
 refine aw (r_ishr rfl rfl h6) ?_
 refine aw (r_conv underlying5 underlying3 rfl) ?_
 refine aw (r_iand rfl rfl) ?_
 refine aa (qn (dz (wq [4] ?_)))
 refine tn (qt ?_)
 have K:=os hF
 subst K
 exact r1 wb
def bytes_Compare(x0:List Int)(x1:List Int):Option (Int) :=
 some (Lib.compareBytes (unb x0) (unb x1))
theorem bytes_Compare_ok(x0:List Int)(p0_:Option Addr)(c0_:Nat)(x1:List Int)(p1_:Option Addr)(c1_:Nat)(r:Int)(hF:bytes_Compare x0 x1=some r)(w:World)(hr0:Row (cInt .u8) w p0_ c0_ x0)(hr1:Row (cInt .u8) w p1_ c1_ x1) :
    Calls Try.prog 72 #[.slice p0_ x0.length c0_,.slice p1_ x1.length c1_] w (fun e w'=>e=.returned (.int .i64 r)∧w'=w):=by
 unfold bytes_Compare at hF
 refine ce (l:=[.slice p0_ x0.length c0_,.slice p1_ x1.length c1_]) func72 rfl rfl ?_
 refine sr (aa (ns (am (am ?_))))
 refine aw (r_cmp (xs:=x0) (ys:=x1) func86 rfl rfl (by kernel_rfl) (by kernel_rfl) rfl rfl (fun w1 hw=>(hr0.below (by subst hw;exact Below.refl _ _))) (fun w1 hw=>(hr1.below (by subst hw;exact Below.refl _ _)))) ?_
 refine aa (nwq [4] ?_)
 refine qt ?_
 have K:=os hF
 subst K
 exact r1 (fun w1 hw=>⟨rfl,hw⟩)
def addr_Less(x0:S_api_Addr)(x1:S_api_Addr):Option (Bool) :=
 if (x0.f_V != x1.f_V)=true then (some (decide (x0.f_V<x1.f_V))) else (bytes_Compare (Vector.toList x0.f_B) (Vector.toList x1.f_B)>>=fun t4=>some (decide (t4<0)))
theorem addr_Less_ok(x0:S_api_Addr)(x1:S_api_Addr)(r:Bool)(hF:addr_Less x0 x1=some r)(w:World) :
    Calls Try.prog 39 #[.agg (Cd.cs c_api_Addr x0).toArray,.agg (Cd.cs c_api_Addr x1).toArray] w (fun e w'=>e=.returned (.bool r)∧Below w.heap.size w w'):=by
 unfold addr_Less at hF
 refine ce (l:=[.agg (Cd.cs c_api_Addr x0).toArray,.agg (Cd.cs c_api_Addr x1).toArray]) func39 rfl rfl ?_
 refine at_start ?_
 refine sr ?_
 refine at_box (cs:=Cd.cs c_api_Addr x0) rfl rfl rfl ?_
 intro b1
 refine at_box (cs:=Cd.cs c_api_Addr x1) rfl rfl rfl ?_
 intro b2
 refine aa (nt (qs (sr (fa 0 underlying24 rfl sizeOf3 ?_))))
 refine aw (r_load_cell isAgg3 rfl (lens_cell0 (c:=(cInt .i64)) (y:=x0.f_V) (.s .z) (Lens.comp lw (fun z=>{ x0 with f_V:=z }) (c_api_Addr_f_V x0)) rfl)) ?_
 refine fa 0 underlying24 rfl sizeOf3 ?_
 refine aw (r_load_cell isAgg3 rfl (lens_cell0 (c:=(cInt .i64)) (y:=x1.f_V) .z (Lens.comp lw (fun z=>{ x1 with f_V:=z }) (c_api_Addr_f_V x1)) rfl)) ?_
 refine aw xn (nwq [9,3,2] ?_)
 obtain ⟨h3,hF⟩|⟨h3,hF⟩:=oi hF
 ·refine ct h3 ?_
  refine sr (fa 0 underlying24 rfl sizeOf3 ?_)
  refine aw (r_load_cell isAgg3 rfl (lens_cell0 (c:=(cInt .i64)) (y:=x0.f_V) (.s .z) (Lens.comp lw (fun z=>{ x0 with f_V:=z }) (c_api_Addr_f_V x0)) rfl)) ?_
  refine fa 0 underlying24 rfl sizeOf3 ?_
  refine aw (r_load_cell isAgg3 rfl (lens_cell0 (c:=(cInt .i64)) (y:=x1.f_V) .z (Lens.comp lw (fun z=>{ x1 with f_V:=z }) (c_api_Addr_f_V x1)) rfl)) ?_
  refine aw xl (aa (qn (dz (dz (wq [4] ?_)))))
  refine tn (rt ?_)
  have K:=os hF
  subst K
  exact r1 wb
 refine cf h3 ?_
 refine sn (qs ?_)
 refine at_draw (by kernel_rfl) (by kernel_rfl) (fun _ h=>h.drew) ?_
 refine atq_val rfl rfl rfl (r_fieldAddr (fo:=1) underlying24 rfl rfl (fun w=>⟨_,sizeOf22 w⟩) rfl) ?_
 refine atq_val rfl rfl rfl (r_view_all (c:=(cInt .u8)) x0.f_B (by decide) underlying22 sizeOf5 rfl) ?_
 refine atq_val rfl rfl rfl (r_fieldAddr (fo:=1) underlying24 rfl rfl (fun w=>⟨_,sizeOf22 w⟩) rfl) ?_
 refine atq_val rfl rfl rfl (r_view_all (c:=(cInt .u8)) x1.f_B (by decide) underlying22 sizeOf5 rfl) ?_
 obtain ⟨t4,ht4,hF⟩:=bM hF
 refine atq_call func72 rfl (by kernel_rfl) rfl rfl (fun w hw=>(bytes_Compare_ok _ _ _ _ _ _ _ ht4 w (lens_row (.s .z) (Lens.comp lw (fun z=>{ x0 with f_B:=z }) (c_api_Addr_f_B x0)) hw) (lens_row .z (Lens.comp lw (fun z=>{ x1 with f_B:=z }) (c_api_Addr_f_B x1)) hw)).mono fun _ _ h=>⟨h.1,h.2▸hw⟩) ?_
 refine atq_val rfl rfl rfl (r_ilss rfl rfl) ?_
 refine atq_val rfl rfl rfl (r_assign rfl) ?_
 refine atq_nil ?_
 refine dz (dz (wq [4] ?_))
 refine tn (qt ?_)
 have K:=os hF
 subst K
 exact r1 wb
def cidr_Of(x0:S_api_Addr)(x1:Int):Option (S_api_Prefix×Int) :=
 addr_Right x0>>=fun t3=>if (!t3)=true then (some (({ f_A:=({ f_V:=(0:Int),f_B:=(Vector.replicate 16 (0:Int):(Vector Int 16)) }:S_api_Addr),f_Bits:=(0:Int) }:S_api_Prefix),1)) else (if (decide (x1<0))=true then (some (({ f_A:=({ f_V:=(0:Int),f_B:=(Vector.replicate 16 (0:Int):(Vector Int 16)) }:S_api_Addr),f_Bits:=(0:Int) }:S_api_Prefix),6)) else (addr_Width x0>>=fun t6=>if (decide (x1>t6))=true then (some (({ f_A:=({ f_V:=(0:Int),f_B:=(Vector.replicate 16 (0:Int):(Vector Int 16)) }:S_api_Addr),f_Bits:=(0:Int) }:S_api_Prefix),6)) else (addr_Mask x0 x1>>=fun t8=>some ({ { ({ f_A:=({ f_V:=(0:Int),f_B:=(Vector.replicate 16 (0:Int):(Vector Int 16)) }:S_api_Addr),f_Bits:=(0:Int) }:S_api_Prefix) with f_A:=t8 } with f_Bits:=x1 },0))))
theorem cidr_Of_ok(x0:S_api_Addr)(x1:Int)(r:S_api_Prefix×Int)(hF:cidr_Of x0 x1=some r)(w:World) :
    Calls Try.prog 71 #[.agg (Cd.cs c_api_Addr x0).toArray,.int .i64 x1] w (fun e w'=>e=.returned (.tuple #[.agg (Cd.cs c_api_Prefix r.1).toArray,.int .i64 r.2])∧Below w.heap.size w w'):=by
 unfold cidr_Of at hF
 refine ce (l:=[.agg (Cd.cs c_api_Addr x0).toArray,.int .i64 x1]) func71 rfl rfl ?_
 refine at_start ?_
 refine sr ?_
 refine at_box (cs:=Cd.cs c_api_Addr x0) rfl rfl rfl ?_
 intro b1
 refine al (cs:=Cd.cs c_api_Prefix zv2) zeroValue37 ?_
 intro b2
 refine aa (nwq [4,2,1] ?_)
 refine qs ?_
 refine qb ?_
 refine sr ?_
 refine aw (r_load_aggc (c:=c_api_Addr) (z:=x0) isAgg24 sizeOf24 rfl (lens_cell (.s .z) lw)) ?_
 obtain ⟨t3,ht3,hF⟩:=bM hF
 refine cB func40 rfl (fun w hw=>addr_Right_ok _ _ ht3 w) ?_
 refine aw (r_not rfl) ?_
 refine aa (nwq [6,4,2,1] ?_)
 obtain ⟨h4,hF⟩|⟨h4,hF⟩:=oi hF
 ·refine ct h4 ?_
  refine sr ?_
  refine aw (r_build_struct (zs:=Cd.cs c_api_Prefix zv2) (cs:=Cd.cs c_api_Prefix zv2) underlying37 zeroValue37 rfl (places_api_Prefix_37) rfl rfl) ?_
  refine at_store (c:=c_api_Prefix) (z:=zv2) .z lw sizeOf37 rfl rfl rfl ?_
  refine aa (qn ?_)
  refine at_drop (H:=_) (.s .z) ?_
  refine wq [5,4] ?_
  refine tn (qt ?_)
  refine br (tr ?_)
  have K:=os hF
  subst K
  exact at_res2 rfl (res_cell (c:=c_api_Prefix) (y:=zv2) rfl .z lw isAgg37 sizeOf37 (.inl rfl)) (res_tmp rfl) wb
 refine cf h4 ?_
 refine sr (am (aw xl (am ?_)))
 obtain ⟨h5,hF⟩|⟨h5,hF⟩:=oi hF
 ·refine fx 14 h5 ?_
  refine gn ?_
  refine gn ?_
  refine gn ?_
  refine gn ?_
  refine aw xp (aa (nwq [11,4,2,1] ?_))
  refine ct rfl ?_
  refine sr ?_
  refine aw (r_build_struct (zs:=Cd.cs c_api_Prefix zv2) (cs:=Cd.cs c_api_Prefix zv2) underlying37 zeroValue37 rfl (places_api_Prefix_37) rfl rfl) ?_
  refine at_store (c:=c_api_Prefix) (z:=zv2) .z lw sizeOf37 rfl rfl rfl ?_
  refine aa (qn ?_)
  refine at_drop (H:=_) (.s .z) ?_
  refine wq [5,4] ?_
  refine tn (qt ?_)
  refine br (tr ?_)
  have K:=os hF
  subst K
  exact at_res2 rfl (res_cell (c:=c_api_Prefix) (y:=zv2) rfl .z lw isAgg37 sizeOf37 (.inl rfl)) (res_tmp rfl) wb
 refine fx 14 h5 ?_
 refine gy ?_
 refine am ?_
 refine gy ?_
 refine aw (r_load_aggc (c:=c_api_Addr) (z:=x0) isAgg24 sizeOf24 rfl (lens_cell (.s .z) lw)) ?_
 refine gy ?_
 obtain ⟨t6,ht6,hF⟩:=bM hF
 refine cB func53 rfl (fun w hw=>addr_Width_ok _ _ ht6 w) ?_
 refine gy ?_
 refine aw (r_igtr rfl rfl) ?_
 refine aw xp (aa (nwq [11,4,2,1] ?_))
 obtain ⟨h7,hF⟩|⟨h7,hF⟩:=oi hF
 ·refine ct h7 ?_
  refine sr ?_
  refine aw (r_build_struct (zs:=Cd.cs c_api_Prefix zv2) (cs:=Cd.cs c_api_Prefix zv2) underlying37 zeroValue37 rfl (places_api_Prefix_37) rfl rfl) ?_
  refine at_store (c:=c_api_Prefix) (z:=zv2) .z lw sizeOf37 rfl rfl rfl ?_
  refine aa (qn ?_)
  refine at_drop (H:=_) (.s .z) ?_
  refine wq [5,4] ?_
  refine tn (qt ?_)
  refine br (tr ?_)
  have K:=os hF
  subst K
  exact at_res2 rfl (res_cell (c:=c_api_Prefix) (y:=zv2) rfl .z lw isAgg37 sizeOf37 (.inl rfl)) (res_tmp rfl) wb
 refine cf h7 ?_
 refine at_skip ?_
 refine bm ?_
 refine sr ?_
 refine aw (r_load_aggc (c:=c_api_Addr) (z:=x0) isAgg24 sizeOf24 rfl (lens_cell (.s .z) lw)) ?_
 refine am ?_
 obtain ⟨t8,ht8,hF⟩:=bM hF
 refine cB func85 rfl (fun w hw=>addr_Mask_ok _ _ _ ht8 w) ?_
 refine am ?_
 refine aw (r_build_struct (zs:=Cd.cs c_api_Prefix zv2) (cs:=Cd.cs c_api_Prefix ({ { zv2 with f_A:=t8 } with f_Bits:=x1 })) underlying37 zeroValue37 rfl (places_api_Prefix_37) rfl (fill_step (c:=c_api_Addr) (z:=t8) rfl (c_api_Prefix_f_A zv2) rfl (fill_step (c:=(cInt .i64)) (z:=x1) rfl (c_api_Prefix_f_Bits ({ zv2 with f_A:=t8 })) rfl rfl))) ?_
 refine at_store (c:=c_api_Prefix) (z:={ { zv2 with f_A:=t8 } with f_Bits:=x1 }) .z lw sizeOf37 rfl rfl rfl ?_
 refine aa (qn ?_)
 refine at_drop (H:=_) (.s .z) ?_
 refine wq [5,4] ?_
 refine tn (qt ?_)
 have K:=os hF
 subst K
 exact at_res2 rfl (res_cell (c:=c_api_Prefix) (y:={ { zv2 with f_A:=t8 } with f_Bits:=x1 }) rfl .z lw isAgg37 sizeOf37 (.inl rfl)) (res_tmp rfl) wb
def cidr_Right(x0:S_api_Prefix):Option (Bool) :=
 cidr_Of x0.f_A x0.f_Bits>>=fun t2=>if (t2.2==0)=true then (some (decide (t2.1=x0))) else (some false)
theorem cidr_Right_ok(x0:S_api_Prefix)(r:Bool)(hF:cidr_Right x0=some r)(w:World) :
    Calls Try.prog 47 #[.agg (Cd.cs c_api_Prefix x0).toArray] w (fun e w'=>e=.returned (.bool r)∧Below w.heap.size w w'):=by
 unfold cidr_Right at hF
 refine ce (l:=[.agg (Cd.cs c_api_Prefix x0).toArray]) func47 rfl rfl ?_
 refine at_start ?_
 refine sr ?_
 refine at_box (cs:=Cd.cs c_api_Prefix x0) rfl rfl rfl ?_
 intro b1
 refine aa (ns (fa 0 underlying37 rfl sizeOf24 ?_))
 refine aw (r_load_aggc (c:=c_api_Addr) (z:=x0.f_A) isAgg24 sizeOf24 rfl (lens_cell .z (Lens.comp lw (fun z=>{ x0 with f_A:=z }) (c_api_Prefix_f_A x0)))) ?_
 refine fa 17 underlying37 rfl sizeOf3 ?_
 refine aw (r_load_cell isAgg3 rfl (lens_cell0 (c:=(cInt .i64)) (y:=x0.f_Bits) .z (Lens.comp lw (fun z=>{ x0 with f_Bits:=z }) (c_api_Prefix_f_Bits x0)) rfl)) ?_
 obtain ⟨t2,ht2,hF⟩:=bM hF
 refine cB func71 rfl (fun w hw=>cidr_Of_ok _ _ _ ht2 w) ?_
 refine am ?_
 refine aw xe (aw xe ?_)
 refine al (cs:=Cd.cs c_api_Prefix zv2) zeroValue37 ?_
 intro b3
 refine at_store (c:=c_api_Prefix) (z:=t2.1) .z lw sizeOf37 rfl rfl rfl ?_
 refine aa (nwx [4,3,1] ?_)
 refine am (aw xq (am ?_))
 obtain ⟨h4,hF⟩|⟨h4,hF⟩:=oi hF
 ·refine fx 15 h4 ?_
  refine gy ?_
  refine aw (r_load_aggc (c:=c_api_Prefix) (z:=t2.1) isAgg37 sizeOf37 rfl (lens_cell .z lw)) ?_
  refine gy ?_
  refine aw (r_load_aggc (c:=c_api_Prefix) (z:=x0) isAgg37 sizeOf37 rfl (lens_cell (.s .z) lw)) ?_
  refine gy ?_
  refine aw (r_eqagg (c:=c_api_Prefix) (a:=t2.1) (b:=x0) (eq_api_Prefix_37) rfl Try.eqGuardType37 rfl rfl (.inl rfl) rfl) ?_
  refine aw xp (aa (qn (dz (dz (wq [2] ?_)))))
  refine tn (qt ?_)
  have K:=os hF
  subst K
  exact r1 wb
 refine fx 15 h4 ?_
 refine gn ?_
 refine gn ?_
 refine gn ?_
 refine aw xp (aa (qn (dz (dz (wq [2] ?_)))))
 refine tn (qt ?_)
 have K:=os hF
 subst K
 exact r1 wb
def cidr_Less(x0:S_api_Prefix)(x1:S_api_Prefix):Option (Bool) :=
 if (decide (x0.f_A=x1.f_A))=true then (some (decide (x0.f_Bits<x1.f_Bits))) else (addr_Less x0.f_A x1.f_A>>=fun t4=>some t4)
theorem cidr_Less_ok(x0:S_api_Prefix)(x1:S_api_Prefix)(r:Bool)(hF:cidr_Less x0 x1=some r)(w:World) :
    Calls Try.prog 67 #[.agg (Cd.cs c_api_Prefix x0).toArray,.agg (Cd.cs c_api_Prefix x1).toArray] w (fun e w'=>e=.returned (.bool r)∧Below w.heap.size w w'):=by
 unfold cidr_Less at hF
 refine ce (l:=[.agg (Cd.cs c_api_Prefix x0).toArray,.agg (Cd.cs c_api_Prefix x1).toArray]) func67 rfl rfl ?_
 refine at_start ?_
 refine sr ?_
 refine at_box (cs:=Cd.cs c_api_Prefix x0) rfl rfl rfl ?_
 intro b1
 refine at_box (cs:=Cd.cs c_api_Prefix x1) rfl rfl rfl ?_
 intro b2
 refine aa (nt (qs (sr (fa 0 underlying37 rfl sizeOf24 ?_))))
 refine aw (r_load_aggc (c:=c_api_Addr) (z:=x0.f_A) isAgg24 sizeOf24 rfl (lens_cell (.s .z) (Lens.comp lw (fun z=>{ x0 with f_A:=z }) (c_api_Prefix_f_A x0)))) ?_
 refine fa 0 underlying37 rfl sizeOf24 ?_
 refine aw (r_load_aggc (c:=c_api_Addr) (z:=x1.f_A) isAgg24 sizeOf24 rfl (lens_cell .z (Lens.comp lw (fun z=>{ x1 with f_A:=z }) (c_api_Prefix_f_A x1)))) ?_
 refine aw (r_eqagg (c:=c_api_Addr) (a:=x0.f_A) (b:=x1.f_A) (eq_api_Addr_24) rfl Try.eqGuardType24 rfl rfl (.inl rfl) rfl) ?_
 refine nwq [9,3,2] ?_
 obtain ⟨h3,hF⟩|⟨h3,hF⟩:=oi hF
 ·refine ct h3 ?_
  refine sr (fa 17 underlying37 rfl sizeOf3 ?_)
  refine aw (r_load_cell isAgg3 rfl (lens_cell0 (c:=(cInt .i64)) (y:=x0.f_Bits) (.s .z) (Lens.comp lw (fun z=>{ x0 with f_Bits:=z }) (c_api_Prefix_f_Bits x0)) rfl)) ?_
  refine fa 17 underlying37 rfl sizeOf3 ?_
  refine aw (r_load_cell isAgg3 rfl (lens_cell0 (c:=(cInt .i64)) (y:=x1.f_Bits) .z (Lens.comp lw (fun z=>{ x1 with f_Bits:=z }) (c_api_Prefix_f_Bits x1)) rfl)) ?_
  refine aw xl (aa (qn (dz (dz (wq [4] ?_)))))
  refine tn (rt ?_)
  have K:=os hF
  subst K
  exact r1 wb
 refine cf h3 ?_
 refine sns (fa 0 underlying37 rfl sizeOf24 ?_)
 refine aw (r_load_aggc (c:=c_api_Addr) (z:=x0.f_A) isAgg24 sizeOf24 rfl (lens_cell (.s .z) (Lens.comp lw (fun z=>{ x0 with f_A:=z }) (c_api_Prefix_f_A x0)))) ?_
 refine fa 0 underlying37 rfl sizeOf24 ?_
 refine aw (r_load_aggc (c:=c_api_Addr) (z:=x1.f_A) isAgg24 sizeOf24 rfl (lens_cell .z (Lens.comp lw (fun z=>{ x1 with f_A:=z }) (c_api_Prefix_f_A x1)))) ?_
 obtain ⟨t4,ht4,hF⟩:=bM hF
 refine cB func39 rfl (fun w hw=>addr_Less_ok _ _ _ ht4 w) ?_
 refine aa (qn (dz (dz (wq [4] ?_))))
 refine tn (qt ?_)
 have K:=os hF
 subst K
 exact r1 wb
def crawlwayref10_Right.l0(x0:S_api_Addr)(i4:Int):Option (Ctl (Bool) (Unit)) :=
 if (decide (i4<16))=true then (if (0:Int)≤i4∧i4<16 then if (vget x0.f_B i4 != 0)=true then (some (.ret false)) else (crawlwayref10_Right.l0 x0 (wr .i64 (i4+1))) else none) else (some (.nx ()))
 partial_fixpoint
def crawlwayref10_Right(x0:S_api_Addr):Option (Bool) :=
 if (x0.f_V==6)=true then (some true) else (crawlwayref10_Right.l0 x0 4>>=fun q3=>match q3 with | .ret r'=>some r' | .nx sq3=>(some (x0.f_V==4)))
theorem crawlwayref10_Right_ok(x0:S_api_Addr)(r:Bool)(hF:crawlwayref10_Right x0=some r)(w:World) :
    Calls Try.prog 23 #[.agg (Cd.cs c_api_Addr x0).toArray] w (fun e w'=>e=.returned (.bool r)∧Below w.heap.size w w'):=by
 unfold crawlwayref10_Right at hF
 refine ce (l:=[.agg (Cd.cs c_api_Addr x0).toArray]) func23 rfl rfl ?_
 refine at_start ?_
 refine sr ?_
 refine at_box (cs:=Cd.cs c_api_Addr x0) rfl rfl rfl ?_
 intro b1
 refine aa (nt (qs (sr (fa 0 underlying24 rfl sizeOf3 ?_))))
 refine aw (r_load_cell isAgg3 rfl (lens_cell0 (c:=(cInt .i64)) (y:=x0.f_V) .z (Lens.comp lw (fun z=>{ x0 with f_V:=z }) (c_api_Addr_f_V x0)) rfl)) ?_
 refine aw xq (nwq [6,1] ?_)
 obtain ⟨h2,hF⟩|⟨h2,hF⟩:=oi hF
 ·refine ct h2 ?_
  refine sr (aa (qn (dz (wq [2] ?_))))
  refine tn (rt ?_)
  have K:=os hF
  subst K
  exact r1 wb
 refine cf h2 ?_
 refine sn (qs (sr (aa (nwq [3,1] ?_))))
 refine qb ?_
 obtain ⟨q3,hq3,hF⟩:=bM hF
 refine wq [3,1] ?_
 refine at_loop_r (B:=0) (r:=r) (q:=q3) (A:=fun (_:Unit) Y=>At 19 [(1,.pointer (some ⟨b1,0,none⟩))] (Wd w [cellsE b1 (Cd.cs c_api_Addr x0) 24]) Y) ?_ ?_
 ·intro K
  refine crawlwayref10_Right.l0.partial_correctness x0 (motive:=fun i4 x=>KR (fun (_:Unit) Y=>At 19 [(1,.pointer (some ⟨b1,0,none⟩))] (Wd w [cellsE b1 (Cd.cs c_api_Addr x0) 24]) Y) _ 0 r x→Round (fun Y=>At 19 [(1,.pointer (some ⟨b1,0,none⟩)),(3,.int .i64 i4)] (Wd w [cellsE b1 (Cd.cs c_api_Addr x0) 24]) Y) _ _ _) ?_ _ _ hq3 K
  ·clear K hF
   intro g ih i4 x hF K
   refine at_round ?_
   refine qs (sr (am (aw xl (nwq [8,3,1] ?_))))
   obtain ⟨h5,hF⟩|⟨h5,hF⟩:=oi hF
   ·refine ct h5 ?_
    refine sn (qs ?_)
    refine qb ?_
    refine sr (am (fa 1 underlying24 rfl sizeOf22 ?_))
    obtain ⟨h6,hF⟩:=gd hF
    refine aw (r_idxArr underlying22 sizeOf5 rfl rfl h6) ?_
    refine aw (r_load_cell isAgg5 rfl (lens_cell0 (c:=(cInt .u8)) (y:=vget x0.f_B i4) .z (Lens.comp (Lens.comp lw (fun z=>{ x0 with f_B:=z }) (c_api_Addr_f_B x0)) (fun z=>vset x0.f_B i4 z) (Lens.vec (cInt .u8) (by decide) x0.f_B i4 h6)) rfl)) ?_
    refine aw xn (nwq [15,3,1] ?_)
    obtain ⟨h7,hF⟩|⟨h7,hF⟩:=oi hF
    ·refine ct h7 ?_
     refine sr (aa (qn (dz (wq [2] ?_))))
     refine tn (qt ?_)
     refine br (tr (tr (br (tr ?_))))
     obtain rfl:=os hF
     subst K
     exact r1 wb
    refine cf h7 ?_
    refine at_skip ?_
    refine bm ?_
    refine qr (am (aw xa (aa (nwq [3,1] ?_))))
    exact at_weak_k (ih _ _ hF K) ⟨rfl,rfl,trivial⟩
   refine cf h5 ?_
   refine at_exit ?_
   refine te (te ?_)
   obtain rfl:=os hF
   exact at_weak_k K ⟨rfl,trivial⟩
 cases q3 with
 | ret r'=>exact os hF
 | nx sq3 =>
  skip
  refine at_blk_same ?_
  refine tn (sr (fa 0 underlying24 rfl sizeOf3 ?_))
  refine aw (r_load_cell isAgg3 rfl (lens_cell0 (c:=(cInt .i64)) (y:=x0.f_V) .z (Lens.comp lw (fun z=>{ x0 with f_V:=z }) (c_api_Addr_f_V x0)) rfl)) ?_
  refine aw xq (aa (qn (dz (wq [2] ?_))))
  refine tn (qt ?_)
  have K:=os hF
  subst K
  exact r1 wb
def crawlwayref10_Width(x0:S_api_Addr):Option (Int) :=
 crawlwayref10_Right x0>>=fun t2=>if (!t2)=true then (some 0) else (if (x0.f_V==4)=true then (some 32) else (some 128))
theorem crawlwayref10_Width_ok(x0:S_api_Addr)(r:Int)(hF:crawlwayref10_Width x0=some r)(w:World) :
    Calls Try.prog 42 #[.agg (Cd.cs c_api_Addr x0).toArray] w (fun e w'=>e=.returned (.int .i64 r)∧Below w.heap.size w w'):=by
 unfold crawlwayref10_Width at hF
 refine ce (l:=[.agg (Cd.cs c_api_Addr x0).toArray]) func42 rfl rfl ?_
 refine at_start ?_
 refine sr ?_
 refine at_box (cs:=Cd.cs c_api_Addr x0) rfl rfl rfl ?_
 intro b1
 refine aa (nt (qs (sr ?_)))
 refine aw (r_load_aggc (c:=c_api_Addr) (z:=x0) isAgg24 sizeOf24 rfl (lens_cell .z lw)) ?_
 obtain ⟨t2,ht2,hF⟩:=bM hF
 refine cB func23 rfl (fun w hw=>crawlwayref10_Right_ok _ _ ht2 w) ?_
 refine aw (r_not rfl) ?_
 refine nwq [5,1] ?_
 obtain ⟨h3,hF⟩|⟨h3,hF⟩:=oi hF
 ·refine ct h3 ?_
  refine sr (aa (qn (dz (wq [2] ?_))))
  refine tn (rt ?_)
  have K:=os hF
  subst K
  exact r1 wb
 refine cf h3 ?_
 refine sn (qs (sr (fa 0 underlying24 rfl sizeOf3 ?_)))
 refine aw (r_load_cell isAgg3 rfl (lens_cell0 (c:=(cInt .i64)) (y:=x0.f_V) .z (Lens.comp lw (fun z=>{ x0 with f_V:=z }) (c_api_Addr_f_V x0)) rfl)) ?_
 refine aw xq (qn (dz (wq [8] ?_)))
 refine tn ?_
 obtain ⟨h4,hF⟩|⟨h4,hF⟩:=oi hF
 ·refine ct h4 ?_
  refine sr (aa (nwq [2] ?_))
  refine rt ?_
  have K:=os hF
  subst K
  exact r1 wb
 refine cf h4 ?_
 refine sns (aa (nwq [2] ?_))
 refine qt ?_
 have K:=os hF
 subst K
 exact r1 wb
def crawlwayref10_digit.l0(x1:Int)(i4:Int)(i5:Int):Option (Int) :=
 if (decide (i5>Int.tmod x1 8))=true then (crawlwayref10_digit.l0 x1 (wr .i64 (Int.tdiv i4 2)) (wr .i64 (i5-1))) else (some i4)
 partial_fixpoint
def crawlwayref10_digit(x0:S_api_Addr)(x1:Int):Option (Int) :=
 if (0:Int)≤wr .i64 (Int.tdiv x1 8)∧wr .i64 (Int.tdiv x1 8)<16 then crawlwayref10_digit.l0 x1 (wr .i64 (vget x0.f_B (wr .i64 (Int.tdiv x1 8)))) 7>>=fun q3=>some (Int.tmod q3 2) else none
theorem crawlwayref10_digit_ok(x0:S_api_Addr)(x1:Int)(r:Int)(hF:crawlwayref10_digit x0 x1=some r)(w:World) :
    Calls Try.prog 43 #[.agg (Cd.cs c_api_Addr x0).toArray,.int .i64 x1] w (fun e w'=>e=.returned (.int .i64 r)∧Below w.heap.size w w'):=by
 unfold crawlwayref10_digit at hF
 refine ce (l:=[.agg (Cd.cs c_api_Addr x0).toArray,.int .i64 x1]) func43 rfl rfl ?_
 refine at_start ?_
 refine sr ?_
 refine at_box (cs:=Cd.cs c_api_Addr x0) rfl rfl rfl ?_
 intro b1
 refine aa (ns (am ?_))
 refine aw (r_iquo rfl rfl (by decide)) ?_
 refine fa 1 underlying24 rfl sizeOf22 ?_
 obtain ⟨h2,hF⟩:=gd hF
 refine aw (r_idxArr underlying22 sizeOf5 rfl rfl h2) ?_
 refine aw (r_load_cell isAgg5 rfl (lens_cell0 (c:=(cInt .u8)) (y:=vget x0.f_B (wr .i64 (Int.tdiv x1 8))) .z (Lens.comp (Lens.comp lw (fun z=>{ x0 with f_B:=z }) (c_api_Addr_f_B x0)) (fun z=>vset x0.f_B (wr .i64 (Int.tdiv x1 8)) z) (Lens.vec (cInt .u8) (by decide) x0.f_B (wr .i64 (Int.tdiv x1 8)) h2)) rfl)) ?_
 refine aw (r_conv underlying5 underlying3 rfl) ?_
 refine aa (qn (dz (tn (qs (sr (aa (nwq [6,5,1] ?_)))))))
 refine qb ?_
 obtain ⟨q3,hq3,hF⟩:=bM hF
 refine wq [6,5,1] ?_
 refine at_loop_n (B:=0) (A:=fun Y=>At 23 [(5,.int .i64 q3)] (Wd w []) Y) ?_ ?_
 ·intro K
  refine crawlwayref10_digit.l0.partial_correctness x1 (motive:=fun i4 i5 x=>KN (fun Y=>At 23 [(5,.int .i64 x)] (Wd w []) Y) _ 0→Round (fun Y=>At 23 [(1,.int .i64 x1),(5,.int .i64 i4),(6,.int .i64 i5)] (Wd w []) Y) _ _ _) ?_ _ _ _ hq3 K
  ·clear K hF
   intro g ih i4 i5 x hF K
   refine at_round ?_
   refine qs (sr (am (am ?_)))
   refine aw (r_irem rfl rfl (by decide)) ?_
   refine aw (r_igtr rfl rfl) ?_
   refine nwq [16,6,5,1] ?_
   obtain ⟨h6,hF⟩|⟨h6,hF⟩:=oi hF
   ·refine ct h6 ?_
    refine sn (qs ?_)
    refine qb ?_
    refine qr (am ?_)
    refine aw (r_iquo rfl rfl (by decide)) ?_
    refine aa (qn (wq [6,5,1] ?_))
    refine bm ?_
    refine qr (am ?_)
    refine aw (r_isub rfl rfl) ?_
    refine aa (nwq [6,5,1] ?_)
    exact at_weak_k (ih _ _ _ hF K) ⟨rfl,rfl,rfl,trivial⟩
   refine cf h6 ?_
   refine at_exit ?_
   refine te (te ?_)
   obtain rfl:=os hF
   exact at_weak_k K ⟨rfl,trivial⟩
 skip
 skip
 refine at_blk_same ?_
 refine tn (sr (am ?_))
 refine aw (r_irem rfl rfl (by decide)) ?_
 refine aa (nwq [4] ?_)
 refine qt ?_
 have K:=os hF
 subst K
 exact r1 wb
def crawlwayref10_Mask.l1(i9:Int)(i17:Int)(i18:Int):Option (Int) :=
 if (decide (i18<Int.tmod i9 8))=true then (crawlwayref10_Mask.l1 i9 (wr .i64 (Int.tdiv i17 2)) (wr .i64 (i18+1))) else (some i17)
 partial_fixpoint
def crawlwayref10_Mask.l0(x0:S_api_Addr)(x1:Int)(t6:Int)(i9:Int)(i10:S_api_Addr):Option (S_api_Addr) :=
 if (decide (i9<t6))=true then (if (decide (i9<x1))=true then (crawlwayref10_digit x0 i9>>=fun t13=>if (t13==1)=true then (crawlwayref10_Mask.l1 i9 128 0>>=fun q15=>if (0:Int)≤wr .i64 (Int.tdiv i9 8)∧wr .i64 (Int.tdiv i9 8)<16 then if (0:Int)≤wr .i64 (Int.tdiv i9 8)∧wr .i64 (Int.tdiv i9 8)<16 then crawlwayref10_Mask.l0 x0 x1 t6 (wr .i64 (i9+1)) ({ i10 with f_B:=vset i10.f_B (wr .i64 (Int.tdiv i9 8)) (wr .u8 ((vget i10.f_B (wr .i64 (Int.tdiv i9 8)))+(wr .u8 q15))) }) else none else none) else (crawlwayref10_Mask.l0 x0 x1 t6 (wr .i64 (i9+1)) i10)) else (some i10)) else (some i10)
 partial_fixpoint
def crawlwayref10_Mask(x0:S_api_Addr)(x1:Int):Option (S_api_Addr) :=
 crawlwayref10_Right x0>>=fun t3=>if (!t3)=true then (some ({ f_V:=(0:Int),f_B:=(Vector.replicate 16 (0:Int):(Vector Int 16)) }:S_api_Addr)) else (crawlwayref10_Width x0>>=fun t6=>crawlwayref10_Mask.l0 x0 x1 t6 0 ({ ({ f_V:=(0:Int),f_B:=(Vector.replicate 16 (0:Int):(Vector Int 16)) }:S_api_Addr) with f_V:=x0.f_V })>>=fun q7=>some q7)
theorem crawlwayref10_Mask_ok(x0:S_api_Addr)(x1:Int)(r:S_api_Addr)(hF:crawlwayref10_Mask x0 x1=some r)(w:World) :
    Calls Try.prog 16 #[.agg (Cd.cs c_api_Addr x0).toArray,.int .i64 x1] w (fun e w'=>e=.returned (.agg (Cd.cs c_api_Addr r).toArray)∧Below w.heap.size w w'):=by
 unfold crawlwayref10_Mask at hF
 refine ce (l:=[.agg (Cd.cs c_api_Addr x0).toArray,.int .i64 x1]) func16 rfl rfl ?_
 refine at_start ?_
 refine sr ?_
 refine at_box (cs:=Cd.cs c_api_Addr x0) rfl rfl rfl ?_
 intro b1
 refine al (cs:=Cd.cs c_api_Addr zv0) zeroValue24 ?_
 intro b2
 refine nt (qs (sr ?_))
 refine aw (r_load_aggc (c:=c_api_Addr) (z:=x0) isAgg24 sizeOf24 rfl (lens_cell (.s .z) lw)) ?_
 obtain ⟨t3,ht3,hF⟩:=bM hF
 refine cB func23 rfl (fun w hw=>crawlwayref10_Right_ok _ _ ht3 w) ?_
 refine aw (r_not rfl) ?_
 refine nwq [12,4,2,1] ?_
 obtain ⟨h4,hF⟩|⟨h4,hF⟩:=oi hF
 ·refine ct h4 ?_
  refine sr ?_
  refine aw (r_build_struct (zs:=Cd.cs c_api_Addr zv0) (cs:=Cd.cs c_api_Addr zv0) underlying24 zeroValue24 rfl (places_api_Addr_24) rfl rfl) ?_
  refine at_store (c:=c_api_Addr) (z:=zv0) .z lw sizeOf24 rfl rfl rfl ?_
  refine qn ?_
  refine at_drop (H:=_) (.s .z) ?_
  refine wq [4] ?_
  refine tn (rt ?_)
  have K:=os hF
  subst K
  exact at_res1 rfl (res_cell (c:=c_api_Addr) (y:=zv0) rfl .z lw isAgg24 sizeOf24 (.inl rfl)) wb
 refine cf h4 ?_
 refine sns (fa 0 underlying24 rfl sizeOf3 ?_)
 refine aw (r_load_cell isAgg3 rfl (lens_cell0 (c:=(cInt .i64)) (y:=x0.f_V) (.s .z) (Lens.comp lw (fun z=>{ x0 with f_V:=z }) (c_api_Addr_f_V x0)) rfl)) ?_
 refine aw (r_build_struct (zs:=Cd.cs c_api_Addr zv0) (cs:=Cd.cs c_api_Addr ({ zv0 with f_V:=x0.f_V })) underlying24 zeroValue24 rfl (places_api_Addr_24) rfl (fill_step (c:=(cInt .i64)) (z:=x0.f_V) rfl (c_api_Addr_f_V zv0) rfl rfl)) ?_
 refine al (cs:=Cd.cs c_api_Addr zv0) zeroValue24 ?_
 intro b5
 refine at_store (c:=c_api_Addr) (z:={ zv0 with f_V:=x0.f_V }) .z lw sizeOf24 rfl rfl rfl ?_
 refine ns ?_
 refine aw (r_load_aggc (c:=c_api_Addr) (z:=x0) isAgg24 sizeOf24 rfl (lens_cell (.s (.s .z)) lw)) ?_
 obtain ⟨t6,ht6,hF⟩:=bM hF
 refine cB func42 rfl (fun w hw=>crawlwayref10_Width_ok _ _ ht6 w) ?_
 refine aa (nt (qs (sr (aa (nwq [7,6,5,4,2,1] ?_)))))
 refine qb ?_
 obtain ⟨q7,hq7,hF⟩:=bM hF
 refine wq [7,6,5,4,2,1] ?_
 refine at_loop_n (B:=0) (A:=fun Y=>At 54 [(4,.pointer (some ⟨b2,0,none⟩)),(5,.pointer (some ⟨b5,0,none⟩))] (Wd w [cellsE b5 (Cd.cs c_api_Addr q7) 24,cellsE b2 (Cd.cs c_api_Addr zv0) 24]) Y) ?_ ?_
 ·intro K
  refine crawlwayref10_Mask.l0.partial_correctness x0 x1 t6 (motive:=fun i9 i10 x=>KN (fun Y=>At 54 [(4,.pointer (some ⟨b2,0,none⟩)),(5,.pointer (some ⟨b5,0,none⟩))] (Wd w [cellsE b5 (Cd.cs c_api_Addr x) 24,cellsE b2 (Cd.cs c_api_Addr zv0) 24]) Y) _ 0→Round (fun Y=>At 54 [(1,.int .i64 x1),(2,.pointer (some ⟨b1,0,none⟩)),(4,.pointer (some ⟨b2,0,none⟩)),(5,.pointer (some ⟨b5,0,none⟩)),(6,.int .i64 t6),(7,.int .i64 i9)] (Wd w [cellsE b5 (Cd.cs c_api_Addr i10) 24,cellsE b2 (Cd.cs c_api_Addr zv0) 24,cellsE b1 (Cd.cs c_api_Addr x0) 24]) Y) _ _ _) ?_ _ _ _ hq7 K
  ·clear K hF
   intro g ih i9 i10 x hF K
   refine at_round ?_
   refine qs (sr (am (am (aw xl (am ?_)))))
   obtain ⟨h11,hF⟩|⟨h11,hF⟩:=oi hF
   ·refine fx 22 h11 ?_
    refine gy ?_
    refine am ?_
    refine gy ?_
    refine am ?_
    refine gy ?_
    refine aw xl (aw xp (nwq [26,7,6,5,4,2,1] ?_))
    obtain ⟨h12,hF⟩|⟨h12,hF⟩:=oi hF
    ·refine ct h12 ?_
     refine sn (qs ?_)
     refine qb ?_
     refine sr ?_
     refine aw (r_load_aggc (c:=c_api_Addr) (z:=x0) isAgg24 sizeOf24 rfl (lens_cell (.s (.s .z)) lw)) ?_
     refine am ?_
     obtain ⟨t13,ht13,hF⟩:=bM hF
     refine cB func43 rfl (fun w hw=>crawlwayref10_digit_ok _ _ _ ht13 w) ?_
     refine aw xq (nwq [32,7,6,5,4,2,1] ?_)
     obtain ⟨h14,hF⟩|⟨h14,hF⟩:=oi hF
     ·refine ct h14 ?_
      refine sr (aa (nt (qs (sr (aa (nwq [9,8,7,6,5,4,2,1] ?_))))))
      refine qb ?_
      obtain ⟨q15,hq15,hF⟩:=bM hF
      refine wq [9,8,7,6,5,4,2,1] ?_
      refine at_loop_n (B:=2) (A:=fun Y=>At 54 [(1,.int .i64 x1),(2,.pointer (some ⟨b1,0,none⟩)),(4,.pointer (some ⟨b2,0,none⟩)),(5,.pointer (some ⟨b5,0,none⟩)),(6,.int .i64 t6),(7,.int .i64 i9),(8,.int .i64 q15)] (Wd w [cellsE b5 (Cd.cs c_api_Addr i10) 24,cellsE b2 (Cd.cs c_api_Addr zv0) 24,cellsE b1 (Cd.cs c_api_Addr x0) 24]) Y) ?_ ?_
      ·intro K
       refine crawlwayref10_Mask.l1.partial_correctness i9 (motive:=fun i17 i18 x=>KN (fun Y=>At 54 [(1,.int .i64 x1),(2,.pointer (some ⟨b1,0,none⟩)),(4,.pointer (some ⟨b2,0,none⟩)),(5,.pointer (some ⟨b5,0,none⟩)),(6,.int .i64 t6),(7,.int .i64 i9),(8,.int .i64 x)] (Wd w [cellsE b5 (Cd.cs c_api_Addr i10) 24,cellsE b2 (Cd.cs c_api_Addr zv0) 24,cellsE b1 (Cd.cs c_api_Addr x0) 24]) Y) _ 2→Round (fun Y=>At 54 [(1,.int .i64 x1),(2,.pointer (some ⟨b1,0,none⟩)),(4,.pointer (some ⟨b2,0,none⟩)),(5,.pointer (some ⟨b5,0,none⟩)),(6,.int .i64 t6),(7,.int .i64 i9),(8,.int .i64 i17),(9,.int .i64 i18)] (Wd w [cellsE b5 (Cd.cs c_api_Addr i10) 24,cellsE b2 (Cd.cs c_api_Addr zv0) 24,cellsE b1 (Cd.cs c_api_Addr x0) 24]) Y) _ _ _) ?_ _ _ _ hq15 K
       ·clear K hF
        intro g ih i17 i18 x hF K
        refine at_round ?_
        refine qs (sr (am (am ?_)))
        refine aw (r_irem rfl rfl (by decide)) ?_
        refine aw xl (nwq [36,9,8,7,6,5,4,2,1] ?_)
        obtain ⟨h19,hF⟩|⟨h19,hF⟩:=oi hF
        ·refine ct h19 ?_
         refine sn (qs ?_)
         refine qb ?_
         refine qr (am ?_)
         refine aw (r_iquo rfl rfl (by decide)) ?_
         refine aa (qn (wq [9,8,7,6,5,4,2,1] ?_))
         refine bm ?_
         refine qr (am (aw xa (aa (nwq [9,8,7,6,5,4,2,1] ?_))))
         exact at_weak_k (ih _ _ _ hF K) ⟨rfl,rfl,rfl,rfl,rfl,rfl,rfl,rfl,trivial⟩
        refine cf h19 ?_
        refine at_exit ?_
        refine te (te ?_)
        obtain rfl:=os hF
        exact at_weak_k K ⟨rfl,rfl,rfl,rfl,rfl,rfl,rfl,trivial⟩
      skip
      skip
      refine at_blk_same ?_
      refine tn (qr (am ?_))
      refine aw (r_iquo rfl rfl (by decide)) ?_
      refine am ?_
      refine aw (r_iquo rfl rfl (by decide)) ?_
      refine fa 1 underlying24 rfl sizeOf22 ?_
      obtain ⟨h20,hF⟩:=gd hF
      refine aw (r_idxArr underlying22 sizeOf5 rfl rfl h20) ?_
      refine aw (r_load_cell isAgg5 rfl (lens_cell0 (c:=(cInt .u8)) (y:=vget i10.f_B (wr .i64 (Int.tdiv i9 8))) .z (Lens.comp (Lens.comp lw (fun z=>{ i10 with f_B:=z }) (c_api_Addr_f_B i10)) (fun z=>vset i10.f_B (wr .i64 (Int.tdiv i9 8)) z) (Lens.vec (cInt .u8) (by decide) i10.f_B (wr .i64 (Int.tdiv i9 8)) h20)) rfl)) ?_
      refine am ?_
      refine aw (r_conv underlying3 underlying5 rfl) ?_
      refine aw xa (fa 1 underlying24 rfl sizeOf22 ?_)
      obtain ⟨h21,hF⟩:=gd hF
      refine aw (r_idxArr underlying22 sizeOf5 rfl rfl h21) ?_
      refine at_store (c:=(cInt .u8)) (z:=wr .u8 ((vget i10.f_B (wr .i64 (Int.tdiv i9 8)))+(wr .u8 q15))) .z (Lens.comp (Lens.comp lw (fun z=>{ i10 with f_B:=z }) (c_api_Addr_f_B i10)) (fun z=>vset i10.f_B (wr .i64 (Int.tdiv i9 8)) z) (Lens.vec (cInt .u8) (by decide) i10.f_B (wr .i64 (Int.tdiv i9 8)) h21)) sizeOf5 rfl rfl rfl ?_
      refine qn (wq [7,6,5,4,2,1] ?_)
      refine bm ?_
      refine qr (am (aw xa (aa (nwq [7,6,5,4,2,1] ?_))))
      exact at_weak_k (ih _ _ _ hF K) ⟨rfl,rfl,rfl,rfl,rfl,rfl,trivial⟩
     refine cf h14 ?_
     refine at_skip ?_
     refine bm ?_
     refine qr (am (aw xa (aa (nwq [7,6,5,4,2,1] ?_))))
     exact at_weak_k (ih _ _ _ hF K) ⟨rfl,rfl,rfl,rfl,rfl,rfl,trivial⟩
    refine cf h12 ?_
    refine at_exit ?_
    refine te (te ?_)
    refine at_drop (H:=_) (.s (.s .z)) ?_
    obtain rfl:=os hF
    exact at_weak_k K ⟨rfl,rfl,trivial⟩
   refine fx 22 h11 ?_
   refine gn ?_
   refine gn ?_
   refine gn ?_
   refine aw xp (nwq [26,7,6,5,4,2,1] ?_)
   refine cf rfl ?_
   refine at_exit ?_
   refine te (te ?_)
   refine at_drop (H:=_) (.s (.s .z)) ?_
   obtain rfl:=os hF
   exact at_weak_k K ⟨rfl,rfl,trivial⟩
 skip
 skip
 refine at_blk_same ?_
 refine tn (sr ?_)
 refine aw (r_load_aggc (c:=c_api_Addr) (z:=q7) isAgg24 sizeOf24 rfl (lens_cell .z lw)) ?_
 refine at_store (c:=c_api_Addr) (z:=q7) (.s .z) lw sizeOf24 rfl rfl rfl ?_
 refine qn (dz (wq [4] ?_))
 refine tn (qt ?_)
 have K:=os hF
 subst K
 exact at_res1 rfl (res_cell (c:=c_api_Addr) (y:=q7) rfl .z lw isAgg24 sizeOf24 (.inl rfl)) wb
def crawlwayref10_Less.l0(x0:S_api_Addr)(x1:S_api_Addr)(i5:Int):Option (Ctl (Bool) (Unit)) :=
 if (decide (i5<16))=true then (if (0:Int)≤i5∧i5<16 then if (0:Int)≤i5∧i5<16 then if (vget x0.f_B i5 != vget x1.f_B i5)=true then (if (0:Int)≤i5∧i5<16 then if (0:Int)≤i5∧i5<16 then some (.ret (decide (vget x0.f_B i5<vget x1.f_B i5))) else none else none) else (crawlwayref10_Less.l0 x0 x1 (wr .i64 (i5+1))) else none else none) else (some (.nx ()))
 partial_fixpoint
def crawlwayref10_Less(x0:S_api_Addr)(x1:S_api_Addr):Option (Bool) :=
 if (x0.f_V != x1.f_V)=true then (some (decide (x0.f_V<x1.f_V))) else (crawlwayref10_Less.l0 x0 x1 0>>=fun q4=>match q4 with | .ret r'=>some r' | .nx sq4=>(some false))
theorem crawlwayref10_Less_ok(x0:S_api_Addr)(x1:S_api_Addr)(r:Bool)(hF:crawlwayref10_Less x0 x1=some r)(w:World) :
    Calls Try.prog 24 #[.agg (Cd.cs c_api_Addr x0).toArray,.agg (Cd.cs c_api_Addr x1).toArray] w (fun e w'=>e=.returned (.bool r)∧Below w.heap.size w w'):=by
 unfold crawlwayref10_Less at hF
 refine ce (l:=[.agg (Cd.cs c_api_Addr x0).toArray,.agg (Cd.cs c_api_Addr x1).toArray]) func24 rfl rfl ?_
 refine at_start ?_
 refine sr ?_
 refine at_box (cs:=Cd.cs c_api_Addr x0) rfl rfl rfl ?_
 intro b1
 refine at_box (cs:=Cd.cs c_api_Addr x1) rfl rfl rfl ?_
 intro b2
 refine aa (nt (qs (sr (fa 0 underlying24 rfl sizeOf3 ?_))))
 refine aw (r_load_cell isAgg3 rfl (lens_cell0 (c:=(cInt .i64)) (y:=x0.f_V) (.s .z) (Lens.comp lw (fun z=>{ x0 with f_V:=z }) (c_api_Addr_f_V x0)) rfl)) ?_
 refine fa 0 underlying24 rfl sizeOf3 ?_
 refine aw (r_load_cell isAgg3 rfl (lens_cell0 (c:=(cInt .i64)) (y:=x1.f_V) .z (Lens.comp lw (fun z=>{ x1 with f_V:=z }) (c_api_Addr_f_V x1)) rfl)) ?_
 refine aw xn (nwq [10,3,2] ?_)
 obtain ⟨h3,hF⟩|⟨h3,hF⟩:=oi hF
 ·refine ct h3 ?_
  refine sr (fa 0 underlying24 rfl sizeOf3 ?_)
  refine aw (r_load_cell isAgg3 rfl (lens_cell0 (c:=(cInt .i64)) (y:=x0.f_V) (.s .z) (Lens.comp lw (fun z=>{ x0 with f_V:=z }) (c_api_Addr_f_V x0)) rfl)) ?_
  refine fa 0 underlying24 rfl sizeOf3 ?_
  refine aw (r_load_cell isAgg3 rfl (lens_cell0 (c:=(cInt .i64)) (y:=x1.f_V) .z (Lens.comp lw (fun z=>{ x1 with f_V:=z }) (c_api_Addr_f_V x1)) rfl)) ?_
  refine aw xl (aa (qn (dz (dz (wq [4] ?_)))))
  refine tn (rt ?_)
  have K:=os hF
  subst K
  exact r1 wb
 refine cf h3 ?_
 refine sn (qs (sr (aa (nwq [5,3,2] ?_))))
 refine qb ?_
 obtain ⟨q4,hq4,hF⟩:=bM hF
 refine wq [5,3,2] ?_
 refine at_loop_r (B:=0) (r:=r) (q:=q4) (A:=fun (_:Unit) Y=>At 38 [] (Wd w []) Y) ?_ ?_
 ·intro K
  refine crawlwayref10_Less.l0.partial_correctness x0 x1 (motive:=fun i5 x=>KR (fun (_:Unit) Y=>At 38 [] (Wd w []) Y) _ 0 r x→Round (fun Y=>At 38 [(2,.pointer (some ⟨b1,0,none⟩)),(3,.pointer (some ⟨b2,0,none⟩)),(5,.int .i64 i5)] (Wd w [cellsE b2 (Cd.cs c_api_Addr x1) 24,cellsE b1 (Cd.cs c_api_Addr x0) 24]) Y) _ _ _) ?_ _ _ hq4 K
  ·clear K hF
   intro g ih i5 x hF K
   refine at_round ?_
   refine qs (sr (am (aw xl (nwq [17,5,3,2] ?_))))
   obtain ⟨h6,hF⟩|⟨h6,hF⟩:=oi hF
   ·refine ct h6 ?_
    refine sn (qs ?_)
    refine qb ?_
    refine qs ?_
    refine at_draw (by kernel_rfl) (by kernel_rfl) (fun _ h=>h.drew) ?_
    refine atq_val rfl rfl rfl (r_move rfl) ?_
    refine atq_val rfl rfl rfl (r_fieldAddr (fo:=1) underlying24 rfl rfl (fun w=>⟨_,sizeOf22 w⟩) rfl) ?_
    obtain ⟨h7,hF⟩:=gd hF
    refine atq_val rfl rfl rfl (r_idxArr underlying22 sizeOf5 rfl rfl h7) ?_
    refine atq_val rfl rfl rfl (r_load_cell isAgg5 rfl (lens_cell0 (c:=(cInt .u8)) (y:=vget x0.f_B i5) (.s .z) (Lens.comp (Lens.comp lw (fun z=>{ x0 with f_B:=z }) (c_api_Addr_f_B x0)) (fun z=>vset x0.f_B i5 z) (Lens.vec (cInt .u8) (by decide) x0.f_B i5 h7)) rfl)) ?_
    refine atq_val rfl rfl rfl (r_move rfl) ?_
    refine atq_val rfl rfl rfl (r_fieldAddr (fo:=1) underlying24 rfl rfl (fun w=>⟨_,sizeOf22 w⟩) rfl) ?_
    obtain ⟨h8,hF⟩:=gd hF
    refine atq_val rfl rfl rfl (r_idxArr underlying22 sizeOf5 rfl rfl h8) ?_
    refine atq_val rfl rfl rfl (r_load_cell isAgg5 rfl (lens_cell0 (c:=(cInt .u8)) (y:=vget x1.f_B i5) .z (Lens.comp (Lens.comp lw (fun z=>{ x1 with f_B:=z }) (c_api_Addr_f_B x1)) (fun z=>vset x1.f_B i5 z) (Lens.vec (cInt .u8) (by decide) x1.f_B i5 h8)) rfl)) ?_
    refine atq_val rfl rfl rfl (r_ineq rfl rfl) ?_
    refine atq_nil ?_
    refine wq [28,5,3,2] ?_
    refine tn ?_
    obtain ⟨h9,hF⟩|⟨h9,hF⟩:=oi hF
    ·refine ct h9 ?_
     refine qs ?_
     refine at_draw (by kernel_rfl) (by kernel_rfl) (fun _ h=>h.drew) ?_
     refine atq_val rfl rfl rfl (r_move rfl) ?_
     refine atq_val rfl rfl rfl (r_fieldAddr (fo:=1) underlying24 rfl rfl (fun w=>⟨_,sizeOf22 w⟩) rfl) ?_
     obtain ⟨h10,hF⟩:=gd hF
     refine atq_val rfl rfl rfl (r_idxArr underlying22 sizeOf5 rfl rfl h10) ?_
     refine atq_val rfl rfl rfl (r_load_cell isAgg5 rfl (lens_cell0 (c:=(cInt .u8)) (y:=vget x0.f_B i5) (.s .z) (Lens.comp (Lens.comp lw (fun z=>{ x0 with f_B:=z }) (c_api_Addr_f_B x0)) (fun z=>vset x0.f_B i5 z) (Lens.vec (cInt .u8) (by decide) x0.f_B i5 h10)) rfl)) ?_
     refine atq_val rfl rfl rfl (r_move rfl) ?_
     refine atq_val rfl rfl rfl (r_fieldAddr (fo:=1) underlying24 rfl rfl (fun w=>⟨_,sizeOf22 w⟩) rfl) ?_
     obtain ⟨h11,hF⟩:=gd hF
     refine atq_val rfl rfl rfl (r_idxArr underlying22 sizeOf5 rfl rfl h11) ?_
     refine atq_val rfl rfl rfl (r_load_cell isAgg5 rfl (lens_cell0 (c:=(cInt .u8)) (y:=vget x1.f_B i5) .z (Lens.comp (Lens.comp lw (fun z=>{ x1 with f_B:=z }) (c_api_Addr_f_B x1)) (fun z=>vset x1.f_B i5 z) (Lens.vec (cInt .u8) (by decide) x1.f_B i5 h11)) rfl)) ?_
     refine atq_val rfl rfl rfl (r_ilss rfl rfl) ?_
     refine atq_val rfl rfl rfl (r_assign rfl) ?_
     refine atq_nil ?_
     refine dz (dz (wq [4] ?_))
     refine tn (qt ?_)
     refine br (tr (tr (br (tr ?_))))
     obtain rfl:=os hF
     subst K
     exact r1 wb
    refine cf h9 ?_
    refine at_skip ?_
    refine bm ?_
    refine qr (am (aw xa (aa (nwq [5,3,2] ?_))))
    exact at_weak_k (ih _ _ hF K) ⟨rfl,rfl,rfl,trivial⟩
   refine cf h6 ?_
   refine at_exit ?_
   refine te (te ?_)
   refine dz (dz ?_)
   obtain rfl:=os hF
   exact at_weak_k K trivial
 cases q4 with
 | ret r'=>exact os hF
 | nx sq4 =>
  skip
  refine at_blk_same ?_
  refine tn (sr (aa (nwq [4] ?_)))
  refine qt ?_
  have K:=os hF
  subst K
  exact r1 wb
def crawlwayref11_Right(x0:S_api_Prefix):Option (Bool) :=
 crawlwayref10_Right x0.f_A>>=fun t2=>if (!t2)=true then (some false) else (if (decide (x0.f_Bits<0))=true then (some false) else (crawlwayref10_Width x0.f_A>>=fun t5=>if (decide (x0.f_Bits>t5))=true then (some false) else (crawlwayref10_Mask x0.f_A x0.f_Bits>>=fun t7=>some (decide (x0.f_A=t7)))))
theorem crawlwayref11_Right_ok(x0:S_api_Prefix)(r:Bool)(hF:crawlwayref11_Right x0=some r)(w:World) :
    Calls Try.prog 15 #[.agg (Cd.cs c_api_Prefix x0).toArray] w (fun e w'=>e=.returned (.bool r)∧Below w.heap.size w w'):=by
 unfold crawlwayref11_Right at hF
 refine ce (l:=[.agg (Cd.cs c_api_Prefix x0).toArray]) func15 rfl rfl ?_
 refine at_start ?_
 refine sr ?_
 refine at_box (cs:=Cd.cs c_api_Prefix x0) rfl rfl rfl ?_
 intro b1
 refine aa (nwq [1] ?_)
 refine qs (qs ?_)
 refine at_draw (by kernel_rfl) (by kernel_rfl) (fun _ h=>h.drew) ?_
 refine atq_val rfl rfl rfl (r_fieldAddr (fo:=0) underlying37 rfl rfl (fun w=>⟨_,sizeOf24 w⟩) rfl) ?_
 refine atq_val rfl rfl rfl (r_load_aggc (c:=c_api_Addr) (z:=x0.f_A) isAgg24 sizeOf24 rfl (lens_cell .z (Lens.comp lw (fun z=>{ x0 with f_A:=z }) (c_api_Prefix_f_A x0)))) ?_
 obtain ⟨t2,ht2,hF⟩:=bM hF
 refine atq_call func23 rfl (by kernel_rfl) rfl rfl (fun w hw=>(crawlwayref10_Right_ok _ _ ht2 w).mono fun _ _ h=>⟨h.1,hw.call h.2⟩) ?_
 refine atq_val rfl rfl rfl (r_not rfl) ?_
 refine atq_val rfl rfl rfl (r_move rfl) ?_
 obtain ⟨h3,hF⟩|⟨h3,hF⟩:=oi hF
 ·refine atq_fix (g:=7) rfl h3 ?_
  refine atq_guard_no rfl rfl rfl rfl rfl ?_
  refine atq_guard_no rfl rfl rfl rfl rfl ?_
  refine atq_guard_no rfl rfl rfl rfl rfl ?_
  refine atq_val rfl rfl rfl (r_pick rfl rfl rfl) ?_
  refine atq_val rfl rfl rfl (r_move rfl) ?_
  refine atq_guard_no rfl rfl rfl rfl rfl ?_
  refine atq_guard_no rfl rfl rfl rfl rfl ?_
  refine atq_guard_no rfl rfl rfl rfl rfl ?_
  refine atq_guard_no rfl rfl rfl rfl rfl ?_
  refine atq_guard_no rfl rfl rfl rfl rfl ?_
  refine atq_guard_no rfl rfl rfl rfl rfl ?_
  refine atq_val rfl rfl rfl (r_pick rfl rfl rfl) ?_
  refine atq_nil ?_
  refine wq [19,1] ?_
  refine tn ?_
  refine ct rfl ?_
  refine sr (aa (qn (dz (wq [2] ?_))))
  refine tn (rt ?_)
  have K:=os hF
  subst K
  exact r1 wb
 refine atq_fix (g:=7) rfl h3 ?_
 refine atq_guard_yes rfl rfl rfl ?_
 refine atq_val rfl rfl rfl (r_fieldAddr (fo:=17) underlying37 rfl rfl (fun w=>⟨_,sizeOf3 w⟩) rfl) ?_
 refine atq_guard_yes rfl rfl rfl ?_
 refine atq_val rfl rfl rfl (r_load_cell isAgg3 rfl (lens_cell0 (c:=(cInt .i64)) (y:=x0.f_Bits) .z (Lens.comp lw (fun z=>{ x0 with f_Bits:=z }) (c_api_Prefix_f_Bits x0)) rfl)) ?_
 refine atq_guard_yes rfl rfl rfl ?_
 refine atq_val rfl rfl rfl (r_ilss rfl rfl) ?_
 refine atq_val rfl rfl rfl (r_pick rfl rfl rfl) ?_
 refine atq_val rfl rfl rfl (r_move rfl) ?_
 obtain ⟨h4,hF⟩|⟨h4,hF⟩:=oi hF
 ·refine atq_fix (g:=12) rfl h4 ?_
  refine atq_guard_no rfl rfl rfl rfl rfl ?_
  refine atq_guard_no rfl rfl rfl rfl rfl ?_
  refine atq_guard_no rfl rfl rfl rfl rfl ?_
  refine atq_guard_no rfl rfl rfl rfl rfl ?_
  refine atq_guard_no rfl rfl rfl rfl rfl ?_
  refine atq_guard_no rfl rfl rfl rfl rfl ?_
  refine atq_val rfl rfl rfl (r_pick rfl rfl rfl) ?_
  refine atq_nil ?_
  refine wq [19,1] ?_
  refine tn ?_
  refine ct rfl ?_
  refine sr (aa (qn (dz (wq [2] ?_))))
  refine tn (rt ?_)
  have K:=os hF
  subst K
  exact r1 wb
 refine atq_fix (g:=12) rfl h4 ?_
 refine atq_guard_yes rfl rfl rfl ?_
 refine atq_val rfl rfl rfl (r_fieldAddr (fo:=17) underlying37 rfl rfl (fun w=>⟨_,sizeOf3 w⟩) rfl) ?_
 refine atq_guard_yes rfl rfl rfl ?_
 refine atq_val rfl rfl rfl (r_load_cell isAgg3 rfl (lens_cell0 (c:=(cInt .i64)) (y:=x0.f_Bits) .z (Lens.comp lw (fun z=>{ x0 with f_Bits:=z }) (c_api_Prefix_f_Bits x0)) rfl)) ?_
 refine atq_guard_yes rfl rfl rfl ?_
 refine atq_val rfl rfl rfl (r_fieldAddr (fo:=0) underlying37 rfl rfl (fun w=>⟨_,sizeOf24 w⟩) rfl) ?_
 refine atq_guard_yes rfl rfl rfl ?_
 refine atq_val rfl rfl rfl (r_load_aggc (c:=c_api_Addr) (z:=x0.f_A) isAgg24 sizeOf24 rfl (lens_cell .z (Lens.comp lw (fun z=>{ x0 with f_A:=z }) (c_api_Prefix_f_A x0)))) ?_
 refine atq_guard_yes rfl rfl rfl ?_
 obtain ⟨t5,ht5,hF⟩:=bM hF
 refine atq_call func42 rfl (by kernel_rfl) rfl rfl (fun w hw=>(crawlwayref10_Width_ok _ _ ht5 w).mono fun _ _ h=>⟨h.1,hw.call h.2⟩) ?_
 refine atq_guard_yes rfl rfl rfl ?_
 refine atq_val rfl rfl rfl (r_igtr rfl rfl) ?_
 refine atq_val rfl rfl rfl (r_pick rfl rfl rfl) ?_
 refine atq_nil ?_
 refine wq [19,1] ?_
 refine tn ?_
 obtain ⟨h6,hF⟩|⟨h6,hF⟩:=oi hF
 ·refine ct h6 ?_
  refine sr (aa (qn (dz (wq [2] ?_))))
  refine tn (rt ?_)
  have K:=os hF
  subst K
  exact r1 wb
 refine cf h6 ?_
 refine sn (qs ?_)
 refine at_draw (by kernel_rfl) (by kernel_rfl) (fun _ h=>h.drew) ?_
 refine atq_val rfl rfl rfl (r_fieldAddr (fo:=0) underlying37 rfl rfl (fun w=>⟨_,sizeOf24 w⟩) rfl) ?_
 refine atq_val rfl rfl rfl (r_load_aggc (c:=c_api_Addr) (z:=x0.f_A) isAgg24 sizeOf24 rfl (lens_cell .z (Lens.comp lw (fun z=>{ x0 with f_A:=z }) (c_api_Prefix_f_A x0)))) ?_
 refine atq_val rfl rfl rfl (r_fieldAddr (fo:=0) underlying37 rfl rfl (fun w=>⟨_,sizeOf24 w⟩) rfl) ?_
 refine atq_val rfl rfl rfl (r_load_aggc (c:=c_api_Addr) (z:=x0.f_A) isAgg24 sizeOf24 rfl (lens_cell .z (Lens.comp lw (fun z=>{ x0 with f_A:=z }) (c_api_Prefix_f_A x0)))) ?_
 refine atq_val rfl rfl rfl (r_fieldAddr (fo:=17) underlying37 rfl rfl (fun w=>⟨_,sizeOf3 w⟩) rfl) ?_
 refine atq_val rfl rfl rfl (r_load_cell isAgg3 rfl (lens_cell0 (c:=(cInt .i64)) (y:=x0.f_Bits) .z (Lens.comp lw (fun z=>{ x0 with f_Bits:=z }) (c_api_Prefix_f_Bits x0)) rfl)) ?_
 obtain ⟨t7,ht7,hF⟩:=bM hF
 refine atq_call func16 rfl (by kernel_rfl) rfl rfl (fun w hw=>(crawlwayref10_Mask_ok _ _ _ ht7 w).mono fun _ _ h=>⟨h.1,hw.call h.2⟩) ?_
 refine atq_val rfl rfl rfl (r_eqagg (c:=c_api_Addr) (a:=x0.f_A) (b:=t7) (eq_api_Addr_24) rfl Try.eqGuardType24 rfl rfl (.inl rfl) rfl) ?_
 refine atq_val rfl rfl rfl (r_assign rfl) ?_
 refine atq_nil ?_
 refine dz (wq [2] ?_)
 refine tn (qt ?_)
 have K:=os hF
 subst K
 exact r1 wb
def crawlwayref11_Less(x0:S_api_Prefix)(x1:S_api_Prefix):Option (Bool) :=
 if (!decide (x0.f_A=x1.f_A))=true then (crawlwayref10_Less x0.f_A x1.f_A>>=fun t4=>some t4) else (some (decide (x0.f_Bits<x1.f_Bits)))
def crawlwayref11_Same.l0(x0:List S_api_Prefix)(x1:List S_api_Prefix)(i3:Int):Option (Ctl (Bool) (Unit)) :=
 if (decide (i3<(x0.length:Int)))=true then (if (0:Int)≤i3∧i3<(x0.length:Int) then if (0:Int)≤i3∧i3<(x1.length:Int) then if (!decide (lget x0 i3=lget x1 i3))=true then (some (.ret false)) else (crawlwayref11_Same.l0 x0 x1 (wr .i64 (i3+1))) else none else none) else (some (.nx ()))
 partial_fixpoint
def crawlwayref11_Same(x0:List S_api_Prefix)(x1:List S_api_Prefix):Option (Bool) :=
 if ((x0.length:Int) != (x1.length:Int))=true then (some false) else (crawlwayref11_Same.l0 x0 x1 0>>=fun q2=>match q2 with | .ret r'=>some r' | .nx sq2=>(some true))
theorem crawlwayref11_Same_ok(x0:List S_api_Prefix)(p0_:Option Addr)(c0_:Nat)(x1:List S_api_Prefix)(p1_:Option Addr)(c1_:Nat)(r:Bool)(hF:crawlwayref11_Same x0 x1=some r)(w:World)(hr0:Row c_api_Prefix w p0_ c0_ x0)(hr1:Row c_api_Prefix w p1_ c1_ x1) :
    Calls Try.prog 11 #[.slice p0_ x0.length c0_,.slice p1_ x1.length c1_] w (fun e w'=>e=.returned (.bool r)∧Below w.heap.size w w'):=by
 unfold crawlwayref11_Same at hF
 refine ce (l:=[.slice p0_ x0.length c0_,.slice p1_ x1.length c1_]) func11 rfl rfl ?_
 refine at_start ?_
 refine sr (aa (nt (qs (sr (am ?_)))))
 refine aw (r_len_sl underlying27 rfl) ?_
 refine am ?_
 refine aw (r_len_sl underlying27 rfl) ?_
 refine aw xn (nwq [10,1,0] ?_)
 obtain ⟨h1,hF⟩|⟨h1,hF⟩:=oi hF
 ·refine ct h1 ?_
  refine sr (aa (nwq [4] ?_))
  refine rt ?_
  have K:=os hF
  subst K
  exact r1 wb
 refine cf h1 ?_
 refine sn (qs (sr (aa (nwq [5,1,0] ?_))))
 refine qb ?_
 obtain ⟨q2,hq2,hF⟩:=bM hF
 refine wq [5,1,0] ?_
 refine at_loop_r (B:=0) (r:=r) (q:=q2) (A:=fun (_:Unit) Y=>At 26 [] (Wd w []) Y) ?_ ?_
 ·intro K
  refine crawlwayref11_Same.l0.partial_correctness x0 x1 (motive:=fun i3 x=>KR (fun (_:Unit) Y=>At 26 [] (Wd w []) Y) _ 0 r x→Round (fun Y=>At 26 [(0,.slice p0_ x0.length c0_),(1,.slice p1_ x1.length c1_),(5,.int .i64 i3)] (Wd w []) Y) _ _ _) ?_ _ _ hq2 K
  ·clear K hF
   intro g ih i3 x hF K
   refine at_round ?_
   refine qs (sr (am (am ?_)))
   refine aw (r_len_sl underlying27 rfl) ?_
   refine aw xl (nwq [14,5,1,0] ?_)
   obtain ⟨h4,hF⟩|⟨h4,hF⟩:=oi hF
   ·refine ct h4 ?_
    refine sn (qs ?_)
    refine qb ?_
    refine qs ?_
    refine at_draw (by kernel_rfl) (by kernel_rfl) (fun _ h=>h.drew) ?_
    refine atq_val rfl rfl rfl (r_move rfl) ?_
    refine atq_val rfl rfl rfl (r_move rfl) ?_
    obtain ⟨h5,hF⟩:=gd hF
    obtain ⟨b7,o8,hp6⟩:=row_ptr hr0 h5
    refine atq_val rfl rfl rfl (r_idx underlying27 sizeOf37 rfl rfl h5 hp6) ?_
    refine atq_val rfl rfl rfl (r_load_aggc (c:=c_api_Prefix) (z:=lget x0 i3) isAgg37 sizeOf37 rfl (row_cell (fun _ h=>h.below) hr0 h5 hp6)) ?_
    refine atq_val rfl rfl rfl (r_move rfl) ?_
    refine atq_val rfl rfl rfl (r_move rfl) ?_
    obtain ⟨h9,hF⟩:=gd hF
    obtain ⟨b11,o12,hp10⟩:=row_ptr hr1 h9
    refine atq_val rfl rfl rfl (r_idx underlying27 sizeOf37 rfl rfl h9 hp10) ?_
    refine atq_val rfl rfl rfl (r_load_aggc (c:=c_api_Prefix) (z:=lget x1 i3) isAgg37 sizeOf37 rfl (row_cell (fun _ h=>h.below) hr1 h9 hp10)) ?_
    refine atq_val rfl rfl rfl (r_eqagg (c:=c_api_Prefix) (a:=lget x0 i3) (b:=lget x1 i3) (eq_api_Prefix_37) rfl Try.eqGuardType37 rfl rfl (.inr rfl) rfl) ?_
    refine atq_nil ?_
    refine wq [25,5,1,0] ?_
    refine tn ?_
    obtain ⟨h13,hF⟩|⟨h13,hF⟩:=oi hF
    ·refine ct h13 ?_
     refine sr (aa (nwq [4] ?_))
     refine qt ?_
     refine br (tr (tr (br (tr ?_))))
     obtain rfl:=os hF
     subst K
     exact r1 wb
    refine cf h13 ?_
    refine at_skip ?_
    refine bm ?_
    refine qr (am (aw xa (aa (nwq [5,1,0] ?_))))
    exact at_weak_k (ih _ _ hF K) ⟨rfl,rfl,rfl,trivial⟩
   refine cf h4 ?_
   refine at_exit ?_
   refine te (te ?_)
   obtain rfl:=os hF
   exact at_weak_k K trivial
 cases q2 with
 | ret r'=>exact os hF
 | nx sq2 =>
  skip
  refine at_blk_same ?_
  refine tn (sr (aa (nwq [4] ?_)))
  refine qt ?_
  have K:=os hF
  subst K
  exact r1 wb
end Go.Proofs.Ytahlbjmafceoeaa
namespace Go.Proofs.Ytahlbjmafceoeaa.Adr
open E Go.RowKit
def vb(l:List UInt8):Vector Int 16:=lvec 16 (ob l)
theorem vb_toList{l:List UInt8}(h:l.length=16):(vb l).toList=ob l:=by
 unfold vb
 rw [lvec_toList 16 (ob l) (by rw [ob_length];omega),List.take_of_length_le (by rw [ob_length];omega)]
theorem vb_of{v:Vector Int 16}{l:List UInt8}(h:v.toList=ob l):v=vb l:=by
 have hl:l.length=16:=by have:=congrArg List.length h;rw [ob_length] at this;simpa using this.symm
 apply Vector.toList_inj.1
 rw [vb_toList hl,h]
theorem vb_inj{l k:List UInt8}(hl:l.length=16)(hk:k.length=16):vb l=vb k↔l=k:=by
 constructor
 ·intro h
  have:=congrArg Vector.toList h
  rw [vb_toList hl,vb_toList hk] at this
  exact ob_inj this
 ·intro h;rw [h]
def mkA(V:Int)(l:List UInt8):S_api_Addr:={ f_V:=V,f_B:=vb l }
theorem exists_mkA(a:S_api_Addr)(h:ok_api_Addr a):∃ V l,a=mkA V l∧l.length=16∧(Lit.int .i64 V).wf=true:=by
 obtain ⟨l,hl⟩:=exists_ob a.f_B.toList h.2
 have hlen:l.length=16:=by have:=congrArg List.length hl;rw [ob_length] at this;simpa using this.symm
 refine ⟨a.f_V,l,?_,hlen,h.1⟩
 cases a with | mk V B =>
 show S_api_Addr.mk V B=S_api_Addr.mk V (vb l)
 have hB:B=vb l:=vb_of hl
 rw [hB]
theorem mkA_inj{V W:Int}{l k:List UInt8}(hl:l.length=16)(hk:k.length=16):mkA V l=mkA W k↔V=W∧l=k:=by
 unfold mkA
 rw [S_api_Addr.mk.injEq,vb_inj hl hk]
def bg(l:List UInt8)(i:Nat):Nat:=(l.getD i 0).toNat
theorem bg_lt(l:List UInt8)(i:Nat):bg l i<256:=(l.getD i 0).toNat_lt
theorem bg_get{l:List UInt8}{i:Nat}{c:UInt8}(h:l[i]? = some c):bg l i=c.toNat:=by
 unfold bg;rw [List.getD_eq_getElem?_getD,h];rfl
theorem vget_vb{l:List UInt8}(hl:l.length=16)(i:Nat)(hi:i<16):vget (vb l) (i:Int)=(bg l i:Int):=by
 unfold vget
 rw [vb_toList hl,Int.toNat_natCast]
 have hc:l[i]? = some l[i]:=List.getElem?_eq_getElem (by omega)
 rw [bg_get hc,List.getD_eq_getElem?_getD]
 unfold ob
 rw [List.getElem?_map,hc];rfl
theorem vset_vb{l:List UInt8}(hl:l.length=16)(i:Nat)(c:UInt8):vset (vb l) (i:Int) (c.toNat:Int)=vb (l.set i c):=by
 apply Vector.toList_inj.1
 rw [vset_toList,vb_toList hl,vb_toList (by simpa using hl),Int.toNat_natCast]
 unfold ob
 rw [List.map_set]
theorem zero_vb:(Vector.replicate 16 (0:Int):Vector Int 16)=vb (List.replicate 16 0):=by
 apply vb_of
 rfl
theorem zero_mkA:({ f_V:=(0:Int),f_B:=(Vector.replicate 16 (0:Int):(Vector Int 16)) }:S_api_Addr)=mkA 0 (List.replicate 16 0):=by
 unfold mkA;rw [zero_vb]
theorem ob_take(l:List UInt8)(n:Nat):(ob l).take n=ob (l.take n):=by unfold ob;rw [List.map_take]
theorem lsub_ob(l:List UInt8)(n:Nat):lsub (ob l) 0 (n:Int)=ob (l.take n):=by
 unfold lsub
 rw [Int.toNat_natCast,show (0:Int).toNat=0 from rfl,List.drop_zero,ob_take]
def fourL(m:List UInt8):List UInt8:=m++List.replicate 12 0
theorem fourL_len{m:List UInt8}(h:m.length=4):(fourL m).length=16:=by simp [fourL,h]
theorem four_eq(v:Vector Int 4)(m:List UInt8)(h:v.toList=ob m):addr_Four v=some (mkA 4 (fourL m)):=by
 have hm:m.length=4:=by have:=congrArg List.length h;rw [ob_length] at this;simpa using this.symm
 unfold addr_Four mkA
 refine congrArg some ?_
 show S_api_Addr.mk 4 _=S_api_Addr.mk 4 _
 congr 1
 apply vb_of
 show (vcopy (Vector.replicate 16 (0:Int)) (Int.toNat 0) (List.take (Int.toNat (16-0)) v.toList)).toList=_
 rw [h,show Int.toNat (16-0)=16 from rfl,List.take_of_length_le (by rw [ob_length];omega),show Int.toNat 0=0 from rfl,vcopy_toList _ _ _ (by rw [ob_length];omega)]
 rw [List.take_zero,List.nil_append,Nat.zero_add,ob_length,hm]
 unfold fourL
 rw [ob_append];rfl
theorem take4{l:List UInt8}(hl:l.length=16):(lvec 4 (lsub (vb l).toList 0 4)).toList=ob (l.take 4):=by
 have e:lsub (vb l).toList 0 4=ob (l.take 4):=by rw [vb_toList hl];exact lsub_ob l 4
 rw [e,lvec_toList 4 _ (by rw [ob_length];simp;omega),List.take_of_length_le (by rw [ob_length];simp;omega)]
theorem take4_len{l:List UInt8}(hl:l.length=16):4≤(lsub (vb l).toList 0 4).length:=by
 have e:lsub (vb l).toList 0 4=ob (l.take 4):=by rw [vb_toList hl];exact lsub_ob l 4
 rw [e,ob_length];simp;omega
def low(l:List UInt8):Bool:=(l.drop 4).all (·==0)
def rightL(V:Int)(l:List UInt8):Bool:=V==6||(V==4&&low l)
theorem all_zero:∀ (k:List UInt8),k.all (·==0)=true↔k=List.replicate k.length 0
 | []=>by simp
 | c::r=>by
  rw [List.all_cons,Bool.and_eq_true,all_zero r,List.length_cons,List.replicate_succ,List.cons.injEq,beq_iff_eq]
theorem low_iff{l:List UInt8}(hl:l.length=16):low l=true↔l=fourL (l.take 4):=by
 unfold low fourL
 rw [all_zero]
 have h12:(l.drop 4).length=12:=by simp;omega
 rw [h12]
 constructor
 ·intro h
  rw [←h];exact (List.take_append_drop 4 l).symm
 ·intro h
  have h1:l.drop 4=(l.take 4++List.replicate 12 0).drop 4:=congrArg (List.drop 4) h
  rw [h1]
  exact List.drop_left' (by simp;omega)
theorem right_code{V:Int}{l:List UInt8}(hl:l.length=16):addr_Right (mkA V l)=some (rightL V l):=by
 unfold addr_Right rightL
 show (if (V==6)=true then some true else (if (V==4)=true then (if 4≤(lsub (vb l).toList 0 4).length then addr_Four (lvec 4 (lsub (vb l).toList 0 4))>>=fun t8=>some (decide (mkA V l=t8)) else none) else some false))=_
 cases h6:(V==6)
 ·cases h4:(V==4)
  ·rfl
  ·have hV:V=4:=by simpa using h4
   rw [if_neg Bool.false_ne_true,if_pos rfl,if_pos (take4_len hl),four_eq _ _ (take4 hl),bindM_some]
   congr 1
   rw [Bool.false_or,Bool.true_and,Bool.eq_iff_iff,decide_eq_true_eq,mkA_inj hl (fourL_len (by simp;omega)),low_iff hl]
   exact ⟨fun h=>h.2,fun h=>⟨hV,h⟩⟩
 ·rfl
theorem right_loop{V:Int}{l:List UInt8}(hl:l.length=16):∀ (k i:Nat),i+k=16→crawlwayref10_Right.l0 (mkA V l) (i:Int)=some (if (l.drop i).all (·==0)=true then .nx () else .ret false):=by
 intro k
 induction k with
 | zero =>
  intro i hi
  have hz:decide ((i:Int)<16)=false:=decide_eq_false (by omega)
  rw [crawlwayref10_Right.l0.eq_def,hz,List.drop_eq_nil_of_le (by omega)];rfl
 | succ k ih =>
  intro i hi
  have hz:decide ((i:Int)<16)=true:=decide_eq_true (by omega)
  obtain ⟨c,hc,hd⟩:=drop_get l i (by omega)
  have hg:(0:Int)≤(i:Int)∧(i:Int)<16:=by omega
  rw [crawlwayref10_Right.l0.eq_def,hz,if_pos rfl,if_pos hg,hd,List.all_cons]
  show (if (vget (vb l) (i:Int) != 0)=true then _ else _)=_
  rw [vget_vb hl i (by omega),bg_get hc]
  by_cases h0:c=0
  ·subst h0
   have e1:(((0:UInt8).toNat:Int) != 0)=false:=rfl
   rw [e1,if_neg Bool.false_ne_true,wr_i64 (by omega) (by omega),show ((i:Int)+1)=((i+1:Nat):Int) by omega,ih (i+1) (by omega)]
   rw [show ((0:UInt8)==0)=true from rfl,Bool.true_and]
  ·have hne:c.toNat≠0:=fun e=>h0 (UInt8.toNat.inj e)
   have e1:((c.toNat:Int) != 0)=true:=by rw [bne_iff_ne];omega
   have e2:(c==0)=false:=by rw [beq_eq_false_iff_ne];exact h0
   rw [e1,if_pos rfl,e2,Bool.false_and];rfl
theorem right_ref{V:Int}{l:List UInt8}(hl:l.length=16):crawlwayref10_Right (mkA V l)=some (rightL V l):=by
 unfold crawlwayref10_Right rightL
 have h:=right_loop (V:=V) hl 12 4 rfl
 rw [show ((4:Nat):Int)=4 from rfl] at h
 rw [h]
 show (if (V==6)=true then some true else _)=_
 cases h6:(V==6)
 ·rw [if_neg Bool.false_ne_true,bindM_some]
  unfold low
  by_cases hz:(l.drop 4).all (·==0)=true
  ·rw [if_pos hz,hz]
   show some (V==4)=_
   rw [Bool.false_or,Bool.and_true]
  ·rw [if_neg hz]
   have:(l.drop 4).all (·==0)=false:=by simpa using hz
   rw [this,Bool.and_false];rfl
 ·rfl
def widthL(V:Int)(l:List UInt8):Nat:=if rightL V l=true then (if V=4 then 32 else 128) else 0
theorem width_code{V:Int}{l:List UInt8}(hl:l.length=16):addr_Width (mkA V l)=some ((widthL V l:Nat):Int):=by
 unfold addr_Width widthL
 rw [right_code hl,bindM_some]
 cases rightL V l
 ·rfl
 ·show (if (V==4)=true then some (32:Int) else some 128)=_
  by_cases h:V=4
  ·rw [if_pos (by simpa using h),if_pos rfl,if_pos h];rfl
  ·rw [if_neg (by simpa using h),if_pos rfl,if_neg h];rfl
theorem right_cases{V:Int}{l:List UInt8}(h:rightL V l=true):V=6∨(V=4∧low l=true):=by
 unfold rightL at h
 rw [Bool.or_eq_true,Bool.and_eq_true,beq_iff_eq,beq_iff_eq] at h
 exact h
theorem width_le{V:Int}{l:List UInt8}:widthL V l≤128:=by
 unfold widthL;split<;>(try split)<;>omega
end Go.Proofs.Ytahlbjmafceoeaa.Adr
namespace Go.Proofs.Ytahlbjmafceoeaa.Adr
open E Go.RowKit
theorem width_ref{V:Int}{l:List UInt8}(hl:l.length=16):crawlwayref10_Width (mkA V l)=some ((widthL V l:Nat):Int):=by
 unfold crawlwayref10_Width widthL
 rw [right_ref hl,bindM_some]
 cases rightL V l
 ·rfl
 ·show (if (V==4)=true then some (32:Int) else some 128)=_
  by_cases h:V=4
  ·rw [if_pos (by simpa using h),if_pos rfl,if_pos h];rfl
  ·rw [if_neg (by simpa using h),if_pos rfl,if_neg h];rfl
def mb(b:UInt8)(k:Nat):UInt8:=UInt8.ofNat (b.toNat-b.toNat%2 ^ (8-k))
theorem mb_fin:∀ (b:Fin 256) (k:Fin 9),iand .u8 ((b.val:Nat):Int) (ishl .u8 255 ((8-k.val:Nat):Int))=((b.val-b.val%2 ^ (8-k.val):Nat):Int):=by decide +kernel
theorem mb_toNat(b:UInt8)(k:Nat):(mb b k).toNat=b.toNat-b.toNat%2 ^ (8-k):=by
 unfold mb
 have:=b.toNat_lt
 rw [UInt8.toNat_ofNat',Nat.mod_eq_of_lt (by omega)]
theorem mb_code(b:UInt8)(k:Nat)(hk:k≤8):iand .u8 (b.toNat:Int) (ishl .u8 255 ((8-k:Nat):Int))=((mb b k).toNat:Int):=by
 rw [mb_toNat]
 exact mb_fin ⟨b.toNat,b.toNat_lt⟩ ⟨k,by omega⟩
theorem mb_zero(b:UInt8):mb b 0=0:=by
 apply UInt8.toNat.inj
 have:=b.toNat_lt
 rw [mb_toNat,show 2 ^ (8-0)=256 from rfl,Nat.mod_eq_of_lt (by omega),Nat.sub_self];rfl
theorem mb_of_zero(k:Nat):mb 0 k=0:=by
 apply UInt8.toNat.inj
 rw [mb_toNat,show (0:UInt8).toNat=0 from rfl,Nat.zero_mod]
theorem mb_step_fin:∀ (b:Fin 256) (k:Fin 8),b.val-b.val%2 ^ (8-(k.val+1))=b.val-b.val%2 ^ (8-k.val)+(b.val/2 ^ (7-k.val)%2)*(128/2 ^ k.val):=by decide +kernel
theorem mb_step(b:UInt8)(k:Nat)(hk:k<8):(mb b (k+1)).toNat=(mb b k).toNat+(b.toNat/2 ^ (7-k)%2)*(128/2 ^ k):=by
 rw [mb_toNat,mb_toNat]
 exact mb_step_fin ⟨b.toNat,b.toNat_lt⟩ ⟨k,hk⟩
def lft(bits:Int)(q:Nat):Nat:=(min (max (bits-8*(q:Int)) 0) 8).toNat
theorem lft_le(bits:Int)(q:Nat):lft bits q≤8:=by unfold lft;omega
def mfull(l:List UInt8)(bits:Int):List UInt8:=l.mapIdx fun q b=>mb b (lft bits q)
theorem mfull_len(l:List UInt8)(bits:Int):(mfull l bits).length=l.length:=by simp [mfull]
theorem mfull_get(l:List UInt8)(bits:Int)(i:Nat):(mfull l bits)[i]? = (l[i]?).map fun b=>mb b (lft bits i):=by
 unfold mfull;rw [List.getElem?_mapIdx]
theorem set_step{α:Type}(A l:List α)(i:Nat)(x:α)(hA:A.length=l.length)(hx:A[i]? = some x):(A.take i++l.drop i).set i x=A.take (i+1)++l.drop (i+1):=by
 have hi:i<A.length:=(List.getElem?_eq_some_iff.1 hx).1
 apply List.ext_getElem?
 intro j
 have h1:(A.take i).length=i:=by simp;omega
 have h2:(A.take (i+1)).length=i+1:=by simp;omega
 rw [List.getElem?_set]
 by_cases hj:i=j
 ·subst hj
  have hl:i<(A.take i++l.drop i).length:=by simp;omega
  rw [if_pos rfl,if_pos hl,List.getElem?_append_left (by omega),List.getElem?_take,if_pos (by omega),hx]
 ·rw [if_neg hj]
  by_cases hlt:j<i
  ·rw [List.getElem?_append_left (by omega),List.getElem?_append_left (by omega),List.getElem?_take,List.getElem?_take,if_pos hlt,if_pos (by omega)]
  ·rw [List.getElem?_append_right (by omega),List.getElem?_append_right (by omega),List.getElem?_drop,List.getElem?_drop,h1,h2]
   congr 1;omega
theorem lft_code(bits:Int)(hb : -9223372036854775808≤bits∧bits<9223372036854775808)(i:Nat)(hi:i<16)(h0:¬ bits<0) :
  (if 8<(if wr .i64 (bits-(wr .i64 (8*(i:Int))))<0 then 0 else wr .i64 (bits-(wr .i64 (8*(i:Int))))) then 8 else (if wr .i64 (bits-(wr .i64 (8*(i:Int))))<0 then 0 else wr .i64 (bits-(wr .i64 (8*(i:Int))))))=((lft bits i:Nat):Int):=by
 have e1:wr .i64 (8*(i:Int))=8*(i:Int):=wr_i64 (by omega) (by omega)
 rw [e1,wr_i64 (by omega) (by omega)]
 unfold lft
 by_cases h1:bits-8*(i:Int)<0
 ·rw [if_pos h1];split<;>omega
 ·rw [if_neg h1];split<;>omega
theorem mask_loop(V bits:Int)(l:List UInt8)(hl:l.length=16)(hb : -9223372036854775808≤bits∧bits<9223372036854775808):∀ (k i:Nat),i+k=16 →
  addr_Mask.l0 bits (i:Int) (mkA V ((mfull l bits).take i++l.drop i))=some (mkA V (mfull l bits)):=by
 have hml:=mfull_len l bits
 intro k
 induction k with
 | zero =>
  intro i hi
  have hz:decide ((i:Int)<16)=false:=decide_eq_false (by omega)
  rw [addr_Mask.l0.eq_def,hz,if_neg Bool.false_ne_true,List.drop_eq_nil_of_le (by omega),List.append_nil,List.take_of_length_le (by omega)]
 | succ k ih =>
  intro i hi
  have hz:decide ((i:Int)<16)=true:=decide_eq_true (by omega)
  have hc:l[i]? = some l[i]:=List.getElem?_eq_getElem (by omega)
  generalize hcc:l[i]=c at hc
  have hAlen:((mfull l bits).take i++l.drop i).length=16:=by simp;omega
  have hAi:((mfull l bits).take i++l.drop i)[i]? = some c:=by
   rw [List.getElem?_append_right (by simp;omega),List.getElem?_drop]
   have:i+(i-((mfull l bits).take i).length)=i:=by simp;omega
   rw [this,hc]
  have hg:(0:Int)≤(i:Int)∧(i:Int)<16:=by omega
  have hv:vget (vb ((mfull l bits).take i++l.drop i)) (i:Int)=(c.toNat:Int):=by rw [vget_vb hAlen i (by omega),bg_get hAi]
  have hstep:=set_step (mfull l bits) l i (mb c (lft bits i)) hml (by rw [mfull_get,hc];rfl)
  have hle:=lft_le bits i
  have hset:∀ s:Int,s=((8-lft bits i:Nat):Int)→({ mkA V ((mfull l bits).take i++l.drop i) with f_B:=vset (vb ((mfull l bits).take i++l.drop i)) (i:Int) (iand .u8 (vget (vb ((mfull l bits).take i++l.drop i)) (i:Int)) (ishl .u8 255 s)) }:S_api_Addr) =
    mkA V ((mfull l bits).take (i+1)++l.drop (i+1)):=fun s hs=>by
   rw [hs,hv,mb_code c _ hle,vset_vb hAlen,hstep];rfl
  have e8:wr .u64 (wr .i64 (8-((lft bits i:Nat):Int)))=((8-lft bits i:Nat):Int):=by
   rw [wr_i64 (by omega) (by omega),wr_u64 (by omega) (by omega)];omega
  have hn:(0:Int)≤((8-lft bits i:Nat):Int):=by omega
  have hi1:wr .i64 ((i:Int)+1)=((i+1:Nat):Int):=by rw [wr_i64 (by omega) (by omega)];omega
  rw [addr_Mask.l0.eq_def,hz,if_pos rfl]
  by_cases h0:bits<0
  ·have hl0:lft bits i=0:=by unfold lft;omega
   have e80:wr .u64 (wr .i64 (8-0))=((8-lft bits i:Nat):Int):=by rw [hl0];rfl
   rw [if_pos (decide_eq_true h0),if_pos hg,e80,if_pos hn,if_pos hg,hi1]
   have:=hset _ rfl
   rw [show (mkA V ((mfull l bits).take i++l.drop i)).f_B=vb ((mfull l bits).take i++l.drop i) from rfl,this]
   exact ih (i+1) (by omega)
  ·rw [if_neg (by rw [decide_eq_true_eq];exact h0),if_pos hg,lft_code bits hb i (by omega) h0,e8,if_pos hn,if_pos hg,hi1]
   have:=hset _ rfl
   rw [show (mkA V ((mfull l bits).take i++l.drop i)).f_B=vb ((mfull l bits).take i++l.drop i) from rfl,this]
   exact ih (i+1) (by omega)
def maskA(V:Int)(l:List UInt8)(bits:Int):S_api_Addr:=if rightL V l=true then mkA V (mfull l bits) else mkA 0 (List.replicate 16 0)
theorem mask_code{V bits:Int}{l:List UInt8}(hl:l.length=16)(hb : -9223372036854775808≤bits∧bits<9223372036854775808):addr_Mask (mkA V l) bits=some (maskA V l bits):=by
 unfold addr_Mask maskA
 rw [right_code hl,bindM_some]
 cases rightL V l
 ·show some _=_
  rw [zero_mkA];rfl
 ·have h:=mask_loop V bits l hl hb 16 0 rfl
  rw [List.take_zero,List.nil_append,List.drop_zero,show ((0:Nat):Int)=0 from rfl] at h
  show (addr_Mask.l0 bits 0 (mkA V l)>>=fun q5=>some q5)=_
  rw [h];rfl
def bit(l:List UInt8)(i:Nat):Nat:=bg l (i/8)/2 ^ (7-i%8)%2
theorem digit_loop(i:Nat)(hi:i<9223372036854775808):∀ (k n:Nat),n<256→i%8+k≤7→crawlwayref10_digit.l0 (i:Int) (n:Int) ((i%8+k:Nat):Int)=some ((n/2 ^ k:Nat):Int):=by
 intro k
 have hm:Int.tmod (i:Int) 8=((i%8:Nat):Int):=by rw [Int.tmod_eq_emod_of_nonneg (by omega)];omega
 induction k with
 | zero =>
  intro n hn hk
  rw [crawlwayref10_digit.l0.eq_def,hm,if_neg (by rw [decide_eq_true_eq];omega),Nat.pow_zero,Nat.div_one]
 | succ k ih =>
  intro n hn hk
  have e1:wr .i64 (Int.tdiv (n:Int) 2)=((n/2:Nat):Int):=by
   have:Int.tdiv (n:Int) 2=((n/2:Nat):Int):=by rw [Int.tdiv_eq_ediv_of_nonneg (by omega)];omega
   rw [this,wr_i64 (by omega) (by omega)]
  have e2:wr .i64 (((i%8+(k+1):Nat):Int)-1)=((i%8+k:Nat):Int):=by rw [wr_i64 (by omega) (by omega)];omega
  rw [crawlwayref10_digit.l0.eq_def,hm,if_pos (decide_eq_true (by omega)),e1,e2,ih (n/2) (by omega) (by omega),Nat.div_div_eq_div_mul]
  rw [Nat.pow_succ,Nat.mul_comm]
theorem digit_ref{V:Int}{l:List UInt8}(hl:l.length=16)(i:Nat)(hi:i<128):crawlwayref10_digit (mkA V l) (i:Int)=some ((bit l i:Nat):Int):=by
 have hd:wr .i64 (Int.tdiv (i:Int) 8)=((i/8:Nat):Int):=by
  have:Int.tdiv (i:Int) 8=((i/8:Nat):Int):=by rw [Int.tdiv_eq_ediv_of_nonneg (by omega)];omega
  rw [this,wr_i64 (by omega) (by omega)]
 have hb:=bg_lt l (i/8)
 unfold crawlwayref10_digit
 rw [hd,if_pos (by omega)]
 show (crawlwayref10_digit.l0 (i:Int) (wr .i64 (vget (vb l) ((i/8:Nat):Int))) 7>>=fun q3=>some (Int.tmod q3 2))=_
 rw [vget_vb hl _ (by omega),wr_i64 (by omega) (by omega)]
 have h:=digit_loop i (by omega) (7-i%8) (bg l (i/8)) hb (by omega)
 rw [show i%8+(7-i%8)=7 by omega,show ((7:Nat):Int)=7 from rfl] at h
 rw [h,bindM_some]
 unfold bit
 refine congrArg some ?_
 have:=Int.tmod_eq_emod_of_nonneg (a:=((bg l (i/8)/2 ^ (7-i%8):Nat):Int)) (b:=2) (Int.natCast_nonneg _)
 rw [this];exact (Int.natCast_emod _ 2).symm
theorem bit_lt(l:List UInt8)(i:Nat):bit l i<2:=Nat.mod_lt _ (by omega)
def lftN(t q:Nat):Nat:=min (t-8*q) 8
def refm(l:List UInt8)(t:Nat):List UInt8:=l.mapIdx fun q b=>mb b (lftN t q)
theorem refm_len(l:List UInt8)(t:Nat):(refm l t).length=l.length:=by simp [refm]
theorem refm_get(l:List UInt8)(t i:Nat):(refm l t)[i]? = (l[i]?).map fun b=>mb b (lftN t i):=by
 unfold refm;rw [List.getElem?_mapIdx]
theorem refm_step(l:List UInt8)(hl:l.length=16)(i:Nat)(hi:i<128):refm l (i+1)=(refm l i).set (i/8) (mb (l.getD (i/8) 0) (i%8+1)):=by
 apply List.ext_getElem?
 intro j
 rw [List.getElem?_set,refm_get,refm_get]
 by_cases hj:i/8=j
 ·subst hj
  have hlt:i/8<(refm l i).length:=by rw [refm_len];omega
  have hc:l[i/8]? = some l[i/8]:=List.getElem?_eq_getElem (by omega)
  have e:lftN (i+1) (i/8)=i%8+1:=by unfold lftN;omega
  rw [if_pos rfl,if_pos hlt,hc,List.getD_eq_getElem?_getD,hc,e];rfl
 ·rw [if_neg hj]
  have:lftN (i+1) j=lftN i j:=by unfold lftN;omega
  rw [this]
theorem refMask_l1(i:Nat)(hi:i<9223372036854775808):∀ (k j n:Nat),n<256→j+k=i%8→crawlwayref10_Mask.l1 (i:Int) (n:Int) (j:Int)=some ((n/2 ^ k:Nat):Int):=by
 intro k
 have hm:Int.tmod (i:Int) 8=((i%8:Nat):Int):=by rw [Int.tmod_eq_emod_of_nonneg (by omega)];omega
 induction k with
 | zero =>
  intro j n hn hk
  rw [crawlwayref10_Mask.l1.eq_def,hm,if_neg (by rw [decide_eq_true_eq];omega),Nat.pow_zero,Nat.div_one]
 | succ k ih =>
  intro j n hn hk
  have e1:wr .i64 (Int.tdiv (n:Int) 2)=((n/2:Nat):Int):=by
   have:Int.tdiv (n:Int) 2=((n/2:Nat):Int):=by rw [Int.tdiv_eq_ediv_of_nonneg (by omega)];omega
   rw [this,wr_i64 (by omega) (by omega)]
  have e2:wr .i64 ((j:Int)+1)=((j+1:Nat):Int):=by rw [wr_i64 (by omega) (by omega)];omega
  rw [crawlwayref10_Mask.l1.eq_def,hm,if_pos (decide_eq_true (by omega)),e1,e2,ih (j+1) (n/2) (by omega) (by omega),Nat.div_div_eq_div_mul]
  rw [Nat.pow_succ,Nat.mul_comm]
theorem refMask_loop(V bits:Int)(l:List UInt8)(hl:l.length=16)(w:Nat)(hw:w≤128):∀ (k i:Nat),i+k=min w bits.toNat →
  crawlwayref10_Mask.l0 (mkA V l) bits (w:Int) (i:Int) (mkA V (refm l i))=some (mkA V (refm l (min w bits.toNat))):=by
 intro k
 induction k with
 | zero =>
  intro i hi
  rw [crawlwayref10_Mask.l0.eq_def]
  by_cases h1:i<w
  ·have hb:decide ((i:Int)<bits)=false:=decide_eq_false (by omega)
   rw [if_pos (decide_eq_true (by omega)),hb,if_neg Bool.false_ne_true,show i=min w bits.toNat by omega]
  ·rw [if_neg (by rw [decide_eq_true_eq];omega),show i=min w bits.toNat by omega]
 | succ k ih =>
  intro i hi
  have hi128:i<128:=by omega
  have hd:wr .i64 (Int.tdiv (i:Int) 8)=((i/8:Nat):Int):=by
   have:Int.tdiv (i:Int) 8=((i/8:Nat):Int):=by rw [Int.tdiv_eq_ediv_of_nonneg (by omega)];omega
   rw [this,wr_i64 (by omega) (by omega)]
  have hi1:wr .i64 ((i:Int)+1)=((i+1:Nat):Int):=by rw [wr_i64 (by omega) (by omega)];omega
  have hl1:=refMask_l1 i (by omega) (i%8) 0 128 (by omega) (by omega)
  rw [show ((128:Nat):Int)=128 from rfl,show ((0:Nat):Int)=0 from rfl] at hl1
  have hc:l[i/8]? = some l[i/8]:=List.getElem?_eq_getElem (by omega)
  generalize hcc:l[i/8]=c at hc
  have hgd:l.getD (i/8) 0=c:=by rw [List.getD_eq_getElem?_getD,hc];rfl
  have hbit:bit l i=c.toNat/2 ^ (7-i%8)%2:=by unfold bit;rw [bg_get hc]
  have hst:=mb_step c (i%8) (by omega)
  have hlt:=(mb c (i%8+1)).toNat_lt
  have hrl:(refm l i).length=16:=by rw [refm_len];exact hl
  have hri:(refm l i)[i/8]? = some (mb c (i%8)):=by
   have e:lftN i (i/8)=i%8:=by unfold lftN;omega
   rw [refm_get,hc,e];rfl
  have hstep:=refm_step l hl i hi128
  rw [hgd] at hstep
  rw [crawlwayref10_Mask.l0.eq_def,if_pos (decide_eq_true (by omega)),if_pos (decide_eq_true (by omega)),digit_ref hl i hi128,bindM_some,hl1,bindM_some,hd,hi1]
  by_cases hb:bit l i=1
  ·have hbb:(((bit l i:Nat):Int)==1)=true:=by rw [hb];rfl
   rw [hbb,if_pos rfl,if_pos (by omega),if_pos (by omega)]
   have hset:({ mkA V (refm l i) with f_B:=vset (mkA V (refm l i)).f_B ((i/8:Nat):Int) (wr .u8 ((vget (mkA V (refm l i)).f_B ((i/8:Nat):Int))+(wr .u8 ((128/2 ^ (i%8):Nat):Int)))) }:S_api_Addr)=mkA V (refm l (i+1)):=by
    show S_api_Addr.mk V (vset (vb (refm l i)) ((i/8:Nat):Int) (wr .u8 ((vget (vb (refm l i)) ((i/8:Nat):Int))+(wr .u8 ((128/2 ^ (i%8):Nat):Int)))))=_
    have hq:128/2 ^ (i%8)<256:=Nat.lt_of_le_of_lt (Nat.div_le_self _ _) (by omega)
    have e6:wr .u8 ((128/2 ^ (i%8):Nat):Int)=((128/2 ^ (i%8):Nat):Int):=by
     generalize 128/2 ^ (i%8)=z at hq
     exact wr_u8 (by omega) (by omega)
    rw [vget_vb hrl _ (by omega),bg_get hri,e6]
    have e5:wr .u8 (((mb c (i%8)).toNat:Int)+((128/2 ^ (i%8):Nat):Int))=((mb c (i%8+1)).toNat:Int):=by
     rw [hst,←hbit,hb,Nat.one_mul] at hlt
     rw [hst,←hbit,hb,Nat.one_mul]
     generalize 128/2 ^ (i%8)=z at hlt
     rw [wr_u8 (by omega) (by omega)];omega
    rw [e5,vset_vb hrl,←hstep];rfl
   rw [hset]
   exact ih (i+1) (by omega)
  ·have h0:bit l i=0:=by have:=bit_lt l i;omega
   have hbb:(((bit l i:Nat):Int)==1)=false:=by rw [h0];rfl
   rw [hbb,if_neg Bool.false_ne_true]
   have:refm l (i+1)=refm l i:=by
    rw [hstep]
    have e6:mb c (i%8+1)=mb c (i%8):=by
     apply UInt8.toNat.inj
     rw [hst,←hbit,h0];omega
    rw [e6]
    apply List.ext_getElem?
    intro j
    rw [List.getElem?_set]
    by_cases hj:i/8=j
    ·subst hj;rw [if_pos rfl,if_pos (by omega),hri]
    ·rw [if_neg hj]
   rw [←this]
   exact ih (i+1) (by omega)
theorem refm_zero(l:List UInt8)(hl:l.length=16):refm l 0=List.replicate 16 0:=by
 apply List.ext_getElem?
 intro j
 rw [refm_get]
 by_cases hj:j<16
 ·have hc:l[j]? = some l[j]:=List.getElem?_eq_getElem (by omega)
  rw [hc,List.getElem?_replicate,if_pos hj]
  have e:lftN 0 j=0:=by unfold lftN;omega
  rw [e]
  exact congrArg some (mb_zero _)
 ·rw [List.getElem?_eq_none (by omega),List.getElem?_eq_none (by simp;omega)];rfl
theorem refm_full{V bits:Int}{l:List UInt8}(hl:l.length=16)(hr:rightL V l=true):refm l (min (widthL V l) bits.toNat)=mfull l bits:=by
 apply List.ext_getElem?
 intro j
 rw [refm_get,mfull_get]
 by_cases hj:j<16
 ·have hc:l[j]? = some l[j]:=List.getElem?_eq_getElem (by omega)
  rw [hc]
  show some _=some _
  congr 1
  rcases right_cases hr with h6 | ⟨h4,hlow⟩
  ·have hw:widthL V l=128:=by unfold widthL;rw [if_pos hr,if_neg (by omega)]
   have:lftN (min (widthL V l) bits.toNat) j=lft bits j:=by rw [hw];unfold lftN lft;omega
   rw [this]
  ·have hw:widthL V l=32:=by unfold widthL;rw [if_pos hr,if_pos h4]
   by_cases hj4:j<4
   ·have:lftN (min (widthL V l) bits.toNat) j=lft bits j:=by rw [hw];unfold lftN lft;omega
    rw [this]
   ·have hz:l[j]=0:=by
     have h1:=(low_iff hl).1 hlow
     have h2:l[j]? = some 0:=by
      rw [h1];unfold fourL
      rw [List.getElem?_append_right (by simp;omega),List.getElem?_replicate,if_pos (by simp;omega)]
     rw [hc] at h2;exact Option.some.inj h2
    rw [hz]
    exact (mb_of_zero _).trans (mb_of_zero _).symm
 ·rw [List.getElem?_eq_none (by omega)];rfl
theorem mask_ref{V bits:Int}{l:List UInt8}(hl:l.length=16):crawlwayref10_Mask (mkA V l) bits=some (maskA V l bits):=by
 unfold crawlwayref10_Mask maskA
 rw [right_ref hl,bindM_some]
 cases hr:rightL V l
 ·show some _=_
  rw [zero_mkA];rfl
 ·have h:=refMask_loop V bits l hl (widthL V l) width_le (min (widthL V l) bits.toNat) 0 (by omega)
  rw [refm_zero l hl,show ((0:Nat):Int)=0 from rfl,refm_full hl hr] at h
  show (crawlwayref10_Width (mkA V l)>>=fun t6=>crawlwayref10_Mask.l0 (mkA V l) bits t6 0 (S_api_Addr.mk V (Vector.replicate 16 (0:Int)))>>=fun q7=>some q7)=_
  rw [width_ref hl,bindM_some,zero_vb]
  show (crawlwayref10_Mask.l0 (mkA V l) bits _ 0 (mkA V (List.replicate 16 0))>>=fun q7=>some q7)=_
  rw [h];rfl
end Go.Proofs.Ytahlbjmafceoeaa.Adr
namespace Go.Proofs.Ytahlbjmafceoeaa.Cid
open E Go.RowKit
open Adr
def mkP(A:S_api_Addr)(b:Int):S_api_Prefix:={ f_A:=A,f_Bits:=b }
def zP:S_api_Prefix:={ f_A:=({ f_V:=(0:Int),f_B:=(Vector.replicate 16 (0:Int):(Vector Int 16)) }:S_api_Addr),f_Bits:=(0:Int) }
theorem exists_mkP(a:S_api_Prefix)(h:ok_api_Prefix a):∃ V l b,a=mkP (mkA V l) b∧l.length=16∧(Lit.int .i64 b).wf=true:=by
 obtain ⟨V,l,hA,hl,_⟩:=exists_mkA a.f_A h.1
 refine ⟨V,l,a.f_Bits,?_,hl,h.2⟩
 cases a with | mk A n =>
 simp only at hA
 subst hA;rfl
theorem mkP_inj{V W:Int}{l k:List UInt8}{b c:Int}(hl:l.length=16)(hk:k.length=16):mkP (mkA V l) b=mkP (mkA W k) c↔(V=W∧l=k)∧b=c:=by
 unfold mkP
 rw [S_api_Prefix.mk.injEq,mkA_inj hl hk]
def fits(V:Int)(l:List UInt8)(b:Int):Bool:=rightL V l&&(decide (0≤b)&&decide (b≤(widthL V l:Int)))
theorem fits_iff{V:Int}{l:List UInt8}{b:Int}:fits V l b=true↔rightL V l=true∧0≤b∧b≤(widthL V l:Int):=by
 unfold fits
 simp only [Bool.and_eq_true,decide_eq_true_eq]
def ofP(V:Int)(l:List UInt8)(b:Int):S_api_Prefix×Int:=if rightL V l=true then (if fits V l b=true then (mkP (mkA V (mfull l b)) b,0) else (zP,6)) else (zP,1)
theorem of_code{V b:Int}{l:List UInt8}(hl:l.length=16):cidr_Of (mkA V l) b=some (ofP V l b):=by
 unfold cidr_Of ofP
 rw [right_code hl,bindM_some]
 have hw:=width_le (V:=V) (l:=l)
 cases hr:rightL V l with
 | false=>rfl
 | true =>
  rw [if_neg (show ¬ (!true)=true by decide),if_pos rfl]
  by_cases h0:b<0
  ·have hf:¬ fits V l b=true:=fun h=>by have:=(fits_iff.1 h).2.1;omega
   rw [if_pos (decide_eq_true h0),if_neg hf];rfl
  ·rw [if_neg (by rw [decide_eq_true_eq];exact h0),width_code hl,bindM_some]
   by_cases h1:b>(widthL V l:Int)
   ·have hf:¬ fits V l b=true:=fun h=>by have:=(fits_iff.1 h).2.2;omega
    rw [if_pos (decide_eq_true h1),if_neg hf];rfl
   ·have hf:fits V l b=true:=fits_iff.2 ⟨hr,by omega,by omega⟩
    rw [if_neg (by rw [decide_eq_true_eq];exact h1),mask_code hl (by omega),bindM_some,if_pos hf]
    unfold maskA
    rw [if_pos hr];rfl
def rightP(V:Int)(l:List UInt8)(b:Int):Bool:=fits V l b&&decide (mfull l b=l)
theorem rightP_iff{V:Int}{l:List UInt8}{b:Int}:rightP V l b=true↔(rightL V l=true∧0≤b∧b≤(widthL V l:Int))∧mfull l b=l:=by
 unfold rightP
 rw [Bool.and_eq_true,fits_iff,decide_eq_true_eq]
theorem mlen{l:List UInt8}(hl:l.length=16)(b:Int):(mfull l b).length=16:=by rw [mfull_len,hl]
theorem cright_code{V b:Int}{l:List UInt8}(hl:l.length=16):cidr_Right (mkP (mkA V l) b)=some (rightP V l b):=by
 unfold cidr_Right
 show (cidr_Of (mkA V l) b>>=fun t2=>if (t2.2==0)=true then some (decide (t2.1=mkP (mkA V l) b)) else some false)=_
 rw [of_code hl,bindM_some]
 unfold ofP rightP
 cases hr:rightL V l with
 | false =>
  have hf:fits V l b=false:=by unfold fits;rw [hr];rfl
  rw [hf];rfl
 | true =>
  rw [if_pos rfl]
  cases hf:fits V l b with
  | false=>rfl
  | true =>
   rw [if_pos rfl]
   show (if ((0:Int)==0)=true then some (decide (mkP (mkA V (mfull l b)) b=mkP (mkA V l) b)) else some false)=_
   rw [if_pos (by rfl),Bool.true_and]
   refine congrArg some ?_
   rw [decide_eq_decide,mkP_inj (mlen hl b) hl]
   exact ⟨fun h=>h.1.2,fun h=>⟨⟨rfl,h⟩,rfl⟩⟩
theorem cright_ref{V b:Int}{l:List UInt8}(hl:l.length=16):crawlwayref11_Right (mkP (mkA V l) b)=some (rightP V l b):=by
 unfold crawlwayref11_Right rightP
 show (crawlwayref10_Right (mkA V l)>>=fun t2=>if (!t2)=true then some false else (if decide (b<0)=true then some false else (crawlwayref10_Width (mkA V l)>>=fun t5=>if decide (b>t5)=true then some false else (crawlwayref10_Mask (mkA V l) b>>=fun t7=>some (decide (mkA V l=t7))))))=_
 rw [right_ref hl,bindM_some]
 cases hr:rightL V l with
 | false =>
  have hf:fits V l b=false:=by unfold fits;rw [hr];rfl
  rw [hf];rfl
 | true =>
  rw [if_neg (show ¬ (!true)=true by decide)]
  by_cases h0:b<0
  ·have hf:fits V l b=false:=by cases h:fits V l b with | false=>rfl | true=>have:=(fits_iff.1 h).2.1;omega
   rw [if_pos (decide_eq_true h0),hf];rfl
  ·rw [if_neg (by rw [decide_eq_true_eq];exact h0),width_ref hl,bindM_some]
   by_cases h1:b>(widthL V l:Int)
   ·have hf:fits V l b=false:=by cases h:fits V l b with | false=>rfl | true=>have:=(fits_iff.1 h).2.2;omega
    rw [if_pos (decide_eq_true h1),hf];rfl
   ·have hf:fits V l b=true:=fits_iff.2 ⟨hr,by omega,by omega⟩
    rw [if_neg (by rw [decide_eq_true_eq];exact h1),mask_ref hl,bindM_some,hf,Bool.true_and]
    unfold maskA
    rw [if_pos hr]
    refine congrArg some ?_
    rw [decide_eq_decide,mkA_inj hl (mlen hl b)]
    exact ⟨fun h=>h.2.symm,fun h=>⟨rfl,h.symm⟩⟩
end Go.Proofs.Ytahlbjmafceoeaa.Cid
namespace Go.Proofs.Ytahlbjmafceoeaa.Adr
open E Go.RowKit Cid
theorem bit_code{V i:Int}{l:List UInt8}(hl:l.length=16)(hi : -9223372036854775808≤i∧i<9223372036854775808) :
  addr_Bit (mkA V l) i=some (if 0≤i∧i<(widthL V l:Int) then ((bit l i.toNat:Nat):Int) else -1):=by
 unfold addr_Bit
 rw [width_code hl,bindM_some]
 have hw:=width_le (V:=V) (l:=l)
 by_cases h0:i<0
 ·rw [if_pos (decide_eq_true h0),if_neg (by omega)]
 ·rw [if_neg (by rw [decide_eq_true_eq];exact h0)]
  by_cases h1:i≥(widthL V l:Int)
  ·rw [if_pos (decide_eq_true h1),if_neg (by omega)]
  ·rw [if_neg (by rw [decide_eq_true_eq];exact h1)]
   obtain ⟨n,rfl⟩:=Int.eq_ofNat_of_zero_le (show 0≤i by omega)
   have hn:n<128:=by omega
   have e1:ishr .i64 (n:Int) 3=((n/8:Nat):Int):=ishr_nat .i64 n 3 (by decide)
   have e2:iand .i64 (n:Int) 7=((n%8:Nat):Int):=by
    unfold iand
    have h7:(BitVec.ofInt IntKind.i64.bits (7:Int)).toNat=7:=by decide
    have hb:(BitVec.ofInt IntKind.i64.bits (n:Int)).toNat=n:=toNat_ofInt 64 n (by omega)
    rw [BitVec.toNat_and,h7,hb,show (7:Nat)=2 ^ 3-1 from rfl,Nat.and_two_pow_sub_one_eq_mod]
    have:=wr_i64 (x:=((n%2 ^ 3:Nat):Int)) (by omega) (by omega)
    exact this
   have e3:wr .u64 (wr .i64 (7-((n%8:Nat):Int)))=((7-n%8:Nat):Int):=by rw [wr_i64 (by omega) (by omega),wr_u64 (by omega) (by omega)];omega
   have hb:=bg_lt l (n/8)
   have h3:(0:Int)≤(n:Int)∧(n:Int)<(widthL V l:Int):=by omega
   rw [e1,e2,e3,if_pos (by omega),if_pos (by omega),if_pos h3]
   refine congrArg some ?_
   show iand .i64 (wr .i64 (ishr .u8 (vget (vb l) ((n/8:Nat):Int)) ((7-n%8:Nat):Int))) 1=_
   rw [vget_vb hl _ (by omega),ishr_nat .u8 _ _ (by show 7-n%8≤8;omega)]
   have hdl:bg l (n/8)/2 ^ (7-n%8)<256:=Nat.lt_of_le_of_lt (Nat.div_le_self _ _) hb
   generalize hx:bg l (n/8)/2 ^ (7-n%8)=x at hdl
   rw [wr_i64 (by omega) (by omega)]
   have e4:iand .i64 (x:Int) 1=((x%2:Nat):Int):=by
    unfold iand
    have h1:(BitVec.ofInt IntKind.i64.bits (1:Int)).toNat=1:=by decide
    have hb:(BitVec.ofInt IntKind.i64.bits (x:Int)).toNat=x:=toNat_ofInt 64 x (by omega)
    rw [BitVec.toNat_and,h1,hb,Nat.and_one_is_mod]
    have:=wr_i64 (x:=((x%2:Nat):Int)) (by omega) (by omega)
    exact this
   rw [e4]
   unfold bit
   rw [Int.toNat_natCast,hx]
def fd(p:Nat→Bool):Nat→Nat→Nat
 | 0,i=>i
 | f+1,i=>if p i=true then fd p f (i+1) else i
def lessL:List UInt8→List UInt8→Bool
 | x::a,y::b=>if x≠y then decide (x<y) else lessL a b
 | _,_=>false
theorem less_cmp:∀ (a b:List UInt8),a.length=b.length→decide (Lib.compareBytes a b<0)=lessL a b
 | [],[],_=>rfl
 | [],_::_,h=>by simp at h
 | _::_,[],h=>by simp at h
 | x::a,y::b,h=>by
  unfold Lib.compareBytes lessL
  by_cases hxy:x=y
  ·subst hxy
   have:¬ x<x:=UInt8.lt_irrefl x
   simp only [this,if_false,ne_eq,not_true_eq_false]
   exact less_cmp a b (by simpa using h)
  ·by_cases hlt:x<y
   ·simp [hxy,hlt]
   ·have:y<x:=UInt8.lt_of_le_of_ne (UInt8.not_lt.1 hlt) (Ne.symm hxy)
    simp [hxy,hlt,this]
def lessA(V:Int)(l:List UInt8)(W:Int)(k:List UInt8):Bool:=if V=W then lessL l k else decide (V<W)
theorem refLess_loop{V W:Int}{l k:List UInt8}(hl:l.length=16)(hk:k.length=16)(f:Nat):∀ i:Nat,i+f=16 →
  ∃ q,crawlwayref10_Less.l0 (mkA V l) (mkA W k) i=some q∧(match q with | .ret r=>r=lessL (l.drop i) (k.drop i) | .nx _=>lessL (l.drop i) (k.drop i)=false):=by
 induction f with
 | zero =>
  intro i hi
  have hz:decide ((i:Int)<16)=false:=decide_eq_false (by omega)
  rw [crawlwayref10_Less.l0.eq_def,hz]
  refine ⟨_,rfl,?_⟩
  rw [List.drop_eq_nil_of_le (by omega)];rfl
 | succ f ih =>
  intro i hi
  have hz:decide ((i:Int)<16)=true:=decide_eq_true (by omega)
  obtain ⟨x,hx,hdx⟩:=drop_get l i (by omega)
  obtain ⟨y,hy,hdy⟩:=drop_get k i (by omega)
  have hg:(0:Int)≤(i:Int)∧(i:Int)<16:=by omega
  have ex:vget (mkA V l).f_B (i:Int)=x.toNat:=by show vget (vb l) (i:Int)=_;rw [vget_vb hl i (by omega),bg_get hx]
  have ey:vget (mkA W k).f_B (i:Int)=y.toNat:=by show vget (vb k) (i:Int)=_;rw [vget_vb hk i (by omega),bg_get hy]
  rw [crawlwayref10_Less.l0.eq_def,hz,if_pos rfl,if_pos hg,if_pos hg,ex,ey,hdx,hdy]
  unfold lessL
  by_cases hxy:x=y
  ·subst hxy
   have h1:((x.toNat:Int) != (x.toNat:Int))=false:=by simp
   obtain ⟨q,hq,hm⟩:=ih (i+1) (by omega)
   rw [h1,if_neg Bool.false_ne_true,wr_i64 (by omega) (by omega),show ((i:Int)+1)=((i+1:Nat):Int) by omega]
   refine ⟨q,hq,?_⟩
   rw [if_neg (by simp)]
   exact hm
  ·have hne:x.toNat≠y.toNat:=fun e=>hxy (UInt8.toNat.inj e)
   have h1:((x.toNat:Int) != (y.toNat:Int))=true:=by rw [bne_iff_ne];omega
   rw [h1,if_pos rfl,if_pos hg,if_pos hg]
   refine ⟨_,rfl,?_⟩
   show decide ((x.toNat:Int)<(y.toNat:Int))=_
   rw [if_pos hxy,Bool.eq_iff_iff,decide_eq_true_eq,decide_eq_true_eq,UInt8.lt_iff_toNat_lt]
   omega
theorem less_ref{V W:Int}{l k:List UInt8}(hl:l.length=16)(hk:k.length=16):crawlwayref10_Less (mkA V l) (mkA W k)=some (lessA V l W k):=by
 unfold crawlwayref10_Less lessA
 show (if (V != W)=true then some (decide (V<W)) else _)=_
 by_cases h:V=W
 ·have hne:(V != W)=false:=by simpa using h
  obtain ⟨q,hq,hm⟩:=refLess_loop (V:=V) (W:=W) hl hk 16 0 rfl
  rw [show ((0:Nat):Int)=0 from rfl] at hq
  rw [hne,if_neg Bool.false_ne_true,if_pos h,hq,bindM_some]
  rw [List.drop_zero,List.drop_zero] at hm
  cases q with
  | ret r=>show some r=_;rw [show r=_ from hm]
  | nx u=>show some false=_;rw [show lessL l k=false from hm]
 ·have hne:(V != W)=true:=by simpa using h
  rw [hne,if_pos rfl,if_neg h]
end Go.Proofs.Ytahlbjmafceoeaa.Adr
namespace Go.Proofs.Ytahlbjmafceoeaa
def num(l:List UInt8):Nat:=l.foldl (fun a b=>a*256+b.toNat) 0
theorem num_snoc(l:List UInt8)(x:UInt8):num (l++[x])=num l*256+x.toNat:=by simp [num]
theorem num_from(l:List UInt8)(a:Nat):l.foldl (fun a b=>a*256+b.toNat) a=a*256 ^ l.length+num l:=by
 induction l generalizing a with
 | nil=>simp [num]
 | cons x r ih =>
  unfold num
  rw [List.foldl_cons,List.foldl_cons,ih,ih (0*256+x.toNat),List.length_cons,Nat.pow_succ]
  rw [Nat.add_mul,Nat.zero_mul,Nat.zero_add,Nat.mul_assoc,Nat.mul_comm 256,Nat.add_assoc]
theorem num_append(l k:List UInt8):num (l++k)=num l*256 ^ k.length+num k:=by
 unfold num;rw [List.foldl_append,num_from];rfl
theorem num_cons(x:UInt8)(r:List UInt8):num (x::r)=x.toNat*256 ^ r.length+num r:=by
 rw [show x::r=[x]++r from rfl,num_append];simp [num]
theorem num_lt:∀ l:List UInt8,num l<256 ^ l.length
 | []=>by simp [num]
 | x::r=>by
  rw [num_cons,List.length_cons,Nat.pow_succ]
  have h1:=num_lt r
  have h2:=x.toNat_lt
  have h3:(x.toNat+1)*256 ^ r.length≤256*256 ^ r.length:=Nat.mul_le_mul_right _ (by omega)
  rw [Nat.add_mul,Nat.one_mul] at h3
  rw [Nat.mul_comm (256 ^ r.length)]
  omega
theorem cmp_num:∀ (a b:List UInt8),a.length=b.length→(Lib.compareBytes a b<0↔num a<num b)
 | [],[],_=>by simp [Lib.compareBytes,num]
 | x::a,y::b,h=>by
  have hl:a.length=b.length:=by simpa using h
  have ha:=num_lt a
  have hb:=num_lt b
  rw [num_cons,num_cons,←hl]
  rw [←hl] at hb
  unfold Lib.compareBytes
  by_cases h1:x<y
  ·rw [if_pos h1]
   have h2:x.toNat+1≤y.toNat:=UInt8.lt_iff_toNat_lt.1 h1
   have h3:(x.toNat+1)*256 ^ a.length≤y.toNat*256 ^ a.length:=Nat.mul_le_mul_right _ h2
   rw [Nat.add_mul,Nat.one_mul] at h3
   constructor
   ·intro _;omega
   ·intro _;decide
  ·rw [if_neg h1]
   by_cases h2:y<x
   ·rw [if_pos h2]
    have h4:y.toNat+1≤x.toNat:=UInt8.lt_iff_toNat_lt.1 h2
    have h3:(y.toNat+1)*256 ^ a.length≤x.toNat*256 ^ a.length:=Nat.mul_le_mul_right _ h4
    rw [Nat.add_mul,Nat.one_mul] at h3
    constructor
    ·intro h;exact absurd h (by decide)
    ·intro _;omega
   ·rw [if_neg h2]
    have he:x.toNat=y.toNat:=by
     have e1:=mt UInt8.lt_iff_toNat_lt.2 h1
     have e2:=mt UInt8.lt_iff_toNat_lt.2 h2
     omega
    rw [cmp_num a b hl,he]
    omega
theorem num_inj:∀ {a b:List UInt8},a.length=b.length→num a=num b→a=b
 | [],[],_,_=>rfl
 | x::a,y::b,h,e=>by
  have hl:a.length=b.length:=by simpa using h
  rw [num_cons,num_cons,←hl] at e
  have ha:=num_lt a
  have hb:=num_lt b
  rw [←hl] at hb
  have hx:x.toNat=y.toNat:=by
   rcases Nat.lt_trichotomy x.toNat y.toNat with h | h | h
   ·have h3:(x.toNat+1)*256 ^ a.length≤y.toNat*256 ^ a.length:=Nat.mul_le_mul_right _ h
    rw [Nat.add_mul,Nat.one_mul] at h3;omega
   ·exact h
   ·have h3:(y.toNat+1)*256 ^ a.length≤x.toNat*256 ^ a.length:=Nat.mul_le_mul_right _ h
    rw [Nat.add_mul,Nat.one_mul] at h3;omega
  rw [hx] at e
  rw [UInt8.toNat_inj.1 hx,num_inj hl (by omega)]
def digs:Nat→Nat→List UInt8
 | 0,_=>[]
 | m+1,n=>digs m (n/256)++[UInt8.ofNat (n%256)]
theorem digs_length:∀ m n,(digs m n).length=m
 | 0,_=>rfl
 | m+1,n=>by simp [digs,digs_length m]
theorem num_digs:∀ m n,n<256 ^ m→num (digs m n)=n
 | 0,n,h=>by simp at h;subst h;rfl
 | m+1,n,h=>by
  rw [digs,num_snoc,num_digs m (n/256) (by rw [Nat.pow_succ] at h;omega),UInt8.toNat_ofNat',Nat.mod_mod]
  omega
theorem digs_num(l:List UInt8):digs l.length (num l)=l:=num_inj (digs_length _ _) (num_digs _ _ (num_lt l))
theorem digs_get:∀ (m n i:Nat),i<m→(digs m n)[i]? = some (UInt8.ofNat (n/256 ^ (m-1-i)%256))
 | m+1,n,i,h=>by
  rw [digs]
  by_cases hi:i=m
  ·subst hi
   rw [List.getElem?_append_right (by rw [digs_length];exact Nat.le_refl _),digs_length]
   simp
  ·rw [List.getElem?_append_left (by rw [digs_length];omega),digs_get m (n/256) i (by omega),Nat.div_div_eq_div_mul]
   congr 4
   rw [show m+1-1-i=m-1-i+1 by omega,Nat.pow_succ,Nat.mul_comm]
end Go.Proofs.Ytahlbjmafceoeaa
namespace Go.Proofs.Ytahlbjmafceoeaa
open E Go.RowKit _root_.Go.Proofs.Try
theorem infoA237_is:(Try.prog.info? 37).isSome=true:=by kernel_rfl
noncomputable def infoA237_v:TypeInfo:=(Try.prog.info? 37).get infoA237_is
theorem infoA237:Try.prog.info? 37=some infoA237_v:=(Option.some_get _).symm
def aggregate_Right(x0:S_aggregate_Range):Option (Bool) :=
 addr_Right x0.f_From>>=fun t2=>if t2=true then (addr_Right x0.f_To>>=fun t4=>if t4=true then (if (x0.f_From.f_V==x0.f_To.f_V)=true then (addr_Less x0.f_To x0.f_From>>=fun t7=>some (!t7)) else (some false)) else (some false)) else (some false)
theorem aggregate_Right_ok(x0:S_aggregate_Range)(r:Bool)(hF:aggregate_Right x0=some r)(w:World) :
    Calls Try.prog 10 #[.agg (Cd.cs c_aggregate_Range x0).toArray] w (fun e w'=>e=.returned (.bool r)∧Below w.heap.size w w'):=by
 unfold aggregate_Right at hF
 refine ce (l:=[.agg (Cd.cs c_aggregate_Range x0).toArray]) func10 rfl rfl ?_
 refine at_start ?_
 refine sr ?_
 refine at_box (cs:=Cd.cs c_aggregate_Range x0) rfl rfl rfl ?_
 intro b1
 refine aa (nwx [1] ?_)
 refine fa 0 underlying26 rfl sizeOf24 ?_
 refine aw (r_load_aggc (c:=c_api_Addr) (z:=x0.f_From) isAgg24 sizeOf24 rfl (lens_cell .z (Lens.comp lw (fun z=>{ x0 with f_From:=z }) (c_aggregate_Range_f_From x0)))) ?_
 obtain ⟨t2,ht2,hF⟩:=bM hF
 refine cB func40 rfl (fun w hw=>addr_Right_ok _ _ ht2 w) ?_
 refine am ?_
 obtain ⟨h3,hF⟩|⟨h3,hF⟩:=oi hF
 ·refine fx 6 h3 ?_
  refine gy ?_
  refine fa 17 underlying26 rfl sizeOf24 ?_
  refine gy ?_
  refine aw (r_load_aggc (c:=c_api_Addr) (z:=x0.f_To) isAgg24 sizeOf24 rfl (lens_cell .z (Lens.comp lw (fun z=>{ x0 with f_To:=z }) (c_aggregate_Range_f_To x0)))) ?_
  refine gy ?_
  obtain ⟨t4,ht4,hF⟩:=bM hF
  refine cB func40 rfl (fun w hw=>addr_Right_ok _ _ ht4 w) ?_
  refine aw xp (am ?_)
  obtain ⟨h5,hF⟩|⟨h5,hF⟩:=oi hF
  ·refine fx 11 h5 ?_
   refine gy ?_
   refine fa 0 underlying26 rfl sizeOf24 ?_
   refine gy ?_
   refine fa 0 underlying24 rfl sizeOf3 ?_
   refine gy ?_
   refine aw (r_load_cell isAgg3 rfl (lens_cell0 (c:=(cInt .i64)) (y:=x0.f_From.f_V) .z (Lens.comp (Lens.comp lw (fun z=>{ x0 with f_From:=z }) (c_aggregate_Range_f_From x0)) (fun z=>{ x0.f_From with f_V:=z }) (c_api_Addr_f_V x0.f_From)) rfl)) ?_
   refine gy ?_
   refine fa 17 underlying26 rfl sizeOf24 ?_
   refine gy ?_
   refine fa 0 underlying24 rfl sizeOf3 ?_
   refine gy ?_
   refine aw (r_load_cell isAgg3 rfl (lens_cell0 (c:=(cInt .i64)) (y:=x0.f_To.f_V) .z (Lens.comp (Lens.comp lw (fun z=>{ x0 with f_To:=z }) (c_aggregate_Range_f_To x0)) (fun z=>{ x0.f_To with f_V:=z }) (c_api_Addr_f_V x0.f_To)) rfl)) ?_
   refine gy ?_
   refine aw xq (aw xp (am ?_))
   obtain ⟨h6,hF⟩|⟨h6,hF⟩:=oi hF
   ·refine fx 20 h6 ?_
    refine gy ?_
    refine fa 17 underlying26 rfl sizeOf24 ?_
    refine gy ?_
    refine aw (r_load_aggc (c:=c_api_Addr) (z:=x0.f_To) isAgg24 sizeOf24 rfl (lens_cell .z (Lens.comp lw (fun z=>{ x0 with f_To:=z }) (c_aggregate_Range_f_To x0)))) ?_
    refine gy ?_
    refine fa 0 underlying26 rfl sizeOf24 ?_
    refine gy ?_
    refine aw (r_load_aggc (c:=c_api_Addr) (z:=x0.f_From) isAgg24 sizeOf24 rfl (lens_cell .z (Lens.comp lw (fun z=>{ x0 with f_From:=z }) (c_aggregate_Range_f_From x0)))) ?_
    refine gy ?_
    obtain ⟨t7,ht7,hF⟩:=bM hF
    refine cB func39 rfl (fun w hw=>addr_Less_ok _ _ _ ht7 w) ?_
    refine gy ?_
    refine aw (r_not rfl) ?_
    refine aw xp (aa (qn (dz (wq [2] ?_))))
    refine tn (qt ?_)
    have K:=os hF
    subst K
    exact r1 wb
   refine fx 20 h6 ?_
   refine gn ?_
   refine gn ?_
   refine gn ?_
   refine gn ?_
   refine gn ?_
   refine gn ?_
   refine aw xp (aa (qn (dz (wq [2] ?_))))
   refine tn (qt ?_)
   have K:=os hF
   subst K
   exact r1 wb
  refine fx 11 h5 ?_
  refine gn ?_
  refine gn ?_
  refine gn ?_
  refine gn ?_
  refine gn ?_
  refine gn ?_
  refine gn ?_
  refine aw xp (am ?_)
  refine gn ?_
  refine gn ?_
  refine gn ?_
  refine gn ?_
  refine gn ?_
  refine gn ?_
  refine aw xp (aa (qn (dz (wq [2] ?_))))
  refine tn (qt ?_)
  have K:=os hF
  subst K
  exact r1 wb
 refine fx 6 h3 ?_
 refine gn ?_
 refine gn ?_
 refine gn ?_
 refine aw xp (am ?_)
 refine gn ?_
 refine gn ?_
 refine gn ?_
 refine gn ?_
 refine gn ?_
 refine gn ?_
 refine gn ?_
 refine aw xp (am ?_)
 refine gn ?_
 refine gn ?_
 refine gn ?_
 refine gn ?_
 refine gn ?_
 refine gn ?_
 refine aw xp (aa (qn (dz (wq [2] ?_))))
 refine tn (qt ?_)
 have K:=os hF
 subst K
 exact r1 wb
def aggregate_Next.l0(i5:Int)(i6:S_api_Addr):Option (Ctl (S_api_Addr×Bool) (Unit)) :=
 if (decide (i5≥0))=true then (if (0:Int)≤i5∧i5<16 then if (0:Int)≤i5∧i5<16 then if (0:Int)≤i5∧i5<16 then if (vget (({ i6 with f_B:=vset i6.f_B i5 (wr .u8 ((vget i6.f_B i5)+1)) }).f_B) i5 != (0:Int))=true then (some (.ret ({ i6 with f_B:=vset i6.f_B i5 (wr .u8 ((vget i6.f_B i5)+1)) },true))) else (aggregate_Next.l0 (wr .i64 (i5-1)) ({ i6 with f_B:=vset i6.f_B i5 (wr .u8 ((vget i6.f_B i5)+1)) })) else none else none else none) else (some (.nx ()))
 partial_fixpoint
def aggregate_Next(x0:S_api_Addr):Option (S_api_Addr×Bool) :=
 addr_Width x0>>=fun t3=>aggregate_Next.l0 (wr .i64 ((ishr .i64 t3 3)-1)) x0>>=fun q4=>match q4 with | .ret r'=>some r' | .nx sq4=>(some (({ f_V:=(0:Int),f_B:=(Vector.replicate 16 (0:Int):(Vector Int 16)) }:S_api_Addr),false))
theorem aggregate_Next_ok(x0:S_api_Addr)(r:S_api_Addr×Bool)(hF:aggregate_Next x0=some r)(w:World) :
    Calls Try.prog 25 #[.agg (Cd.cs c_api_Addr x0).toArray] w (fun e w'=>e=.returned (.tuple #[.agg (Cd.cs c_api_Addr r.1).toArray,.bool r.2])∧Below w.heap.size w w'):=by
 unfold aggregate_Next at hF
 refine ce (l:=[.agg (Cd.cs c_api_Addr x0).toArray]) func25 rfl rfl ?_
 refine at_start ?_
 refine sr ?_
 refine at_box (cs:=Cd.cs c_api_Addr x0) rfl rfl rfl ?_
 intro b1
 refine al (cs:=Cd.cs c_api_Addr zv0) zeroValue24 ?_
 intro b2
 refine aa (nt (qs (sr ?_)))
 refine aw (r_load_aggc (c:=c_api_Addr) (z:=x0) isAgg24 sizeOf24 rfl (lens_cell (.s .z) lw)) ?_
 obtain ⟨t3,ht3,hF⟩:=bM hF
 refine cB func53 rfl (fun w hw=>addr_Width_ok _ _ ht3 w) ?_
 refine aw (r_ishr rfl rfl (by decide)) ?_
 refine aw (r_isub rfl rfl) ?_
 refine aa (nwq [4,2,1] ?_)
 refine qb ?_
 obtain ⟨q4,hq4,hF⟩:=bM hF
 refine wq [4,2,1] ?_
 refine at_loop_r (B:=0) (r:=r) (q:=q4) (A:=fun (_:Unit) Y=>At 27 [(2,.pointer (some ⟨b2,0,none⟩))] (Wd w [cellsE b2 (Cd.cs c_api_Addr zv0) 24]) Y) ?_ ?_
 ·intro K
  refine aggregate_Next.l0.partial_correctness  (motive:=fun i5 i6 x=>KR (fun (_:Unit) Y=>At 27 [(2,.pointer (some ⟨b2,0,none⟩))] (Wd w [cellsE b2 (Cd.cs c_api_Addr zv0) 24]) Y) _ 0 r x→Round (fun Y=>At 27 [(1,.pointer (some ⟨b1,0,none⟩)),(2,.pointer (some ⟨b2,0,none⟩)),(4,.int .i64 i5)] (Wd w [cellsE b2 (Cd.cs c_api_Addr zv0) 24,cellsE b1 (Cd.cs c_api_Addr i6) 24]) Y) _ _ _) ?_ _ _ _ hq4 K
  ·clear K hF
   intro g ih i5 i6 x hF K
   refine at_round ?_
   refine qs (sr (am ?_))
   refine aw (r_igeq rfl rfl) ?_
   refine nwq [10,4,2,1] ?_
   obtain ⟨h7,hF⟩|⟨h7,hF⟩:=oi hF
   ·refine ct h7 ?_
    refine sn (qs ?_)
    refine qb ?_
    refine sr (am (fa 1 underlying24 rfl sizeOf22 ?_))
    obtain ⟨h8,hF⟩:=gd hF
    refine aw (r_idxArr underlying22 sizeOf5 rfl rfl h8) ?_
    refine aw (r_load_cell isAgg5 rfl (lens_cell0 (c:=(cInt .u8)) (y:=vget i6.f_B i5) (.s .z) (Lens.comp (Lens.comp lw (fun z=>{ i6 with f_B:=z }) (c_api_Addr_f_B i6)) (fun z=>vset i6.f_B i5 z) (Lens.vec (cInt .u8) (by decide) i6.f_B i5 h8)) rfl)) ?_
    refine aw xa (fa 1 underlying24 rfl sizeOf22 ?_)
    obtain ⟨h9,hF⟩:=gd hF
    refine aw (r_idxArr underlying22 sizeOf5 rfl rfl h9) ?_
    refine at_store (c:=(cInt .u8)) (z:=wr .u8 ((vget i6.f_B i5)+1)) (.s .z) (Lens.comp (Lens.comp lw (fun z=>{ i6 with f_B:=z }) (c_api_Addr_f_B i6)) (fun z=>vset i6.f_B i5 z) (Lens.vec (cInt .u8) (by decide) i6.f_B i5 h9)) sizeOf5 rfl rfl rfl ?_
    refine ns (am (fa 1 underlying24 rfl sizeOf22 ?_))
    obtain ⟨h10,hF⟩:=gd hF
    refine aw (r_idxArr underlying22 sizeOf5 rfl rfl h10) ?_
    refine aw (r_load_cell isAgg5 rfl (lens_cell0 (c:=(cInt .u8)) (y:=vget (({ i6 with f_B:=vset i6.f_B i5 (wr .u8 ((vget i6.f_B i5)+1)) }).f_B) i5) (.s .z) (Lens.comp (Lens.comp lw (fun z=>{ { i6 with f_B:=vset i6.f_B i5 (wr .u8 ((vget i6.f_B i5)+1)) } with f_B:=z }) (c_api_Addr_f_B ({ i6 with f_B:=vset i6.f_B i5 (wr .u8 ((vget i6.f_B i5)+1)) }))) (fun z=>vset (({ i6 with f_B:=vset i6.f_B i5 (wr .u8 ((vget i6.f_B i5)+1)) }).f_B) i5 z) (Lens.vec (cInt .u8) (by decide) (({ i6 with f_B:=vset i6.f_B i5 (wr .u8 ((vget i6.f_B i5)+1)) }).f_B) i5 h10)) rfl)) ?_
    refine aw xn (nwq [24,4,2,1] ?_)
    obtain ⟨h11,hF⟩|⟨h11,hF⟩:=oi hF
    ·refine ct h11 ?_
     refine sr ?_
     refine aw (r_load_aggc (c:=c_api_Addr) (z:={ i6 with f_B:=vset i6.f_B i5 (wr .u8 ((vget i6.f_B i5)+1)) }) isAgg24 sizeOf24 rfl (lens_cell (.s .z) lw)) ?_
     refine at_store (c:=c_api_Addr) (z:={ i6 with f_B:=vset i6.f_B i5 (wr .u8 ((vget i6.f_B i5)+1)) }) .z lw sizeOf24 rfl rfl rfl ?_
     refine aa (qn ?_)
     refine at_drop (H:=_) (.s .z) ?_
     refine wq [3,2] ?_
     refine tn (qt ?_)
     refine br (tr (tr (br (tr ?_))))
     obtain rfl:=os hF
     subst K
     exact at_res2 rfl (res_cell (c:=c_api_Addr) (y:={ i6 with f_B:=vset i6.f_B i5 (wr .u8 ((vget i6.f_B i5)+1)) }) rfl .z lw isAgg24 sizeOf24 (.inl rfl)) (res_tmp rfl) wb
    refine cf h11 ?_
    refine at_skip ?_
    refine bm ?_
    refine qr (am ?_)
    refine aw (r_isub rfl rfl) ?_
    refine aa (nwq [4,2,1] ?_)
    exact at_weak_k (ih _ _ _ hF K) ⟨rfl,rfl,rfl,trivial⟩
   refine cf h7 ?_
   refine at_exit ?_
   refine te (te ?_)
   refine at_drop (H:=_) (.s .z) ?_
   obtain rfl:=os hF
   exact at_weak_k K ⟨rfl,trivial⟩
 cases q4 with
 | ret r'=>exact os hF
 | nx sq4 =>
  skip
  refine at_blk_same ?_
  refine tn (sr ?_)
  refine aw (r_build_struct (zs:=Cd.cs c_api_Addr zv0) (cs:=Cd.cs c_api_Addr zv0) underlying24 zeroValue24 rfl (places_api_Addr_24) rfl rfl) ?_
  refine at_store (c:=c_api_Addr) (z:=zv0) .z lw sizeOf24 rfl rfl rfl ?_
  refine aa (nwq [3,2] ?_)
  refine qt ?_
  have K:=os hF
  subst K
  exact at_res2 rfl (res_cell (c:=c_api_Addr) (y:=zv0) rfl .z lw isAgg24 sizeOf24 (.inl rfl)) (res_tmp rfl) wb
def aggregate_last.l0(x0:S_api_Prefix)(t4:Int)(i6:Int)(i7:S_api_Addr):Option (S_api_Addr) :=
 if (decide (i6<ishr .i64 t4 3))=true then (if (0:Int)≤i6∧i6<16 then if (0:Int)≤wr .u64 (if 8<(if wr .i64 (x0.f_Bits-(wr .i64 (8*i6)))<0 then 0 else wr .i64 (x0.f_Bits-(wr .i64 (8*i6)))) then 8 else (if wr .i64 (x0.f_Bits-(wr .i64 (8*i6)))<0 then 0 else wr .i64 (x0.f_Bits-(wr .i64 (8*i6))))) then if (0:Int)≤i6∧i6<16 then aggregate_last.l0 x0 t4 (wr .i64 (i6+1)) ({ i7 with f_B:=vset i7.f_B i6 (ior .u8 (vget i7.f_B i6) (ishr .u8 255 (wr .u64 (if 8<(if wr .i64 (x0.f_Bits-(wr .i64 (8*i6)))<0 then 0 else wr .i64 (x0.f_Bits-(wr .i64 (8*i6)))) then 8 else (if wr .i64 (x0.f_Bits-(wr .i64 (8*i6)))<0 then 0 else wr .i64 (x0.f_Bits-(wr .i64 (8*i6)))))))) }) else none else none else none) else (some i7)
 partial_fixpoint
def aggregate_last(x0:S_api_Prefix):Option (S_api_Addr) :=
 addr_Width x0.f_A>>=fun t4=>aggregate_last.l0 x0 t4 0 x0.f_A>>=fun q5=>some q5
theorem aggregate_last_ok(x0:S_api_Prefix)(r:S_api_Addr)(hF:aggregate_last x0=some r)(w:World) :
    Calls Try.prog 38 #[.agg (Cd.cs c_api_Prefix x0).toArray] w (fun e w'=>e=.returned (.agg (Cd.cs c_api_Addr r).toArray)∧Below w.heap.size w w'):=by
 unfold aggregate_last at hF
 refine ce (l:=[.agg (Cd.cs c_api_Prefix x0).toArray]) func38 rfl rfl ?_
 refine at_start ?_
 refine sr ?_
 refine at_box (cs:=Cd.cs c_api_Prefix x0) rfl rfl rfl ?_
 intro b1
 refine al (cs:=Cd.cs c_api_Addr zv0) zeroValue24 ?_
 intro b2
 refine ns (fa 0 underlying37 rfl sizeOf24 ?_)
 refine aw (r_load_aggc (c:=c_api_Addr) (z:=x0.f_A) isAgg24 sizeOf24 rfl (lens_cell (.s .z) (Lens.comp lw (fun z=>{ x0 with f_A:=z }) (c_api_Prefix_f_A x0)))) ?_
 refine al (cs:=Cd.cs c_api_Addr zv0) zeroValue24 ?_
 intro b3
 refine at_store (c:=c_api_Addr) (z:=x0.f_A) .z lw sizeOf24 rfl rfl rfl ?_
 refine nt (qs (sr ?_))
 refine aw (r_load_aggc (c:=c_api_Addr) (z:=x0.f_A) isAgg24 sizeOf24 rfl (lens_cell .z lw)) ?_
 obtain ⟨t4,ht4,hF⟩:=bM hF
 refine cB func53 rfl (fun w hw=>addr_Width_ok _ _ ht4 w) ?_
 refine aw (r_ishr rfl rfl (by decide)) ?_
 refine am (nwq [11,10,3,2,1] ?_)
 refine qb ?_
 obtain ⟨q5,hq5,hF⟩:=bM hF
 refine wq [11,10,3,2,1] ?_
 refine at_loop_n (B:=0) (A:=fun Y=>At 33 [(2,.pointer (some ⟨b2,0,none⟩)),(3,.pointer (some ⟨b3,0,none⟩))] (Wd w [cellsE b3 (Cd.cs c_api_Addr q5) 24,cellsE b2 (Cd.cs c_api_Addr zv0) 24]) Y) ?_ ?_
 ·intro K
  refine aggregate_last.l0.partial_correctness x0 t4 (motive:=fun i6 i7 x=>KN (fun Y=>At 33 [(2,.pointer (some ⟨b2,0,none⟩)),(3,.pointer (some ⟨b3,0,none⟩))] (Wd w [cellsE b3 (Cd.cs c_api_Addr x) 24,cellsE b2 (Cd.cs c_api_Addr zv0) 24]) Y) _ 0→Round (fun Y=>At 33 [(1,.pointer (some ⟨b1,0,none⟩)),(2,.pointer (some ⟨b2,0,none⟩)),(3,.pointer (some ⟨b3,0,none⟩)),(10,.int .i64 (ishr .i64 t4 3)),(11,.int .i64 i6)] (Wd w [cellsE b3 (Cd.cs c_api_Addr i7) 24,cellsE b2 (Cd.cs c_api_Addr zv0) 24,cellsE b1 (Cd.cs c_api_Prefix x0) 37]) Y) _ _ _) ?_ _ _ _ hq5 K
  ·clear K hF
   intro g ih i6 i7 x hF K
   refine at_round ?_
   refine sr (aw xl (nwq [12,11,10,3,2,1] ?_))
   refine qs ?_
   obtain ⟨h8,hF⟩|⟨h8,hF⟩:=oi hF
   ·refine ct h8 ?_
    refine sn (qs ?_)
    refine qb ?_
    refine sr (am (aa (ns (fa 17 underlying37 rfl sizeOf3 ?_))))
    refine aw (r_load_cell isAgg3 rfl (lens_cell0 (c:=(cInt .i64)) (y:=x0.f_Bits) (.s (.s .z)) (Lens.comp lw (fun z=>{ x0 with f_Bits:=z }) (c_api_Prefix_f_Bits x0)) rfl)) ?_
    refine am ?_
    refine aw (r_imul rfl rfl) ?_
    refine aw (r_isub rfl rfl) ?_
    refine aw (r_max rfl rfl) ?_
    refine aw (r_min rfl rfl) ?_
    refine aa (nt (qr (am (fa 1 underlying24 rfl sizeOf22 ?_))))
    obtain ⟨h9,hF⟩:=gd hF
    refine aw (r_idxArr underlying22 sizeOf5 rfl rfl h9) ?_
    refine aw (r_load_cell isAgg5 rfl (lens_cell0 (c:=(cInt .u8)) (y:=vget i7.f_B i6) .z (Lens.comp (Lens.comp lw (fun z=>{ i7 with f_B:=z }) (c_api_Addr_f_B i7)) (fun z=>vset i7.f_B i6 z) (Lens.vec (cInt .u8) (by decide) i7.f_B i6 h9)) rfl)) ?_
    refine am ?_
    refine aw (r_conv underlying3 underlying81 rfl) ?_
    obtain ⟨h10,hF⟩:=gd hF
    refine aw (r_ishr rfl rfl h10) ?_
    refine aw (r_ior rfl rfl) ?_
    refine fa 1 underlying24 rfl sizeOf22 ?_
    obtain ⟨h11,hF⟩:=gd hF
    refine aw (r_idxArr underlying22 sizeOf5 rfl rfl h11) ?_
    refine at_store (c:=(cInt .u8)) (z:=ior .u8 (vget i7.f_B i6) (ishr .u8 255 (wr .u64 (if 8<(if wr .i64 (x0.f_Bits-(wr .i64 (8*i6)))<0 then 0 else wr .i64 (x0.f_Bits-(wr .i64 (8*i6)))) then 8 else (if wr .i64 (x0.f_Bits-(wr .i64 (8*i6)))<0 then 0 else wr .i64 (x0.f_Bits-(wr .i64 (8*i6)))))))) .z (Lens.comp (Lens.comp lw (fun z=>{ i7 with f_B:=z }) (c_api_Addr_f_B i7)) (fun z=>vset i7.f_B i6 z) (Lens.vec (cInt .u8) (by decide) i7.f_B i6 h11)) sizeOf5 rfl rfl rfl ?_
    refine qn (wq [11,10,3,2,1] ?_)
    refine bm ?_
    refine qr (aw xa (am (nwq [11,10,3,2,1] ?_)))
    exact at_weak_k (ih _ _ _ hF K) ⟨rfl,rfl,rfl,rfl,rfl,trivial⟩
   refine cf h8 ?_
   refine at_exit ?_
   refine te (te ?_)
   refine at_drop (H:=_) (.s (.s .z)) ?_
   obtain rfl:=os hF
   exact at_weak_k K ⟨rfl,rfl,trivial⟩
 skip
 skip
 refine at_blk_same ?_
 refine tn (sr ?_)
 refine aw (r_load_aggc (c:=c_api_Addr) (z:=q5) isAgg24 sizeOf24 rfl (lens_cell .z lw)) ?_
 refine at_store (c:=c_api_Addr) (z:=q5) (.s .z) lw sizeOf24 rfl rfl rfl ?_
 refine qn (dz (wq [2] ?_))
 refine tn (qt ?_)
 have K:=os hF
 subst K
 exact at_res1 rfl (res_cell (c:=c_api_Addr) (y:=q5) rfl .z lw isAgg24 sizeOf24 (.inl rfl)) wb
def aggregate_Of(x0:S_api_Prefix):Option (S_aggregate_Range×Bool) :=
 cidr_Right x0>>=fun t3=>if (!t3)=true then (some (({ f_From:=({ f_V:=(0:Int),f_B:=(Vector.replicate 16 (0:Int):(Vector Int 16)) }:S_api_Addr),f_To:=({ f_V:=(0:Int),f_B:=(Vector.replicate 16 (0:Int):(Vector Int 16)) }:S_api_Addr) }:S_aggregate_Range),false)) else (aggregate_last x0>>=fun t5=>some ({ { ({ f_From:=({ f_V:=(0:Int),f_B:=(Vector.replicate 16 (0:Int):(Vector Int 16)) }:S_api_Addr),f_To:=({ f_V:=(0:Int),f_B:=(Vector.replicate 16 (0:Int):(Vector Int 16)) }:S_api_Addr) }:S_aggregate_Range) with f_From:=x0.f_A } with f_To:=t5 },true))
set_option maxHeartbeats 3200000 in
theorem aggregate_Of_ok(x0:S_api_Prefix)(r:S_aggregate_Range×Bool)(hF:aggregate_Of x0=some r)(w:World) :
    Calls Try.prog 26 #[.agg (Cd.cs c_api_Prefix x0).toArray] w (fun e w'=>e=.returned (.tuple #[.agg (Cd.cs c_aggregate_Range r.1).toArray,.bool r.2])∧Below w.heap.size w w'):=by
 unfold aggregate_Of at hF
 refine ce (l:=[.agg (Cd.cs c_api_Prefix x0).toArray]) func26 rfl rfl ?_
 refine at_start ?_
 refine sr ?_
 refine at_box (cs:=Cd.cs c_api_Prefix x0) rfl rfl rfl ?_
 intro b1
 refine al (cs:=Cd.cs c_aggregate_Range zv3) zeroValue26 ?_
 intro b2
 refine aa (nt (qs (sr ?_)))
 refine aw (r_load_aggc (c:=c_api_Prefix) (z:=x0) isAgg37 sizeOf37 rfl (lens_cell (.s .z) lw)) ?_
 obtain ⟨t3,ht3,hF⟩:=bM hF
 refine cB func47 rfl (fun w hw=>cidr_Right_ok _ _ ht3 w) ?_
 refine aw (r_not rfl) ?_
 refine nwq [6,2,1] ?_
 obtain ⟨h4,hF⟩|⟨h4,hF⟩:=oi hF
 ·refine ct h4 ?_
  refine sr ?_
  refine aw (r_build_struct (zs:=Cd.cs c_aggregate_Range zv3) (cs:=Cd.cs c_aggregate_Range zv3) underlying26 zeroValue26 rfl (places_aggregate_Range_26) rfl rfl) ?_
  refine at_store (c:=c_aggregate_Range) (z:=zv3) .z lw sizeOf26 rfl rfl rfl ?_
  refine aa (qn ?_)
  refine at_drop (H:=_) (.s .z) ?_
  refine wq [3,2] ?_
  refine tn (rt ?_)
  have K:=os hF
  subst K
  exact at_res2 rfl (res_cell (c:=c_aggregate_Range) (y:=zv3) rfl .z lw isAgg26 sizeOf26 (.inl rfl)) (res_tmp rfl) wb
 refine cf h4 ?_
 refine sn (qs (wq [2,1] ?_))
 obtain ⟨t5,ht5,hF⟩:=bM hF
 refine at_inv [.q 8 (fun g6=>.pointer (some ⟨b1,0+0,none⟩)) [] 0 0,.q 9 (fun g6=>.agg (Cd.cs c_api_Addr x0.f_A).toArray) [0] 0 0,.q 10 (fun g6=>.agg (Cd.cs c_api_Prefix x0).toArray) [] 0 0,.q 11 (fun g6=>.agg (Cd.cs c_api_Addr t5).toArray) [2] 0 0,.q 12 (fun g6=>.agg (Cd.cs c_aggregate_Range ({ { zv3 with f_From:=x0.f_A } with f_To:=t5 })).toArray) [1,3] 0 0,.st 0 none [4],.q 3 (fun g6=>.bool true) [] 1 1] (fun g6 s=>match s with | 0=>(Wd w [cellsE b2 (Cd.cs c_aggregate_Range zv3) 26,cellsE b1 (Cd.cs c_api_Prefix x0) 37]) | _=>(Wd w [cellsE b2 (Cd.cs c_aggregate_Range ({ { zv3 with f_From:=x0.f_A } with f_To:=t5 })) 26,cellsE b1 (Cd.cs c_api_Prefix x0) 37])) 1 (by kernel_rfl) (by kernel_rfl) (by kernel_rfl) (by kernel_rfl) (by kernel_rfl) ⟨fun _ _ _=>rfl,fun _ _ _=>rfl,fun _ _ _=>rfl,fun _ _ _=>rfl,fun _ _ _=>rfl,fun _ _ _=>rfl,fun _ _ _=>rfl,trivial⟩ (by kernel_rfl) (fun w_ h=>⟨fun _=>g3 0 none 0 none w_,h.drew⟩) ⟨?_,?_,?_,?_,?_,?_,?_,trivial⟩ ?_
 ·intro Lx g6 s K hl hh k
  show At 13 ((1,_)::(2,_)::Lx) _ _
  refine fa 0 underlying37 rfl sizeOf24 ?_
  exact at_nil k
 ·intro Lx g6 s K hl hh k
  show At 13 ((8,_)::(1,_)::(2,_)::Lx) _ _
  obtain rfl:s=0:=by omega
  refine aw (r_load_aggc (c:=c_api_Addr) (z:=x0.f_A) isAgg24 sizeOf24 rfl (lens_cell (.s .z) (Lens.comp lw (fun z=>{ x0 with f_A:=z }) (c_api_Prefix_f_A x0)))) ?_
  exact at_nil k
 ·intro Lx g6 s K hl hh k
  show At 13 ((1,_)::(2,_)::Lx) _ _
  obtain rfl:s=0:=by omega
  refine aw (r_load_aggc (c:=c_api_Prefix) (z:=x0) isAgg37 sizeOf37 rfl (lens_cell (.s .z) lw)) ?_
  exact at_nil k
 ·intro Lx g6 s K hl hh k
  show At 13 ((10,_)::(1,_)::(2,_)::Lx) _ _
  obtain rfl:s=0:=by omega
  refine cB func38 rfl (fun w hw=>aggregate_last_ok _ _ ht5 w) ?_
  exact at_nil k
 ·intro Lx g6 s K hl hh k
  show At 13 ((9,_)::(11,_)::(1,_)::(2,_)::Lx) _ _
  obtain rfl:s=0:=by omega
  refine aw (r_build_struct (zs:=Cd.cs c_aggregate_Range zv3) (cs:=Cd.cs c_aggregate_Range ({ { zv3 with f_From:=x0.f_A } with f_To:=t5 })) underlying26 zeroValue26 rfl (places_aggregate_Range_26) rfl (fill_step (c:=c_api_Addr) (z:=x0.f_A) rfl (c_aggregate_Range_f_From zv3) rfl (fill_step (c:=c_api_Addr) (z:=t5) rfl (c_aggregate_Range_f_To ({ zv3 with f_From:=x0.f_A })) rfl rfl))) ?_
  exact at_nil k
 ·intro Lx g6 K k
  show At 13 ((12,_)::(1,_)::(2,_)::Lx) _ _
  refine at_store (c:=c_aggregate_Range) (z:={ { zv3 with f_From:=x0.f_A } with f_To:=t5 }) .z lw sizeOf26 rfl rfl rfl ?_
  exact at_nil k
 ·intro Lx g6 s K hl hh k
  show At 13 ((1,_)::(2,_)::Lx) _ _
  refine aa ?_
  exact at_nil k
 intro g6
 show At 13 [(8,_),(9,_),(10,_),(11,_),(12,_),(3,_),(1,_),(2,_)] _ _
 refine at_drop (H:=_) (.s .z) ?_
 refine wq [3,2] ?_
 refine tn (qt ?_)
 have K:=os hF
 subst K
 exact at_res2 rfl (res_cell (c:=c_aggregate_Range) (y:={ { zv3 with f_From:=x0.f_A } with f_To:=t5 }) rfl .z lw isAgg26 sizeOf26 (.inl rfl)) (res_tmp rfl) wb
def aggregate_low.l0(x0:S_api_Addr)(i4:Int)(i5:Int):Option (Int) :=
 if (decide (i5≥0))=true then (addr_Bit x0 i5>>=fun t7=>if (t7==0)=true then (aggregate_low.l0 x0 (wr .i64 (i4+1)) (wr .i64 (i5-1))) else (some i4)) else (some i4)
 partial_fixpoint
def aggregate_low(x0:S_api_Addr):Option (Int) :=
 addr_Width x0>>=fun t2=>aggregate_low.l0 x0 0 (wr .i64 (t2-1))>>=fun q3=>some q3
theorem aggregate_low_ok(x0:S_api_Addr)(r:Int)(hF:aggregate_low x0=some r)(w:World) :
    Calls Try.prog 70 #[.agg (Cd.cs c_api_Addr x0).toArray] w (fun e w'=>e=.returned (.int .i64 r)∧Below w.heap.size w w'):=by
 unfold aggregate_low at hF
 refine ce (l:=[.agg (Cd.cs c_api_Addr x0).toArray]) func70 rfl rfl ?_
 refine at_start ?_
 refine sr ?_
 refine at_box (cs:=Cd.cs c_api_Addr x0) rfl rfl rfl ?_
 intro b1
 refine aa (ns (aa (nt (qs (sr ?_)))))
 refine aw (r_load_aggc (c:=c_api_Addr) (z:=x0) isAgg24 sizeOf24 rfl (lens_cell .z lw)) ?_
 obtain ⟨t2,ht2,hF⟩:=bM hF
 refine cB func53 rfl (fun w hw=>addr_Width_ok _ _ ht2 w) ?_
 refine aw (r_isub rfl rfl) ?_
 refine aa (nwq [4,3,1] ?_)
 refine qb ?_
 obtain ⟨q3,hq3,hF⟩:=bM hF
 refine wq [4,3,1] ?_
 refine at_loop_n (B:=0) (A:=fun Y=>At 21 [(3,.int .i64 q3)] (Wd w []) Y) ?_ ?_
 ·intro K
  refine aggregate_low.l0.partial_correctness x0 (motive:=fun i4 i5 x=>KN (fun Y=>At 21 [(3,.int .i64 x)] (Wd w []) Y) _ 0→Round (fun Y=>At 21 [(1,.pointer (some ⟨b1,0,none⟩)),(3,.int .i64 i4),(4,.int .i64 i5)] (Wd w [cellsE b1 (Cd.cs c_api_Addr x0) 24]) Y) _ _ _) ?_ _ _ _ hq3 K
  ·clear K hF
   intro g ih i4 i5 x hF K
   refine at_round ?_
   refine qs (sr (am ?_))
   refine aw (r_igeq rfl rfl) ?_
   refine am ?_
   obtain ⟨h6,hF⟩|⟨h6,hF⟩:=oi hF
   ·refine fx 10 h6 ?_
    refine gy ?_
    refine aw (r_load_aggc (c:=c_api_Addr) (z:=x0) isAgg24 sizeOf24 rfl (lens_cell .z lw)) ?_
    refine gy ?_
    refine am ?_
    refine gy ?_
    obtain ⟨t7,ht7,hF⟩:=bM hF
    refine cB func84 rfl (fun w hw=>addr_Bit_ok _ _ _ ht7 w) ?_
    refine gy ?_
    refine aw xq (aw xp (nwq [15,4,3,1] ?_))
    obtain ⟨h8,hF⟩|⟨h8,hF⟩:=oi hF
    ·refine ct h8 ?_
     refine sn (qs ?_)
     refine qb ?_
     refine qr (am (aw xa (aa (qn (wq [4,3,1] ?_)))))
     refine bm ?_
     refine qr (am ?_)
     refine aw (r_isub rfl rfl) ?_
     refine aa (nwq [4,3,1] ?_)
     exact at_weak_k (ih _ _ _ hF K) ⟨rfl,rfl,rfl,trivial⟩
    refine cf h8 ?_
    refine at_exit ?_
    refine te (te ?_)
    refine dz ?_
    obtain rfl:=os hF
    exact at_weak_k K ⟨rfl,trivial⟩
   refine fx 10 h6 ?_
   refine gn ?_
   refine gn ?_
   refine gn ?_
   refine gn ?_
   refine aw xp (nwq [15,4,3,1] ?_)
   refine cf rfl ?_
   refine at_exit ?_
   refine te (te ?_)
   refine dz ?_
   obtain rfl:=os hF
   exact at_weak_k K ⟨rfl,trivial⟩
 skip
 skip
 refine at_blk_same ?_
 refine tn (sr (am (aa (nwq [2] ?_))))
 refine qt ?_
 have K:=os hF
 subst K
 exact r1 wb
def aggregate_greatest.l0(x0:S_api_Addr)(x1:S_api_Addr)(i9:Int)(i10:S_api_Prefix):Option (S_api_Prefix) :=
 aggregate_last i10>>=fun t11=>addr_Less x1 t11>>=fun t12=>if t12=true then (cidr_Of x0 (wr .i64 (i9+1))>>=fun t14=>aggregate_greatest.l0 x0 x1 (wr .i64 (i9+1)) t14.1) else (some i10)
 partial_fixpoint
def aggregate_greatest(x0:S_api_Addr)(x1:S_api_Addr):Option (S_api_Prefix) :=
 addr_Width x0>>=fun t4=>aggregate_low x0>>=fun t5=>cidr_Of x0 (wr .i64 (t4-t5))>>=fun t6=>aggregate_greatest.l0 x0 x1 (wr .i64 (t4-t5)) t6.1>>=fun q8=>some q8
theorem aggregate_greatest_ok(x0:S_api_Addr)(x1:S_api_Addr)(r:S_api_Prefix)(hF:aggregate_greatest x0 x1=some r)(w:World) :
    Calls Try.prog 37 #[.agg (Cd.cs c_api_Addr x0).toArray,.agg (Cd.cs c_api_Addr x1).toArray] w (fun e w'=>e=.returned (.agg (Cd.cs c_api_Prefix r).toArray)∧Below w.heap.size w w'):=by
 unfold aggregate_greatest at hF
 refine ce (l:=[.agg (Cd.cs c_api_Addr x0).toArray,.agg (Cd.cs c_api_Addr x1).toArray]) func37 rfl rfl ?_
 refine at_start ?_
 refine sr ?_
 refine at_box (cs:=Cd.cs c_api_Addr x0) rfl rfl rfl ?_
 intro b1
 refine at_box (cs:=Cd.cs c_api_Addr x1) rfl rfl rfl ?_
 intro b2
 refine al (cs:=Cd.cs c_api_Prefix zv2) zeroValue37 ?_
 intro b3
 refine ns ?_
 refine aw (r_load_aggc (c:=c_api_Addr) (z:=x0) isAgg24 sizeOf24 rfl (lens_cell (.s (.s .z)) lw)) ?_
 obtain ⟨t4,ht4,hF⟩:=bM hF
 refine cB func53 rfl (fun w hw=>addr_Width_ok _ _ ht4 w) ?_
 refine aa (ns (am ?_))
 refine aw (r_load_aggc (c:=c_api_Addr) (z:=x0) isAgg24 sizeOf24 rfl (lens_cell (.s (.s .z)) lw)) ?_
 obtain ⟨t5,ht5,hF⟩:=bM hF
 refine cB func70 rfl (fun w hw=>aggregate_low_ok _ _ ht5 w) ?_
 refine aw (r_isub rfl rfl) ?_
 refine aa (ns ?_)
 refine aw (r_load_aggc (c:=c_api_Addr) (z:=x0) isAgg24 sizeOf24 rfl (lens_cell (.s (.s .z)) lw)) ?_
 refine am ?_
 obtain ⟨t6,ht6,hF⟩:=bM hF
 refine cB func71 rfl (fun w hw=>cidr_Of_ok _ _ _ ht6 w) ?_
 refine am ?_
 refine aw xe (aw xe ?_)
 refine al (cs:=Cd.cs c_api_Prefix zv2) zeroValue37 ?_
 intro b7
 refine at_store (c:=c_api_Prefix) (z:=t6.1) .z lw sizeOf37 rfl rfl rfl ?_
 refine aa (nwq [7,6,4,3,2] ?_)
 refine qs ?_
 refine qb ?_
 obtain ⟨q8,hq8,hF⟩:=bM hF
 refine wq [7,6,4,3,2] ?_
 refine at_loop_n (B:=0) (A:=fun Y=>At 34 [(4,.pointer (some ⟨b3,0,none⟩)),(7,.pointer (some ⟨b7,0,none⟩))] (Wd w [cellsE b7 (Cd.cs c_api_Prefix q8) 37,cellsE b3 (Cd.cs c_api_Prefix zv2) 37]) Y) ?_ ?_
 ·intro K
  refine aggregate_greatest.l0.partial_correctness x0 x1 (motive:=fun i9 i10 x=>KN (fun Y=>At 34 [(4,.pointer (some ⟨b3,0,none⟩)),(7,.pointer (some ⟨b7,0,none⟩))] (Wd w [cellsE b7 (Cd.cs c_api_Prefix x) 37,cellsE b3 (Cd.cs c_api_Prefix zv2) 37]) Y) _ 0→Round (fun Y=>At 34 [(2,.pointer (some ⟨b1,0,none⟩)),(3,.pointer (some ⟨b2,0,none⟩)),(4,.pointer (some ⟨b3,0,none⟩)),(6,.int .i64 i9),(7,.pointer (some ⟨b7,0,none⟩))] (Wd w [cellsE b7 (Cd.cs c_api_Prefix i10) 37,cellsE b3 (Cd.cs c_api_Prefix zv2) 37,cellsE b2 (Cd.cs c_api_Addr x1) 24,cellsE b1 (Cd.cs c_api_Addr x0) 24]) Y) _ _ _) ?_ _ _ _ hq8 K
  ·clear K hF
   intro g ih i9 i10 x hF K
   refine at_round ?_
   refine qs (qs ?_)
   refine at_draw (by kernel_rfl) (by kernel_rfl) (fun _ h=>h.drew) ?_
   refine atq_val rfl rfl rfl (r_load_aggc (c:=c_api_Addr) (z:=x1) isAgg24 sizeOf24 rfl (lens_cell (.s (.s .z)) lw)) ?_
   refine atq_val rfl rfl rfl (r_load_aggc (c:=c_api_Prefix) (z:=i10) isAgg37 sizeOf37 rfl (lens_cell .z lw)) ?_
   obtain ⟨t11,ht11,hF⟩:=bM hF
   refine atq_call func38 rfl (by kernel_rfl) rfl rfl (fun w hw=>(aggregate_last_ok _ _ ht11 w).mono fun _ _ h=>⟨h.1,hw.call h.2⟩) ?_
   obtain ⟨t12,ht12,hF⟩:=bM hF
   refine atq_call func39 rfl (by kernel_rfl) rfl rfl (fun w hw=>(addr_Less_ok _ _ _ ht12 w).mono fun _ _ h=>⟨h.1,hw.call h.2⟩) ?_
   refine atq_nil ?_
   refine wq [24,7,6,4,3,2] ?_
   refine tn ?_
   obtain ⟨h13,hF⟩|⟨h13,hF⟩:=oi hF
   ·refine ct h13 ?_
    refine sn ?_
    refine qb ?_
    refine sr (am (aw xa (aa (nt (qr ?_)))))
    refine aw (r_load_aggc (c:=c_api_Addr) (z:=x0) isAgg24 sizeOf24 rfl (lens_cell (.s (.s (.s .z))) lw)) ?_
    refine am ?_
    obtain ⟨t14,ht14,hF⟩:=bM hF
    refine cB func71 rfl (fun w hw=>cidr_Of_ok _ _ _ ht14 w) ?_
    refine am ?_
    refine aw xe (aw xe ?_)
    refine at_store (c:=c_api_Prefix) (z:=t14.1) .z lw sizeOf37 rfl rfl rfl ?_
    refine qn (wq [7,6,4,3,2] ?_)
    refine bm ?_
    exact at_weak_k (ih _ _ _ hF K) ⟨rfl,rfl,rfl,rfl,rfl,trivial⟩
   refine cf h13 ?_
   refine at_exit ?_
   refine te (te ?_)
   refine at_drop (H:=_) (.s (.s .z)) ?_
   refine at_drop (H:=_) (.s (.s .z)) ?_
   obtain rfl:=os hF
   exact at_weak_k K ⟨rfl,rfl,trivial⟩
 skip
 skip
 refine at_blk_same ?_
 refine tn (sr ?_)
 refine aw (r_load_aggc (c:=c_api_Prefix) (z:=q8) isAgg37 sizeOf37 rfl (lens_cell .z lw)) ?_
 refine at_store (c:=c_api_Prefix) (z:=q8) (.s .z) lw sizeOf37 rfl rfl rfl ?_
 refine qn (dz (wq [4] ?_))
 refine tn (qt ?_)
 have K:=os hF
 subst K
 exact at_res1 rfl (res_cell (c:=c_api_Prefix) (y:=q8) rfl .z lw isAgg37 sizeOf37 (.inl rfl)) wb
def aggregate_Prefixes.l0(x0:S_aggregate_Range)(i9:List S_api_Prefix)(i10:S_api_Addr):Option (List S_api_Prefix) :=
 aggregate_greatest i10 x0.f_To>>=fun t13=>if (i9.length+1)*32≤140737488355328 then aggregate_last t13>>=fun t19=>aggregate_Next t19>>=fun t20=>if (!t20.2)=true then (some (i9++[t13])) else (addr_Less x0.f_To t20.1>>=fun t23=>if t23=true then (some (i9++[t13])) else (aggregate_Prefixes.l0 x0 (i9++[t13]) t20.1)) else none
 partial_fixpoint
def aggregate_Prefixes(x0:S_aggregate_Range):Option (List S_api_Prefix) :=
 aggregate_Right x0>>=fun t2=>if (!t2)=true then (some ([])) else (aggregate_Prefixes.l0 x0 ([]:List S_api_Prefix) x0.f_From>>=fun q7=>some q7)
theorem aggregate_Prefixes_ok(x0:S_aggregate_Range)(r:List S_api_Prefix)(hF:aggregate_Prefixes x0=some r)(w:World) :
    Calls Try.prog 8 #[.agg (Cd.cs c_aggregate_Range x0).toArray] w (fun e w'=>∃ p cap,e=.returned (.slice p r.length cap)∧Own c_api_Prefix 37 w.heap.size w' p cap r∧Below w.heap.size w w'):=by
 unfold aggregate_Prefixes at hF
 refine ce (l:=[.agg (Cd.cs c_aggregate_Range x0).toArray]) func8 rfl rfl ?_
 refine at_start ?_
 refine sr ?_
 refine at_box (cs:=Cd.cs c_aggregate_Range x0) rfl rfl rfl ?_
 intro b1
 refine aa (nt (qs (sr ?_)))
 refine aw (r_load_aggc (c:=c_aggregate_Range) (z:=x0) isAgg26 sizeOf26 rfl (lens_cell .z lw)) ?_
 obtain ⟨t2,ht2,hF⟩:=bM hF
 refine cB func10 rfl (fun w hw=>aggregate_Right_ok _ _ ht2 w) ?_
 refine aw (r_not rfl) ?_
 refine nwq [10,1] ?_
 obtain ⟨h3,hF⟩|⟨h3,hF⟩:=oi hF
 ·refine ct h3 ?_
  refine sr (aa (qn (dz (wq [2] ?_))))
  refine tn (rt ?_)
  have K:=os hF
  subst K
  exact r1 (fun w1 hw=>⟨none,0,rfl,Own.nil _ _ _ _,hw.below⟩)
 refine cf h3 ?_
 refine sns (aa (ns (fa 0 underlying26 rfl sizeOf24 ?_)))
 refine aw (r_load_aggc (c:=c_api_Addr) (z:=x0.f_From) isAgg24 sizeOf24 rfl (lens_cell .z (Lens.comp lw (fun z=>{ x0 with f_From:=z }) (c_aggregate_Range_f_From x0)))) ?_
 refine al (cs:=Cd.cs c_api_Addr zv0) zeroValue24 ?_
 intro b4
 refine at_store (c:=c_api_Addr) (z:=x0.f_From) .z lw sizeOf24 rfl rfl rfl ?_
 refine nwq [4,3,1] ?_
 refine qb ?_
 refine at_own_nil c_api_Prefix 37 ?_
 obtain ⟨q7,hq7,hF⟩:=bM hF
 refine wq [4,3,1] ?_
 refine at_loop_only (r:=r) (q:=q7) ?_ ?_
 ·intro K
  refine aggregate_Prefixes.l0.partial_correctness x0 (motive:=fun i9 i10 x=>x=r→Round (fun Y=>∀ (p11:Option Addr) (c12:Nat),At 37 [(1,.pointer (some ⟨b1,0,none⟩)),(3,.slice p11 i9.length c12),(4,.pointer (some ⟨b4,0,none⟩))] (Wd w [rowE c_api_Prefix 37 p11 c12 i9,cellsE b4 (Cd.cs c_api_Addr i10) 24,cellsE b1 (Cd.cs c_aggregate_Range x0) 26]) Y) _ _ _) ?_ _ _ _ hq7 K none 0
  ·clear K hF
   intro g ih i9 i10 x hF K p11 c12
   refine at_round ?_
   refine qb ?_
   refine sr ?_
   refine aw (r_load_aggc (c:=c_api_Addr) (z:=i10) isAgg24 sizeOf24 rfl (lens_cell (.s .z) lw)) ?_
   refine fa 17 underlying26 rfl sizeOf24 ?_
   refine aw (r_load_aggc (c:=c_api_Addr) (z:=x0.f_To) isAgg24 sizeOf24 rfl (lens_cell (.s (.s .z)) (Lens.comp lw (fun z=>{ x0 with f_To:=z }) (c_aggregate_Range_f_To x0)))) ?_
   obtain ⟨t13,ht13,hF⟩:=bM hF
   refine cB func37 rfl (fun w hw=>aggregate_greatest_ok _ _ _ ht13 w) ?_
   refine al (cs:=Cd.cs c_api_Prefix zv2) zeroValue37 ?_
   intro b14
   refine at_store (c:=c_api_Prefix) (z:=t13) .z lw sizeOf37 rfl rfl rfl ?_
   refine ns (am ?_)
   refine aw (r_load_aggc (c:=c_api_Prefix) (z:=t13) isAgg37 sizeOf37 rfl (lens_cell .z lw)) ?_
   refine at_litL (c:=c_api_Prefix) ([zv2]:List S_api_Prefix) ([t13]:List S_api_Prefix) underlying27 sizeOf37 zeroValue37 rfl rfl rfl (by kernel_rfl) (fill_step (c:=c_api_Prefix) (z:=t13) rfl (Lens.all c_api_Prefix ([zv2]:List S_api_Prefix) 0 (by first | decide | exact Nat.le_of_ble_eq_true rfl)) rfl rfl) rfl ?_
   intro b15
   obtain ⟨h16,hF⟩:=gd hF
   refine at_append (z:=.agg (Cd.cs c_api_Prefix zv2).toArray) (c:=c_api_Prefix) (ys:=([t13]:List S_api_Prefix)) (.s (.s .z)) underlying27 infoA237 (by kernel_rfl) (by kernel_rfl) rfl rfl rfl rfl (fun _ hw=>cells_src (hw.ok (Upd.mem .z))) (by kernel_rfl) h16 (app_small h16) rfl ?_
   intro p17 c18
   refine aa (qn (dz (tn (sr ?_))))
   refine aw (r_load_aggc (c:=c_api_Prefix) (z:=t13) isAgg37 sizeOf37 rfl (lens_cell .z lw)) ?_
   obtain ⟨t19,ht19,hF⟩:=bM hF
   refine cB func38 rfl (fun w hw=>aggregate_last_ok _ _ ht19 w) ?_
   obtain ⟨t20,ht20,hF⟩:=bM hF
   refine cB func25 rfl (fun w hw=>aggregate_Next_ok _ _ ht20 w) ?_
   refine am ?_
   refine aw xe (aw xe ?_)
   refine al (cs:=Cd.cs c_api_Addr zv0) zeroValue24 ?_
   intro b21
   refine at_store (c:=c_api_Addr) (z:=t20.1) .z lw sizeOf24 rfl rfl rfl ?_
   refine aa (qn ?_)
   refine at_drop (H:=_) (.s .z) ?_
   refine wq [7,6,4,3,1] ?_
   refine tn (qs (sr (am ?_)))
   refine aw (r_not rfl) ?_
   refine am ?_
   obtain ⟨h22,hF⟩|⟨h22,hF⟩:=oi hF
   ·refine fx 29 h22 ?_
    refine gn ?_
    refine gn ?_
    refine gn ?_
    refine gn ?_
    refine aw xp (nwq [34,6,4,3,1] ?_)
    refine ct rfl ?_
    refine sr (am (aa (qn (dz ?_))))
    refine at_drop (H:=_) (.s .z) ?_
    refine at_drop (H:=_) (.s .z) ?_
    refine wq [2] ?_
    refine tn (qt ?_)
    refine tr (br (tr (br ?_)))
    obtain rfl:=os hF
    subst K
    exact r1 (fun w1 hw=>⟨p17,c18,rfl,hw.own .z,hw.below⟩)
   refine fx 29 h22 ?_
   refine gy ?_
   refine fa 17 underlying26 rfl sizeOf24 ?_
   refine gy ?_
   refine aw (r_load_aggc (c:=c_api_Addr) (z:=x0.f_To) isAgg24 sizeOf24 rfl (lens_cell (.s (.s (.s .z))) (Lens.comp lw (fun z=>{ x0 with f_To:=z }) (c_aggregate_Range_f_To x0)))) ?_
   refine gy ?_
   refine aw (r_load_aggc (c:=c_api_Addr) (z:=t20.1) isAgg24 sizeOf24 rfl (lens_cell .z lw)) ?_
   refine gy ?_
   obtain ⟨t23,ht23,hF⟩:=bM hF
   refine cB func39 rfl (fun w hw=>addr_Less_ok _ _ _ ht23 w) ?_
   refine aw xp (nwq [34,6,4,3,1] ?_)
   obtain ⟨h24,hF⟩|⟨h24,hF⟩:=oi hF
   ·refine ct h24 ?_
    refine sr (am (aa (qn (dz ?_))))
    refine at_drop (H:=_) (.s .z) ?_
    refine at_drop (H:=_) (.s .z) ?_
    refine wq [2] ?_
    refine tn (qt ?_)
    refine tr (br (tr (br ?_)))
    obtain rfl:=os hF
    subst K
    exact r1 (fun w1 hw=>⟨p17,c18,rfl,hw.own .z,hw.below⟩)
   refine cf h24 ?_
   refine sn (qr ?_)
   refine aw (r_load_aggc (c:=c_api_Addr) (z:=t20.1) isAgg24 sizeOf24 rfl (lens_cell .z lw)) ?_
   refine at_store (c:=c_api_Addr) (z:=t20.1) (.s (.s .z)) lw sizeOf24 rfl rfl rfl ?_
   refine qn (dz (wq [4,3,1] ?_))
   refine bm ?_
   exact at_weak_k (ih _ _ _ hF K p17 c18) ⟨rfl,rfl,rfl,trivial⟩
 exact os hF
def aggregate_order(x0:S_api_Prefix)(x1:S_api_Prefix):Option (Int) :=
 cidr_Less x0 x1>>=fun t3=>if t3=true then (some (-1)) else (cidr_Less x1 x0>>=fun t5=>if t5=true then (some 1) else (some 0))
theorem aggregate_order_ok(x0:S_api_Prefix)(x1:S_api_Prefix)(r:Int)(hF:aggregate_order x0 x1=some r)(w:World) :
    Calls Try.prog 49 #[.agg (Cd.cs c_api_Prefix x0).toArray,.agg (Cd.cs c_api_Prefix x1).toArray] w (fun e w'=>e=.returned (.int .i64 r)∧Below w.heap.size w w'):=by
 unfold aggregate_order at hF
 refine ce (l:=[.agg (Cd.cs c_api_Prefix x0).toArray,.agg (Cd.cs c_api_Prefix x1).toArray]) func49 rfl rfl ?_
 refine at_start ?_
 refine sr ?_
 refine at_box (cs:=Cd.cs c_api_Prefix x0) rfl rfl rfl ?_
 intro b1
 refine at_box (cs:=Cd.cs c_api_Prefix x1) rfl rfl rfl ?_
 intro b2
 refine aa (nwq [3,2] ?_)
 refine qs ?_
 refine qb ?_
 refine sr ?_
 refine aw (r_load_aggc (c:=c_api_Prefix) (z:=x0) isAgg37 sizeOf37 rfl (lens_cell (.s .z) lw)) ?_
 refine aw (r_load_aggc (c:=c_api_Prefix) (z:=x1) isAgg37 sizeOf37 rfl (lens_cell .z lw)) ?_
 obtain ⟨t3,ht3,hF⟩:=bM hF
 refine cB func67 rfl (fun w hw=>cidr_Less_ok _ _ _ ht3 w) ?_
 refine aa (nwq [5,3,2] ?_)
 obtain ⟨h4,hF⟩|⟨h4,hF⟩:=oi hF
 ·refine ct h4 ?_
  refine sr (aa (qn (dz (dz (wq [4] ?_)))))
  refine tn (qt ?_)
  refine br (tr ?_)
  have K:=os hF
  subst K
  exact r1 wb
 refine cf h4 ?_
 refine sr ?_
 refine aw (r_load_aggc (c:=c_api_Prefix) (z:=x1) isAgg37 sizeOf37 rfl (lens_cell .z lw)) ?_
 refine aw (r_load_aggc (c:=c_api_Prefix) (z:=x0) isAgg37 sizeOf37 rfl (lens_cell (.s .z) lw)) ?_
 obtain ⟨t5,ht5,hF⟩:=bM hF
 refine cB func67 rfl (fun w hw=>cidr_Less_ok _ _ _ ht5 w) ?_
 refine aa (qn (dz (dz (wq [9] ?_))))
 refine tn ?_
 obtain ⟨h6,hF⟩|⟨h6,hF⟩:=oi hF
 ·refine ct h6 ?_
  refine sr (aa (nwq [4] ?_))
  refine qt ?_
  refine br (tr ?_)
  have K:=os hF
  subst K
  exact r1 wb
 refine cf h6 ?_
 refine at_skip ?_
 refine bm ?_
 refine sr (aa (nwq [4] ?_))
 refine qt ?_
 have K:=os hF
 subst K
 exact r1 wb
def aggregate_joins(x0:S_aggregate_Range)(x1:S_api_Prefix):Option (Bool) :=
 if (x0.f_From.f_V != x1.f_A.f_V)=true then (some false) else (aggregate_Next x0.f_To>>=fun t4=>if (!t4.2)=true then (some true) else (addr_Less t4.1 x1.f_A>>=fun t7=>some (!t7)))
theorem aggregate_joins_ok(x0:S_aggregate_Range)(x1:S_api_Prefix)(r:Bool)(hF:aggregate_joins x0 x1=some r)(w:World) :
    Calls Try.prog 50 #[.agg (Cd.cs c_aggregate_Range x0).toArray,.agg (Cd.cs c_api_Prefix x1).toArray] w (fun e w'=>e=.returned (.bool r)∧Below w.heap.size w w'):=by
 unfold aggregate_joins at hF
 refine ce (l:=[.agg (Cd.cs c_aggregate_Range x0).toArray,.agg (Cd.cs c_api_Prefix x1).toArray]) func50 rfl rfl ?_
 refine at_start ?_
 refine sr ?_
 refine at_box (cs:=Cd.cs c_aggregate_Range x0) rfl rfl rfl ?_
 intro b1
 refine at_box (cs:=Cd.cs c_api_Prefix x1) rfl rfl rfl ?_
 intro b2
 refine aa (nt (qs (sr (fa 0 underlying26 rfl sizeOf24 (fa 0 underlying24 rfl sizeOf3 ?_)))))
 refine aw (r_load_cell isAgg3 rfl (lens_cell0 (c:=(cInt .i64)) (y:=x0.f_From.f_V) (.s .z) (Lens.comp (Lens.comp lw (fun z=>{ x0 with f_From:=z }) (c_aggregate_Range_f_From x0)) (fun z=>{ x0.f_From with f_V:=z }) (c_api_Addr_f_V x0.f_From)) rfl)) ?_
 refine fa 0 underlying37 rfl sizeOf24 (fa 0 underlying24 rfl sizeOf3 ?_)
 refine aw (r_load_cell isAgg3 rfl (lens_cell0 (c:=(cInt .i64)) (y:=x1.f_A.f_V) .z (Lens.comp (Lens.comp lw (fun z=>{ x1 with f_A:=z }) (c_api_Prefix_f_A x1)) (fun z=>{ x1.f_A with f_V:=z }) (c_api_Addr_f_V x1.f_A)) rfl)) ?_
 refine aw xn (nwq [13,3,2] ?_)
 obtain ⟨h3,hF⟩|⟨h3,hF⟩:=oi hF
 ·refine ct h3 ?_
  refine sr (aa (qn (dz (dz (wq [4] ?_)))))
  refine tn (rt ?_)
  have K:=os hF
  subst K
  exact r1 wb
 refine cf h3 ?_
 refine sns (fa 17 underlying26 rfl sizeOf24 ?_)
 refine aw (r_load_aggc (c:=c_api_Addr) (z:=x0.f_To) isAgg24 sizeOf24 rfl (lens_cell (.s .z) (Lens.comp lw (fun z=>{ x0 with f_To:=z }) (c_aggregate_Range_f_To x0)))) ?_
 obtain ⟨t4,ht4,hF⟩:=bM hF
 refine cB func25 rfl (fun w hw=>aggregate_Next_ok _ _ ht4 w) ?_
 refine am ?_
 refine aw xe (aw xe ?_)
 refine al (cs:=Cd.cs c_api_Addr zv0) zeroValue24 ?_
 intro b5
 refine at_store (c:=c_api_Addr) (z:=t4.1) .z lw sizeOf24 rfl rfl rfl ?_
 refine aa (qn ?_)
 refine at_drop (H:=_) (.s (.s .z)) ?_
 refine wq [6,5,3] ?_
 refine tn (sr (am ?_))
 refine aw (r_not rfl) ?_
 refine am ?_
 obtain ⟨h6,hF⟩|⟨h6,hF⟩:=oi hF
 ·refine fx 22 h6 ?_
  refine gn ?_
  refine gn ?_
  refine gn ?_
  refine gn ?_
  refine gn ?_
  refine aw xp (aa (qn (dz (dz (wq [4] ?_)))))
  refine tn (qt ?_)
  have K:=os hF
  subst K
  exact r1 wb
 refine fx 22 h6 ?_
 refine gy ?_
 refine aw (r_load_aggc (c:=c_api_Addr) (z:=t4.1) isAgg24 sizeOf24 rfl (lens_cell .z lw)) ?_
 refine gy ?_
 refine fa 0 underlying37 rfl sizeOf24 ?_
 refine gy ?_
 refine aw (r_load_aggc (c:=c_api_Addr) (z:=x1.f_A) isAgg24 sizeOf24 rfl (lens_cell (.s .z) (Lens.comp lw (fun z=>{ x1 with f_A:=z }) (c_api_Prefix_f_A x1)))) ?_
 refine gy ?_
 obtain ⟨t7,ht7,hF⟩:=bM hF
 refine cB func39 rfl (fun w hw=>addr_Less_ok _ _ _ ht7 w) ?_
 refine gy ?_
 refine aw (r_not rfl) ?_
 refine aw xp (aa (qn (dz (dz (wq [4] ?_)))))
 refine tn (qt ?_)
 have K:=os hF
 subst K
 exact r1 wb
def crawlwayref53_last.l1(i6:Int)(i10:Int)(i11:Int):Option (Int) :=
 if (decide (i11<Int.tmod i6 8))=true then (crawlwayref53_last.l1 i6 (wr .i64 (Int.tdiv i10 2)) (wr .i64 (i11+1))) else (some i10)
 partial_fixpoint
def crawlwayref53_last.l0(t4:Int)(i6:Int)(i7:S_api_Addr):Option (S_api_Addr) :=
 if (decide (i6<t4))=true then (crawlwayref53_last.l1 i6 128 0>>=fun q9=>if (0:Int)≤wr .i64 (Int.tdiv i6 8)∧wr .i64 (Int.tdiv i6 8)<16 then if (0:Int)≤wr .i64 (Int.tdiv i6 8)∧wr .i64 (Int.tdiv i6 8)<16 then crawlwayref53_last.l0 t4 (wr .i64 (i6+1)) ({ i7 with f_B:=vset i7.f_B (wr .i64 (Int.tdiv i6 8)) (wr .u8 ((vget i7.f_B (wr .i64 (Int.tdiv i6 8)))+(wr .u8 q9))) }) else none else none) else (some i7)
 partial_fixpoint
def crawlwayref53_last(x0:S_api_Prefix):Option (S_api_Addr) :=
 crawlwayref10_Width x0.f_A>>=fun t4=>crawlwayref53_last.l0 t4 x0.f_Bits x0.f_A>>=fun q5=>some q5
theorem crawlwayref53_last_ok(x0:S_api_Prefix)(r:S_api_Addr)(hF:crawlwayref53_last x0=some r)(w:World) :
    Calls Try.prog 41 #[.agg (Cd.cs c_api_Prefix x0).toArray] w (fun e w'=>e=.returned (.agg (Cd.cs c_api_Addr r).toArray)∧Below w.heap.size w w'):=by
 unfold crawlwayref53_last at hF
 refine ce (l:=[.agg (Cd.cs c_api_Prefix x0).toArray]) func41 rfl rfl ?_
 refine at_start ?_
 refine sr ?_
 refine at_box (cs:=Cd.cs c_api_Prefix x0) rfl rfl rfl ?_
 intro b1
 refine al (cs:=Cd.cs c_api_Addr zv0) zeroValue24 ?_
 intro b2
 refine ns (fa 0 underlying37 rfl sizeOf24 ?_)
 refine aw (r_load_aggc (c:=c_api_Addr) (z:=x0.f_A) isAgg24 sizeOf24 rfl (lens_cell (.s .z) (Lens.comp lw (fun z=>{ x0 with f_A:=z }) (c_api_Prefix_f_A x0)))) ?_
 refine al (cs:=Cd.cs c_api_Addr zv0) zeroValue24 ?_
 intro b3
 refine at_store (c:=c_api_Addr) (z:=x0.f_A) .z lw sizeOf24 rfl rfl rfl ?_
 refine ns (fa 0 underlying37 rfl sizeOf24 ?_)
 refine aw (r_load_aggc (c:=c_api_Addr) (z:=x0.f_A) isAgg24 sizeOf24 rfl (lens_cell (.s (.s .z)) (Lens.comp lw (fun z=>{ x0 with f_A:=z }) (c_api_Prefix_f_A x0)))) ?_
 obtain ⟨t4,ht4,hF⟩:=bM hF
 refine cB func42 rfl (fun w hw=>crawlwayref10_Width_ok _ _ ht4 w) ?_
 refine aa (nt (qs (sr (fa 17 underlying37 rfl sizeOf3 ?_))))
 refine aw (r_load_cell isAgg3 rfl (lens_cell0 (c:=(cInt .i64)) (y:=x0.f_Bits) (.s (.s .z)) (Lens.comp lw (fun z=>{ x0 with f_Bits:=z }) (c_api_Prefix_f_Bits x0)) rfl)) ?_
 refine aa (qn ?_)
 refine at_drop (H:=_) (.s (.s .z)) ?_
 refine wq [5,4,3,2] ?_
 refine tn ?_
 refine qb ?_
 obtain ⟨q5,hq5,hF⟩:=bM hF
 refine wq [5,4,3,2] ?_
 refine at_loop_n (B:=0) (A:=fun Y=>At 41 [(2,.pointer (some ⟨b2,0,none⟩)),(3,.pointer (some ⟨b3,0,none⟩))] (Wd w [cellsE b3 (Cd.cs c_api_Addr q5) 24,cellsE b2 (Cd.cs c_api_Addr zv0) 24]) Y) ?_ ?_
 ·intro K
  refine crawlwayref53_last.l0.partial_correctness t4 (motive:=fun i6 i7 x=>KN (fun Y=>At 41 [(2,.pointer (some ⟨b2,0,none⟩)),(3,.pointer (some ⟨b3,0,none⟩))] (Wd w [cellsE b3 (Cd.cs c_api_Addr x) 24,cellsE b2 (Cd.cs c_api_Addr zv0) 24]) Y) _ 0→Round (fun Y=>At 41 [(2,.pointer (some ⟨b2,0,none⟩)),(3,.pointer (some ⟨b3,0,none⟩)),(4,.int .i64 t4),(5,.int .i64 i6)] (Wd w [cellsE b3 (Cd.cs c_api_Addr i7) 24,cellsE b2 (Cd.cs c_api_Addr zv0) 24]) Y) _ _ _) ?_ _ _ _ hq5 K
  ·clear K hF
   intro g ih i6 i7 x hF K
   refine at_round ?_
   refine qs (sr (am (am (aw xl (nwq [17,5,4,3,2] ?_)))))
   obtain ⟨h8,hF⟩|⟨h8,hF⟩:=oi hF
   ·refine ct h8 ?_
    refine sn (qs ?_)
    refine qb ?_
    refine sr (aa (nt (qs (sr (aa (nwq [7,6,5,4,3,2] ?_))))))
    refine qb ?_
    obtain ⟨q9,hq9,hF⟩:=bM hF
    refine wq [7,6,5,4,3,2] ?_
    refine at_loop_n (B:=2) (A:=fun Y=>At 41 [(2,.pointer (some ⟨b2,0,none⟩)),(3,.pointer (some ⟨b3,0,none⟩)),(4,.int .i64 t4),(5,.int .i64 i6),(6,.int .i64 q9)] (Wd w [cellsE b3 (Cd.cs c_api_Addr i7) 24,cellsE b2 (Cd.cs c_api_Addr zv0) 24]) Y) ?_ ?_
    ·intro K
     refine crawlwayref53_last.l1.partial_correctness i6 (motive:=fun i10 i11 x=>KN (fun Y=>At 41 [(2,.pointer (some ⟨b2,0,none⟩)),(3,.pointer (some ⟨b3,0,none⟩)),(4,.int .i64 t4),(5,.int .i64 i6),(6,.int .i64 x)] (Wd w [cellsE b3 (Cd.cs c_api_Addr i7) 24,cellsE b2 (Cd.cs c_api_Addr zv0) 24]) Y) _ 2→Round (fun Y=>At 41 [(2,.pointer (some ⟨b2,0,none⟩)),(3,.pointer (some ⟨b3,0,none⟩)),(4,.int .i64 t4),(5,.int .i64 i6),(6,.int .i64 i10),(7,.int .i64 i11)] (Wd w [cellsE b3 (Cd.cs c_api_Addr i7) 24,cellsE b2 (Cd.cs c_api_Addr zv0) 24]) Y) _ _ _) ?_ _ _ _ hq9 K
     ·clear K hF
      intro g ih i10 i11 x hF K
      refine at_round ?_
      refine qs (sr (am (am ?_)))
      refine aw (r_irem rfl rfl (by decide)) ?_
      refine aw xl (nwq [23,7,6,5,4,3,2] ?_)
      obtain ⟨h12,hF⟩|⟨h12,hF⟩:=oi hF
      ·refine ct h12 ?_
       refine sn (qs ?_)
       refine qb ?_
       refine qr (am ?_)
       refine aw (r_iquo rfl rfl (by decide)) ?_
       refine aa (qn (wq [7,6,5,4,3,2] ?_))
       refine bm ?_
       refine qr (am (aw xa (aa (nwq [7,6,5,4,3,2] ?_))))
       exact at_weak_k (ih _ _ _ hF K) ⟨rfl,rfl,rfl,rfl,rfl,rfl,trivial⟩
      refine cf h12 ?_
      refine at_exit ?_
      refine te (te ?_)
      obtain rfl:=os hF
      exact at_weak_k K ⟨rfl,rfl,rfl,rfl,rfl,trivial⟩
    skip
    skip
    refine at_blk_same ?_
    refine tn (qr (am ?_))
    refine aw (r_iquo rfl rfl (by decide)) ?_
    refine am ?_
    refine aw (r_iquo rfl rfl (by decide)) ?_
    refine fa 1 underlying24 rfl sizeOf22 ?_
    obtain ⟨h13,hF⟩:=gd hF
    refine aw (r_idxArr underlying22 sizeOf5 rfl rfl h13) ?_
    refine aw (r_load_cell isAgg5 rfl (lens_cell0 (c:=(cInt .u8)) (y:=vget i7.f_B (wr .i64 (Int.tdiv i6 8))) .z (Lens.comp (Lens.comp lw (fun z=>{ i7 with f_B:=z }) (c_api_Addr_f_B i7)) (fun z=>vset i7.f_B (wr .i64 (Int.tdiv i6 8)) z) (Lens.vec (cInt .u8) (by decide) i7.f_B (wr .i64 (Int.tdiv i6 8)) h13)) rfl)) ?_
    refine am ?_
    refine aw (r_conv underlying3 underlying5 rfl) ?_
    refine aw xa (fa 1 underlying24 rfl sizeOf22 ?_)
    obtain ⟨h14,hF⟩:=gd hF
    refine aw (r_idxArr underlying22 sizeOf5 rfl rfl h14) ?_
    refine at_store (c:=(cInt .u8)) (z:=wr .u8 ((vget i7.f_B (wr .i64 (Int.tdiv i6 8)))+(wr .u8 q9))) .z (Lens.comp (Lens.comp lw (fun z=>{ i7 with f_B:=z }) (c_api_Addr_f_B i7)) (fun z=>vset i7.f_B (wr .i64 (Int.tdiv i6 8)) z) (Lens.vec (cInt .u8) (by decide) i7.f_B (wr .i64 (Int.tdiv i6 8)) h14)) sizeOf5 rfl rfl rfl ?_
    refine qn (wq [5,4,3,2] ?_)
    refine bm ?_
    refine qr (am (aw xa (aa (nwq [5,4,3,2] ?_))))
    exact at_weak_k (ih _ _ _ hF K) ⟨rfl,rfl,rfl,rfl,trivial⟩
   refine cf h8 ?_
   refine at_exit ?_
   refine te (te ?_)
   obtain rfl:=os hF
   exact at_weak_k K ⟨rfl,rfl,trivial⟩
 skip
 skip
 refine at_blk_same ?_
 refine tn (sr ?_)
 refine aw (r_load_aggc (c:=c_api_Addr) (z:=q5) isAgg24 sizeOf24 rfl (lens_cell .z lw)) ?_
 refine at_store (c:=c_api_Addr) (z:=q5) (.s .z) lw sizeOf24 rfl rfl rfl ?_
 refine qn (dz (wq [2] ?_))
 refine tn (qt ?_)
 have K:=os hF
 subst K
 exact at_res1 rfl (res_cell (c:=c_api_Addr) (y:=q5) rfl .z lw isAgg24 sizeOf24 (.inl rfl)) wb
def crawlwayref53_Right(x0:S_api_Addr)(x1:S_api_Addr):Option (Bool) :=
 crawlwayref10_Right x0>>=fun t3=>if t3=true then (crawlwayref10_Right x1>>=fun t5=>if t5=true then (if (x0.f_V==x1.f_V)=true then (crawlwayref10_Less x1 x0>>=fun t8=>some (!t8)) else (some false)) else (some false)) else (some false)
theorem crawlwayref53_Right_ok(x0:S_api_Addr)(x1:S_api_Addr)(r:Bool)(hF:crawlwayref53_Right x0 x1=some r)(w:World) :
    Calls Try.prog 9 #[.agg (Cd.cs c_api_Addr x0).toArray,.agg (Cd.cs c_api_Addr x1).toArray] w (fun e w'=>e=.returned (.bool r)∧Below w.heap.size w w'):=by
 unfold crawlwayref53_Right at hF
 refine ce (l:=[.agg (Cd.cs c_api_Addr x0).toArray,.agg (Cd.cs c_api_Addr x1).toArray]) func9 rfl rfl ?_
 refine at_start ?_
 refine sr ?_
 refine at_box (cs:=Cd.cs c_api_Addr x0) rfl rfl rfl ?_
 intro b1
 refine at_box (cs:=Cd.cs c_api_Addr x1) rfl rfl rfl ?_
 intro b2
 refine aa (nwx [3,2] ?_)
 refine aw (r_load_aggc (c:=c_api_Addr) (z:=x0) isAgg24 sizeOf24 rfl (lens_cell (.s .z) lw)) ?_
 obtain ⟨t3,ht3,hF⟩:=bM hF
 refine cB func23 rfl (fun w hw=>crawlwayref10_Right_ok _ _ ht3 w) ?_
 refine am ?_
 obtain ⟨h4,hF⟩|⟨h4,hF⟩:=oi hF
 ·refine fx 7 h4 ?_
  refine gy ?_
  refine aw (r_load_aggc (c:=c_api_Addr) (z:=x1) isAgg24 sizeOf24 rfl (lens_cell .z lw)) ?_
  refine gy ?_
  obtain ⟨t5,ht5,hF⟩:=bM hF
  refine cB func23 rfl (fun w hw=>crawlwayref10_Right_ok _ _ ht5 w) ?_
  refine aw xp (am ?_)
  obtain ⟨h6,hF⟩|⟨h6,hF⟩:=oi hF
  ·refine fx 11 h6 ?_
   refine gy ?_
   refine fa 0 underlying24 rfl sizeOf3 ?_
   refine gy ?_
   refine aw (r_load_cell isAgg3 rfl (lens_cell0 (c:=(cInt .i64)) (y:=x0.f_V) (.s .z) (Lens.comp lw (fun z=>{ x0 with f_V:=z }) (c_api_Addr_f_V x0)) rfl)) ?_
   refine gy ?_
   refine fa 0 underlying24 rfl sizeOf3 ?_
   refine gy ?_
   refine aw (r_load_cell isAgg3 rfl (lens_cell0 (c:=(cInt .i64)) (y:=x1.f_V) .z (Lens.comp lw (fun z=>{ x1 with f_V:=z }) (c_api_Addr_f_V x1)) rfl)) ?_
   refine gy ?_
   refine aw xq (aw xp (am ?_))
   obtain ⟨h7,hF⟩|⟨h7,hF⟩:=oi hF
   ·refine fx 18 h7 ?_
    refine gy ?_
    refine aw (r_load_aggc (c:=c_api_Addr) (z:=x1) isAgg24 sizeOf24 rfl (lens_cell .z lw)) ?_
    refine gy ?_
    refine aw (r_load_aggc (c:=c_api_Addr) (z:=x0) isAgg24 sizeOf24 rfl (lens_cell (.s .z) lw)) ?_
    refine gy ?_
    obtain ⟨t8,ht8,hF⟩:=bM hF
    refine cB func24 rfl (fun w hw=>crawlwayref10_Less_ok _ _ _ ht8 w) ?_
    refine gy ?_
    refine aw (r_not rfl) ?_
    refine aw xp (aa (qn (dz (dz (wq [4] ?_)))))
    refine tn (qt ?_)
    have K:=os hF
    subst K
    exact r1 wb
   refine fx 18 h7 ?_
   refine gn ?_
   refine gn ?_
   refine gn ?_
   refine gn ?_
   refine aw xp (aa (qn (dz (dz (wq [4] ?_)))))
   refine tn (qt ?_)
   have K:=os hF
   subst K
   exact r1 wb
  refine fx 11 h6 ?_
  refine gn ?_
  refine gn ?_
  refine gn ?_
  refine gn ?_
  refine gn ?_
  refine aw xp (am ?_)
  refine gn ?_
  refine gn ?_
  refine gn ?_
  refine gn ?_
  refine aw xp (aa (qn (dz (dz (wq [4] ?_)))))
  refine tn (qt ?_)
  have K:=os hF
  subst K
  exact r1 wb
 refine fx 7 h4 ?_
 refine gn ?_
 refine gn ?_
 refine aw xp (am ?_)
 refine gn ?_
 refine gn ?_
 refine gn ?_
 refine gn ?_
 refine gn ?_
 refine aw xp (am ?_)
 refine gn ?_
 refine gn ?_
 refine gn ?_
 refine gn ?_
 refine aw xp (aa (qn (dz (dz (wq [4] ?_)))))
 refine tn (qt ?_)
 have K:=os hF
 subst K
 exact r1 wb
def crawlwayref53_Of(x0:S_api_Prefix):Option (S_api_Addr×S_api_Addr) :=
 crawlwayref53_last x0>>=fun t4=>some (x0.f_A,t4)
set_option maxHeartbeats 3200000 in
theorem crawlwayref53_Of_ok(x0:S_api_Prefix)(r:S_api_Addr×S_api_Addr)(hF:crawlwayref53_Of x0=some r)(w:World) :
    Calls Try.prog 14 #[.agg (Cd.cs c_api_Prefix x0).toArray] w (fun e w'=>e=.returned (.tuple #[.agg (Cd.cs c_api_Addr r.1).toArray,.agg (Cd.cs c_api_Addr r.2).toArray])∧Below w.heap.size w w'):=by
 unfold crawlwayref53_Of at hF
 refine ce (l:=[.agg (Cd.cs c_api_Prefix x0).toArray]) func14 rfl rfl ?_
 refine at_start ?_
 refine sr ?_
 refine at_box (cs:=Cd.cs c_api_Prefix x0) rfl rfl rfl ?_
 intro b1
 refine al (cs:=Cd.cs c_api_Addr zv0) zeroValue24 ?_
 intro b2
 refine al (cs:=Cd.cs c_api_Addr zv0) zeroValue24 ?_
 intro b3
 refine nt (qs (wq [3,2,1] ?_))
 obtain ⟨t4,ht4,hF⟩:=bM hF
 refine at_inv [.q 4 (fun g5=>.pointer (some ⟨b1,0+0,none⟩)) [] 0 0,.q 5 (fun g5=>.agg (Cd.cs c_api_Addr x0.f_A).toArray) [0] 0 0,.q 6 (fun g5=>.agg (Cd.cs c_api_Prefix x0).toArray) [] 0 0,.q 7 (fun g5=>.agg (Cd.cs c_api_Addr t4).toArray) [2] 0 0,.st 0 none [1],.st 1 none [3]] (fun g5 s=>match s with | 0=>(Wd w [cellsE b3 (Cd.cs c_api_Addr zv0) 24,cellsE b2 (Cd.cs c_api_Addr zv0) 24,cellsE b1 (Cd.cs c_api_Prefix x0) 37]) | 1=>(Wd w [cellsE b3 (Cd.cs c_api_Addr zv0) 24,cellsE b2 (Cd.cs c_api_Addr x0.f_A) 24,cellsE b1 (Cd.cs c_api_Prefix x0) 37]) | _=>(Wd w [cellsE b3 (Cd.cs c_api_Addr t4) 24,cellsE b2 (Cd.cs c_api_Addr x0.f_A) 24,cellsE b1 (Cd.cs c_api_Prefix x0) 37])) 2 (by kernel_rfl) (by kernel_rfl) (by kernel_rfl) (by kernel_rfl) (by kernel_rfl) ⟨fun _ _ _=>rfl,fun _ _ _=>rfl,fun _ _ _=>rfl,fun _ _ _=>rfl,fun _ _ _=>rfl,fun _ _ _=>rfl,trivial⟩ (by kernel_rfl) (fun w_ h=>⟨fun _=>g3 0 none 0 none w_,h.drew⟩) ⟨?_,?_,?_,?_,?_,?_,trivial⟩ ?_
 ·intro Lx g5 s K hl hh k
  show At 8 ((1,_)::(2,_)::(3,_)::Lx) _ _
  refine fa 0 underlying37 rfl sizeOf24 ?_
  exact at_nil k
 ·intro Lx g5 s K hl hh k
  show At 8 ((4,_)::(1,_)::(2,_)::(3,_)::Lx) _ _
  obtain rfl:s=0:=by omega
  refine aw (r_load_aggc (c:=c_api_Addr) (z:=x0.f_A) isAgg24 sizeOf24 rfl (lens_cell (.s (.s .z)) (Lens.comp lw (fun z=>{ x0 with f_A:=z }) (c_api_Prefix_f_A x0)))) ?_
  exact at_nil k
 ·intro Lx g5 s K hl hh k
  show At 8 ((1,_)::(2,_)::(3,_)::Lx) _ _
  obtain rfl:s=0:=by omega
  refine aw (r_load_aggc (c:=c_api_Prefix) (z:=x0) isAgg37 sizeOf37 rfl (lens_cell (.s (.s .z)) lw)) ?_
  exact at_nil k
 ·intro Lx g5 s K hl hh k
  show At 8 ((6,_)::(1,_)::(2,_)::(3,_)::Lx) _ _
  obtain rfl:s=0:=by omega
  refine cB func41 rfl (fun w hw=>crawlwayref53_last_ok _ _ ht4 w) ?_
  exact at_nil k
 ·intro Lx g5 K k
  show At 8 ((5,_)::(1,_)::(2,_)::(3,_)::Lx) _ _
  refine at_store (c:=c_api_Addr) (z:=x0.f_A) (.s .z) lw sizeOf24 rfl rfl rfl ?_
  exact at_nil k
 ·intro Lx g5 K k
  show At 8 ((7,_)::(1,_)::(2,_)::(3,_)::Lx) _ _
  refine at_store (c:=c_api_Addr) (z:=t4) .z lw sizeOf24 rfl rfl rfl ?_
  exact at_nil k
 intro g5
 show At 8 [(4,_),(5,_),(6,_),(7,_),(1,_),(2,_),(3,_)] _ _
 refine at_drop (H:=_) (.s (.s .z)) ?_
 refine wq [3,2] ?_
 refine tn (qt ?_)
 have K:=os hF
 subst K
 exact at_res2 rfl (res_cell (c:=c_api_Addr) (y:=x0.f_A) rfl (.s .z) lw isAgg24 sizeOf24 (.inl rfl)) (res_cell (c:=c_api_Addr) (y:=t4) rfl .z lw isAgg24 sizeOf24 (.inl rfl)) wb
def crawlwayref53_Next.l0(i5:Int)(i6:S_api_Addr):Option (Ctl (S_api_Addr×Bool) (Unit)) :=
 if (decide (i5≥0))=true then (if (0:Int)≤i5∧i5<16 then if (decide (vget i6.f_B i5<255))=true then (if (0:Int)≤i5∧i5<16 then if (0:Int)≤i5∧i5<16 then some (.ret ({ i6 with f_B:=vset i6.f_B i5 (wr .u8 ((vget i6.f_B i5)+1)) },true)) else none else none) else (if (0:Int)≤i5∧i5<16 then crawlwayref53_Next.l0 (wr .i64 (i5-1)) ({ i6 with f_B:=vset i6.f_B i5 0 }) else none) else none) else (some (.nx ()))
 partial_fixpoint
def crawlwayref53_Next(x0:S_api_Addr):Option (S_api_Addr×Bool) :=
 crawlwayref10_Width x0>>=fun t3=>crawlwayref53_Next.l0 (wr .i64 ((wr .i64 (Int.tdiv t3 8))-1)) x0>>=fun q4=>match q4 with | .ret r'=>some r' | .nx sq4=>(some (({ f_V:=(0:Int),f_B:=(Vector.replicate 16 (0:Int):(Vector Int 16)) }:S_api_Addr),false))
theorem crawlwayref53_Next_ok(x0:S_api_Addr)(r:S_api_Addr×Bool)(hF:crawlwayref53_Next x0=some r)(w:World) :
    Calls Try.prog 17 #[.agg (Cd.cs c_api_Addr x0).toArray] w (fun e w'=>e=.returned (.tuple #[.agg (Cd.cs c_api_Addr r.1).toArray,.bool r.2])∧Below w.heap.size w w'):=by
 unfold crawlwayref53_Next at hF
 refine ce (l:=[.agg (Cd.cs c_api_Addr x0).toArray]) func17 rfl rfl ?_
 refine at_start ?_
 refine sr ?_
 refine at_box (cs:=Cd.cs c_api_Addr x0) rfl rfl rfl ?_
 intro b1
 refine al (cs:=Cd.cs c_api_Addr zv0) zeroValue24 ?_
 intro b2
 refine aa (nt (qs (sr ?_)))
 refine aw (r_load_aggc (c:=c_api_Addr) (z:=x0) isAgg24 sizeOf24 rfl (lens_cell (.s .z) lw)) ?_
 obtain ⟨t3,ht3,hF⟩:=bM hF
 refine cB func42 rfl (fun w hw=>crawlwayref10_Width_ok _ _ ht3 w) ?_
 refine aw (r_iquo rfl rfl (by decide)) ?_
 refine aw (r_isub rfl rfl) ?_
 refine aa (nwq [4,2,1] ?_)
 refine qb ?_
 obtain ⟨q4,hq4,hF⟩:=bM hF
 refine wq [4,2,1] ?_
 refine at_loop_r (B:=0) (r:=r) (q:=q4) (A:=fun (_:Unit) Y=>At 31 [(2,.pointer (some ⟨b2,0,none⟩))] (Wd w [cellsE b2 (Cd.cs c_api_Addr zv0) 24]) Y) ?_ ?_
 ·intro K
  refine crawlwayref53_Next.l0.partial_correctness  (motive:=fun i5 i6 x=>KR (fun (_:Unit) Y=>At 31 [(2,.pointer (some ⟨b2,0,none⟩))] (Wd w [cellsE b2 (Cd.cs c_api_Addr zv0) 24]) Y) _ 0 r x→Round (fun Y=>At 31 [(1,.pointer (some ⟨b1,0,none⟩)),(2,.pointer (some ⟨b2,0,none⟩)),(4,.int .i64 i5)] (Wd w [cellsE b2 (Cd.cs c_api_Addr zv0) 24,cellsE b1 (Cd.cs c_api_Addr i6) 24]) Y) _ _ _) ?_ _ _ _ hq4 K
  ·clear K hF
   intro g ih i5 i6 x hF K
   refine at_round ?_
   refine qs (sr (am ?_))
   refine aw (r_igeq rfl rfl) ?_
   refine nwq [10,4,2,1] ?_
   obtain ⟨h7,hF⟩|⟨h7,hF⟩:=oi hF
   ·refine ct h7 ?_
    refine sn (qs ?_)
    refine qb ?_
    refine qs (sr (am (fa 1 underlying24 rfl sizeOf22 ?_)))
    obtain ⟨h8,hF⟩:=gd hF
    refine aw (r_idxArr underlying22 sizeOf5 rfl rfl h8) ?_
    refine aw (r_load_cell isAgg5 rfl (lens_cell0 (c:=(cInt .u8)) (y:=vget i6.f_B i5) (.s .z) (Lens.comp (Lens.comp lw (fun z=>{ i6 with f_B:=z }) (c_api_Addr_f_B i6)) (fun z=>vset i6.f_B i5 z) (Lens.vec (cInt .u8) (by decide) i6.f_B i5 h8)) rfl)) ?_
    refine aw xl (nwq [17,4,2,1] ?_)
    obtain ⟨h9,hF⟩|⟨h9,hF⟩:=oi hF
    ·refine ct h9 ?_
     refine sr (am (am (fa 1 underlying24 rfl sizeOf22 ?_)))
     obtain ⟨h10,hF⟩:=gd hF
     refine aw (r_idxArr underlying22 sizeOf5 rfl rfl h10) ?_
     refine aw (r_load_cell isAgg5 rfl (lens_cell0 (c:=(cInt .u8)) (y:=vget i6.f_B i5) (.s .z) (Lens.comp (Lens.comp lw (fun z=>{ i6 with f_B:=z }) (c_api_Addr_f_B i6)) (fun z=>vset i6.f_B i5 z) (Lens.vec (cInt .u8) (by decide) i6.f_B i5 h10)) rfl)) ?_
     refine aw xa (fa 1 underlying24 rfl sizeOf22 ?_)
     obtain ⟨h11,hF⟩:=gd hF
     refine aw (r_idxArr underlying22 sizeOf5 rfl rfl h11) ?_
     refine at_store (c:=(cInt .u8)) (z:=wr .u8 ((vget i6.f_B i5)+1)) (.s .z) (Lens.comp (Lens.comp lw (fun z=>{ i6 with f_B:=z }) (c_api_Addr_f_B i6)) (fun z=>vset i6.f_B i5 z) (Lens.vec (cInt .u8) (by decide) i6.f_B i5 h11)) sizeOf5 rfl rfl rfl ?_
     refine ns ?_
     refine aw (r_load_aggc (c:=c_api_Addr) (z:={ i6 with f_B:=vset i6.f_B i5 (wr .u8 ((vget i6.f_B i5)+1)) }) isAgg24 sizeOf24 rfl (lens_cell (.s .z) lw)) ?_
     refine at_store (c:=c_api_Addr) (z:={ i6 with f_B:=vset i6.f_B i5 (wr .u8 ((vget i6.f_B i5)+1)) }) .z lw sizeOf24 rfl rfl rfl ?_
     refine aa (qn ?_)
     refine at_drop (H:=_) (.s .z) ?_
     refine wq [3,2] ?_
     refine tn (qt ?_)
     refine tr (br (tr (tr (br (tr ?_)))))
     obtain rfl:=os hF
     subst K
     exact at_res2 rfl (res_cell (c:=c_api_Addr) (y:={ i6 with f_B:=vset i6.f_B i5 (wr .u8 ((vget i6.f_B i5)+1)) }) rfl .z lw isAgg24 sizeOf24 (.inl rfl)) (res_tmp rfl) wb
    refine cf h9 ?_
    refine sn (qr (am (fa 1 underlying24 rfl sizeOf22 ?_)))
    obtain ⟨h12,hF⟩:=gd hF
    refine aw (r_idxArr underlying22 sizeOf5 rfl rfl h12) ?_
    refine at_store (c:=(cInt .u8)) (z:=0) (.s .z) (Lens.comp (Lens.comp lw (fun z=>{ i6 with f_B:=z }) (c_api_Addr_f_B i6)) (fun z=>vset i6.f_B i5 z) (Lens.vec (cInt .u8) (by decide) i6.f_B i5 h12)) sizeOf5 rfl rfl rfl ?_
    refine qn (wq [4,2,1] ?_)
    refine bm ?_
    refine qr (am ?_)
    refine aw (r_isub rfl rfl) ?_
    refine aa (nwq [4,2,1] ?_)
    exact at_weak_k (ih _ _ _ hF K) ⟨rfl,rfl,rfl,trivial⟩
   refine cf h7 ?_
   refine at_exit ?_
   refine te (te ?_)
   refine at_drop (H:=_) (.s .z) ?_
   obtain rfl:=os hF
   exact at_weak_k K ⟨rfl,trivial⟩
 cases q4 with
 | ret r'=>exact os hF
 | nx sq4 =>
  skip
  refine at_blk_same ?_
  refine tn (sr ?_)
  refine aw (r_build_struct (zs:=Cd.cs c_api_Addr zv0) (cs:=Cd.cs c_api_Addr zv0) underlying24 zeroValue24 rfl (places_api_Addr_24) rfl rfl) ?_
  refine at_store (c:=c_api_Addr) (z:=zv0) .z lw sizeOf24 rfl rfl rfl ?_
  refine aa (nwq [3,2] ?_)
  refine qt ?_
  have K:=os hF
  subst K
  exact at_res2 rfl (res_cell (c:=c_api_Addr) (y:=zv0) rfl .z lw isAgg24 sizeOf24 (.inl rfl)) (res_tmp rfl) wb
def crawlwayref53_Prefixes.l1(x1:S_api_Addr)(i10:S_api_Addr)(i14:Int):Option (Int) :=
 crawlwayref10_Mask i10 i14>>=fun t15=>if (!decide (t15=i10))=true then (crawlwayref53_Prefixes.l1 x1 i10 (wr .i64 (i14+1))) else (crawlwayref53_last ({ { ({ f_A:=({ f_V:=(0:Int),f_B:=(Vector.replicate 16 (0:Int):(Vector Int 16)) }:S_api_Addr),f_Bits:=(0:Int) }:S_api_Prefix) with f_A:=i10 } with f_Bits:=i14 })>>=fun t17=>crawlwayref10_Less x1 t17>>=fun t18=>if t18=true then (crawlwayref53_Prefixes.l1 x1 i10 (wr .i64 (i14+1))) else (some i14))
 partial_fixpoint
def crawlwayref53_Prefixes.l0(x1:S_api_Addr)(i9:List S_api_Prefix)(i10:S_api_Addr):Option (List S_api_Prefix) :=
 crawlwayref53_Prefixes.l1 x1 i10 0>>=fun q13=>if (i9.length+1)*32≤140737488355328 then crawlwayref53_last ({ { ({ f_A:=({ f_V:=(0:Int),f_B:=(Vector.replicate 16 (0:Int):(Vector Int 16)) }:S_api_Addr),f_Bits:=(0:Int) }:S_api_Prefix) with f_A:=i10 } with f_Bits:=q13 })>>=fun t25=>crawlwayref53_Next t25>>=fun t26=>if (!t26.2)=true then (some (i9++[{ { ({ f_A:=({ f_V:=(0:Int),f_B:=(Vector.replicate 16 (0:Int):(Vector Int 16)) }:S_api_Addr),f_Bits:=(0:Int) }:S_api_Prefix) with f_A:=i10 } with f_Bits:=q13 }])) else (crawlwayref10_Less x1 t26.1>>=fun t29=>if t29=true then (some (i9++[{ { ({ f_A:=({ f_V:=(0:Int),f_B:=(Vector.replicate 16 (0:Int):(Vector Int 16)) }:S_api_Addr),f_Bits:=(0:Int) }:S_api_Prefix) with f_A:=i10 } with f_Bits:=q13 }])) else (crawlwayref53_Prefixes.l0 x1 (i9++[{ { ({ f_A:=({ f_V:=(0:Int),f_B:=(Vector.replicate 16 (0:Int):(Vector Int 16)) }:S_api_Addr),f_Bits:=(0:Int) }:S_api_Prefix) with f_A:=i10 } with f_Bits:=q13 }]) t26.1)) else none
 partial_fixpoint
def crawlwayref53_Prefixes(x0:S_api_Addr)(x1:S_api_Addr):Option (List S_api_Prefix) :=
 crawlwayref53_Right x0 x1>>=fun t3=>if (!t3)=true then (some ([])) else (crawlwayref53_Prefixes.l0 x1 ([]:List S_api_Prefix) x0>>=fun q7=>some q7)
theorem crawlwayref53_Prefixes_ok(x0:S_api_Addr)(x1:S_api_Addr)(r:List S_api_Prefix)(hF:crawlwayref53_Prefixes x0 x1=some r)(w:World) :
    Calls Try.prog 12 #[.agg (Cd.cs c_api_Addr x0).toArray,.agg (Cd.cs c_api_Addr x1).toArray] w (fun e w'=>∃ p cap,e=.returned (.slice p r.length cap)∧Own c_api_Prefix 37 w.heap.size w' p cap r∧Below w.heap.size w w'):=by
 unfold crawlwayref53_Prefixes at hF
 refine ce (l:=[.agg (Cd.cs c_api_Addr x0).toArray,.agg (Cd.cs c_api_Addr x1).toArray]) func12 rfl rfl ?_
 refine at_start ?_
 refine sr ?_
 refine at_box (cs:=Cd.cs c_api_Addr x0) rfl rfl rfl ?_
 intro b1
 refine at_box (cs:=Cd.cs c_api_Addr x1) rfl rfl rfl ?_
 intro b2
 refine aa (ns (aa (nt (qs (sr ?_)))))
 refine aw (r_load_aggc (c:=c_api_Addr) (z:=x0) isAgg24 sizeOf24 rfl (lens_cell (.s .z) lw)) ?_
 refine aw (r_load_aggc (c:=c_api_Addr) (z:=x1) isAgg24 sizeOf24 rfl (lens_cell .z lw)) ?_
 obtain ⟨t3,ht3,hF⟩:=bM hF
 refine cB func9 rfl (fun w hw=>crawlwayref53_Right_ok _ _ _ ht3 w) ?_
 refine aw (r_not rfl) ?_
 refine nwq [13,5,3,2] ?_
 obtain ⟨h4,hF⟩|⟨h4,hF⟩:=oi hF
 ·refine ct h4 ?_
  refine sr (am (aa (qn (dz (dz (wq [4] ?_))))))
  refine tn (rt ?_)
  have K:=os hF
  subst K
  exact r1 (fun w1 hw=>⟨none,0,rfl,Own.nil _ _ _ _,hw.below⟩)
 refine cf h4 ?_
 refine sn ?_
 refine qb ?_
 refine at_own_nil c_api_Prefix 37 ?_
 obtain ⟨q7,hq7,hF⟩:=bM hF
 refine wq [5,3,2] ?_
 refine at_loop_only (r:=r) (q:=q7) ?_ ?_
 ·intro K
  refine crawlwayref53_Prefixes.l0.partial_correctness x1 (motive:=fun i9 i10 x=>x=r→Round (fun Y=>∀ (p11:Option Addr) (c12:Nat),At 52 [(2,.pointer (some ⟨b1,0,none⟩)),(3,.pointer (some ⟨b2,0,none⟩)),(5,.slice p11 i9.length c12)] (Wd w [rowE c_api_Prefix 37 p11 c12 i9,cellsE b2 (Cd.cs c_api_Addr x1) 24,cellsE b1 (Cd.cs c_api_Addr i10) 24]) Y) _ _ _) ?_ _ _ _ hq7 K none 0
  ·clear K hF
   intro g ih i9 i10 x hF K p11 c12
   refine at_round ?_
   refine qb ?_
   refine sr (aa (nwq [6,5,3,2] ?_))
   refine qs ?_
   refine qb ?_
   obtain ⟨q13,hq13,hF⟩:=bM hF
   refine wq [6,5,3,2] ?_
   refine at_loop_n (B:=2) (A:=fun Y=>At 52 [(2,.pointer (some ⟨b1,0,none⟩)),(3,.pointer (some ⟨b2,0,none⟩)),(5,.slice p11 i9.length c12),(6,.int .i64 q13)] (Wd w [rowE c_api_Prefix 37 p11 c12 i9,cellsE b2 (Cd.cs c_api_Addr x1) 24,cellsE b1 (Cd.cs c_api_Addr i10) 24]) Y) ?_ ?_
   ·intro K
    refine crawlwayref53_Prefixes.l1.partial_correctness x1 i10 (motive:=fun i14 x=>KN (fun Y=>At 52 [(2,.pointer (some ⟨b1,0,none⟩)),(3,.pointer (some ⟨b2,0,none⟩)),(5,.slice p11 i9.length c12),(6,.int .i64 x)] (Wd w [rowE c_api_Prefix 37 p11 c12 i9,cellsE b2 (Cd.cs c_api_Addr x1) 24,cellsE b1 (Cd.cs c_api_Addr i10) 24]) Y) _ 2→Round (fun Y=>At 52 [(2,.pointer (some ⟨b1,0,none⟩)),(3,.pointer (some ⟨b2,0,none⟩)),(5,.slice p11 i9.length c12),(6,.int .i64 i14)] (Wd w [rowE c_api_Prefix 37 p11 c12 i9,cellsE b2 (Cd.cs c_api_Addr x1) 24,cellsE b1 (Cd.cs c_api_Addr i10) 24]) Y) _ _ _) ?_ _ _ hq13 K
    ·clear K hF
     intro g ih i14 x hF K
     refine at_round ?_
     refine qs (qs ?_)
     refine at_draw (by kernel_rfl) (by kernel_rfl) (fun _ h=>h.drew) ?_
     refine atq_val rfl rfl rfl (r_load_aggc (c:=c_api_Addr) (z:=i10) isAgg24 sizeOf24 rfl (lens_cell (.s (.s .z)) lw)) ?_
     refine atq_val rfl rfl rfl (r_move rfl) ?_
     obtain ⟨t15,ht15,hF⟩:=bM hF
     refine atq_call func16 rfl (by kernel_rfl) rfl rfl (fun w hw=>(crawlwayref10_Mask_ok _ _ _ ht15 w).mono fun _ _ h=>⟨h.1,hw.call h.2⟩) ?_
     refine atq_val rfl rfl rfl (r_load_aggc (c:=c_api_Addr) (z:=i10) isAgg24 sizeOf24 rfl (lens_cell (.s (.s .z)) lw)) ?_
     refine atq_val rfl rfl rfl (r_eqagg (c:=c_api_Addr) (a:=t15) (b:=i10) (eq_api_Addr_24) rfl Try.eqGuardType24 rfl rfl (.inr rfl) rfl) ?_
     refine atq_val rfl rfl rfl (r_move rfl) ?_
     obtain ⟨h16,hF⟩|⟨h16,hF⟩:=oi hF
     ·refine atq_fix (g:=20) rfl h16 ?_
      refine atq_guard_no rfl rfl rfl rfl rfl ?_
      refine atq_guard_no rfl rfl rfl rfl rfl ?_
      refine atq_guard_no rfl rfl rfl rfl rfl ?_
      refine atq_guard_no rfl rfl rfl rfl rfl ?_
      refine atq_guard_no rfl rfl rfl rfl rfl ?_
      refine atq_guard_no rfl rfl rfl rfl rfl ?_
      refine atq_val rfl rfl rfl (r_pick rfl rfl rfl) ?_
      refine atq_nil ?_
      refine wq [27,6,5,3,2] ?_
      refine tn ?_
      refine ct rfl ?_
      refine sn ?_
      refine qb ?_
      refine qr (am (aw xa (aa (qn (wq [6,5,3,2] ?_)))))
      refine bm ?_
      exact at_weak_k (ih _ _ hF K) ⟨rfl,rfl,rfl,rfl,trivial⟩
     refine atq_fix (g:=20) rfl h16 ?_
     refine atq_guard_yes rfl rfl rfl ?_
     refine atq_val rfl rfl rfl (r_load_aggc (c:=c_api_Addr) (z:=x1) isAgg24 sizeOf24 rfl (lens_cell (.s .z) lw)) ?_
     refine atq_guard_yes rfl rfl rfl ?_
     refine atq_val rfl rfl rfl (r_load_aggc (c:=c_api_Addr) (z:=i10) isAgg24 sizeOf24 rfl (lens_cell (.s (.s .z)) lw)) ?_
     refine atq_guard_yes rfl rfl rfl ?_
     refine atq_val rfl rfl rfl (r_move rfl) ?_
     refine atq_guard_yes rfl rfl rfl ?_
     refine atq_val rfl rfl rfl (r_build_struct (zs:=Cd.cs c_api_Prefix zv2) (cs:=Cd.cs c_api_Prefix ({ { zv2 with f_A:=i10 } with f_Bits:=i14 })) underlying37 zeroValue37 rfl (places_api_Prefix_37) rfl (fill_step (c:=c_api_Addr) (z:=i10) rfl (c_api_Prefix_f_A zv2) rfl (fill_step (c:=(cInt .i64)) (z:=i14) rfl (c_api_Prefix_f_Bits ({ zv2 with f_A:=i10 })) rfl rfl))) ?_
     refine atq_guard_yes rfl rfl rfl ?_
     obtain ⟨t17,ht17,hF⟩:=bM hF
     refine atq_call func41 rfl (by kernel_rfl) rfl rfl (fun w hw=>(crawlwayref53_last_ok _ _ ht17 w).mono fun _ _ h=>⟨h.1,hw.call h.2⟩) ?_
     refine atq_guard_yes rfl rfl rfl ?_
     obtain ⟨t18,ht18,hF⟩:=bM hF
     refine atq_call func24 rfl (by kernel_rfl) rfl rfl (fun w hw=>(crawlwayref10_Less_ok _ _ _ ht18 w).mono fun _ _ h=>⟨h.1,hw.call h.2⟩) ?_
     refine atq_val rfl rfl rfl (r_pick rfl rfl rfl) ?_
     refine atq_nil ?_
     refine wq [27,6,5,3,2] ?_
     refine tn ?_
     obtain ⟨h19,hF⟩|⟨h19,hF⟩:=oi hF
     ·refine ct h19 ?_
      refine sn ?_
      refine qb ?_
      refine qr (am (aw xa (aa (qn (wq [6,5,3,2] ?_)))))
      refine bm ?_
      exact at_weak_k (ih _ _ hF K) ⟨rfl,rfl,rfl,rfl,trivial⟩
     refine cf h19 ?_
     refine at_exit ?_
     refine te (te ?_)
     obtain rfl:=os hF
     exact at_weak_k K ⟨rfl,rfl,rfl,rfl,trivial⟩
   skip
   skip
   refine at_blk_same ?_
   refine tn (sr ?_)
   refine aw (r_load_aggc (c:=c_api_Addr) (z:=i10) isAgg24 sizeOf24 rfl (lens_cell (.s (.s .z)) lw)) ?_
   refine am ?_
   refine aw (r_build_struct (zs:=Cd.cs c_api_Prefix zv2) (cs:=Cd.cs c_api_Prefix ({ { zv2 with f_A:=i10 } with f_Bits:=q13 })) underlying37 zeroValue37 rfl (places_api_Prefix_37) rfl (fill_step (c:=c_api_Addr) (z:=i10) rfl (c_api_Prefix_f_A zv2) rfl (fill_step (c:=(cInt .i64)) (z:=q13) rfl (c_api_Prefix_f_Bits ({ zv2 with f_A:=i10 })) rfl rfl))) ?_
   refine al (cs:=Cd.cs c_api_Prefix zv2) zeroValue37 ?_
   intro b20
   refine at_store (c:=c_api_Prefix) (z:={ { zv2 with f_A:=i10 } with f_Bits:=q13 }) .z lw sizeOf37 rfl rfl rfl ?_
   refine ns (am ?_)
   refine aw (r_load_aggc (c:=c_api_Prefix) (z:={ { zv2 with f_A:=i10 } with f_Bits:=q13 }) isAgg37 sizeOf37 rfl (lens_cell .z lw)) ?_
   refine at_litL (c:=c_api_Prefix) ([zv2]:List S_api_Prefix) ([{ { zv2 with f_A:=i10 } with f_Bits:=q13 }]:List S_api_Prefix) underlying27 sizeOf37 zeroValue37 rfl rfl rfl (by kernel_rfl) (fill_step (c:=c_api_Prefix) (z:={ { zv2 with f_A:=i10 } with f_Bits:=q13 }) rfl (Lens.all c_api_Prefix ([zv2]:List S_api_Prefix) 0 (by first | decide | exact Nat.le_of_ble_eq_true rfl)) rfl rfl) rfl ?_
   intro b21
   obtain ⟨h22,hF⟩:=gd hF
   refine at_append (z:=.agg (Cd.cs c_api_Prefix zv2).toArray) (c:=c_api_Prefix) (ys:=([{ { zv2 with f_A:=i10 } with f_Bits:=q13 }]:List S_api_Prefix)) (.s (.s .z)) underlying27 infoA237 (by kernel_rfl) (by kernel_rfl) rfl rfl rfl rfl (fun _ hw=>cells_src (hw.ok (Upd.mem .z))) (by kernel_rfl) h22 (app_small h22) rfl ?_
   intro p23 c24
   refine aa (qn (dz (tn (sr ?_))))
   refine aw (r_load_aggc (c:=c_api_Prefix) (z:={ { zv2 with f_A:=i10 } with f_Bits:=q13 }) isAgg37 sizeOf37 rfl (lens_cell .z lw)) ?_
   obtain ⟨t25,ht25,hF⟩:=bM hF
   refine cB func41 rfl (fun w hw=>crawlwayref53_last_ok _ _ ht25 w) ?_
   obtain ⟨t26,ht26,hF⟩:=bM hF
   refine cB func17 rfl (fun w hw=>crawlwayref53_Next_ok _ _ ht26 w) ?_
   refine am ?_
   refine aw xe (aw xe ?_)
   refine al (cs:=Cd.cs c_api_Addr zv0) zeroValue24 ?_
   intro b27
   refine at_store (c:=c_api_Addr) (z:=t26.1) .z lw sizeOf24 rfl rfl rfl ?_
   refine aa (qn ?_)
   refine at_drop (H:=_) (.s .z) ?_
   refine wq [9,8,5,3,2] ?_
   refine tn (qs (sr (am ?_)))
   refine aw (r_not rfl) ?_
   refine am ?_
   obtain ⟨h28,hF⟩|⟨h28,hF⟩:=oi hF
   ·refine fx 45 h28 ?_
    refine gn ?_
    refine gn ?_
    refine gn ?_
    refine aw xp (nwq [49,8,5,3,2] ?_)
    refine ct rfl ?_
    refine sr (am (aa (qn (dz ?_))))
    refine at_drop (H:=_) (.s .z) ?_
    refine at_drop (H:=_) (.s .z) ?_
    refine wq [4] ?_
    refine tn (qt ?_)
    refine tr (br (tr (br ?_)))
    obtain rfl:=os hF
    subst K
    exact r1 (fun w1 hw=>⟨p23,c24,rfl,hw.own .z,hw.below⟩)
   refine fx 45 h28 ?_
   refine gy ?_
   refine aw (r_load_aggc (c:=c_api_Addr) (z:=x1) isAgg24 sizeOf24 rfl (lens_cell (.s (.s .z)) lw)) ?_
   refine gy ?_
   refine aw (r_load_aggc (c:=c_api_Addr) (z:=t26.1) isAgg24 sizeOf24 rfl (lens_cell .z lw)) ?_
   refine gy ?_
   obtain ⟨t29,ht29,hF⟩:=bM hF
   refine cB func24 rfl (fun w hw=>crawlwayref10_Less_ok _ _ _ ht29 w) ?_
   refine aw xp (nwq [49,8,5,3,2] ?_)
   obtain ⟨h30,hF⟩|⟨h30,hF⟩:=oi hF
   ·refine ct h30 ?_
    refine sr (am (aa (qn (dz ?_))))
    refine at_drop (H:=_) (.s .z) ?_
    refine at_drop (H:=_) (.s .z) ?_
    refine wq [4] ?_
    refine tn (qt ?_)
    refine tr (br (tr (br ?_)))
    obtain rfl:=os hF
    subst K
    exact r1 (fun w1 hw=>⟨p23,c24,rfl,hw.own .z,hw.below⟩)
   refine cf h30 ?_
   refine sn (qr ?_)
   refine aw (r_load_aggc (c:=c_api_Addr) (z:=t26.1) isAgg24 sizeOf24 rfl (lens_cell .z lw)) ?_
   refine at_store (c:=c_api_Addr) (z:=t26.1) (.s (.s (.s .z))) lw sizeOf24 rfl rfl rfl ?_
   refine qn (dz (wq [5,3,2] ?_))
   refine bm ?_
   exact at_weak_k (ih _ _ _ hF K p23 c24) ⟨rfl,rfl,rfl,trivial⟩
 exact os hF
end Go.Proofs.Ytahlbjmafceoeaa
namespace Go.Proofs.Ytahlbjmafceoeaa
open E Go.RowKit
def okb(v:Vector Int 16):Bool:=v.toList.all fun n=>decide (0≤n)&&decide (n<256)
theorem okb_mem{v:Vector Int 16}(h:okb v=true):∀ n∈v.toList,0≤n∧n<256:=fun n hn=>by
 have:=List.all_eq_true.1 h n hn
 simpa using this
def ordI(x y:S_api_Prefix):Int:=(aggregate_order x y).getD 0
theorem unb_inj:∀ {a b:List Int},(∀ n∈a,0≤n∧n<256)→(∀ n∈b,0≤n∧n<256)→unb a=unb b→a=b
 | [],[],_,_,_=>rfl
 | [],_::_,_,_,h=>by simp [unb] at h
 | _::_,[],_,_,h=>by simp [unb] at h
 | x::a,y::b,ha,hb,h=>by
  have h':UInt8.ofNat x.toNat::unb a=UInt8.ofNat y.toNat::unb b:=h
  injection h' with h1 h2
  have hx:=ha x (List.mem_cons_self ..)
  have hy:=hb y (List.mem_cons_self ..)
  have h3:x.toNat=y.toNat:=by
   have:=congrArg UInt8.toNat h1
   rw [UInt8.toNat_ofNat',UInt8.toNat_ofNat',Nat.mod_eq_of_lt (by omega),Nat.mod_eq_of_lt (by omega)] at this
   exact this
  rw [show x=y by omega,unb_inj (fun n hn=>ha n (List.mem_cons_of_mem _ hn)) (fun n hn=>hb n (List.mem_cons_of_mem _ hn)) h2]
theorem unb_len(l:List Int):(unb l).length=l.length:=by simp [unb]
theorem keyA_inj{a b:S_api_Addr}(ha:okb a.f_B=true)(hb:okb b.f_B=true)(h1:a.f_V=b.f_V)(h2:num (unb a.f_B.toList)=num (unb b.f_B.toList)):a=b:=by
 have e:=unb_inj (okb_mem ha) (okb_mem hb) (num_inj (by rw [unb_len,unb_len,Vector.length_toList,Vector.length_toList]) h2)
 obtain ⟨v,x⟩:=a
 obtain ⟨u,y⟩:=b
 simp only at h1 e
 subst h1
 rw [Vector.toList_inj.1 e]
def lessK(a b:S_api_Addr):Bool:=if a.f_V=b.f_V then decide (num (unb a.f_B.toList)<num (unb b.f_B.toList)) else decide (a.f_V<b.f_V)
theorem less_key(a b:S_api_Addr):addr_Less a b=some (lessK a b):=by
 unfold addr_Less lessK
 by_cases h:a.f_V=b.f_V
 ·have hne:(a.f_V != b.f_V)=false:=by simpa using h
  rw [hne,if_neg Bool.false_ne_true,if_pos h]
  unfold bytes_Compare
  show some (decide (Lib.compareBytes _ _<0))=_
  congr 1
  rw [decide_eq_decide]
  exact cmp_num _ _ (by rw [unb_len,unb_len,Vector.length_toList,Vector.length_toList])
 ·have hne:(a.f_V != b.f_V)=true:=by simpa using h
  rw [hne,if_pos rfl,if_neg h]
def lessP(x y:S_api_Prefix):Bool:=if x.f_A=y.f_A then decide (x.f_Bits<y.f_Bits) else lessK x.f_A y.f_A
theorem cless_key(x y:S_api_Prefix):cidr_Less x y=some (lessP x y):=by
 unfold cidr_Less lessP
 by_cases h:x.f_A=y.f_A
 ·rw [decide_eq_true h,if_pos rfl,if_pos h]
 ·rw [decide_eq_false h,if_neg Bool.false_ne_true,if_neg h,less_key];rfl
theorem order_key(x y:S_api_Prefix):aggregate_order x y=some (if lessP x y=true then -1 else if lessP y x=true then 1 else 0):=by
 unfold aggregate_order
 rw [cless_key,cless_key]
 show (if lessP x y=true then some (-1) else (if lessP y x=true then some 1 else some 0))=_
 split
 ·rfl
 ·split<;>rfl
theorem ltOf_ord:ltOf ordI=lessP:=by
 funext x y
 unfold ltOf ordI
 rw [order_key]
 show decide ((if lessP x y=true then (-1:Int) else if lessP y x=true then 1 else 0)<0)=_
 cases h:lessP x y
 ·rw [if_neg Bool.false_ne_true];split<;>rfl
 ·rfl
def okP(x:S_api_Prefix):Prop:=okb x.f_A.f_B=true
theorem lessP_iff{x y:S_api_Prefix}(hx:okP x)(hy:okP y):lessP x y=true↔x.f_A.f_V<y.f_A.f_V∨(x.f_A.f_V=y.f_A.f_V∧(num (unb x.f_A.f_B.toList)<num (unb y.f_A.f_B.toList)∨(num (unb x.f_A.f_B.toList)=num (unb y.f_A.f_B.toList)∧x.f_Bits<y.f_Bits))):=by
 unfold lessP lessK
 by_cases h:x.f_A=y.f_A
 ·rw [if_pos h,decide_eq_true_iff,h];omega
 ·rw [if_neg h]
  by_cases hV:x.f_A.f_V=y.f_A.f_V
  ·rw [if_pos hV,decide_eq_true_iff]
   have hn:num (unb x.f_A.f_B.toList)≠num (unb y.f_A.f_B.toList):=fun e=>h (keyA_inj hx hy hV e)
   omega
  ·rw [if_neg hV,decide_eq_true_iff];omega
theorem lessP_false{x y:S_api_Prefix}(hx:okP x)(hy:okP y):lessP x y=false↔¬ (x.f_A.f_V<y.f_A.f_V∨(x.f_A.f_V=y.f_A.f_V∧(num (unb x.f_A.f_B.toList)<num (unb y.f_A.f_B.toList)∨(num (unb x.f_A.f_B.toList)=num (unb y.f_A.f_B.toList)∧x.f_Bits<y.f_Bits)))):=by
 rw [←lessP_iff hx hy];simp
theorem lessP_swo:SWOn okP lessP where
 irrefl x hx:=by rw [lessP_false hx hx];omega
 trans x y z hx hy hz h1 h2:=by rw [lessP_iff hx hy] at h1;rw [lessP_iff hy hz] at h2;rw [lessP_iff hx hz];omega
 ntrans x y z hx hy hz h1 h2:=by rw [lessP_false hx hy] at h1;rw [lessP_false hy hz] at h2;rw [lessP_false hx hz];omega
theorem lessP_anti{x y:S_api_Prefix}(hx:okP x)(hy:okP y)(h1:lessP x y=false)(h2:lessP y x=false):x=y:=by
 rw [lessP_false hx hy] at h1
 rw [lessP_false hy hx] at h2
 have e1:=keyA_inj (a:=x.f_A) (b:=y.f_A) hx hy (by omega) (by omega)
 have e2:x.f_Bits=y.f_Bits:=by omega
 obtain ⟨a,b⟩:=x
 obtain ⟨c,d⟩:=y
 simp only at e1 e2
 rw [e1,e2]
def sort_Prefix(xs:List S_api_Prefix):Option (List S_api_Prefix):=if (xs.all fun x=>okb x.f_A.f_B)=true∧xs.length≤1000000 then some (isort lessP xs) else none
theorem sort_Prefix_len{xs r:List S_api_Prefix}(h:sort_Prefix xs=some r):r.length=xs.length:=by
 unfold sort_Prefix at h
 split at h
 ·cases h;exact isort_length _ _
 ·cases h
theorem sort_Prefix_ok{xs r:List S_api_Prefix}(h:sort_Prefix xs=some r){w0 w:World}{H G:List Ent}{f:Ent→List Ent}{p:Option Addr}{cap:Nat}(hu:Upd H (rowE c_api_Prefix 37 p cap xs) f G)(hw:Wd w0 H w) :
  Calls Try.prog 48 #[.slice p xs.length cap,.func (.func 49) #[] #[]] w fun en w'=>en=.returned (.tuple #[])∧Wd w0 (f (rowE c_api_Prefix 37 p cap r)) w':=by
 unfold sort_Prefix at h
 split at h
 ·next hh =>
  cases h
  have hK:∀ x∈xs,okP x:=fun x hx=>List.all_eq_true.1 hh.1 x hx
  have:=sort_calls Try.sortP c_api_Prefix okP Try.isAgg37 Try.sizeOf37 ordI (by rw [ltOf_ord];exact lessP_swo) 49 (enters_of Try.func49 (by kernel_rfl) rfl)
   (fun x y _ _ w=>aggregate_order_ok _ _ _ (by unfold ordI;rw [order_key];rfl) w) hK (by rw [ltOf_ord];exact fun x hx y hy h1 h2=>lessP_anti (hK x hx) (hK y hy) h1 h2) (by omega) hu hw
  rw [ltOf_ord] at this
  exact this
 ·cases h
end Go.Proofs.Ytahlbjmafceoeaa
namespace Go.Proofs.Ytahlbjmafceoeaa.Agg
open E Go.RowKit Adr Cid
def wd(V:Int):Nat:=if V=4 then 32 else 128
def wb(V:Int):Nat:=if V=4 then 4 else 16
def fam(V:Int):Prop:=V=4∨V=6
theorem wd_wb(V:Int):wd V=8*wb V:=by unfold wd wb;split<;>rfl
theorem wb_le(V:Int):wb V≤16:=by unfold wb;split<;>omega
theorem wd_le(V:Int):wd V≤128:=by unfold wd;split<;>omega
theorem pow_wb(V:Int):256 ^ wb V=2 ^ wd V:=by rw [wd_wb,Nat.pow_mul]
def bt(V:Int)(N:Nat):List UInt8:=digs (wb V) N++List.replicate (16-wb V) 0
theorem bt_len(V:Int)(N:Nat):(bt V N).length=16:=by
 have:=wb_le V
 unfold bt;rw [List.length_append,digs_length,List.length_replicate];omega
def adr(V:Int)(N:Nat):S_api_Addr:=mkA V (bt V N)
theorem bg_bt(V:Int)(N i:Nat):bg (bt V N) i=if i<wb V then N/256 ^ (wb V-1-i)%256 else 0:=by
 unfold bg bt
 rw [List.getD_eq_getElem?_getD]
 split
 ·next h =>
  rw [List.getElem?_append_left (by rw [digs_length];exact h),digs_get _ _ _ h,Option.getD_some,UInt8.toNat_ofNat',Nat.mod_mod]
 ·next h =>
  rw [List.getElem?_append_right (by rw [digs_length];omega),List.getElem?_replicate]
  split<;>rfl
theorem bg_ext{l k:List UInt8}(hl:l.length=16)(hk:k.length=16)(h:∀ i,i<16→bg l i=bg k i):l=k:=by
 apply List.ext_getElem?
 intro i
 by_cases hi:i<16
 ·have e:=h i hi
  unfold bg at e
  rw [List.getD_eq_getElem?_getD,List.getD_eq_getElem?_getD,List.getElem?_eq_getElem (by omega),List.getElem?_eq_getElem (by omega)] at e
  rw [List.getElem?_eq_getElem (by omega),List.getElem?_eq_getElem (by omega)]
  exact congrArg some (UInt8.toNat_inj.1 e)
 ·rw [List.getElem?_eq_none (by omega),List.getElem?_eq_none (by omega)]
theorem num_bt{V:Int}{N:Nat}(h:N<2 ^ wd V):num (bt V N)=N*256 ^ (16-wb V):=by
 have hz:∀ m,num (List.replicate m 0)=0:=by
  intro m
  induction m with
  | zero=>rfl
  | succ m ih=>rw [List.replicate_succ,num_cons,ih];simp
 unfold bt
 rw [num_append,num_digs _ _ (by rw [pow_wb];exact h),hz,List.length_replicate,Nat.add_zero]
theorem bt_inj{V:Int}{N M:Nat}(hN:N<2 ^ wd V)(hM:M<2 ^ wd V)(h:bt V N=bt V M):N=M:=by
 have:=congrArg num h
 rw [num_bt hN,num_bt hM] at this
 exact Nat.eq_of_mul_eq_mul_right (Nat.pow_pos (by omega)) this
theorem bt_right{V:Int}(hf:fam V)(N:Nat):rightL V (bt V N)=true:=by
 unfold rightL
 rcases hf with rfl | rfl
 ·have:low (bt 4 N)=true:=by
   unfold low bt
   rw [show wb 4=4 from rfl,List.drop_append_of_le_length (by rw [digs_length];exact Nat.le_refl _),List.drop_of_length_le (by rw [digs_length];exact Nat.le_refl _)]
   rfl
  rw [this];rfl
 ·rfl
theorem width_bt{V:Int}(hf:fam V)(N:Nat):widthL V (bt V N)=wd V:=by
 unfold widthL wd
 rw [bt_right hf,if_pos rfl]
theorem right_is{V:Int}{l:List UInt8}(hl:l.length=16)(h:rightL V l=true):fam V∧∃ N,N<2 ^ wd V∧l=bt V N:=by
 rcases right_cases h with rfl | ⟨rfl,hlow⟩
 ·refine ⟨.inr rfl,num l,?_,?_⟩
  ·have:=num_lt l;rw [hl] at this
   rw [←pow_wb];exact this
  ·have:=digs_num l
   rw [hl] at this
   show l=digs 16 (num l)++[]
   rw [List.append_nil,this]
 ·refine ⟨.inl rfl,num (l.take 4),?_,?_⟩
  ·have:=num_lt (l.take 4)
   rw [List.length_take,hl] at this
   rw [←pow_wb];exact this
  ·have h4:=(low_iff hl).1 hlow
   have:=digs_num (l.take 4)
   rw [List.length_take,hl] at this
   show l=digs 4 (num (l.take 4))++List.replicate 12 0
   rw [show digs 4 (num (l.take 4))=l.take 4 from this]
   exact h4
theorem adr_right{V:Int}(hf:fam V)(N:Nat):addr_Right (adr V N)=some true∧crawlwayref10_Right (adr V N)=some true:=by
 unfold adr
 rw [right_code (bt_len V N),right_ref (bt_len V N),bt_right hf];exact ⟨rfl,rfl⟩
theorem adr_width{V:Int}(hf:fam V)(N:Nat):addr_Width (adr V N)=some (wd V:Int)∧crawlwayref10_Width (adr V N)=some (wd V:Int):=by
 unfold adr
 rw [width_code (bt_len V N),width_ref (bt_len V N),width_bt hf];exact ⟨rfl,rfl⟩
theorem adr_inj{V W:Int}{N M:Nat}(hN:N<2 ^ wd V)(hM:M<2 ^ wd W):adr V N=adr W M↔V=W∧N=M:=by
 unfold adr
 rw [mkA_inj (bt_len V N) (bt_len W M)]
 constructor
 ·rintro ⟨rfl,h⟩;exact ⟨rfl,bt_inj hN hM h⟩
 ·rintro ⟨rfl,rfl⟩;exact ⟨rfl,rfl⟩
def ltA(V:Int)(N:Nat)(W:Int)(M:Nat):Bool:=if V=W then decide (N<M) else decide (V<W)
theorem lessL_num(l k:List UInt8)(h:l.length=k.length):lessL l k=decide (num l<num k):=by
 rw [←less_cmp l k h,decide_eq_decide];exact cmp_num l k h
theorem adr_less{V W:Int}{N M:Nat}(hN:N<2 ^ wd V)(hM:M<2 ^ wd W):addr_Less (adr V N) (adr W M)=some (ltA V N W M)∧crawlwayref10_Less (adr V N) (adr W M)=some (ltA V N W M):=by
 have hk:∀ (V:Int) (N:Nat),num (unb (vb (bt V N)).toList)=num (bt V N):=fun V N=>by
  rw [vb_toList (bt_len V N)]
  congr 1
  unfold unb ob
  rw [List.map_map]
  conv=>rhs;rw [←List.map_id (bt V N)]
  apply List.map_congr_left
  intro b _
  show UInt8.ofNat ((b.toNat:Int).toNat)=b
  rw [Int.toNat_natCast];exact UInt8.ofNat_toNat
 have hn:∀ h:V=W,(num (bt V N)<num (bt W M)↔N<M):=fun h=>by
  subst h
  rw [num_bt hN,num_bt hM]
  exact Nat.mul_lt_mul_right (Nat.pow_pos (by omega))
 constructor
 ·rw [less_key]
  unfold lessK ltA adr mkA
  simp only [hk]
  split
  ·next h=>rw [decide_eq_decide.2 (hn h)]
  ·rfl
 ·unfold adr
  rw [less_ref (bt_len V N) (bt_len W M)]
  unfold lessA ltA
  rw [lessL_num _ _ (by rw [bt_len,bt_len])]
  split
  ·next h=>rw [decide_eq_decide.2 (hn h)]
  ·rfl
theorem bit_bt{V:Int}{N i:Nat}(hi:i<wd V):bit (bt V N) i=N/2 ^ (wd V-1-i)%2:=by
 unfold bit
 rw [bg_bt,if_pos (by rw [wd_wb] at hi;omega)]
 have h1:∀ Y t:Nat,t<8→Y%256/2 ^ t%2=Y/2 ^ t%2:=by
  intro Y t ht
  have:t=0∨t=1∨t=2∨t=3∨t=4∨t=5∨t=6∨t=7:=by omega
  rcases this with rfl | rfl | rfl | rfl | rfl | rfl | rfl | rfl<;>omega
 rw [h1 _ _ (by omega),Nat.div_div_eq_div_mul]
 congr 2
 rw [show (256:Nat)=2 ^ 8 from rfl,←Nat.pow_mul,←Nat.pow_add]
 congr 1
 rw [wd_wb] at hi ⊢
 omega
theorem byte_mask(Y t:Nat)(ht:t≤8):(Y/2 ^ t*2 ^ t)%256=Y%256-Y%256%2 ^ t:=by
 have:t=0∨t=1∨t=2∨t=3∨t=4∨t=5∨t=6∨t=7∨t=8:=by omega
 rcases this with rfl | rfl | rfl | rfl | rfl | rfl | rfl | rfl | rfl<;>omega
theorem byte_clear(N c s:Nat):N/2 ^ c*2 ^ c/2 ^ (8*s)%256=N/2 ^ (8*s)%256-N/2 ^ (8*s)%256%2 ^ (min (c-8*s) 8):=by
 by_cases h1:c≤8*s
 ·have e:2 ^ (8*s)=2 ^ c*2 ^ (8*s-c):=by rw [←Nat.pow_add];congr 1;omega
  rw [show min (c-8*s) 8=0 by omega,Nat.pow_zero,Nat.mod_one,Nat.sub_zero,e,←Nat.div_div_eq_div_mul,←Nat.div_div_eq_div_mul,Nat.mul_div_cancel _ (Nat.pow_pos (by omega))]
 ·have e:2 ^ c=2 ^ (8*s)*2 ^ (c-8*s):=by rw [←Nat.pow_add];congr 1;omega
  have e2:N/2 ^ c*2 ^ c/2 ^ (8*s)=N/2 ^ (8*s)/2 ^ (c-8*s)*2 ^ (c-8*s):=by
   rw [Nat.div_div_eq_div_mul,←e]
   generalize N/2 ^ c=A
   rw [e,Nat.mul_comm (2 ^ (8*s)),←Nat.mul_assoc,Nat.mul_div_cancel _ (Nat.pow_pos (by omega))]
  rw [e2]
  generalize N/2 ^ (8*s)=Y
  by_cases h2:c-8*s≤8
  ·rw [Nat.min_eq_left h2];exact byte_mask Y _ h2
  ·rw [Nat.min_eq_right (by omega),show (2:Nat) ^ 8=256 from rfl,Nat.mod_mod,Nat.sub_self]
   have:2 ^ (c-8*s)=256*2 ^ (c-8*s-8):=by rw [show (256:Nat)=2 ^ 8 from rfl,←Nat.pow_add];congr 1;omega
   rw [this,←Nat.mul_assoc,Nat.mul_right_comm]
   exact Nat.mul_mod_left _ _
theorem pow256(s:Nat):256 ^ s=2 ^ (8*s):=by rw [Nat.pow_mul]
theorem mfull_bt{V:Int}{N b:Nat}(hb:b≤wd V):mfull (bt V N) (b:Int)=bt V (N/2 ^ (wd V-b)*2 ^ (wd V-b)):=by
 refine bg_ext (by rw [mfull_len,bt_len]) (bt_len _ _) fun i hi=>?_
 rw [bg_bt]
 have hx:(bt V N)[i]? = some ((bt V N).getD i 0):=by
  rw [List.getD_eq_getElem?_getD,List.getElem?_eq_getElem (by rw [bt_len];exact hi)];rfl
 have hg:=mfull_get (bt V N) (b:Int) i
 rw [hx,Option.map_some] at hg
 rw [bg_get hg,mb_toNat]
 have hbg:((bt V N).getD i 0).toNat=bg (bt V N) i:=rfl
 rw [hbg,bg_bt]
 split
 ·next h =>
  rw [pow256,byte_clear]
  congr 3
  unfold lft
  rw [wd_wb] at hb ⊢
  omega
 ·simp
theorem mask_adr{V:Int}(hf:fam V){N b:Nat}(hb:b≤wd V):crawlwayref10_Mask (adr V N) (b:Int)=some (adr V (N/2 ^ (wd V-b)*2 ^ (wd V-b))):=by
 unfold adr
 rw [mask_ref (bt_len V N)]
 unfold maskA
 rw [bt_right hf,if_pos rfl,mfull_bt hb]
theorem aligned{N c:Nat}(h:2 ^ c ∣ N):N/2 ^ c*2 ^ c=N:=Nat.div_mul_cancel h
def prf(V:Int)(N k:Nat):S_api_Prefix:=mkP (adr V N) ((wd V-k:Nat):Int)
theorem of_adr{V:Int}(hf:fam V){N k:Nat}(hk:k≤wd V)(h:2 ^ k ∣ N):cidr_Of (adr V N) ((wd V-k:Nat):Int)=some (prf V N k,0):=by
 unfold adr
 rw [of_code (bt_len V N)]
 unfold ofP
 rw [bt_right hf,if_pos rfl,if_pos (fits_iff.2 ⟨bt_right hf N,by omega,by rw [width_bt hf];omega⟩),mfull_bt (by omega),show wd V-(wd V-k)=k by omega,aligned h]
 rfl
theorem prf_right{V:Int}(hf:fam V){N k:Nat}(hk:k≤wd V)(h:2 ^ k ∣ N):cidr_Right (prf V N k)=some true∧crawlwayref11_Right (prf V N k)=some true:=by
 have:rightP V (bt V N) ((wd V-k:Nat):Int)=true:=by
  rw [rightP_iff]
  refine ⟨⟨bt_right hf N,by omega,by rw [width_bt hf];omega⟩,?_⟩
  rw [mfull_bt (by omega),show wd V-(wd V-k)=k by omega,aligned h]
 unfold prf adr
 rw [cright_code (bt_len V N),cright_ref (bt_len V N),this];exact ⟨rfl,rfl⟩
theorem right_prf{V b:Int}{l:List UInt8}(hl:l.length=16)(h:rightP V l b=true):fam V∧∃ N k,N<2 ^ wd V∧k≤wd V∧2 ^ k ∣ N∧mkP (mkA V l) b=prf V N k:=by
 obtain ⟨⟨h1,h2,h3⟩,h4⟩:=rightP_iff.1 h
 obtain ⟨hf,N,hN,rfl⟩:=right_is hl h1
 rw [width_bt hf] at h3
 obtain ⟨m,rfl⟩:=Int.eq_ofNat_of_zero_le h2
 have hm:m≤wd V:=by omega
 refine ⟨hf,N,wd V-m,hN,by omega,?_,?_⟩
 ·have h5:mfull (bt V N) (m:Int)=bt V N:=h4
  rw [mfull_bt hm] at h5
  have h6:N/2 ^ (wd V-m)*2 ^ (wd V-m)<2 ^ wd V:=Nat.lt_of_le_of_lt (Nat.div_mul_le_self _ _) hN
  exact ⟨N/2 ^ (wd V-m),by rw [Nat.mul_comm];exact (bt_inj h6 hN h5).symm⟩
 ·unfold prf adr
  rw [show wd V-(wd V-m)=m by omega]
end Go.Proofs.Ytahlbjmafceoeaa.Agg
namespace Go.Proofs.Ytahlbjmafceoeaa.Agg
open E Go.RowKit Adr Cid
def zA:S_api_Addr:={ f_V:=(0:Int),f_B:=(Vector.replicate 16 (0:Int):(Vector Int 16)) }
theorem set_mkA{V:Int}{l:List UInt8}(hl:l.length=16)(i:Nat)(c:UInt8):({ mkA V l with f_B:=vset (mkA V l).f_B (i:Int) (c.toNat:Int) }:S_api_Addr)=mkA V (l.set i c):=by
 show ({ f_V:=V,f_B:=vset (vb l) (i:Int) (c.toNat:Int) }:S_api_Addr)=_
 rw [vset_vb hl];rfl
theorem get_mkA{V:Int}{l:List UInt8}(hl:l.length=16)(i:Nat)(hi:i<16):vget (mkA V l).f_B (i:Int)=(bg l i:Int):=vget_vb hl i hi
theorem ofNat_toNat{n:Nat}(h:n<256):(UInt8.ofNat n).toNat=n:=by rw [UInt8.toNat_ofNat'];exact Nat.mod_eq_of_lt h
theorem bg_mid(p:List UInt8)(x:UInt8)(t:List UInt8):bg (p++x::t) p.length=x.toNat:=by simp [bg]
theorem set_mid(p:List UInt8)(x y:UInt8)(t:List UInt8):(p++x::t).set p.length y=p++y::t:=by simp
theorem next_loop(V:Int):∀ (i n:Nat) (tl:List UInt8),tl.length=16-i→i≤16→n<256 ^ i →
  aggregate_Next.l0 ((i:Int)-1) (mkA V (digs i n++tl))=some (if n+1<256 ^ i then .ret (mkA V (digs i (n+1)++tl),true) else .nx ()) ∧
  crawlwayref53_Next.l0 ((i:Int)-1) (mkA V (digs i n++tl))=some (if n+1<256 ^ i then .ret (mkA V (digs i (n+1)++tl),true) else .nx ())
 | 0,n,tl,ht,hi,hn=>by
  have hd:decide (((0:Nat):Int)-1≥0)=false:=by decide
  rw [aggregate_Next.l0.eq_def,crawlwayref53_Next.l0.eq_def,hd,if_neg Bool.false_ne_true,if_neg Bool.false_ne_true,if_neg (by simp)];exact ⟨rfl,rfl⟩
 | i+1,n,tl,ht,hi,hn=>by
  have e1:(((i+1:Nat):Int)-1)=(i:Int):=by omega
  have hd:decide ((i:Int)≥0)=true:=decide_eq_true (by omega)
  have hg:(0:Int)≤(i:Int)∧(i:Int)<16:=by omega
  have hp:digs (i+1) n++tl=digs i (n/256)++UInt8.ofNat (n%256)::tl:=by rw [digs,List.append_assoc];rfl
  have hpl:(digs i (n/256)).length=i:=digs_length _ _
  have hl:(digs i (n/256)++UInt8.ofNat (n%256)::tl).length=16:=by rw [List.length_append,List.length_cons,hpl,ht];omega
  have hx:(UInt8.ofNat (n%256)).toNat=n%256:=ofNat_toNat (Nat.mod_lt _ (by omega))
  have hbg:bg (digs i (n/256)++UInt8.ofNat (n%256)::tl) i=n%256:=by
   have:=bg_mid (digs i (n/256)) (UInt8.ofNat (n%256)) tl
   rw [hpl,hx] at this;exact this
  have hset:∀ y,(digs i (n/256)++UInt8.ofNat (n%256)::tl).set i y=digs i (n/256)++y::tl:=fun y=>by
   have:=set_mid (digs i (n/256)) (UInt8.ofNat (n%256)) y tl
   rw [hpl] at this;exact this
  have hwi:wr .i64 ((i:Int)-1)=(i:Int)-1:=wr_i64 (by omega) (by omega)
  rw [Nat.pow_succ] at hn
  rw [e1,hp,aggregate_Next.l0.eq_def,crawlwayref53_Next.l0.eq_def,hd,if_pos rfl,if_pos hg,if_pos hg,if_pos hg,if_pos rfl,if_pos hg,get_mkA hl i (by omega),hbg,hwi]
  by_cases h255:n%256=255
  ·have hw:wr .u8 (((n%256:Nat):Int)+1)=(((0:UInt8).toNat:Nat):Int):=by rw [wr_u8_mod,h255];rfl
   have h0:(0:Int)=(((0:UInt8).toNat:Nat):Int):=rfl
   have hlt:decide (((n%256:Nat):Int)<255)=false:=decide_eq_false (by omega)
   rw [hw,set_mkA hl,hset,hlt,if_neg Bool.false_ne_true,if_pos hg]
   have hl2:(digs i (n/256)++0::tl).length=16:=by rw [List.length_append,List.length_cons,hpl,ht];omega
   have hb0:bg (digs i (n/256)++0::tl) i=0:=by
    have:=bg_mid (digs i (n/256)) 0 tl
    rw [hpl] at this;exact this
   rw [get_mkA hl2 i (by omega),hb0]
   have hne:(((0:Nat):Int) != (0:Int))=false:=rfl
   rw [hne,if_neg Bool.false_ne_true]
   conv=>rhs;lhs;rw [show (0:Int)=(((0:UInt8).toNat:Nat):Int) from rfl]
   rw [set_mkA hl,hset]
   obtain ⟨i1,i2⟩:=next_loop V i (n/256) (0::tl) (by rw [List.length_cons,ht];omega) (by omega) (by omega)
   rw [i1,i2]
   have hd1:digs (i+1) (n+1)++tl=digs i (n/256+1)++0::tl:=by
    rw [digs,show (n+1)/256=n/256+1 by omega,show (n+1)%256=0 by omega,List.append_assoc];rfl
   rw [hd1,Nat.pow_succ]
   have:(n/256+1<256 ^ i)↔(n+1<256 ^ i*256):=by omega
   simp only [this,and_self]
  ·have hb:n%256<255:=by omega
   have hw:wr .u8 (((n%256:Nat):Int)+1)=(((UInt8.ofNat (n%256+1)).toNat:Nat):Int):=by
    rw [wr_u8_mod,ofNat_toNat (by omega)];omega
   have hlt:decide (((n%256:Nat):Int)<255)=true:=decide_eq_true (by omega)
   rw [hw,set_mkA hl,hset,hlt,if_pos rfl,if_pos hg,if_pos hg]
   have hl2:(digs i (n/256)++UInt8.ofNat (n%256+1)::tl).length=16:=by rw [List.length_append,List.length_cons,hpl,ht];omega
   have hb0:bg (digs i (n/256)++UInt8.ofNat (n%256+1)::tl) i=n%256+1:=by
    have:=bg_mid (digs i (n/256)) (UInt8.ofNat (n%256+1)) tl
    rw [hpl,ofNat_toNat (by omega)] at this;exact this
   rw [get_mkA hl2 i (by omega),hb0]
   have hne:(((n%256+1:Nat):Int) != (0:Int))=true:=by rw [bne_iff_ne];omega
   rw [hne,if_pos rfl]
   have hd1:digs (i+1) (n+1)++tl=digs i (n/256)++UInt8.ofNat (n%256+1)::tl:=by
    rw [digs,show (n+1)/256=n/256 by omega,show (n+1)%256=n%256+1 by omega,List.append_assoc];rfl
   rw [hd1,Nat.pow_succ,if_pos (by omega)]
   exact ⟨rfl,rfl⟩
def nx(V:Int)(N:Nat):S_api_Addr×Bool:=if N+1<2 ^ wd V then (adr V (N+1),true) else (zA,false)
theorem next_adr{V:Int}(hf:fam V){N:Nat}(hN:N<2 ^ wd V):aggregate_Next (adr V N)=some (nx V N)∧crawlwayref53_Next (adr V N)=some (nx V N):=by
 obtain ⟨w1,w2⟩:=adr_width hf N
 have hi:wr .i64 ((ishr .i64 (wd V:Int) 3)-1)=(wb V:Int)-1:=by
  have e:=ishr_nat .i64 (wd V) 3 (by decide)
  rw [show ((3:Nat):Int)=3 from rfl] at e
  rw [e,wd_wb,show (8*wb V)/2 ^ 3=wb V by omega]
  exact wr_i64 (by have:=wb_le V;omega) (by have:=wb_le V;omega)
 have hi2:wr .i64 ((wr .i64 (Int.tdiv (wd V:Int) 8))-1)=(wb V:Int)-1:=by
  have e:Int.tdiv (wd V:Int) 8=(wb V:Int):=by rw [wd_wb,Int.tdiv_eq_ediv_of_nonneg (by omega)];omega
  have:=wb_le V
  rw [e,wr_i64 (x:=(wb V:Int)) (by omega) (by omega)]
  exact wr_i64 (by omega) (by omega)
 obtain ⟨l1,l2⟩:=next_loop V (wb V) N (List.replicate (16-wb V) 0) (by rw [List.length_replicate]) (wb_le V) (by rw [pow_wb];exact hN)
 unfold aggregate_Next crawlwayref53_Next
 rw [w1,w2,bindM_some,bindM_some,hi,hi2]
 unfold adr bt at *
 rw [l1,l2,pow_wb,bindM_some]
 unfold nx adr bt
 by_cases h:N+1<2 ^ wd V
 ·rw [if_pos h,if_pos h];exact ⟨rfl,rfl⟩
 ·rw [if_neg h,if_neg h];exact ⟨rfl,rfl⟩
theorem byte_ones(c s:Nat):(2 ^ c-1)/2 ^ (8*s)%256=2 ^ (min (c-8*s) 8)-1:=by
 apply Nat.eq_of_testBit_eq
 intro j
 rw [show (256:Nat)=2 ^ 8 from rfl,Nat.testBit_mod_two_pow,Nat.testBit_div_two_pow,Nat.testBit_two_pow_sub_one,Nat.testBit_two_pow_sub_one]
 rw [Bool.eq_iff_iff,Bool.and_eq_true,decide_eq_true_iff,decide_eq_true_iff,decide_eq_true_iff]
 omega
theorem add_or{N c a:Nat}(h:2 ^ c ∣ N)(ha:a<2 ^ c):N+a=N ||| a:=by
 obtain ⟨m,rfl⟩:=h
 exact Nat.two_pow_add_eq_or_of_lt ha m
theorem byte_or(x y s:Nat):(x ||| y)/2 ^ (8*s)%256=x/2 ^ (8*s)%256 ||| y/2 ^ (8*s)%256:=by
 apply Nat.eq_of_testBit_eq
 intro j
 rw [show (256:Nat)=2 ^ 8 from rfl]
 simp only [Nat.testBit_or,Nat.testBit_mod_two_pow,Nat.testBit_div_two_pow]
 cases decide (j<8)<;>simp
theorem get_bt{V:Int}{N i:Nat}(hi:i<wb V):(bt V N)[i]? = some (UInt8.ofNat (N/2 ^ (8*(wb V-1-i))%256)):=by
 unfold bt
 rw [List.getElem?_append_left (by rw [digs_length];exact hi),digs_get _ _ _ hi,pow256]
theorem last_own{V:Int}{k i:Nat}(hk:k≤wd V)(hi:i<wb V) :
  wr .u64 (if 8<(if wr .i64 (((wd V-k:Nat):Int)-(wr .i64 (8*(i:Int))))<0 then 0 else wr .i64 (((wd V-k:Nat):Int)-(wr .i64 (8*(i:Int))))) then 8 else (if wr .i64 (((wd V-k:Nat):Int)-(wr .i64 (8*(i:Int))))<0 then 0 else wr .i64 (((wd V-k:Nat):Int)-(wr .i64 (8*(i:Int))))))=((8-min (k-8*(wb V-1-i)) 8:Nat):Int):=by
 have hw:=wd_le V
 have hb:=wb_le V
 have hwb:=wd_wb V
 rw [wr_i64 (x:=8*(i:Int)) (by omega) (by omega),wr_i64 (by omega) (by omega)]
 have:(if 8<(if ((wd V-k:Nat):Int)-8*(i:Int)<0 then 0 else ((wd V-k:Nat):Int)-8*(i:Int)) then 8 else (if ((wd V-k:Nat):Int)-8*(i:Int)<0 then 0 else ((wd V-k:Nat):Int)-8*(i:Int)))=((8-min (k-8*(wb V-1-i)) 8:Nat):Int):=by
  split
  ·split at *<;>omega
  ·split<;>omega
 rw [this]
 exact wr_u64 (by omega) (by omega)
theorem last_loop{V:Int}{N k:Nat}(hk:k≤wd V)(h:2 ^ k ∣ N)(b:Int)(hb:b=((wd V-k:Nat):Int))(x:S_api_Prefix)(hx:x.f_Bits=b):∀ (f i:Nat),i+f=wb V →
  aggregate_last.l0 x (wd V:Int) (i:Int) (mkA V ((bt V (N+2 ^ k-1)).take i++(bt V N).drop i))=some (adr V (N+2 ^ k-1))
 | 0,i,hf=>by
  have e:ishr .i64 (wd V:Int) 3=(wb V:Int):=by
   have e:=ishr_nat .i64 (wd V) 3 (by decide)
   rw [show ((3:Nat):Int)=3 from rfl] at e
   rw [e,wd_wb,show (8*wb V)/2 ^ 3=wb V by omega]
  have hd:decide ((i:Int)<ishr .i64 (wd V:Int) 3)=false:=by rw [e];exact decide_eq_false (by omega)
  rw [aggregate_last.l0.eq_def,hd,if_neg Bool.false_ne_true]
  have hi:i=wb V:=by omega
  subst hi
  have:(bt V (N+2 ^ k-1)).take (wb V)++(bt V N).drop (wb V)=bt V (N+2 ^ k-1):=by
   unfold bt
   rw [List.take_append_of_le_length (by rw [digs_length];exact Nat.le_refl _),List.take_of_length_le (by rw [digs_length];exact Nat.le_refl _),List.drop_append_of_le_length (by rw [digs_length];exact Nat.le_refl _),List.drop_of_length_le (by rw [digs_length];exact Nat.le_refl _)]
   rfl
  rw [this];rfl
 | f+1,i,hf=>by
  have e:ishr .i64 (wd V:Int) 3=(wb V:Int):=by
   have e:=ishr_nat .i64 (wd V) 3 (by decide)
   rw [show ((3:Nat):Int)=3 from rfl] at e
   rw [e,wd_wb,show (8*wb V)/2 ^ 3=wb V by omega]
  have hwb:=wb_le V
  have hd:decide ((i:Int)<ishr .i64 (wd V:Int) 3)=true:=by rw [e];exact decide_eq_true (by omega)
  have hg:(0:Int)≤(i:Int)∧(i:Int)<16:=by omega
  have hib:i<wb V:=by omega
  have hA:(bt V (N+2 ^ k-1)).length=(bt V N).length:=by rw [bt_len,bt_len]
  have hl:((bt V (N+2 ^ k-1)).take i++(bt V N).drop i).length=16:=by rw [List.length_append,List.length_take,List.length_drop,bt_len,bt_len];omega
  have hbg:bg ((bt V (N+2 ^ k-1)).take i++(bt V N).drop i) i=N/2 ^ (8*(wb V-1-i))%256:=by
   unfold bg
   rw [List.getD_eq_getElem?_getD,List.getElem?_append_right (by rw [List.length_take,bt_len];omega),List.length_take,bt_len,List.getElem?_drop,show i+(i-min i 16)=i by omega,get_bt hib,Option.getD_some,UInt8.toNat_ofNat',Nat.mod_mod]
  rw [aggregate_last.l0.eq_def,hd,if_pos rfl,if_pos hg,hx,hb,last_own hk hib,if_pos (by omega),if_pos hg,get_mkA hl i (by omega),hbg]
  have hsh:ishr .u8 255 ((8-min (k-8*(wb V-1-i)) 8:Nat):Int)=((2 ^ (min (k-8*(wb V-1-i)) 8)-1:Nat):Int):=by
   have e2:=ishr_nat .u8 255 (8-min (k-8*(wb V-1-i)) 8) (by show _≤8;omega)
   rw [show ((255:Nat):Int)=255 from rfl] at e2
   rw [e2]
   congr 1
   generalize hm:min (k-8*(wb V-1-i)) 8=m
   have:m=0∨m=1∨m=2∨m=3∨m=4∨m=5∨m=6∨m=7∨m=8:=by omega
   rcases this with rfl | rfl | rfl | rfl | rfl | rfl | rfl | rfl | rfl<;>rfl
  have hor:ior .u8 ((N/2 ^ (8*(wb V-1-i))%256:Nat):Int) ((2 ^ (min (k-8*(wb V-1-i)) 8)-1:Nat):Int)=(((UInt8.ofNat ((N+2 ^ k-1)/2 ^ (8*(wb V-1-i))%256)).toNat:Nat):Int):=by
   have hp:2 ^ (min (k-8*(wb V-1-i)) 8)≤2 ^ 8:=Nat.pow_le_pow_right (by omega) (by omega)
   rw [ior_nat .u8 rfl _ _ (by show _<256;omega) (by show _<256;omega),ofNat_toNat (Nat.mod_lt _ (by omega))]
   congr 1
   have hpos:0<2 ^ k:=Nat.pow_pos (by omega)
   rw [←byte_ones,←byte_or,←add_or h (by omega)]
   congr 2
   omega
  rw [hsh,hor,set_mkA hl,set_step _ _ i _ hA (get_bt hib)]
  have hwi:wr .i64 ((i:Int)+1)=((i+1:Nat):Int):=by rw [wr_i64 (by omega) (by omega)];omega
  rw [hwi]
  exact last_loop hk h b hb x hx f (i+1) (by omega)
theorem last_prf{V:Int}(hf:fam V){N k:Nat}(hk:k≤wd V)(h:2 ^ k ∣ N):aggregate_last (prf V N k)=some (adr V (N+2 ^ k-1)):=by
 unfold aggregate_last
 show (addr_Width (adr V N)>>=fun t4=>aggregate_last.l0 (prf V N k) t4 0 (adr V N)>>=fun q5=>some q5)=_
 rw [(adr_width hf N).1,bindM_some]
 have:=last_loop hk h _ rfl (prf V N k) rfl (wb V) 0 (by omega)
 rw [List.take_zero,List.drop_zero,List.nil_append] at this
 show (aggregate_last.l0 (prf V N k) (wd V:Int) ((0:Nat):Int) (mkA V (bt V N))>>=_)=_
 rw [this];rfl
end Go.Proofs.Ytahlbjmafceoeaa.Agg
namespace Go.Proofs.Ytahlbjmafceoeaa.Agg
open E Go.RowKit Adr Cid
theorem refl1_loop(i:Nat)(hi:i≤1000):∀ (f j n:Nat),j+f=i%8→n<256→crawlwayref53_last.l1 (i:Int) (n:Int) (j:Int)=some ((n/2 ^ f:Nat):Int)
 | 0,j,n,hf,hn=>by
  have e:Int.tmod (i:Int) 8=((i%8:Nat):Int):=by rw [Int.tmod_eq_emod_of_nonneg (by omega)];omega
  rw [crawlwayref53_last.l1.eq_def,e,decide_eq_false (by omega),if_neg Bool.false_ne_true,Nat.pow_zero,Nat.div_one]
 | f+1,j,n,hf,hn=>by
  have e:Int.tmod (i:Int) 8=((i%8:Nat):Int):=by rw [Int.tmod_eq_emod_of_nonneg (by omega)];omega
  have e2:wr .i64 (Int.tdiv (n:Int) 2)=((n/2:Nat):Int):=by
   rw [Int.tdiv_eq_ediv_of_nonneg (by omega),wr_i64 (by omega) (by omega)];omega
  have e3:wr .i64 ((j:Int)+1)=((j+1:Nat):Int):=by rw [wr_i64 (by omega) (by omega)];omega
  rw [crawlwayref53_last.l1.eq_def,e,decide_eq_true (by omega),if_pos rfl,e2,e3,refl1_loop i hi f (j+1) (n/2) (by omega) (by omega),Nat.div_div_eq_div_mul,Nat.pow_succ,Nat.mul_comm 2]
theorem byte_at(e s:Nat):2 ^ e/2 ^ (8*s)%256=if 8*s≤e∧e<8*s+8 then 2 ^ (e-8*s) else 0:=by
 apply Nat.eq_of_testBit_eq
 intro j
 rw [show (256:Nat)=2 ^ 8 from rfl,Nat.testBit_mod_two_pow,Nat.testBit_div_two_pow,Nat.testBit_two_pow]
 split
 ·rw [Nat.testBit_two_pow,Bool.eq_iff_iff,Bool.and_eq_true,decide_eq_true_iff,decide_eq_true_iff,decide_eq_true_iff];omega
 ·rw [Nat.zero_testBit,Bool.eq_iff_iff,Bool.and_eq_true,decide_eq_true_iff,decide_eq_true_iff]
  constructor
  ·rintro ⟨_,_⟩;omega
  ·intro h;cases h
theorem bg_add{V:Int}{X e i:Nat}(hX:2 ^ (e+1) ∣ X)(hi:i<wb V) :
  bg (bt V (X+2 ^ e)) i=if 8*(wb V-1-i)≤e∧e<8*(wb V-1-i)+8 then bg (bt V X) i+2 ^ (e-8*(wb V-1-i)) else bg (bt V X) i:=by
 rw [bg_bt,bg_bt,if_pos hi,if_pos hi,pow256,add_or (c:=e+1) hX (Nat.pow_lt_pow_right (by omega) (by omega)),byte_or,byte_at]
 generalize wb V-1-i=s
 split
 ·next h =>
  have h1:2 ^ (e-8*s+1) ∣ X/2 ^ (8*s)%256:=by
   have h2:2 ^ (e-8*s+1) ∣ X/2 ^ (8*s):=by
    refine (Nat.dvd_div_iff_mul_dvd ?_).2 ?_
    ·exact Nat.dvd_trans (Nat.pow_dvd_pow 2 (by omega)) hX
    ·rw [←Nat.pow_add,show 8*s+(e-8*s+1)=e+1 by omega];exact hX
   refine (Nat.dvd_mod_iff ?_).2 h2
   exact Nat.pow_dvd_pow 2 (show e-8*s+1≤8 by omega)
  exact (add_or h1 (Nat.pow_lt_pow_right (by omega) (by omega))).symm
 ·rw [Nat.or_zero]
theorem reflast_loop{V:Int}{N k:Nat}(hk:k≤wd V)(h:2 ^ k ∣ N):∀ (f i:Nat),i+f=wd V→wd V-k≤i →
  crawlwayref53_last.l0 (wd V:Int) (i:Int) (adr V (N+2 ^ k-2 ^ (wd V-i)))=some (adr V (N+2 ^ k-1))
 | 0,i,hf,hi=>by
  have hw:=wd_le V
  rw [crawlwayref53_last.l0.eq_def,decide_eq_false (by omega),if_neg Bool.false_ne_true,show wd V-i=0 by omega,Nat.pow_zero]
 | f+1,i,hf,hi=>by
  have hw:=wd_le V
  have hwb:=wd_wb V
  have hb:=wb_le V
  have hd:decide ((i:Int)<(wd V:Int))=true:=decide_eq_true (by omega)
  have e8:wr .i64 (Int.tdiv (i:Int) 8)=((i/8:Nat):Int):=by rw [Int.tdiv_eq_ediv_of_nonneg (by omega),wr_i64 (by omega) (by omega)];omega
  have hg:(0:Int)≤((i/8:Nat):Int)∧((i/8:Nat):Int)<16:=by omega
  have hl1:=refl1_loop i (by omega) (i%8) 0 128 (by omega) (by omega)
  have hl1':crawlwayref53_last.l1 (i:Int) 128 0=some ((128/2 ^ (i%8):Nat):Int):=hl1
  obtain ⟨e,he⟩:∃ e,e=wd V-1-i:=⟨_,rfl⟩
  have hpe:2 ^ (wd V-i)=2 ^ e+2 ^ e:=by rw [show wd V-i=e+1 by omega,Nat.pow_succ];omega
  have hle:2 ^ (wd V-i)≤2 ^ k:=Nat.pow_le_pow_right (by omega) (by omega)
  have hX:2 ^ (e+1) ∣ N+2 ^ k-2 ^ (wd V-i):=by
   rw [show e+1=wd V-i by omega]
   refine Nat.dvd_sub ?_ (Nat.dvd_refl _)
   exact Nat.dvd_add (Nat.dvd_trans (Nat.pow_dvd_pow 2 (by omega)) h) (Nat.pow_dvd_pow 2 (by omega))
  have hnext:N+2 ^ k-2 ^ (wd V-(i+1))=N+2 ^ k-2 ^ (wd V-i)+2 ^ e:=by
   rw [hpe,show wd V-(i+1)=e by omega];omega
  rw [crawlwayref53_last.l0.eq_def,hd,if_pos rfl,hl1',bindM_some,e8,if_pos hg,if_pos hg]
  generalize hXX:N+2 ^ k-2 ^ (wd V-i)=X at hX hnext
  have hq:i/8<wb V:=by omega
  have hs:8*(wb V-1-i/8)≤e∧e<8*(wb V-1-i/8)+8:=by omega
  have hbit:=bg_add (V:=V) hX hq
  rw [if_pos hs,show e-8*(wb V-1-i/8)=7-i%8 by omega] at hbit
  have h128:128/2 ^ (i%8)=2 ^ (7-i%8):=by
   have:i%8=0∨i%8=1∨i%8=2∨i%8=3∨i%8=4∨i%8=5∨i%8=6∨i%8=7:=by omega
   rcases this with h | h | h | h | h | h | h | h<;>rw [h]<;>rfl
  have hsmall:2 ^ (7-i%8)≤2 ^ 7:=Nat.pow_le_pow_right (by omega) (by omega)
  have hlt:=bg_lt (bt V (X+2 ^ e)) (i/8)
  have hset:({ adr V X with f_B:=vset (adr V X).f_B ((i/8:Nat):Int) (wr .u8 ((vget (adr V X).f_B ((i/8:Nat):Int))+(wr .u8 ((128/2 ^ (i%8):Nat):Int)))) }:S_api_Addr)=adr V (X+2 ^ e):=by
   have hw1:wr .u8 ((128/2 ^ (i%8):Nat):Int)=((2 ^ (7-i%8):Nat):Int):=by rw [h128];clear h128;exact wr_u8 (Int.natCast_nonneg _) (by omega)
   have hgx:vget (adr V X).f_B ((i/8:Nat):Int)=(bg (bt V X) (i/8):Int):=get_mkA (bt_len V X) _ (by omega)
   rw [hw1,hgx]
   have hw2:wr .u8 ((bg (bt V X) (i/8):Int)+((2 ^ (7-i%8):Nat):Int))=(((UInt8.ofNat (bg (bt V (X+2 ^ e)) (i/8))).toNat:Nat):Int):=by
    rw [ofNat_toNat hlt,hbit]
    clear hw1 h128 hl1 hl1'
    generalize 2 ^ (7-i%8)=t at hbit hsmall ⊢
    rw [wr_u8 (by omega) (by omega)];omega
   rw [hw2]
   show ({ mkA V (bt V X) with f_B:=vset (mkA V (bt V X)).f_B ((i/8:Nat):Int) _ }:S_api_Addr)=_
   rw [set_mkA (bt_len V X)]
   unfold adr
   congr 1
   refine bg_ext (by rw [List.length_set,bt_len]) (bt_len _ _) fun j hj=>?_
   by_cases hji:i/8=j
   ·subst hji
    unfold bg
    rw [List.getD_eq_getElem?_getD,List.getElem?_set_self (by rw [bt_len];omega),Option.getD_some]
    exact ofNat_toNat hlt
   ·have:bg ((bt V X).set (i/8) (UInt8.ofNat (bg (bt V (X+2 ^ e)) (i/8)))) j=bg (bt V X) j:=by
     unfold bg
     rw [List.getD_eq_getElem?_getD,List.getElem?_set_ne hji,←List.getD_eq_getElem?_getD]
    rw [this]
    by_cases hjb:j<wb V
    ·rw [bg_add hX hjb,if_neg (by omega)]
    ·rw [bg_bt,bg_bt,if_neg hjb,if_neg hjb]
  rw [hset]
  have hwi:wr .i64 ((i:Int)+1)=((i+1:Nat):Int):=by rw [wr_i64 (by omega) (by omega)];omega
  rw [hwi,←hnext]
  exact reflast_loop hk h f (i+1) (by omega) (by omega)
theorem reflast_prf{V:Int}(hf:fam V){N k:Nat}(hk:k≤wd V)(h:2 ^ k ∣ N):crawlwayref53_last (prf V N k)=some (adr V (N+2 ^ k-1)):=by
 unfold crawlwayref53_last
 show (crawlwayref10_Width (adr V N)>>=fun t4=>crawlwayref53_last.l0 t4 ((wd V-k:Nat):Int) (adr V N)>>=fun q5=>some q5)=_
 rw [(adr_width hf N).2,bindM_some]
 have:=reflast_loop hk h k (wd V-k) (by omega) (Nat.le_refl _)
 rw [show wd V-(wd V-k)=k by omega,Nat.add_sub_cancel] at this
 rw [this];rfl
structure IsG (w N M k:Nat):Prop where
 le:k≤w
 dvd:2 ^ k ∣ N
 fit:N+2 ^ k≤M+1
 top:∀ j,j≤w→2 ^ j ∣ N→N+2 ^ j≤M+1→j≤k
theorem low_loop{V:Int}(hf:fam V){N:Nat}:∀ (f n:Nat),n+f=wd V→2 ^ n ∣ N→∃ z:Nat,aggregate_low.l0 (adr V N) (n:Int) (((wd V:Nat):Int)-1-(n:Int))=some (z:Int)∧z≤wd V∧2 ^ z ∣ N∧(z<wd V→¬ 2 ^ (z+1) ∣ N)
 | 0,n,hn,hd=>by
  refine ⟨n,?_,by omega,hd,by omega⟩
  rw [aggregate_low.l0.eq_def,decide_eq_false (by omega),if_neg Bool.false_ne_true]
 | f+1,n,hn,hd=>by
  have hw:=wd_le V
  have hi:(((wd V:Nat):Int)-1-(n:Int))=((wd V-1-n:Nat):Int):=by omega
  have hbit:addr_Bit (adr V N) ((wd V-1-n:Nat):Int)=some ((N/2 ^ n%2:Nat):Int):=by
   unfold adr
   rw [bit_code (bt_len V N) (by omega),width_bt hf,if_pos (by omega),Int.toNat_natCast,bit_bt (by omega),show wd V-1-(wd V-1-n)=n by omega]
  rw [aggregate_low.l0.eq_def,hi,decide_eq_true (by omega),if_pos rfl,hbit,bindM_some]
  have h2:N/2 ^ n%2=0↔2 ^ (n+1) ∣ N:=by
   obtain ⟨m,rfl⟩:=hd
   rw [Nat.mul_div_cancel_left _ (Nat.pow_pos (by omega)),Nat.pow_succ]
   constructor
   ·intro h;exact Nat.mul_dvd_mul_left _ (Nat.dvd_of_mod_eq_zero h)
   ·intro h;exact Nat.mod_eq_zero_of_dvd (Nat.dvd_of_mul_dvd_mul_left (Nat.pow_pos (by omega)) h)
  by_cases h0:N/2 ^ n%2=0
  ·have hq:(((N/2 ^ n%2:Nat):Int)==0)=true:=by rw [h0];rfl
   have e1:wr .i64 ((n:Int)+1)=((n+1:Nat):Int):=by rw [wr_i64 (by omega) (by omega)];omega
   have e2:wr .i64 (((wd V-1-n:Nat):Int)-1)=((wd V:Nat):Int)-1-((n+1:Nat):Int):=by rw [wr_i64 (by omega) (by omega)];omega
   rw [hq,if_pos rfl,e1,e2]
   exact low_loop hf f (n+1) (by omega) (h2.1 h0)
  ·have hq:(((N/2 ^ n%2:Nat):Int)==0)=false:=by rw [beq_eq_false_iff_ne];omega
   rw [hq,if_neg Bool.false_ne_true]
   exact ⟨n,rfl,by omega,hd,fun _=>fun h=>h0 (h2.2 h)⟩
theorem great_loop{V:Int}(hf:fam V){N M:Nat}(hM:M<2 ^ wd V)(hNM:N≤M):∀ (j:Nat),j≤wd V→2 ^ j ∣ N→(∀ i,i≤wd V→2 ^ i ∣ N→N+2 ^ i≤M+1→i≤j) →
  ∃ k,IsG (wd V) N M k∧aggregate_greatest.l0 (adr V N) (adr V M) ((wd V-j:Nat):Int) (prf V N j)=some (prf V N k)
 | j,hj,hd,ht=>by
  have hw:=wd_le V
  have hpj:0<2 ^ j:=Nat.pow_pos (by omega)
  rw [aggregate_greatest.l0.eq_def,last_prf hf hj hd,bindM_some]
  have hend:N+2 ^ j-1<2 ^ wd V:=by
   have hN:N<2 ^ wd V:=by omega
   obtain ⟨m,rfl⟩:=hd
   have e:2 ^ wd V=2 ^ j*2 ^ (wd V-j):=by rw [←Nat.pow_add];congr 1;omega
   rw [e] at hN ⊢
   have:=Nat.lt_of_mul_lt_mul_left hN
   have h3:2 ^ j*(m+1)≤2 ^ j*2 ^ (wd V-j):=Nat.mul_le_mul_left _ this
   rw [Nat.mul_add,Nat.mul_one] at h3
   omega
  rw [(adr_less hM hend).1,bindM_some]
  unfold ltA
  rw [if_pos rfl]
  by_cases h:M<N+2 ^ j-1
  ·rw [decide_eq_true h,if_pos rfl]
   cases j with
   | zero=>simp at h;omega
   | succ j =>
    have e1:wr .i64 (((wd V-(j+1):Nat):Int)+1)=((wd V-j:Nat):Int):=by rw [wr_i64 (by omega) (by omega)];omega
    have hd':2 ^ j ∣ N:=Nat.dvd_trans (Nat.pow_dvd_pow 2 (by omega)) hd
    rw [e1,of_adr hf (by omega) hd',bindM_some]
    refine great_loop hf hM hNM j (by omega) hd' fun i hi h1 h2=>?_
    have:=ht i hi h1 h2
    have hne:i≠j+1:=fun e=>by subst e;omega
    omega
  ·rw [decide_eq_false h,if_neg Bool.false_ne_true]
   exact ⟨j,⟨hj,hd,by omega,ht⟩,rfl⟩
theorem great_code{V:Int}(hf:fam V){N M:Nat}(hM:M<2 ^ wd V)(hNM:N≤M):∃ k,IsG (wd V) N M k∧aggregate_greatest (adr V N) (adr V M)=some (prf V N k):=by
 have hw:=wd_le V
 obtain ⟨z,hz,hz1,hz2,hz3⟩:=low_loop hf (N:=N) (wd V) 0 (by omega) (by simp)
 have hlow:aggregate_low (adr V N)=some (z:Int):=by
  unfold aggregate_low
  rw [(adr_width hf N).1,bindM_some,wr_i64 (by omega) (by omega)]
  have:(((wd V:Nat):Int)-1-((0:Nat):Int))=((wd V:Nat):Int)-1:=by omega
  rw [this] at hz
  show (aggregate_low.l0 (adr V N) ((0:Nat):Int) _>>=_)=_
  rw [hz];rfl
 have e1:wr .i64 ((wd V:Int)-(z:Int))=((wd V-z:Nat):Int):=by rw [wr_i64 (by omega) (by omega)];omega
 obtain ⟨k,hk,hg⟩:=great_loop hf hM hNM z hz1 hz2 fun i hi h1 _=>by
  rcases Nat.lt_or_ge z i with h | h
  ·exact absurd (Nat.dvd_trans (Nat.pow_dvd_pow 2 h) h1) (hz3 (by omega))
  ·exact h
 refine ⟨k,hk,?_⟩
 unfold aggregate_greatest
 rw [(adr_width hf N).1,bindM_some,hlow,bindM_some,e1,of_adr hf hz1 hz2,bindM_some]
 show (aggregate_greatest.l0 (adr V N) (adr V M) ((wd V-z:Nat):Int) (prf V N z)>>=fun q8=>some q8)=_
 rw [hg];rfl
theorem IsG.uniq{w N M k k':Nat}(h:IsG w N M k)(h':IsG w N M k'):k=k':=Nat.le_antisymm (h'.top k h.le h.dvd h.fit) (h.top k' h'.le h'.dvd h'.fit)
theorem refg_loop{V:Int}(hf:fam V){N M k:Nat}(hM:M<2 ^ wd V)(hg:IsG (wd V) N M k):∀ (f b:Nat),b+f=wd V-k →
  crawlwayref53_Prefixes.l1 (adr V M) (adr V N) (b:Int)=some ((wd V-k:Nat):Int)
 | f,b,hb=>by
  have hw:=wd_le V
  have hk:=hg.le
  have hN:N<2 ^ wd V:=by have:=hg.fit;have:0<2 ^ k:=Nat.pow_pos (by omega);omega
  have hj:wd V-(wd V-b)=b:=by omega
  have hz:({ { ({ f_A:=({ f_V:=(0:Int),f_B:=(Vector.replicate 16 (0:Int):(Vector Int 16)) }:S_api_Addr),f_Bits:=(0:Int) }:S_api_Prefix) with f_A:=adr V N } with f_Bits:=(b:Int) }:S_api_Prefix)=prf V N (wd V-b):=by
   unfold prf mkP;rw [hj]
  have hwi:wr .i64 ((b:Int)+1)=((b+1:Nat):Int):=by rw [wr_i64 (by omega) (by omega)];omega
  rw [crawlwayref53_Prefixes.l1.eq_def,mask_adr hf (by omega),bindM_some,hz,hwi]
  have hMl:N/2 ^ (wd V-b)*2 ^ (wd V-b)<2 ^ wd V:=Nat.lt_of_le_of_lt (Nat.div_mul_le_self _ _) hN
  by_cases hd:2 ^ (wd V-b) ∣ N
  ·have he:decide (adr V (N/2 ^ (wd V-b)*2 ^ (wd V-b))=adr V N)=true:=decide_eq_true (by rw [aligned hd])
   have hpj:0<2 ^ (wd V-b):=Nat.pow_pos (by omega)
   have hend:N+2 ^ (wd V-b)-1<2 ^ wd V:=by
    obtain ⟨m,rfl⟩:=hd
    have e:2 ^ wd V=2 ^ (wd V-b)*2 ^ b:=by rw [←Nat.pow_add];congr 1;omega
    rw [e] at hN ⊢
    have:=Nat.lt_of_mul_lt_mul_left hN
    have h3:2 ^ (wd V-b)*(m+1)≤2 ^ (wd V-b)*2 ^ b:=Nat.mul_le_mul_left _ this
    rw [Nat.mul_add,Nat.mul_one] at h3
    omega
   rw [he,if_neg (by decide),reflast_prf hf (by omega) hd,bindM_some,(adr_less hM hend).2,bindM_some]
   unfold ltA
   rw [if_pos rfl]
   by_cases hlt:M<N+2 ^ (wd V-b)-1
   ·rw [decide_eq_true hlt,if_pos rfl]
    cases f with
    | zero =>
     have:wd V-b=k:=by omega
     rw [this] at hlt
     have:=hg.fit;omega
    | succ f=>exact refg_loop hf hM hg f (b+1) (by omega)
   ·rw [decide_eq_false hlt,if_neg Bool.false_ne_true]
    have:=hg.top (wd V-b) (by omega) hd (by omega)
    rw [show wd V-k=b by omega]
  ·have he:decide (adr V (N/2 ^ (wd V-b)*2 ^ (wd V-b))=adr V N)=false:=by
    refine decide_eq_false fun e=>hd ?_
    have e2:=((adr_inj hMl hN).1 e).2
    exact ⟨N/2 ^ (wd V-b),by rw [Nat.mul_comm];exact e2.symm⟩
   rw [he,if_pos (by decide)]
   cases f with
   | zero =>
    have:wd V-b=k:=by omega
    rw [this] at hd
    exact absurd hg.dvd hd
   | succ f=>exact refg_loop hf hM hg f (b+1) (by omega)
end Go.Proofs.Ytahlbjmafceoeaa.Agg
namespace Go.Proofs.Ytahlbjmafceoeaa.Agg
open E Go.RowKit Adr Cid
inductive Cov (w M:Nat):Nat→List (Nat×Nat)→Prop
 | last {N k:Nat} (h:IsG w N M k) (e:M<N+2 ^ k):Cov w M N [(N,k)]
 | step {N k:Nat} {L:List (Nat×Nat)} (h:IsG w N M k) (e:N+2 ^ k≤M) (t:Cov w M (N+2 ^ k) L):Cov w M N ((N,k)::L)
theorem max_ex(p:Nat→Prop)(h0:p 0):∀ w,∃ k,k≤w∧p k∧∀ j,j≤w→p j→j≤k
 | 0=>⟨0,Nat.le_refl _,h0,fun j hj _=>hj⟩
 | w+1=>by
  by_cases h:p (w+1)
  ·exact ⟨w+1,Nat.le_refl _,h,fun j hj _=>hj⟩
  ·obtain ⟨k,h1,h2,h3⟩:=max_ex p h0 w
   refine ⟨k,by omega,h2,fun j hj hp=>h3 j ?_ hp⟩
   have:j≠w+1:=fun e=>h (e▸hp)
   omega
theorem isG_ex(w:Nat){N M:Nat}(h:N≤M):∃ k,IsG w N M k:=by
 obtain ⟨k,h1,h2,h3⟩:=max_ex (fun j=>2 ^ j ∣ N∧N+2 ^ j≤M+1) ⟨by simp,by simpa using h⟩ w
 exact ⟨k,h1,h2.1,h2.2,fun j hj a b=>h3 j hj ⟨a,b⟩⟩
theorem covB{w M:Nat}:∀ (j N:Nat),j≤w→2 ^ j ∣ N→N≤M→M+1<N+2 ^ j→∃ L,Cov w M N L∧L.length≤j:=by
 intro j
 induction j using Nat.strongRecOn with
 | ind j ih =>
  intro N hj hd hN hr
  obtain ⟨k,hk⟩:=isG_ex w hN
  have hkj:k<j:=by
   rcases Nat.lt_or_ge k j with h | h
   ·exact h
   ·have:=Nat.pow_le_pow_right (show 0<2 by omega) h
    have:=hk.fit;omega
  by_cases e:M<N+2 ^ k
  ·exact ⟨_,.last hk e,by simp;omega⟩
  ·have hd':2 ^ (k+1) ∣ N:=Nat.dvd_trans (Nat.pow_dvd_pow 2 hkj) hd
   have hnf:¬ N+2 ^ (k+1)≤M+1:=fun h=>by have:=hk.top (k+1) (by omega) hd' h;omega
   rw [Nat.pow_succ] at hnf
   obtain ⟨L,h1,h2⟩:=ih k hkj (N+2 ^ k) (by omega) (Nat.dvd_add hk.dvd (Nat.dvd_refl _)) (by omega) (by omega)
   exact ⟨(N,k)::L,.step hk (show N+2 ^ k≤M by omega) h1,by rw [List.length_cons];omega⟩
theorem covA{w M:Nat}(hM:M<2 ^ w):∀ (f j N:Nat),j+f=w→2 ^ j ∣ N→N≤M→∃ L,Cov w M N L∧L.length≤f+w+1:=by
 intro f
 induction f using Nat.strongRecOn with
 | ind f ih =>
  intro j N hf hd hN
  obtain ⟨k,hk⟩:=isG_ex w hN
  by_cases hs:M+1<N+2 ^ j
  ·obtain ⟨L,h1,h2⟩:=covB (w:=w) (M:=M) j N (by omega) hd hN hs
   exact ⟨L,h1,by omega⟩
  ·have hjk:=hk.top j (by omega) hd (by omega)
   by_cases e:M<N+2 ^ k
   ·exact ⟨_,.last hk e,by simp⟩
   ·have hkw:k<w:=by
     rcases Nat.lt_or_ge k w with h | h
     ·exact h
     ·have:=Nat.pow_le_pow_right (show 0<2 by omega) h;omega
    by_cases h2:2 ^ (k+1) ∣ N
    ·have hnf:¬ N+2 ^ (k+1)≤M+1:=fun h=>by have:=hk.top (k+1) (by omega) h2 h;omega
     rw [Nat.pow_succ] at hnf
     obtain ⟨L,h3,h4⟩:=covB (w:=w) (M:=M) k (N+2 ^ k) (by omega) (Nat.dvd_add hk.dvd (Nat.dvd_refl _)) (by omega) (by omega)
     exact ⟨(N,k)::L,.step hk (show N+2 ^ k≤M by omega) h3,by rw [List.length_cons];omega⟩
    ·have h3:2 ^ (k+1) ∣ N+2 ^ k:=by
      obtain ⟨m,hm⟩:=hk.dvd
      have hodd:m%2=1:=by
       rcases Nat.mod_two_eq_zero_or_one m with h | h
       ·exfalso;apply h2
        rw [hm,Nat.pow_succ]
        exact Nat.mul_dvd_mul_left _ (Nat.dvd_of_mod_eq_zero h)
       ·exact h
      rw [hm,Nat.pow_succ,show 2 ^ k*m+2 ^ k=2 ^ k*(m+1) by rw [Nat.mul_add,Nat.mul_one]]
      exact Nat.mul_dvd_mul_left _ (Nat.dvd_of_mod_eq_zero (by omega))
     obtain ⟨L,h4,h5⟩:=ih (w-(k+1)) (by omega) (k+1) (N+2 ^ k) (by omega) h3 (by omega)
     exact ⟨(N,k)::L,.step hk (show N+2 ^ k≤M by omega) h4,by rw [List.length_cons];omega⟩
theorem cov_ex{w M N:Nat}(hM:M<2 ^ w)(hN:N≤M):∃ L,Cov w M N L∧L.length≤w+w+1:=covA hM w 0 N (by omega) (by simp) hN
theorem Cov.uniq{w M N:Nat}{L L':List (Nat×Nat)}(h:Cov w M N L):Cov w M N L'→L=L':=by
 induction h generalizing L' with
 | last h e =>
  intro h'
  cases h' with
  | last h2 e2=>rw [h.uniq h2]
  | step h2 e2 t2=>have:=h.uniq h2;subst this;omega
 | step h e t ih =>
  intro h'
  cases h' with
  | last h2 e2=>have:=h.uniq h2;subst this;omega
  | step h2 e2 t2=>have:=h.uniq h2;subst this;rw [ih t2]
def toP(V:Int)(L:List (Nat×Nat)):List S_api_Prefix:=L.map fun p=>prf V p.1 p.2
theorem toP_cons(V:Int)(N k:Nat)(L:List (Nat×Nat)):toP V ((N,k)::L)=prf V N k::toP V L:=rfl
theorem prf_lit(V:Int)(N k:Nat):({ { ({ f_A:=({ f_V:=(0:Int),f_B:=(Vector.replicate 16 (0:Int):(Vector Int 16)) }:S_api_Addr),f_Bits:=(0:Int) }:S_api_Prefix) with f_A:=adr V N } with f_Bits:=((wd V-k:Nat):Int) }:S_api_Prefix)=prf V N k:=rfl
theorem pref_loop{V:Int}(hf:fam V){M:Nat}(hM:M<2 ^ wd V)(x:S_aggregate_Range)(hx:x.f_To=adr V M){N:Nat}{L:List (Nat×Nat)}(h:Cov (wd V) M N L):∀ (out:List S_api_Prefix),out.length+L.length≤1000000 →
  aggregate_Prefixes.l0 x out (adr V N)=some (out++toP V L)∧crawlwayref53_Prefixes.l0 (adr V M) out (adr V N)=some (out++toP V L):=by
 induction h with
 | @last N k h e =>
  intro out ho
  have hk:=h.le
  have hp:0<2 ^ k:=Nat.pow_pos (by omega)
  have hfit:=h.fit
  obtain ⟨k',h',hg⟩:=great_code hf hM (show N≤M by omega)
  have:=h.uniq h';subst this
  have hr:=refg_loop hf hM h (wd V-k) 0 (by omega)
  have hend:N+2 ^ k-1=M:=by omega
  obtain ⟨n1,n2⟩:=next_adr hf hM
  have hlen:out.length+1≤1000000:=by simpa using ho
  rw [aggregate_Prefixes.l0.eq_def,crawlwayref53_Prefixes.l0.eq_def,hx,hg,bindM_some,show (0:Int)=((0:Nat):Int) from rfl,hr,bindM_some,if_pos (by omega),if_pos (by omega),last_prf hf hk h.dvd,bindM_some,prf_lit,reflast_prf hf hk h.dvd,bindM_some,hend,n1,n2,bindM_some,bindM_some]
  unfold nx
  by_cases hl:M+1<2 ^ wd V
  ·rw [if_pos hl,if_neg (by simp),if_neg (by simp)]
   obtain ⟨l1,l2⟩:=adr_less hM (W:=V) hl
   rw [l1,l2,bindM_some,bindM_some]
   unfold ltA
   rw [if_pos rfl,decide_eq_true (by omega),if_pos rfl,if_pos rfl]
   exact ⟨rfl,rfl⟩
  ·rw [if_neg hl,if_pos (by simp),if_pos (by simp)]
   exact ⟨rfl,rfl⟩
 | @step N k L h e t ih =>
  intro out ho
  have hk:=h.le
  have hp:0<2 ^ k:=Nat.pow_pos (by omega)
  have hfit:=h.fit
  obtain ⟨k',h',hg⟩:=great_code hf hM (show N≤M by omega)
  have:=h.uniq h';subst this
  have hr:=refg_loop hf hM h (wd V-k) 0 (by omega)
  have hN1:N+2 ^ k-1<2 ^ wd V:=by omega
  have hN2:N+2 ^ k-1+1=N+2 ^ k:=by omega
  have hN3:N+2 ^ k<2 ^ wd V:=by omega
  obtain ⟨n1,n2⟩:=next_adr hf hN1
  have hlen:out.length+(L.length+1)≤1000000:=by simpa using ho
  rw [aggregate_Prefixes.l0.eq_def,crawlwayref53_Prefixes.l0.eq_def,hx,hg,bindM_some,show (0:Int)=((0:Nat):Int) from rfl,hr,bindM_some,if_pos (by omega),if_pos (by omega),last_prf hf hk h.dvd,bindM_some,prf_lit,reflast_prf hf hk h.dvd,bindM_some,n1,n2,bindM_some,bindM_some]
  unfold nx
  rw [hN2,if_pos hN3,if_neg (by simp),if_neg (by simp)]
  obtain ⟨l1,l2⟩:=adr_less hM (W:=V) hN3
  rw [l1,l2,bindM_some,bindM_some]
  unfold ltA
  rw [if_pos rfl,decide_eq_false (by omega),if_neg (by decide),if_neg (by decide)]
  obtain ⟨i1,i2⟩:=ih (out++[prf V N k]) (by simp;omega)
  rw [i1,i2,toP_cons,List.append_assoc]
  exact ⟨rfl,rfl⟩
def rng(V:Int)(N M:Nat):S_aggregate_Range:=⟨adr V N,adr V M⟩
theorem rright{V W:Int}(hf:fam V)(hg:fam W){N M:Nat}(hN:N<2 ^ wd V)(hM:M<2 ^ wd W):aggregate_Right ⟨adr V N,adr W M⟩=some (decide (V=W)&&!ltA W M V N)∧crawlwayref53_Right (adr V N) (adr W M)=some (decide (V=W)&&!ltA W M V N):=by
 obtain ⟨a1,a2⟩:=adr_right hf N
 obtain ⟨b1,b2⟩:=adr_right hg M
 obtain ⟨l1,l2⟩:=adr_less hM hN
 unfold aggregate_Right crawlwayref53_Right
 show (addr_Right (adr V N)>>=fun t2=>if t2=true then (addr_Right (adr W M)>>=fun t4=>if t4=true then (if (V==W)=true then (addr_Less (adr W M) (adr V N)>>=fun t7=>some (!t7)) else (some false)) else (some false)) else (some false))=_∧(crawlwayref10_Right (adr V N)>>=fun t3=>if t3=true then (crawlwayref10_Right (adr W M)>>=fun t5=>if t5=true then (if (V==W)=true then (crawlwayref10_Less (adr W M) (adr V N)>>=fun t8=>some (!t8)) else (some false)) else (some false)) else (some false))=_
 rw [a1,a2,b1,b2,bindM_some,bindM_some,if_pos rfl,bindM_some,if_pos rfl,if_pos rfl,bindM_some,if_pos rfl,l1,l2]
 by_cases h:V=W
 ·subst h
  simp [bindM_some]
 ·have:(V==W)=false:=by simpa using h
  rw [this,decide_eq_false h]
  exact ⟨rfl,rfl⟩
theorem prefixes_code{V:Int}(hf:fam V){N M:Nat}(hM:M<2 ^ wd V)(hN:N≤M):∃ L,Cov (wd V) M N L∧L.length≤257∧aggregate_Prefixes (rng V N M)=some (toP V L)∧crawlwayref53_Prefixes (adr V N) (adr V M)=some (toP V L):=by
 have hw:=wd_le V
 obtain ⟨L,h1,h2⟩:=cov_ex hM hN
 refine ⟨L,h1,by omega,?_⟩
 obtain ⟨r1,r2⟩:=rright hf hf (show N<2 ^ wd V by omega) hM
 obtain ⟨p1,p2⟩:=pref_loop hf hM (rng V N M) rfl h1 [] (by simp;omega)
 unfold aggregate_Prefixes crawlwayref53_Prefixes rng at *
 have hr:(decide (V=V)&&!ltA V M V N)=true:=by
  unfold ltA
  rw [if_pos rfl,decide_eq_true rfl,decide_eq_false (by omega)];rfl
 rw [r1,r2,bindM_some,bindM_some,hr,if_neg (by decide),if_neg (by decide)]
 rw [List.nil_append] at p1 p2
 rw [p1,p2]
 exact ⟨rfl,rfl⟩
end Go.Proofs.Ytahlbjmafceoeaa.Agg
namespace Go.Proofs.Ytahlbjmafceoeaa
open E Go.RowKit _root_.Go.Proofs.Try
theorem infoA337_is:(Try.prog.info? 37).isSome=true:=by kernel_rfl
noncomputable def infoA337_v:TypeInfo:=(Try.prog.info? 37).get infoA337_is
theorem infoA337:Try.prog.info? 37=some infoA337_v:=(Option.some_get _).symm
def aggregate_Ranges_1(x0:S_api_Prefix):Option (Bool) :=
 cidr_Right x0>>=fun t2=>some (!t2)
theorem aggregate_Ranges_1_ok(x0:S_api_Prefix)(r:Bool)(hF:aggregate_Ranges_1 x0=some r)(w:World) :
    Calls Try.prog 46 #[.agg (Cd.cs c_api_Prefix x0).toArray] w (fun e w'=>e=.returned (.bool r)∧Below w.heap.size w w'):=by
 unfold aggregate_Ranges_1 at hF
 refine ce (l:=[.agg (Cd.cs c_api_Prefix x0).toArray]) func46 rfl rfl ?_
 refine at_start ?_
 refine sr ?_
 refine at_box (cs:=Cd.cs c_api_Prefix x0) rfl rfl rfl ?_
 intro b1
 refine aa (ns ?_)
 refine aw (r_load_aggc (c:=c_api_Prefix) (z:=x0) isAgg37 sizeOf37 rfl (lens_cell .z lw)) ?_
 obtain ⟨t2,ht2,hF⟩:=bM hF
 refine cB func47 rfl (fun w hw=>cidr_Right_ok _ _ ht2 w) ?_
 refine aw (r_not rfl) ?_
 refine aa (qn (dz (wq [2] ?_)))
 refine tn (qt ?_)
 have K:=os hF
 subst K
 exact r1 wb
def slices_IndexFunc_api_Prefix__aggregate_Ranges_1.l0(x0:List S_api_Prefix)(i2:Int):Option (Ctl (Int) (Unit)) :=
 if (decide (i2<(x0.length:Int)))=true then (if (0:Int)≤i2∧i2<(x0.length:Int) then aggregate_Ranges_1 (lget x0 i2)>>=fun t8=>if t8=true then (some (.ret i2)) else (slices_IndexFunc_api_Prefix__aggregate_Ranges_1.l0 x0 (wr .i64 (i2+1))) else none) else (some (.nx ()))
 partial_fixpoint
def slices_IndexFunc_api_Prefix__aggregate_Ranges_1(x0:List S_api_Prefix):Option (Int) :=
 slices_IndexFunc_api_Prefix__aggregate_Ranges_1.l0 x0 0>>=fun q1=>match q1 with | .ret r'=>some r' | .nx sq1=>(some (-1))
theorem slices_IndexFunc_api_Prefix__aggregate_Ranges_1_ok(x0:List S_api_Prefix)(p0_:Option Addr)(c0_:Nat)(r:Int)(hF:slices_IndexFunc_api_Prefix__aggregate_Ranges_1 x0=some r)(w:World)(hr0:Row c_api_Prefix w p0_ c0_ x0) :
    Calls Try.prog 74 #[.slice p0_ x0.length c0_,.func (.func 46) #[] #[]] w (fun e w'=>e=.returned (.int .i64 r)∧Below w.heap.size w w'):=by
 unfold slices_IndexFunc_api_Prefix__aggregate_Ranges_1 at hF
 refine ce (l:=[.slice p0_ x0.length c0_,.func (.func 46) #[] #[]]) func74 rfl rfl ?_
 refine at_start ?_
 refine sr (aa (nt (qs (sr (am ?_)))))
 refine aw (r_len_sl underlying27 rfl) ?_
 refine am (nwq [8,7,1,0] ?_)
 refine qb ?_
 obtain ⟨q1,hq1,hF⟩:=bM hF
 refine wq [8,7,1,0] ?_
 refine at_loop_r (B:=0) (r:=r) (q:=q1) (A:=fun (_:Unit) Y=>At 19 [] (Wd w []) Y) ?_ ?_
 ·intro K
  refine slices_IndexFunc_api_Prefix__aggregate_Ranges_1.l0.partial_correctness x0 (motive:=fun i2 x=>KR (fun (_:Unit) Y=>At 19 [] (Wd w []) Y) _ 0 r x→Round (fun Y=>At 19 [(0,.slice p0_ x0.length c0_),(1,.func (.func 46) #[] #[]),(7,.int .i64 (x0.length:Int)),(8,.int .i64 i2)] (Wd w []) Y) _ _ _) ?_ _ _ hq1 K
  ·clear K hF
   intro g ih i2 x hF K
   refine at_round ?_
   refine sr (aw xl (nwq [9,8,7,1,0] ?_))
   refine qs ?_
   obtain ⟨h3,hF⟩|⟨h3,hF⟩:=oi hF
   ·refine ct h3 ?_
    refine sn (qs ?_)
    refine qb ?_
    refine sr (am (aa (nwx [8,7,5,1,0] ?_)))
    refine am (am (am ?_))
    obtain ⟨h4,hF⟩:=gd hF
    obtain ⟨b6,o7,hp5⟩:=row_ptr hr0 h4
    refine aw (r_idx underlying27 sizeOf37 rfl rfl h4 hp5) ?_
    refine aw (r_load_aggc (c:=c_api_Prefix) (z:=lget x0 i2) isAgg37 sizeOf37 rfl (row_cell (fun _ h=>h.below) hr0 h4 hp5)) ?_
    refine at_callee rfl ?_
    obtain ⟨t8,ht8,hF⟩:=bM hF
    refine cB func46 rfl (fun w hw=>aggregate_Ranges_1_ok _ _ ht8 w) ?_
    refine nwq [16,8,7,5,1,0] ?_
    obtain ⟨h9,hF⟩|⟨h9,hF⟩:=oi hF
    ·refine ct h9 ?_
     refine sr (am (aa (nwq [4] ?_)))
     refine qt ?_
     refine br (tr (tr (br (tr ?_))))
     obtain rfl:=os hF
     subst K
     exact r1 wb
    refine cf h9 ?_
    refine at_skip ?_
    refine bm ?_
    refine qr (aw xa (am (nwq [8,7,1,0] ?_)))
    exact at_weak_k (ih _ _ hF K) ⟨rfl,rfl,rfl,rfl,trivial⟩
   refine cf h3 ?_
   refine at_exit ?_
   refine te (te ?_)
   obtain rfl:=os hF
   exact at_weak_k K trivial
 cases q1 with
 | ret r'=>exact os hF
 | nx sq1 =>
  skip
  refine at_blk_same ?_
  refine tn (sr (aa (nwq [4] ?_)))
  refine qt ?_
  have K:=os hF
  subst K
  exact r1 wb
def slices_Clone_api_Prefix(x0:List S_api_Prefix):Option (List S_api_Prefix):=if (0+x0.length)*32≤140737488355328 then some x0 else none
theorem slices_Clone_api_Prefix_ok(x0:List S_api_Prefix)(p:Option Addr)(cap:Nat)(r:List S_api_Prefix)(hF:slices_Clone_api_Prefix x0=some r)(w:World)(hr:Row c_api_Prefix w p cap x0) :
    Calls Try.prog 45 #[.slice p x0.length cap] w (fun e w'=>∃ p' cap',e=.returned (.slice p' r.length cap')∧Own c_api_Prefix 37 w.heap.size w' p' cap' r∧Below w.heap.size w w'):=by
 unfold slices_Clone_api_Prefix at hF
 obtain ⟨h,hF⟩:=gd hF
 obtain rfl:=os hF
 have heq:∀ w1,(binOp .eql 27 (.slice p x0.length cap) (.slice none 0 0)).run Try.prog w1=.ok (.bool p.isNone) w1:=fun w1=>Lib.run_eql_slice_nil w1 _ _ p x0.length cap 0 0 underlying27
 refine ce (l:=[.slice p x0.length cap]) func45 rfl rfl ?_
 refine at_start ?_
 refine sr (aa (qn (tn (qs (sr (am ?_))))))
 refine at_val (v:=.bool p.isNone) rfl rfl rfl (fun a w1 h _=>?_) ?_
 ·have hx:a.eval (.tmp 3)=.slice p x0.length cap:=h.eval rfl
  have hy:a.eval (.const (.slice none 0 0))=.slice none 0 0:=rfl
  have hg:∀ (t:TypeId) (x y:Operand),(eqGuard .eql t x y (.slice p x0.length cap) (.slice none 0 0)).run Try.prog w1=.ok () w1:=fun t x y=>rfl
  simp only [execOp,hx,hy,Sem.run_bind,hg,Result.andThen_ok,heq]
  rfl
 refine qn (tn ?_)
 rcases hp:p with _ | a0
 ·have hxs:x0=[]:=by
   rcases hr.2 with h0 | ⟨b,o,hb,_⟩
   ·exact h0
   ·rw [hp] at hb;cases hb
  subst hxs
  refine ct rfl ?_
  refine sr (aa (qn (tn (rt ?_))))
  exact r1 (fun w1 hw=>⟨none,0,rfl,Own.nil _ _ _ _,hw.below⟩)
 refine cf rfl ?_
 refine sns ?_
 refine at_lit0 c_api_Prefix underlying27 sizeOf37 rfl ?_
 intro b
 refine am ?_
 refine at_append_row (z:=.agg (Cd.cs c_api_Prefix zv2).toArray) (c:=c_api_Prefix) (ys:=x0) .z underlying27 infoA337 (by kernel_rfl) (by kernel_rfl) rfl rfl rfl (fun w1 hw=>hp▸hr.below hw.below) (by kernel_rfl) h (app_small h) rfl ?_
 intro p' cap'
 refine aa (qn (tn (qt ?_)))
 exact r1 (fun w1 hw=>⟨p',cap',rfl,hw.own .z,hw.below⟩)
def slices_DeleteFunc_api_Prefix__aggregate_Ranges_1.l0(i6:List S_api_Prefix)(i7:Int)(i9:Int):Option (List S_api_Prefix×Int) :=
 if (decide (i9<(i6.length:Int)))=true then (if (0:Int)≤i9∧i9<(i6.length:Int) then aggregate_Ranges_1 (lget i6 i9)>>=fun t20=>if (!t20)=true then (if (0:Int)≤i7∧i7<(i6.length:Int) then slices_DeleteFunc_api_Prefix__aggregate_Ranges_1.l0 (lset i6 i7 (lget i6 i9)) (wr .i64 (i7+1)) (wr .i64 (i9+1)) else none) else (slices_DeleteFunc_api_Prefix__aggregate_Ranges_1.l0 i6 i7 (wr .i64 (i9+1))) else none) else (some (i6,i7))
 partial_fixpoint
def slices_DeleteFunc_api_Prefix__aggregate_Ranges_1(x0:List S_api_Prefix):Option (List S_api_Prefix) :=
 slices_IndexFunc_api_Prefix__aggregate_Ranges_1 x0>>=fun t1=>if (t1==(-1))=true then (some x0) else (slices_DeleteFunc_api_Prefix__aggregate_Ranges_1.l0 x0 t1 (wr .i64 (t1+1))>>=fun q5=>if (0:Int)≤q5.2∧q5.2≤(q5.1.length:Int)∧(q5.1.length:Int)≤(q5.1.length:Int) then if (0:Int)≤q5.2∧q5.2≤((List.take (Int.toNat q5.2) q5.1++List.replicate (List.length q5.1-Int.toNat q5.2) ({ f_A:=({ f_V:=(0:Int),f_B:=(Vector.replicate 16 (0:Int):(Vector Int 16)) }:S_api_Addr),f_Bits:=(0:Int) }:S_api_Prefix)).length:Int) then some (List.take (Int.toNat q5.2) (List.take (Int.toNat q5.2) q5.1++List.replicate (List.length q5.1-Int.toNat q5.2) ({ f_A:=({ f_V:=(0:Int),f_B:=(Vector.replicate 16 (0:Int):(Vector Int 16)) }:S_api_Addr),f_Bits:=(0:Int) }:S_api_Prefix))) else none else none)
theorem slices_DeleteFunc_api_Prefix__aggregate_Ranges_1_ok{x0:List S_api_Prefix}{r:List S_api_Prefix}(hF:slices_DeleteFunc_api_Prefix__aggregate_Ranges_1 x0=some r):∀ {w0 w:World} {G_:List Ent} {p0_:Option Addr} {c0_:Nat} (hw_:Wd w0 (rowE c_api_Prefix 37 p0_ c0_ x0::G_) w),
    Calls Try.prog 44 #[.slice p0_ x0.length c0_,.func (.func 46) #[] #[]] w (fun e w'=>∃ (p:Option Addr) (cap:Nat),e=.returned (.slice p r.length cap)∧Wd w0 (rowE c_api_Prefix 37 p cap r::G_) w'):=by
 intro w0 w G_ p0_ c0_ hw_
 unfold slices_DeleteFunc_api_Prefix__aggregate_Ranges_1 at hF
 refine ce (l:=[.slice p0_ x0.length c0_,.func (.func 46) #[] #[]]) func44 rfl rfl ?_
 refine at_enterF hw_ ?_
 refine sr (aa (ns (am (am ?_))))
 obtain ⟨t1,ht1,hF⟩:=bM hF
 refine cB func74 rfl (fun w hw=>slices_IndexFunc_api_Prefix__aggregate_Ranges_1_ok _ _ _ _ ht1 w (hw.own .z).row) ?_
 refine aa (nt (qs (sr (am (aw xq (nwq [12,5,1,0] ?_))))))
 obtain ⟨h2,hF⟩|⟨h2,hF⟩:=oi hF
 ·refine ct h2 ?_
  refine sr (am (aa (nwq [4] ?_)))
  refine rt ?_
  have K:=os hF
  subst K
  exact r1 (fun w1 hw=>⟨p0_,c0_,rfl,hw⟩)
 refine cf h2 ?_
 refine sn (qs (sr (am (aw xa (aa (nwq [6,5,1,0] ?_))))))
 refine qb ?_
 obtain ⟨q5,hq5,hF⟩:=bM hF
 refine wq [6,5,1,0] ?_
 refine at_loop_n (B:=0) (A:=fun Y=>∀ (p12:Option Addr) (c13:Nat),At 42 [(0,.slice p12 q5.1.length c13),(5,.int .i64 q5.2)] (Wd w0 (rowE c_api_Prefix 37 p12 c13 q5.1::G_)) Y) ?_ ?_
 ·intro K
  refine slices_DeleteFunc_api_Prefix__aggregate_Ranges_1.l0.partial_correctness  (motive:=fun i6 i7 i9 x=>KN (fun Y=>∀ (p12:Option Addr) (c13:Nat),At 42 [(0,.slice p12 x.1.length c13),(5,.int .i64 x.2)] (Wd w0 (rowE c_api_Prefix 37 p12 c13 x.1::G_)) Y) _ 0→Round (fun Y=>∀ (p10:Option Addr) (c11:Nat),At 42 [(0,.slice p10 i6.length c11),(1,.func (.func 46) #[] #[]),(5,.int .i64 i7),(6,.int .i64 i9)] (Wd w0 (rowE c_api_Prefix 37 p10 c11 i6::G_)) Y) _ _ _) ?_ _ _ _ _ hq5 K p0_ c0_
  ·clear K hF
   intro g ih i6 i7 i9 x hF K p10 c11
   refine at_round ?_
   refine qs (sr (am (am ?_)))
   refine aw (r_len_sl underlying27 rfl) ?_
   refine aw xl (nwq [19,6,5,1,0] ?_)
   obtain ⟨h14,hF⟩|⟨h14,hF⟩:=oi hF
   ·refine ct h14 ?_
    refine sn (qs ?_)
    refine qb ?_
    refine sr (am (am ?_))
    obtain ⟨h15,hF⟩:=gd hF
    refine at_pure (φ:=∃ b o,p10=some ⟨b,o,none⟩) (fun _ hw=>row_ptr (hw.own .z).row h15) ?_
    rintro ⟨b17,o18,hp16⟩
    refine aw (r_idx underlying27 sizeOf37 rfl rfl h15 hp16) ?_
    refine aw (r_load_aggc (c:=c_api_Prefix) (z:=lget i6 i9) isAgg37 sizeOf37 rfl (fun w1 hw=>row_cell (W:=fun w1=>w1=_) (fun w1 h=>by subst h;exact Below.refl _ _) (hw.own .z).row h15 hp16 _ rfl)) ?_
    refine al (cs:=Cd.cs c_api_Prefix zv2) zeroValue37 ?_
    intro b19
    refine at_store (c:=c_api_Prefix) (z:=lget i6 i9) .z lw sizeOf37 rfl rfl rfl ?_
    refine nwx [7,6,5,1,0] ?_
    refine am ?_
    refine aw (r_load_aggc (c:=c_api_Prefix) (z:=lget i6 i9) isAgg37 sizeOf37 rfl (lens_cell .z lw)) ?_
    refine at_callee rfl ?_
    obtain ⟨t20,ht20,hF⟩:=bM hF
    refine cB func46 rfl (fun w hw=>aggregate_Ranges_1_ok _ _ ht20 w) ?_
    refine aw (r_not rfl) ?_
    refine nwq [29,7,6,5,1,0] ?_
    obtain ⟨h21,hF⟩|⟨h21,hF⟩:=oi hF
    ·refine ct h21 ?_
     refine sr (am (am ?_))
     refine aw (r_load_aggc (c:=c_api_Prefix) (z:=lget i6 i9) isAgg37 sizeOf37 rfl (lens_cell .z lw)) ?_
     obtain ⟨h22,hF⟩:=gd hF
     refine at_pure (φ:=∃ b o,p10=some ⟨b,o,none⟩) (fun _ hw=>row_ptr (hw.own (.s .z)).row h22) ?_
     rintro ⟨b24,o25,hp23⟩
     refine aw (r_idx underlying27 sizeOf37 rfl rfl h22 hp23) ?_
     refine at_storeRow (c:=c_api_Prefix) (c':=c_api_Prefix) (i:=i7) (z:=lget i6 i9) (y:=lget i6 i9) (.s .z) h22 hp23 lw (by rfl) sizeOf37 rfl rfl rfl ?_
     refine at_ov (t:=0) rfl (show Value.slice p10 (List.length i6) c11=.slice p10 (List.length (lset i6 i7 (lget i6 i9))) c11 from congrArg (fun n_=>Value.slice p10 n_ c11) ((lset_length _ _ _).symm)) ?_
     refine at_ov (t:=30) rfl (show Value.slice p10 (List.length i6) c11=.slice p10 (List.length (lset i6 i7 (lget i6 i9))) c11 from congrArg (fun n_=>Value.slice p10 n_ c11) ((lset_length _ _ _).symm)) ?_
     refine qn (dz (tn (qr (am (aw xa (aa (qn (wq [6,5,1,0] ?_))))))))
     refine bm ?_
     refine qr (am (aw xa (aa (nwq [6,5,1,0] ?_))))
     exact at_weak_k (ih _ _ _ _ hF K p10 c11) ⟨rfl,rfl,rfl,rfl,trivial⟩
    refine cf h21 ?_
    refine at_skip ?_
    refine bm ?_
    refine qr (am (aw xa (aa (qn (dz (wq [6,5,1,0] ?_))))))
    refine tn ?_
    exact at_weak_k (ih _ _ _ _ hF K p10 c11) ⟨rfl,rfl,rfl,rfl,trivial⟩
   refine cf h14 ?_
   refine at_exit ?_
   refine te (te ?_)
   obtain rfl:=os hF
   exact at_weak_k (K p10 c11) ⟨rfl,rfl,trivial⟩
 skip
 intro p12 c13
 refine at_blk_same ?_
 refine tn (sr (am (am ?_)))
 obtain ⟨h26,hF⟩:=gd hF
 refine at_pure (fun w1 hw=>(hw.own .z).row.len) ?_
 intro hl27
 refine aw (r_reslice (c:=c_api_Prefix) underlying27 sizeOf37 rfl hl27 ⟨_,rfl⟩ rfl h26) ?_
 refine at_clearRow (c:=c_api_Prefix) (z:=zv2) (lo:=q5.2) .z underlying27 sizeOf37 zeroValue37 rfl h26 rfl ?_
 refine at_ov (t:=0) rfl (show Value.slice p12 (List.length q5.1) c13=.slice p12 (List.length (List.take (Int.toNat q5.2) q5.1++List.replicate (List.length q5.1-Int.toNat q5.2) zv2)) c13 from congrArg (fun n_=>Value.slice p12 n_ c13) ((clear_length h26).symm)) ?_
 refine at_ov (t:=36) rfl (show Value.slice p12 (List.length q5.1) c13=.slice p12 (List.length (List.take (Int.toNat q5.2) q5.1++List.replicate (List.length q5.1-Int.toNat q5.2) zv2)) c13 from congrArg (fun n_=>Value.slice p12 n_ c13) ((clear_length h26).symm)) ?_
 refine nwx [5,0] ?_
 refine am (am ?_)
 obtain ⟨h28,hF⟩:=gd hF
 refine at_cutOwn (c:=c_api_Prefix) .z underlying27 sizeOf37 rfl rfl h28 rfl ?_
 refine aa (nwq [4] ?_)
 refine qt ?_
 have K:=os hF
 subst K
 exact r1 (fun w1 hw=>⟨p12,c13,rfl,hw⟩)
end Go.Proofs.Ytahlbjmafceoeaa
