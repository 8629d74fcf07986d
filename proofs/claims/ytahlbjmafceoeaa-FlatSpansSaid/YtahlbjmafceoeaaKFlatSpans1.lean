/- Texts of this claim, those in one that belong together; printed by a program of this project. -/
import Derived.Test.YtahlbjmafceoeaaProg
import GoSem.Step
import Derived.Calls
import Derived.Shelf.SlSortCmp.NoneTotal
import Derived.Shelf.SlGeneric
import Derived.Ground.SlsfProg
import Derived.Lib.Bytealg
import Derived.Test.YtahlbjmafceoeaaKFlatSpans0
set_option linter.unusedVariables false
set_option linter.unusedSimpArgs false
set_option maxRecDepth 20000
namespace Go.Proofs.Ytahlbjmafceoeaa
open E Go.RowKit _root_.Go.Proofs.Try
abbrev zv0 := ({ f_V := (0 : Int), f_B := (Vector.replicate 16 (0 : Int) : (Vector Int 16)) } : S_api_Addr)
abbrev zv1 := (Vector.replicate 16 (0 : Int) : (Vector Int 16))
abbrev zv2 := ((none : Option Addr), (0 : Nat))
abbrev zv3 := ({ f_l := ([] : List S_flat_Span), f_stack := ([] : List S_api_Entry), f_at := zv0, f_done := false } : S_flat_row)
abbrev zv4 := ({ f_From := zv0, f_To := zv0, f_Owner := (0 : Int) } : S_crawlwayref59_Span)
abbrev zv5 := ({ f_A := zv0, f_Bits := (0 : Int) } : S_api_Prefix)
abbrev zv6 := ({ f_From := zv0, f_To := zv0 } : S_aggregate_Range)
abbrev zv7 := ({ f_Range := zv6, f_Owner := (0 : Int) } : S_flat_Span)
abbrev zv8 := ({ f_P := zv5, f_Owner := (0 : Int) } : S_api_Entry)
abbrev zv9 := (zv2, zv2)
abbrev zv10 := (zv9, zv3)
section
variable {n d m : Nat} {L : List (Nat × Value)} {W : World → Prop} {P : Program} {ops : Array Oper} {Q : Exit → Act → World → Prop} {rest : List Oper} {w0 : World} {H : List Ent} {f : FuncId} {fn : Func} {xs : List Operand} {ats : Array TypeId} {ty : TypeId} {pos : String} {aft : Array Edge} {l : List Value}
theorem cB {v : Value} (hf : P.funcs[f]? = some fn) (hx : evs L xs = some l) (hc : ∀ w, Wd w0 H w → Calls P f l.toArray w fun e w' => e = .returned v ∧ Below w.heap.size w w') (kk : At n ((d, v) :: L) (Wd w0 H) (wpList P ops Q rest)) (hb : fn.body.isSome = true := by exact rfl) (hnm : (fn.name == "runtime.NumGoroutine") = false := by kernel_rfl) (hdn : Nat.blt d n = true := by exact rfl) : At n L (Wd w0 H) (wpList P ops Q (⟨some d, .call { callee := .value (.func f), args := xs.toArray, argTypes := ats }, ty, pos, aft, none⟩ :: rest)) := at_callB hf hb hnm hx hdn hc kk
end
theorem wb {β : Type} {v : β} {w0 : World} {H : List Ent} : ∀ w1, Wd w0 H w1 → v = v ∧ Below w0.heap.size w0 w1 := fun _ h => ⟨rfl, h.below⟩
theorem lw {α : Type} {c : Cd α} {x : α} : Lens (c.cs x) 0 c x c.cs := Lens.whole c x
def okc (k : Nat) (cs : List Value) : Bool := Nat.beq cs.length k && cs.all Value.oneCell'
theorem okc_ok {k : Nat} {cs : List Value} (h : okc k cs = true) : cs.length = k ∧ ∀ v ∈ cs, v.oneCell' = true := by
  unfold okc at h
  rw [Bool.and_eq_true] at h
  exact ⟨Nat.eq_of_beq_eq_true h.1, List.all_eq_true.1 h.2⟩
abbrev ck (k : Nat) (cs : List Value) (h : okc k cs = true) : {l : List Value // l.length = k ∧ ∀ v ∈ l, v.oneCell' = true} := ⟨cs, okc_ok h⟩
theorem fa {n d : Nat} {L : List (Nat × Value)} {W : World → Prop} {P : Program} {ops : Array Oper} {Q : Exit → Act → World → Prop} {rest : List Oper} {s : TypeId} {x : Operand} {ty : TypeId} {pos : String} {aft : Array Edge} {fs : Array Field} {f : Field} {j b o m : Nat} (fo : Nat) (hs : P.underlying s = some (.struct fs)) (hf : fs[j]? = some f) (hz : ∀ w, (sizeOf f.type).run P w = .ok (m + 1) w) (k : At n ((d, .pointer (some ⟨b, o + fo, none⟩)) :: L) W (wpList P ops Q rest)) (hfo : f.offset = fo := by exact rfl) (hdn : Nat.blt d n = true := by exact rfl) (hx : ev L x = some (.pointer (some ⟨b, o, none⟩)) := by exact rfl) : At n L W (wpList P ops Q (⟨some d, .fieldAddr s x j, ty, pos, aft, none⟩ :: rest)) :=
  av hdn (r_fieldAddr hs hf hfo (fun w => ⟨m, hz w⟩) hx) k
def addr_Four(x0:(Vector Int 4)):Option (S_api_Addr) :=
 some ({ { ({ f_V:=(0:Int),f_B:=(Vector.replicate 16 (0:Int):(Vector Int 16)) }:S_api_Addr) with f_V:=4 } with f_B:=vcopy (({ ({ f_V:=(0:Int),f_B:=(Vector.replicate 16 (0:Int):(Vector Int 16)) }:S_api_Addr) with f_V:=4 }).f_B) (Int.toNat 0) (List.take (Int.toNat (16-0)) (Vector.toList x0)) })
set_option maxHeartbeats 3200000 in
theorem addr_Four_ok(x0:(Vector Int 4))(r:S_api_Addr)(hF:addr_Four x0=some r)(w:World) :
    Calls Try.prog 73 #[.agg (Cd.cs (cVec (cInt .u8) 4 (by decide)) x0).toArray] w (fun e w'=>e=.returned (.agg (Cd.cs c_api_Addr r).toArray)∧Below w.heap.size w w'):=by
 unfold addr_Four at hF
 refine ce (l:=[.agg (Cd.cs (cVec (cInt .u8) 4 (by decide)) x0).toArray]) func73 rfl rfl ?_
 refine at_start ?_
 refine sr ?_
 refine at_box (cs:=Cd.cs (cVec (cInt .u8) 4 (by decide)) x0) rfl rfl rfl ?_
 intro b1
 refine al (cs:=Cd.cs c_api_Addr zv0) zeroValue24 ?_
 intro b2
 refine ns ?_
 refine aw (r_build_struct (zs:=Cd.cs c_api_Addr zv0) (cs:=Cd.cs c_api_Addr ({ zv0 with f_V:=4 })) underlying24 zeroValue24 rfl (places_api_Addr_24) rfl (fill_step (c:=(cInt .i64)) (z:=4) rfl (c_api_Addr_f_V zv0) rfl rfl)) ?_
 refine al (cs:=Cd.cs c_api_Addr zv0) zeroValue24 ?_
 intro b3
 refine at_store (c:=c_api_Addr) (z:={ zv0 with f_V:=4 }) .z lw sizeOf24 rfl rfl rfl ?_
 refine nt (qs (wq [3,2,1] ?_))
 refine at_inv [.q 5 (fun g4=>.pointer (some ⟨b3,0+1,none⟩)) [] 0 0,.q 6 (fun g4=>.slice (some ⟨b3,0+1,none⟩) (Vector.toList (({ zv0 with f_V:=4 }).f_B)).length 16) [0] 0 0,.q 7 (fun g4=>.slice (some ⟨b1,0,none⟩) (Vector.toList x0).length 4) [] 0 0,.st 0 (some (8,fun g4=>.int .i64 (min (List.length (Vector.toList x0)) (Int.toNat (16-0)):Nat))) [1,2]] (fun g4 s=>match s with | 0=>(Wd w [cellsE b3 (Cd.cs c_api_Addr ({ zv0 with f_V:=4 })) 24,cellsE b2 (Cd.cs c_api_Addr zv0) 24,cellsE b1 (Cd.cs (cVec (cInt .u8) 4 (by decide)) x0) 108]) | _=>(Wd w [cellsE b3 (Cd.cs c_api_Addr ({ { zv0 with f_V:=4 } with f_B:=vcopy (({ zv0 with f_V:=4 }).f_B) (Int.toNat 0) (List.take (Int.toNat (16-0)) (Vector.toList x0)) })) 24,cellsE b2 (Cd.cs c_api_Addr zv0) 24,cellsE b1 (Cd.cs (cVec (cInt .u8) 4 (by decide)) x0) 108])) 1 (by kernel_rfl) (by kernel_rfl) (by kernel_rfl) (by kernel_rfl) (by kernel_rfl) ⟨fun _ _ _=>rfl,fun _ _ _=>rfl,fun _ _ _=>rfl,fun _ _ _=>rfl,trivial⟩ (by kernel_rfl) (fun w_ h=>⟨fun _=>g3 0 none 0 none w_,h.drew⟩) ⟨?_,?_,?_,?_,trivial⟩ ?_
 ·intro Lx g4 s K hl hh k
  show At 10 ((1,_)::(2,_)::(3,_)::Lx) _ _
  refine fa 1 underlying24 rfl sizeOf22 ?_
  exact at_nil k
 ·intro Lx g4 s K hl hh k
  show At 10 ((5,_)::(1,_)::(2,_)::(3,_)::Lx) _ _
  obtain rfl:s=0:=by omega
  refine aw (r_view_all (c:=(cInt .u8)) (({ zv0 with f_V:=4 }).f_B) (by decide) underlying22 sizeOf5 rfl) ?_
  exact at_nil k
 ·intro Lx g4 s K hl hh k
  show At 10 ((1,_)::(2,_)::(3,_)::Lx) _ _
  obtain rfl:s=0:=by omega
  refine aw (r_slice_vec x0 underlying108 sizeOf5 rfl) ?_
  exact at_nil k
 ·intro Lx g4 K k
  show At 10 ((6,_)::(7,_)::(1,_)::(2,_)::(3,_)::Lx) _ _
  refine at_copy (lo:=0) (hi:=16) (xs:=Vector.toList x0) .z (Lens.comp lw (fun z=>{ { zv0 with f_V:=4 } with f_B:=z }) (c_api_Addr_f_B ({ zv0 with f_V:=4 }))) rfl (by decide) underlying106 (by kernel_rfl) rfl (rsp_zero (by decide)) (by simp) rfl ⟨_,rfl⟩ (fun w1 hw=>(vec_row (hw.ok (Upd.mem (.s (.s .z)))))) rfl ?_
  exact at_nil k
 intro g4
 show At 10 [(5,_),(6,_),(7,_),(8,_),(1,_),(2,_),(3,_)] _ _
 refine at_drop (H:=_) (.s (.s .z)) ?_
 refine tn (sr ?_)
 refine aw (r_load_aggc (c:=c_api_Addr) (z:={ { zv0 with f_V:=4 } with f_B:=vcopy (({ zv0 with f_V:=4 }).f_B) (Int.toNat 0) (List.take (Int.toNat (16-0)) (Vector.toList x0)) }) isAgg24 sizeOf24 rfl (lens_cell .z lw)) ?_
 refine at_store (c:=c_api_Addr) (z:={ { zv0 with f_V:=4 } with f_B:=vcopy (({ zv0 with f_V:=4 }).f_B) (Int.toNat 0) (List.take (Int.toNat (16-0)) (Vector.toList x0)) }) (.s .z) lw sizeOf24 rfl rfl rfl ?_
 refine qn (dz (wq [2] ?_))
 refine tn (qt ?_)
 have K:=os hF
 subst K
 exact at_res1 rfl (res_cell (c:=c_api_Addr) (y:={ { zv0 with f_V:=4 } with f_B:=vcopy (({ zv0 with f_V:=4 }).f_B) (Int.toNat 0) (List.take (Int.toNat (16-0)) (Vector.toList x0)) }) rfl .z lw isAgg24 sizeOf24 (.inl rfl)) wb
def addr_Right(x0:S_api_Addr):Option (Bool) :=
 if (x0.f_V==6)=true then (some true) else (if (x0.f_V==4)=true then (if 4≤(lsub (Vector.toList x0.f_B) 0 4).length then addr_Four (lvec 4 (lsub (Vector.toList x0.f_B) 0 4))>>=fun t8=>some (decide (x0=t8)) else none) else (some false))
theorem addr_Right_ok(x0:S_api_Addr)(r:Bool)(hF:addr_Right x0=some r)(w:World) :
    Calls Try.prog 40 #[.agg (Cd.cs c_api_Addr x0).toArray] w (fun e w'=>e=.returned (.bool r)∧Below w.heap.size w w'):=by
 unfold addr_Right at hF
 refine ce (l:=[.agg (Cd.cs c_api_Addr x0).toArray]) func40 rfl rfl ?_
 refine at_start ?_
 refine sr ?_
 refine at_box (cs:=Cd.cs c_api_Addr x0) rfl rfl rfl ?_
 intro b1
 refine aa (nwq [1] ?_)
 refine qs ?_
 refine at_draw (by kernel_rfl) (by kernel_rfl) (fun _ h=>h.drew) ?_
 refine atq_val rfl rfl rfl (r_fieldAddr (fo:=0) underlying24 rfl rfl (fun w=>⟨_,sizeOf3 w⟩) rfl) ?_
 refine atq_val rfl rfl rfl (r_load_cell isAgg3 rfl (lens_cell0 (c:=(cInt .i64)) (y:=x0.f_V) .z (Lens.comp lw (fun z=>{ x0 with f_V:=z }) (c_api_Addr_f_V x0)) rfl)) ?_
 refine atq_val rfl rfl rfl (r_ieql rfl rfl) ?_
 refine atq_val rfl rfl rfl (r_move rfl) ?_
 obtain ⟨h2,hF⟩|⟨h2,hF⟩:=oi hF
 ·refine atq_fix (g:=6) rfl h2 ?_
  refine atq_guard_no rfl rfl rfl rfl rfl ?_
  refine atq_guard_no rfl rfl rfl rfl rfl ?_
  refine atq_guard_no rfl rfl rfl rfl rfl ?_
  refine atq_guard_no rfl rfl rfl rfl rfl ?_
  refine atq_guard_undef rfl rfl rfl rfl ?_
  refine atq_guard_undef rfl rfl rfl rfl ?_
  refine atq_guard_undef rfl rfl rfl rfl ?_
  refine atq_guard_undef rfl rfl rfl rfl ?_
  refine atq_guard_undef rfl rfl rfl rfl ?_
  refine atq_guard_undef rfl rfl rfl rfl ?_
  refine atq_guard_undef rfl rfl rfl rfl ?_
  refine atq_guard_no rfl rfl rfl rfl rfl ?_
  refine atq_val rfl rfl rfl (r_pick rfl rfl rfl) ?_
  refine atq_val rfl rfl rfl (r_assign rfl) ?_
  refine atq_nil ?_
  refine dz (wq [2] ?_)
  refine tn (qt ?_)
  have K:=os hF
  subst K
  exact r1 wb
 refine atq_fix (g:=6) rfl h2 ?_
 refine atq_guard_yes rfl rfl rfl ?_
 refine atq_val rfl rfl rfl (r_fieldAddr (fo:=0) underlying24 rfl rfl (fun w=>⟨_,sizeOf3 w⟩) rfl) ?_
 refine atq_guard_yes rfl rfl rfl ?_
 refine atq_val rfl rfl rfl (r_load_cell isAgg3 rfl (lens_cell0 (c:=(cInt .i64)) (y:=x0.f_V) .z (Lens.comp lw (fun z=>{ x0 with f_V:=z }) (c_api_Addr_f_V x0)) rfl)) ?_
 refine atq_guard_yes rfl rfl rfl ?_
 refine atq_val rfl rfl rfl (r_ieql rfl rfl) ?_
 refine atq_guard_yes rfl rfl rfl ?_
 refine atq_val rfl rfl rfl (r_move rfl) ?_
 obtain ⟨h3,hF⟩|⟨h3,hF⟩:=oi hF
 ·refine atq_fix (g:=10) rfl h3 ?_
  refine atq_guard_yes rfl rfl rfl ?_
  refine atq_val rfl rfl rfl (r_load_aggc (c:=c_api_Addr) (z:=x0) isAgg24 sizeOf24 rfl (lens_cell .z lw)) ?_
  refine atq_guard_yes rfl rfl rfl ?_
  refine atq_val rfl rfl rfl (r_fieldAddr (fo:=1) underlying24 rfl rfl (fun w=>⟨_,sizeOf22 w⟩) rfl) ?_
  refine atq_guard_yes rfl rfl rfl ?_
  refine atq_val rfl rfl rfl (r_view (c:=(cInt .u8)) (v:=x0.f_B) (l:=0) (h:=4) underlying22 sizeOf5 rfl rfl ⟨_,rfl⟩ (by decide)) ?_
  refine atq_guard_yes rfl rfl rfl ?_
  obtain ⟨h4,hF⟩:=gd hF
  refine atq_val rfl rfl rfl (r_arrptr underlying108 rfl h4) ?_
  refine atq_guard_yes rfl rfl rfl ?_
  obtain ⟨b5,o6,hp7⟩:∃ b o,rsp (some ⟨b1,0+1,none⟩) 16 0 (Cd.sz (cInt .u8))=some ⟨b,o,none⟩:=rsp_plain
  refine atq_val rfl rfl rfl (r_load_aggc (c:=(cVec (cInt .u8) 4 (by decide))) (z:=lvec 4 (lsub (Vector.toList x0.f_B) 0 4)) isAgg108 sizeOf108 (by rw [←hp7];rfl) (fun w1 hw=>row_lvec (Row.sub (lens_row .z (Lens.comp lw (fun z=>{ x0 with f_B:=z }) (c_api_Addr_f_B x0)) hw) (vbnd (by decide))) h4 hp7)) ?_
  refine atq_guard_yes rfl rfl rfl ?_
  obtain ⟨t8,ht8,hF⟩:=bM hF
  refine atq_call func73 rfl (by kernel_rfl) rfl rfl (fun w hw=>(addr_Four_ok _ _ ht8 w).mono fun _ _ h=>⟨h.1,hw.call h.2⟩) ?_
  refine atq_guard_yes rfl rfl rfl ?_
  refine atq_val rfl rfl rfl (r_eqagg (c:=c_api_Addr) (a:=x0) (b:=t8) (eq_api_Addr_24) rfl Try.eqGuardType24 rfl rfl (.inl rfl) rfl) ?_
  refine atq_guard_yes rfl rfl rfl ?_
  refine atq_val rfl rfl rfl (r_pick rfl rfl rfl) ?_
  refine atq_val rfl rfl rfl (r_pick rfl rfl rfl) ?_
  refine atq_val rfl rfl rfl (r_assign rfl) ?_
  refine atq_nil ?_
  refine dz (wq [2] ?_)
  refine tn (qt ?_)
  have K:=os hF
  subst K
  exact r1 wb
 refine atq_fix (g:=10) rfl h3 ?_
 refine atq_guard_no rfl rfl rfl rfl rfl ?_
 refine atq_guard_no rfl rfl rfl rfl rfl ?_
 refine atq_guard_no rfl rfl rfl rfl rfl ?_
 refine atq_guard_no rfl rfl rfl rfl rfl ?_
 refine atq_guard_no rfl rfl rfl rfl rfl ?_
 refine atq_guard_no rfl rfl rfl rfl rfl ?_
 refine atq_guard_no rfl rfl rfl rfl rfl ?_
 refine atq_guard_yes rfl rfl rfl ?_
 refine atq_val rfl rfl rfl (r_pick rfl rfl rfl) ?_
 refine atq_val rfl rfl rfl (r_pick rfl rfl rfl) ?_
 refine atq_val rfl rfl rfl (r_assign rfl) ?_
 refine atq_nil ?_
 refine dz (wq [2] ?_)
 refine tn (qt ?_)
 have K:=os hF
 subst K
 exact r1 wb
def addr_Width(x0:S_api_Addr):Option (Int) :=
 addr_Right x0>>=fun t2=>if (!t2)=true then (some 0) else (if (x0.f_V==4)=true then (some 32) else (some 128))
theorem addr_Width_ok(x0:S_api_Addr)(r:Int)(hF:addr_Width x0=some r)(w:World) :
    Calls Try.prog 53 #[.agg (Cd.cs c_api_Addr x0).toArray] w (fun e w'=>e=.returned (.int .i64 r)∧Below w.heap.size w w'):=by
 unfold addr_Width at hF
 refine ce (l:=[.agg (Cd.cs c_api_Addr x0).toArray]) func53 rfl rfl ?_
 refine at_start ?_
 refine sr ?_
 refine at_box (cs:=Cd.cs c_api_Addr x0) rfl rfl rfl ?_
 intro b1
 refine aa (nwq [1] ?_)
 refine qs ?_
 refine qb ?_
 refine sr ?_
 refine aw (r_load_aggc (c:=c_api_Addr) (z:=x0) isAgg24 sizeOf24 rfl (lens_cell .z lw)) ?_
 obtain ⟨t2,ht2,hF⟩:=bM hF
 refine cB func40 rfl (fun w hw=>addr_Right_ok _ _ ht2 w) ?_
 refine aw (r_not rfl) ?_
 refine aa (nwq [3,1] ?_)
 obtain ⟨h3,hF⟩|⟨h3,hF⟩:=oi hF
 ·refine ct h3 ?_
  refine sr (aa (qn (dz (wq [2] ?_))))
  refine tn (qt ?_)
  refine br (tr ?_)
  have K:=os hF
  subst K
  exact r1 wb
 refine cf h3 ?_
 refine sr (fa 0 underlying24 rfl sizeOf3 ?_)
 refine aw (r_load_cell isAgg3 rfl (lens_cell0 (c:=(cInt .i64)) (y:=x0.f_V) .z (Lens.comp lw (fun z=>{ x0 with f_V:=z }) (c_api_Addr_f_V x0)) rfl)) ?_
 refine aw xq (aa (qn (dz (wq [7] ?_))))
 refine tn ?_
 obtain ⟨h4,hF⟩|⟨h4,hF⟩:=oi hF
 ·refine ct h4 ?_
  refine sr (aa (nwq [2] ?_))
  refine qt ?_
  refine br (tr ?_)
  have K:=os hF
  subst K
  exact r1 wb
 refine cf h4 ?_
 refine at_skip ?_
 refine bm ?_
 refine sr (aa (nwq [2] ?_))
 refine qt ?_
 have K:=os hF
 subst K
 exact r1 wb
def addr_Mask.l0(x1:Int)(i6:Int)(i7:S_api_Addr):Option (S_api_Addr) :=
 if (decide (i6<16))=true then (if (decide (x1<0))=true then (if (0:Int)≤i6∧i6<16 then if (0:Int)≤wr .u64 (wr .i64 (8-0)) then if (0:Int)≤i6∧i6<16 then addr_Mask.l0 x1 (wr .i64 (i6+1)) ({ i7 with f_B:=vset i7.f_B i6 (iand .u8 (vget i7.f_B i6) (ishl .u8 255 (wr .u64 (wr .i64 (8-0))))) }) else none else none else none) else (if (0:Int)≤i6∧i6<16 then if (0:Int)≤wr .u64 (wr .i64 (8-(if 8<(if wr .i64 (x1-(wr .i64 (8*i6)))<0 then 0 else wr .i64 (x1-(wr .i64 (8*i6)))) then 8 else (if wr .i64 (x1-(wr .i64 (8*i6)))<0 then 0 else wr .i64 (x1-(wr .i64 (8*i6))))))) then if (0:Int)≤i6∧i6<16 then addr_Mask.l0 x1 (wr .i64 (i6+1)) ({ i7 with f_B:=vset i7.f_B i6 (iand .u8 (vget i7.f_B i6) (ishl .u8 255 (wr .u64 (wr .i64 (8-(if 8<(if wr .i64 (x1-(wr .i64 (8*i6)))<0 then 0 else wr .i64 (x1-(wr .i64 (8*i6)))) then 8 else (if wr .i64 (x1-(wr .i64 (8*i6)))<0 then 0 else wr .i64 (x1-(wr .i64 (8*i6)))))))))) }) else none else none else none)) else (some i7)
 partial_fixpoint
def addr_Mask(x0:S_api_Addr)(x1:Int):Option (S_api_Addr) :=
 addr_Right x0>>=fun t3=>if (!t3)=true then (some ({ f_V:=(0:Int),f_B:=(Vector.replicate 16 (0:Int):(Vector Int 16)) }:S_api_Addr)) else (addr_Mask.l0 x1 0 x0>>=fun q5=>some q5)
theorem addr_Mask_ok(x0:S_api_Addr)(x1:Int)(r:S_api_Addr)(hF:addr_Mask x0 x1=some r)(w:World) :
    Calls Try.prog 85 #[.agg (Cd.cs c_api_Addr x0).toArray,.int .i64 x1] w (fun e w'=>e=.returned (.agg (Cd.cs c_api_Addr r).toArray)∧Below w.heap.size w w'):=by
 unfold addr_Mask at hF
 refine ce (l:=[.agg (Cd.cs c_api_Addr x0).toArray,.int .i64 x1]) func85 rfl rfl ?_
 refine at_start ?_
 refine sr ?_
 refine at_box (cs:=Cd.cs c_api_Addr x0) rfl rfl rfl ?_
 intro b1
 refine al (cs:=Cd.cs c_api_Addr zv0) zeroValue24 ?_
 intro b2
 refine nt (qs (sr ?_))
 refine aw (r_load_aggc (c:=c_api_Addr) (z:=x0) isAgg24 sizeOf24 rfl (lens_cell (.s .z) lw)) ?_
 obtain ⟨t3,ht3,hF⟩:=bM hF
 refine cB func40 rfl (fun w hw=>addr_Right_ok _ _ ht3 w) ?_
 refine aw (r_not rfl) ?_
 refine nwq [9,4,2,1] ?_
 obtain ⟨h4,hF⟩|⟨h4,hF⟩:=oi hF
 ·refine ct h4 ?_
  refine sr ?_
  refine aw (r_build_struct (zs:=Cd.cs c_api_Addr zv0) (cs:=Cd.cs c_api_Addr zv0) underlying24 zeroValue24 rfl (places_api_Addr_24) rfl rfl) ?_
  refine at_store (c:=c_api_Addr) (z:=zv0) .z lw sizeOf24 rfl rfl rfl ?_
  refine qn ?_
  refine at_drop (H:=_) (.s .z) ?_
  refine wq [4] ?_
  refine tn (rt ?_)
  have K:=os hF
  subst K
  exact at_res1 rfl (res_cell (c:=c_api_Addr) (y:=zv0) rfl .z lw isAgg24 sizeOf24 (.inl rfl)) wb
 refine cf h4 ?_
 refine sn (qs (sr (am (nwq [11,4,2,1] ?_))))
 refine qb ?_
 obtain ⟨q5,hq5,hF⟩:=bM hF
 refine wq [11,4,2,1] ?_
 refine at_loop_n (B:=0) (A:=fun Y=>At 35 [(2,.pointer (some ⟨b1,0,none⟩)),(4,.pointer (some ⟨b2,0,none⟩))] (Wd w [cellsE b2 (Cd.cs c_api_Addr zv0) 24,cellsE b1 (Cd.cs c_api_Addr q5) 24]) Y) ?_ ?_
 ·intro K
  refine addr_Mask.l0.partial_correctness x1 (motive:=fun i6 i7 x=>KN (fun Y=>At 35 [(2,.pointer (some ⟨b1,0,none⟩)),(4,.pointer (some ⟨b2,0,none⟩))] (Wd w [cellsE b2 (Cd.cs c_api_Addr zv0) 24,cellsE b1 (Cd.cs c_api_Addr x) 24]) Y) _ 0→Round (fun Y=>At 35 [(1,.int .i64 x1),(2,.pointer (some ⟨b1,0,none⟩)),(4,.pointer (some ⟨b2,0,none⟩)),(11,.int .i64 i6)] (Wd w [cellsE b2 (Cd.cs c_api_Addr zv0) 24,cellsE b1 (Cd.cs c_api_Addr i7) 24]) Y) _ _ _) ?_ _ _ _ hq5 K
  ·clear K hF
   intro g ih i6 i7 x hF K
   refine at_round ?_
   refine sr (aw xl (nwq [12,11,4,2,1] ?_))
   refine qs ?_
   obtain ⟨h8,hF⟩|⟨h8,hF⟩:=oi hF
   ·refine ct h8 ?_
    refine sn (qs ?_)
    refine qb ?_
    refine sr (am (aa (ns (am (am ?_)))))
    refine aw (r_imul rfl rfl) ?_
    refine aw (r_isub rfl rfl) ?_
    refine aw (r_max rfl rfl) ?_
    refine aw (r_min rfl rfl) ?_
    refine aa (nt (qs (sr (am (aw xl (nwq [21,11,6,5,4,2,1] ?_))))))
    obtain ⟨h9,hF⟩|⟨h9,hF⟩:=oi hF
    ·refine ct h9 ?_
     refine qr (aa (nt (qr (am (fa 1 underlying24 rfl sizeOf22 ?_)))))
     obtain ⟨h10,hF⟩:=gd hF
     refine aw (r_idxArr underlying22 sizeOf5 rfl rfl h10) ?_
     refine aw (r_load_cell isAgg5 rfl (lens_cell0 (c:=(cInt .u8)) (y:=vget i7.f_B i6) (.s .z) (Lens.comp (Lens.comp lw (fun z=>{ i7 with f_B:=z }) (c_api_Addr_f_B i7)) (fun z=>vset i7.f_B i6 z) (Lens.vec (cInt .u8) (by decide) i7.f_B i6 h10)) rfl)) ?_
     refine am ?_
     refine aw (r_isub rfl rfl) ?_
     refine aw (r_conv underlying3 underlying81 rfl) ?_
     obtain ⟨h11,hF⟩:=gd hF
     refine aw (r_ishl rfl rfl h11) ?_
     refine aw (r_iand rfl rfl) ?_
     refine fa 1 underlying24 rfl sizeOf22 ?_
     obtain ⟨h12,hF⟩:=gd hF
     refine aw (r_idxArr underlying22 sizeOf5 rfl rfl h12) ?_
     refine at_store (c:=(cInt .u8)) (z:=iand .u8 (vget i7.f_B i6) (ishl .u8 255 (wr .u64 (wr .i64 (8-0))))) (.s .z) (Lens.comp (Lens.comp lw (fun z=>{ i7 with f_B:=z }) (c_api_Addr_f_B i7)) (fun z=>vset i7.f_B i6 z) (Lens.vec (cInt .u8) (by decide) i7.f_B i6 h12)) sizeOf5 rfl rfl rfl ?_
     refine qn (wq [11,4,2,1] ?_)
     refine bm ?_
     refine qr (aw xa (am (nwq [11,4,2,1] ?_)))
     exact at_weak_k (ih _ _ _ hF K) ⟨rfl,rfl,rfl,rfl,trivial⟩
    refine cf h9 ?_
    refine sn (qr (am (fa 1 underlying24 rfl sizeOf22 ?_)))
    obtain ⟨h13,hF⟩:=gd hF
    refine aw (r_idxArr underlying22 sizeOf5 rfl rfl h13) ?_
    refine aw (r_load_cell isAgg5 rfl (lens_cell0 (c:=(cInt .u8)) (y:=vget i7.f_B i6) (.s .z) (Lens.comp (Lens.comp lw (fun z=>{ i7 with f_B:=z }) (c_api_Addr_f_B i7)) (fun z=>vset i7.f_B i6 z) (Lens.vec (cInt .u8) (by decide) i7.f_B i6 h13)) rfl)) ?_
    refine am ?_
    refine aw (r_isub rfl rfl) ?_
    refine aw (r_conv underlying3 underlying81 rfl) ?_
    obtain ⟨h14,hF⟩:=gd hF
    refine aw (r_ishl rfl rfl h14) ?_
    refine aw (r_iand rfl rfl) ?_
    refine fa 1 underlying24 rfl sizeOf22 ?_
    obtain ⟨h15,hF⟩:=gd hF
    refine aw (r_idxArr underlying22 sizeOf5 rfl rfl h15) ?_
    refine at_store (c:=(cInt .u8)) (z:=iand .u8 (vget i7.f_B i6) (ishl .u8 255 (wr .u64 (wr .i64 (8-(if 8<(if wr .i64 (x1-(wr .i64 (8*i6)))<0 then 0 else wr .i64 (x1-(wr .i64 (8*i6)))) then 8 else (if wr .i64 (x1-(wr .i64 (8*i6)))<0 then 0 else wr .i64 (x1-(wr .i64 (8*i6)))))))))) (.s .z) (Lens.comp (Lens.comp lw (fun z=>{ i7 with f_B:=z }) (c_api_Addr_f_B i7)) (fun z=>vset i7.f_B i6 z) (Lens.vec (cInt .u8) (by decide) i7.f_B i6 h15)) sizeOf5 rfl rfl rfl ?_
    refine qn (wq [11,4,2,1] ?_)
    refine bm ?_
    refine qr (aw xa (am (nwq [11,4,2,1] ?_)))
    exact at_weak_k (ih _ _ _ hF K) ⟨rfl,rfl,rfl,rfl,trivial⟩
   refine cf h8 ?_
   refine at_exit ?_
   refine te (te ?_)
   obtain rfl:=os hF
   exact at_weak_k K ⟨rfl,rfl,trivial⟩
 skip
 skip
 refine at_blk_same ?_
 refine tn (sr ?_)
 refine aw (r_load_aggc (c:=c_api_Addr) (z:=q5) isAgg24 sizeOf24 rfl (lens_cell (.s .z) lw)) ?_
 refine at_store (c:=c_api_Addr) (z:=q5) .z lw sizeOf24 rfl rfl rfl ?_
 refine qn ?_
 refine at_drop (H:=_) (.s .z) ?_
 refine wq [4] ?_
 refine tn (qt ?_)
 have K:=os hF
 subst K
 exact at_res1 rfl (res_cell (c:=c_api_Addr) (y:=q5) rfl .z lw isAgg24 sizeOf24 (.inl rfl)) wb
def bytes_Compare(x0:List Int)(x1:List Int):Option (Int) :=
 some (Lib.compareBytes (unb x0) (unb x1))
theorem bytes_Compare_ok(x0:List Int)(p0_:Option Addr)(c0_:Nat)(x1:List Int)(p1_:Option Addr)(c1_:Nat)(r:Int)(hF:bytes_Compare x0 x1=some r)(w:World)(hr0:Row (cInt .u8) w p0_ c0_ x0)(hr1:Row (cInt .u8) w p1_ c1_ x1) :
    Calls Try.prog 72 #[.slice p0_ x0.length c0_,.slice p1_ x1.length c1_] w (fun e w'=>e=.returned (.int .i64 r)∧w'=w):=by
 unfold bytes_Compare at hF
 refine ce (l:=[.slice p0_ x0.length c0_,.slice p1_ x1.length c1_]) func72 rfl rfl ?_
 refine sr (aa (ns (am (am ?_))))
 refine aw (r_cmp (xs:=x0) (ys:=x1) func86 rfl rfl (by kernel_rfl) (by kernel_rfl) rfl rfl (fun w1 hw=>(hr0.below (by subst hw;exact Below.refl _ _))) (fun w1 hw=>(hr1.below (by subst hw;exact Below.refl _ _)))) ?_
 refine aa (nwq [4] ?_)
 refine qt ?_
 have K:=os hF
 subst K
 exact r1 (fun w1 hw=>⟨rfl,hw⟩)
def addr_Less(x0:S_api_Addr)(x1:S_api_Addr):Option (Bool) :=
 if (x0.f_V != x1.f_V)=true then (some (decide (x0.f_V<x1.f_V))) else (bytes_Compare (Vector.toList x0.f_B) (Vector.toList x1.f_B)>>=fun t4=>some (decide (t4<0)))
theorem addr_Less_ok(x0:S_api_Addr)(x1:S_api_Addr)(r:Bool)(hF:addr_Less x0 x1=some r)(w:World) :
    Calls Try.prog 39 #[.agg (Cd.cs c_api_Addr x0).toArray,.agg (Cd.cs c_api_Addr x1).toArray] w (fun e w'=>e=.returned (.bool r)∧Below w.heap.size w w'):=by
 unfold addr_Less at hF
 refine ce (l:=[.agg (Cd.cs c_api_Addr x0).toArray,.agg (Cd.cs c_api_Addr x1).toArray]) func39 rfl rfl ?_
 refine at_start ?_
 refine sr ?_
 refine at_box (cs:=Cd.cs c_api_Addr x0) rfl rfl rfl ?_
 intro b1
 refine at_box (cs:=Cd.cs c_api_Addr x1) rfl rfl rfl ?_
 intro b2
 refine aa (nt (qs (sr (fa 0 underlying24 rfl sizeOf3 ?_))))
 refine aw (r_load_cell isAgg3 rfl (lens_cell0 (c:=(cInt .i64)) (y:=x0.f_V) (.s .z) (Lens.comp lw (fun z=>{ x0 with f_V:=z }) (c_api_Addr_f_V x0)) rfl)) ?_
 refine fa 0 underlying24 rfl sizeOf3 ?_
 refine aw (r_load_cell isAgg3 rfl (lens_cell0 (c:=(cInt .i64)) (y:=x1.f_V) .z (Lens.comp lw (fun z=>{ x1 with f_V:=z }) (c_api_Addr_f_V x1)) rfl)) ?_
 refine aw xn (nwq [9,3,2] ?_)
 obtain ⟨h3,hF⟩|⟨h3,hF⟩:=oi hF
 ·refine ct h3 ?_
  refine sr (fa 0 underlying24 rfl sizeOf3 ?_)
  refine aw (r_load_cell isAgg3 rfl (lens_cell0 (c:=(cInt .i64)) (y:=x0.f_V) (.s .z) (Lens.comp lw (fun z=>{ x0 with f_V:=z }) (c_api_Addr_f_V x0)) rfl)) ?_
  refine fa 0 underlying24 rfl sizeOf3 ?_
  refine aw (r_load_cell isAgg3 rfl (lens_cell0 (c:=(cInt .i64)) (y:=x1.f_V) .z (Lens.comp lw (fun z=>{ x1 with f_V:=z }) (c_api_Addr_f_V x1)) rfl)) ?_
  refine aw xl (aa (qn (dz (dz (wq [4] ?_)))))
  refine tn (rt ?_)
  have K:=os hF
  subst K
  exact r1 wb
 refine cf h3 ?_
 refine sn (qs ?_)
 refine at_draw (by kernel_rfl) (by kernel_rfl) (fun _ h=>h.drew) ?_
 refine atq_val rfl rfl rfl (r_fieldAddr (fo:=1) underlying24 rfl rfl (fun w=>⟨_,sizeOf22 w⟩) rfl) ?_
 refine atq_val rfl rfl rfl (r_view_all (c:=(cInt .u8)) x0.f_B (by decide) underlying22 sizeOf5 rfl) ?_
 refine atq_val rfl rfl rfl (r_fieldAddr (fo:=1) underlying24 rfl rfl (fun w=>⟨_,sizeOf22 w⟩) rfl) ?_
 refine atq_val rfl rfl rfl (r_view_all (c:=(cInt .u8)) x1.f_B (by decide) underlying22 sizeOf5 rfl) ?_
 obtain ⟨t4,ht4,hF⟩:=bM hF
 refine atq_call func72 rfl (by kernel_rfl) rfl rfl (fun w hw=>(bytes_Compare_ok _ _ _ _ _ _ _ ht4 w (lens_row (.s .z) (Lens.comp lw (fun z=>{ x0 with f_B:=z }) (c_api_Addr_f_B x0)) hw) (lens_row .z (Lens.comp lw (fun z=>{ x1 with f_B:=z }) (c_api_Addr_f_B x1)) hw)).mono fun _ _ h=>⟨h.1,h.2▸hw⟩) ?_
 refine atq_val rfl rfl rfl (r_ilss rfl rfl) ?_
 refine atq_val rfl rfl rfl (r_assign rfl) ?_
 refine atq_nil ?_
 refine dz (dz (wq [4] ?_))
 refine tn (qt ?_)
 have K:=os hF
 subst K
 exact r1 wb
def cidr_Of(x0:S_api_Addr)(x1:Int):Option (S_api_Prefix×Int) :=
 addr_Right x0>>=fun t3=>if (!t3)=true then (some (({ f_A:=({ f_V:=(0:Int),f_B:=(Vector.replicate 16 (0:Int):(Vector Int 16)) }:S_api_Addr),f_Bits:=(0:Int) }:S_api_Prefix),1)) else (if (decide (x1<0))=true then (some (({ f_A:=({ f_V:=(0:Int),f_B:=(Vector.replicate 16 (0:Int):(Vector Int 16)) }:S_api_Addr),f_Bits:=(0:Int) }:S_api_Prefix),6)) else (addr_Width x0>>=fun t6=>if (decide (x1>t6))=true then (some (({ f_A:=({ f_V:=(0:Int),f_B:=(Vector.replicate 16 (0:Int):(Vector Int 16)) }:S_api_Addr),f_Bits:=(0:Int) }:S_api_Prefix),6)) else (addr_Mask x0 x1>>=fun t8=>some ({ { ({ f_A:=({ f_V:=(0:Int),f_B:=(Vector.replicate 16 (0:Int):(Vector Int 16)) }:S_api_Addr),f_Bits:=(0:Int) }:S_api_Prefix) with f_A:=t8 } with f_Bits:=x1 },0))))
theorem cidr_Of_ok(x0:S_api_Addr)(x1:Int)(r:S_api_Prefix×Int)(hF:cidr_Of x0 x1=some r)(w:World) :
    Calls Try.prog 71 #[.agg (Cd.cs c_api_Addr x0).toArray,.int .i64 x1] w (fun e w'=>e=.returned (.tuple #[.agg (Cd.cs c_api_Prefix r.1).toArray,.int .i64 r.2])∧Below w.heap.size w w'):=by
 unfold cidr_Of at hF
 refine ce (l:=[.agg (Cd.cs c_api_Addr x0).toArray,.int .i64 x1]) func71 rfl rfl ?_
 refine at_start ?_
 refine sr ?_
 refine at_box (cs:=Cd.cs c_api_Addr x0) rfl rfl rfl ?_
 intro b1
 refine al (cs:=Cd.cs c_api_Prefix zv5) zeroValue37 ?_
 intro b2
 refine aa (nwq [4,2,1] ?_)
 refine qs ?_
 refine qb ?_
 refine sr ?_
 refine aw (r_load_aggc (c:=c_api_Addr) (z:=x0) isAgg24 sizeOf24 rfl (lens_cell (.s .z) lw)) ?_
 obtain ⟨t3,ht3,hF⟩:=bM hF
 refine cB func40 rfl (fun w hw=>addr_Right_ok _ _ ht3 w) ?_
 refine aw (r_not rfl) ?_
 refine aa (nwq [6,4,2,1] ?_)
 obtain ⟨h4,hF⟩|⟨h4,hF⟩:=oi hF
 ·refine ct h4 ?_
  refine sr ?_
  refine aw (r_build_struct (zs:=Cd.cs c_api_Prefix zv5) (cs:=Cd.cs c_api_Prefix zv5) underlying37 zeroValue37 rfl (places_api_Prefix_37) rfl rfl) ?_
  refine at_store (c:=c_api_Prefix) (z:=zv5) .z lw sizeOf37 rfl rfl rfl ?_
  refine aa (qn ?_)
  refine at_drop (H:=_) (.s .z) ?_
  refine wq [5,4] ?_
  refine tn (qt ?_)
  refine br (tr ?_)
  have K:=os hF
  subst K
  exact at_res2 rfl (res_cell (c:=c_api_Prefix) (y:=zv5) rfl .z lw isAgg37 sizeOf37 (.inl rfl)) (res_tmp rfl) wb
 refine cf h4 ?_
 refine sr (am (aw xl (am ?_)))
 obtain ⟨h5,hF⟩|⟨h5,hF⟩:=oi hF
 ·refine fx 14 h5 ?_
  refine gn ?_
  refine gn ?_
  refine gn ?_
  refine gn ?_
  refine aw xp (aa (nwq [11,4,2,1] ?_))
  refine ct rfl ?_
  refine sr ?_
  refine aw (r_build_struct (zs:=Cd.cs c_api_Prefix zv5) (cs:=Cd.cs c_api_Prefix zv5) underlying37 zeroValue37 rfl (places_api_Prefix_37) rfl rfl) ?_
  refine at_store (c:=c_api_Prefix) (z:=zv5) .z lw sizeOf37 rfl rfl rfl ?_
  refine aa (qn ?_)
  refine at_drop (H:=_) (.s .z) ?_
  refine wq [5,4] ?_
  refine tn (qt ?_)
  refine br (tr ?_)
  have K:=os hF
  subst K
  exact at_res2 rfl (res_cell (c:=c_api_Prefix) (y:=zv5) rfl .z lw isAgg37 sizeOf37 (.inl rfl)) (res_tmp rfl) wb
 refine fx 14 h5 ?_
 refine gy ?_
 refine am ?_
 refine gy ?_
 refine aw (r_load_aggc (c:=c_api_Addr) (z:=x0) isAgg24 sizeOf24 rfl (lens_cell (.s .z) lw)) ?_
 refine gy ?_
 obtain ⟨t6,ht6,hF⟩:=bM hF
 refine cB func53 rfl (fun w hw=>addr_Width_ok _ _ ht6 w) ?_
 refine gy ?_
 refine aw (r_igtr rfl rfl) ?_
 refine aw xp (aa (nwq [11,4,2,1] ?_))
 obtain ⟨h7,hF⟩|⟨h7,hF⟩:=oi hF
 ·refine ct h7 ?_
  refine sr ?_
  refine aw (r_build_struct (zs:=Cd.cs c_api_Prefix zv5) (cs:=Cd.cs c_api_Prefix zv5) underlying37 zeroValue37 rfl (places_api_Prefix_37) rfl rfl) ?_
  refine at_store (c:=c_api_Prefix) (z:=zv5) .z lw sizeOf37 rfl rfl rfl ?_
  refine aa (qn ?_)
  refine at_drop (H:=_) (.s .z) ?_
  refine wq [5,4] ?_
  refine tn (qt ?_)
  refine br (tr ?_)
  have K:=os hF
  subst K
  exact at_res2 rfl (res_cell (c:=c_api_Prefix) (y:=zv5) rfl .z lw isAgg37 sizeOf37 (.inl rfl)) (res_tmp rfl) wb
 refine cf h7 ?_
 refine at_skip ?_
 refine bm ?_
 refine sr ?_
 refine aw (r_load_aggc (c:=c_api_Addr) (z:=x0) isAgg24 sizeOf24 rfl (lens_cell (.s .z) lw)) ?_
 refine am ?_
 obtain ⟨t8,ht8,hF⟩:=bM hF
 refine cB func85 rfl (fun w hw=>addr_Mask_ok _ _ _ ht8 w) ?_
 refine am ?_
 refine aw (r_build_struct (zs:=Cd.cs c_api_Prefix zv5) (cs:=Cd.cs c_api_Prefix ({ { zv5 with f_A:=t8 } with f_Bits:=x1 })) underlying37 zeroValue37 rfl (places_api_Prefix_37) rfl (fill_step (c:=c_api_Addr) (z:=t8) rfl (c_api_Prefix_f_A zv5) rfl (fill_step (c:=(cInt .i64)) (z:=x1) rfl (c_api_Prefix_f_Bits ({ zv5 with f_A:=t8 })) rfl rfl))) ?_
 refine at_store (c:=c_api_Prefix) (z:={ { zv5 with f_A:=t8 } with f_Bits:=x1 }) .z lw sizeOf37 rfl rfl rfl ?_
 refine aa (qn ?_)
 refine at_drop (H:=_) (.s .z) ?_
 refine wq [5,4] ?_
 refine tn (qt ?_)
 have K:=os hF
 subst K
 exact at_res2 rfl (res_cell (c:=c_api_Prefix) (y:={ { zv5 with f_A:=t8 } with f_Bits:=x1 }) rfl .z lw isAgg37 sizeOf37 (.inl rfl)) (res_tmp rfl) wb
def cidr_Right(x0:S_api_Prefix):Option (Bool) :=
 cidr_Of x0.f_A x0.f_Bits>>=fun t2=>if (t2.2==0)=true then (some (decide (t2.1=x0))) else (some false)
theorem cidr_Right_ok(x0:S_api_Prefix)(r:Bool)(hF:cidr_Right x0=some r)(w:World) :
    Calls Try.prog 47 #[.agg (Cd.cs c_api_Prefix x0).toArray] w (fun e w'=>e=.returned (.bool r)∧Below w.heap.size w w'):=by
 unfold cidr_Right at hF
 refine ce (l:=[.agg (Cd.cs c_api_Prefix x0).toArray]) func47 rfl rfl ?_
 refine at_start ?_
 refine sr ?_
 refine at_box (cs:=Cd.cs c_api_Prefix x0) rfl rfl rfl ?_
 intro b1
 refine aa (ns (fa 0 underlying37 rfl sizeOf24 ?_))
 refine aw (r_load_aggc (c:=c_api_Addr) (z:=x0.f_A) isAgg24 sizeOf24 rfl (lens_cell .z (Lens.comp lw (fun z=>{ x0 with f_A:=z }) (c_api_Prefix_f_A x0)))) ?_
 refine fa 17 underlying37 rfl sizeOf3 ?_
 refine aw (r_load_cell isAgg3 rfl (lens_cell0 (c:=(cInt .i64)) (y:=x0.f_Bits) .z (Lens.comp lw (fun z=>{ x0 with f_Bits:=z }) (c_api_Prefix_f_Bits x0)) rfl)) ?_
 obtain ⟨t2,ht2,hF⟩:=bM hF
 refine cB func71 rfl (fun w hw=>cidr_Of_ok _ _ _ ht2 w) ?_
 refine am ?_
 refine aw xe (aw xe ?_)
 refine al (cs:=Cd.cs c_api_Prefix zv5) zeroValue37 ?_
 intro b3
 refine at_store (c:=c_api_Prefix) (z:=t2.1) .z lw sizeOf37 rfl rfl rfl ?_
 refine aa (nwx [4,3,1] ?_)
 refine am (aw xq (am ?_))
 obtain ⟨h4,hF⟩|⟨h4,hF⟩:=oi hF
 ·refine fx 15 h4 ?_
  refine gy ?_
  refine aw (r_load_aggc (c:=c_api_Prefix) (z:=t2.1) isAgg37 sizeOf37 rfl (lens_cell .z lw)) ?_
  refine gy ?_
  refine aw (r_load_aggc (c:=c_api_Prefix) (z:=x0) isAgg37 sizeOf37 rfl (lens_cell (.s .z) lw)) ?_
  refine gy ?_
  refine aw (r_eqagg (c:=c_api_Prefix) (a:=t2.1) (b:=x0) (eq_api_Prefix_37) rfl Try.eqGuardType37 rfl rfl (.inl rfl) rfl) ?_
  refine aw xp (aa (qn (dz (dz (wq [2] ?_)))))
  refine tn (qt ?_)
  have K:=os hF
  subst K
  exact r1 wb
 refine fx 15 h4 ?_
 refine gn ?_
 refine gn ?_
 refine gn ?_
 refine aw xp (aa (qn (dz (dz (wq [2] ?_)))))
 refine tn (qt ?_)
 have K:=os hF
 subst K
 exact r1 wb
def cidr_Less(x0:S_api_Prefix)(x1:S_api_Prefix):Option (Bool) :=
 if (decide (x0.f_A=x1.f_A))=true then (some (decide (x0.f_Bits<x1.f_Bits))) else (addr_Less x0.f_A x1.f_A>>=fun t4=>some t4)
theorem cidr_Less_ok(x0:S_api_Prefix)(x1:S_api_Prefix)(r:Bool)(hF:cidr_Less x0 x1=some r)(w:World) :
    Calls Try.prog 67 #[.agg (Cd.cs c_api_Prefix x0).toArray,.agg (Cd.cs c_api_Prefix x1).toArray] w (fun e w'=>e=.returned (.bool r)∧Below w.heap.size w w'):=by
 unfold cidr_Less at hF
 refine ce (l:=[.agg (Cd.cs c_api_Prefix x0).toArray,.agg (Cd.cs c_api_Prefix x1).toArray]) func67 rfl rfl ?_
 refine at_start ?_
 refine sr ?_
 refine at_box (cs:=Cd.cs c_api_Prefix x0) rfl rfl rfl ?_
 intro b1
 refine at_box (cs:=Cd.cs c_api_Prefix x1) rfl rfl rfl ?_
 intro b2
 refine aa (nt (qs (sr (fa 0 underlying37 rfl sizeOf24 ?_))))
 refine aw (r_load_aggc (c:=c_api_Addr) (z:=x0.f_A) isAgg24 sizeOf24 rfl (lens_cell (.s .z) (Lens.comp lw (fun z=>{ x0 with f_A:=z }) (c_api_Prefix_f_A x0)))) ?_
 refine fa 0 underlying37 rfl sizeOf24 ?_
 refine aw (r_load_aggc (c:=c_api_Addr) (z:=x1.f_A) isAgg24 sizeOf24 rfl (lens_cell .z (Lens.comp lw (fun z=>{ x1 with f_A:=z }) (c_api_Prefix_f_A x1)))) ?_
 refine aw (r_eqagg (c:=c_api_Addr) (a:=x0.f_A) (b:=x1.f_A) (eq_api_Addr_24) rfl Try.eqGuardType24 rfl rfl (.inl rfl) rfl) ?_
 refine nwq [9,3,2] ?_
 obtain ⟨h3,hF⟩|⟨h3,hF⟩:=oi hF
 ·refine ct h3 ?_
  refine sr (fa 17 underlying37 rfl sizeOf3 ?_)
  refine aw (r_load_cell isAgg3 rfl (lens_cell0 (c:=(cInt .i64)) (y:=x0.f_Bits) (.s .z) (Lens.comp lw (fun z=>{ x0 with f_Bits:=z }) (c_api_Prefix_f_Bits x0)) rfl)) ?_
  refine fa 17 underlying37 rfl sizeOf3 ?_
  refine aw (r_load_cell isAgg3 rfl (lens_cell0 (c:=(cInt .i64)) (y:=x1.f_Bits) .z (Lens.comp lw (fun z=>{ x1 with f_Bits:=z }) (c_api_Prefix_f_Bits x1)) rfl)) ?_
  refine aw xl (aa (qn (dz (dz (wq [4] ?_)))))
  refine tn (rt ?_)
  have K:=os hF
  subst K
  exact r1 wb
 refine cf h3 ?_
 refine sns (fa 0 underlying37 rfl sizeOf24 ?_)
 refine aw (r_load_aggc (c:=c_api_Addr) (z:=x0.f_A) isAgg24 sizeOf24 rfl (lens_cell (.s .z) (Lens.comp lw (fun z=>{ x0 with f_A:=z }) (c_api_Prefix_f_A x0)))) ?_
 refine fa 0 underlying37 rfl sizeOf24 ?_
 refine aw (r_load_aggc (c:=c_api_Addr) (z:=x1.f_A) isAgg24 sizeOf24 rfl (lens_cell .z (Lens.comp lw (fun z=>{ x1 with f_A:=z }) (c_api_Prefix_f_A x1)))) ?_
 obtain ⟨t4,ht4,hF⟩:=bM hF
 refine cB func39 rfl (fun w hw=>addr_Less_ok _ _ _ ht4 w) ?_
 refine aa (qn (dz (dz (wq [4] ?_))))
 refine tn (qt ?_)
 have K:=os hF
 subst K
 exact r1 wb
def cidr_Has(x0:S_api_Prefix)(x1:S_api_Addr):Option (Bool) :=
 cidr_Right x0>>=fun t3=>if t3=true then (addr_Right x1>>=fun t5=>if t5=true then (if (x1.f_V==x0.f_A.f_V)=true then (addr_Mask x1 x0.f_Bits>>=fun t8=>some (decide (t8=x0.f_A))) else (some false)) else (some false)) else (some false)
theorem cidr_Has_ok(x0:S_api_Prefix)(x1:S_api_Addr)(r:Bool)(hF:cidr_Has x0 x1=some r)(w:World) :
    Calls Try.prog 97 #[.agg (Cd.cs c_api_Prefix x0).toArray,.agg (Cd.cs c_api_Addr x1).toArray] w (fun e w'=>e=.returned (.bool r)∧Below w.heap.size w w'):=by
 unfold cidr_Has at hF
 refine ce (l:=[.agg (Cd.cs c_api_Prefix x0).toArray,.agg (Cd.cs c_api_Addr x1).toArray]) func97 rfl rfl ?_
 refine at_start ?_
 refine sr ?_
 refine at_box (cs:=Cd.cs c_api_Prefix x0) rfl rfl rfl ?_
 intro b1
 refine at_box (cs:=Cd.cs c_api_Addr x1) rfl rfl rfl ?_
 intro b2
 refine aa (nwq [3,2] ?_)
 refine qs ?_
 refine at_draw (by kernel_rfl) (by kernel_rfl) (fun _ h=>h.drew) ?_
 refine atq_val rfl rfl rfl (r_load_aggc (c:=c_api_Prefix) (z:=x0) isAgg37 sizeOf37 rfl (lens_cell (.s .z) lw)) ?_
 obtain ⟨t3,ht3,hF⟩:=bM hF
 refine atq_call func47 rfl (by kernel_rfl) rfl rfl (fun w hw=>(cidr_Right_ok _ _ ht3 w).mono fun _ _ h=>⟨h.1,hw.call h.2⟩) ?_
 refine atq_val rfl rfl rfl (r_move rfl) ?_
 obtain ⟨h4,hF⟩|⟨h4,hF⟩:=oi hF
 ·refine atq_fix (g:=7) rfl h4 ?_
  refine atq_guard_yes rfl rfl rfl ?_
  refine atq_val rfl rfl rfl (r_load_aggc (c:=c_api_Addr) (z:=x1) isAgg24 sizeOf24 rfl (lens_cell .z lw)) ?_
  refine atq_guard_yes rfl rfl rfl ?_
  obtain ⟨t5,ht5,hF⟩:=bM hF
  refine atq_call func40 rfl (by kernel_rfl) rfl rfl (fun w hw=>(addr_Right_ok _ _ ht5 w).mono fun _ _ h=>⟨h.1,hw.call h.2⟩) ?_
  refine atq_val rfl rfl rfl (r_pick rfl rfl rfl) ?_
  refine atq_val rfl rfl rfl (r_move rfl) ?_
  obtain ⟨h6,hF⟩|⟨h6,hF⟩:=oi hF
  ·refine atq_fix (g:=11) rfl h6 ?_
   refine atq_guard_yes rfl rfl rfl ?_
   refine atq_val rfl rfl rfl (r_fieldAddr (fo:=0) underlying24 rfl rfl (fun w=>⟨_,sizeOf3 w⟩) rfl) ?_
   refine atq_guard_yes rfl rfl rfl ?_
   refine atq_val rfl rfl rfl (r_load_cell isAgg3 rfl (lens_cell0 (c:=(cInt .i64)) (y:=x1.f_V) .z (Lens.comp lw (fun z=>{ x1 with f_V:=z }) (c_api_Addr_f_V x1)) rfl)) ?_
   refine atq_guard_yes rfl rfl rfl ?_
   refine atq_val rfl rfl rfl (r_fieldAddr (fo:=0) underlying37 rfl rfl (fun w=>⟨_,sizeOf24 w⟩) rfl) ?_
   refine atq_guard_yes rfl rfl rfl ?_
   refine atq_val rfl rfl rfl (r_fieldAddr (fo:=0) underlying24 rfl rfl (fun w=>⟨_,sizeOf3 w⟩) rfl) ?_
   refine atq_guard_yes rfl rfl rfl ?_
   refine atq_val rfl rfl rfl (r_load_cell isAgg3 rfl (lens_cell0 (c:=(cInt .i64)) (y:=x0.f_A.f_V) (.s .z) (Lens.comp (Lens.comp lw (fun z=>{ x0 with f_A:=z }) (c_api_Prefix_f_A x0)) (fun z=>{ x0.f_A with f_V:=z }) (c_api_Addr_f_V x0.f_A)) rfl)) ?_
   refine atq_guard_yes rfl rfl rfl ?_
   refine atq_val rfl rfl rfl (r_ieql rfl rfl) ?_
   refine atq_val rfl rfl rfl (r_pick rfl rfl rfl) ?_
   refine atq_val rfl rfl rfl (r_move rfl) ?_
   obtain ⟨h7,hF⟩|⟨h7,hF⟩:=oi hF
   ·refine atq_fix (g:=19) rfl h7 ?_
    refine atq_guard_yes rfl rfl rfl ?_
    refine atq_val rfl rfl rfl (r_load_aggc (c:=c_api_Addr) (z:=x1) isAgg24 sizeOf24 rfl (lens_cell .z lw)) ?_
    refine atq_guard_yes rfl rfl rfl ?_
    refine atq_val rfl rfl rfl (r_fieldAddr (fo:=17) underlying37 rfl rfl (fun w=>⟨_,sizeOf3 w⟩) rfl) ?_
    refine atq_guard_yes rfl rfl rfl ?_
    refine atq_val rfl rfl rfl (r_load_cell isAgg3 rfl (lens_cell0 (c:=(cInt .i64)) (y:=x0.f_Bits) (.s .z) (Lens.comp lw (fun z=>{ x0 with f_Bits:=z }) (c_api_Prefix_f_Bits x0)) rfl)) ?_
    refine atq_guard_yes rfl rfl rfl ?_
    obtain ⟨t8,ht8,hF⟩:=bM hF
    refine atq_call func85 rfl (by kernel_rfl) rfl rfl (fun w hw=>(addr_Mask_ok _ _ _ ht8 w).mono fun _ _ h=>⟨h.1,hw.call h.2⟩) ?_
    refine atq_guard_yes rfl rfl rfl ?_
    refine atq_val rfl rfl rfl (r_fieldAddr (fo:=0) underlying37 rfl rfl (fun w=>⟨_,sizeOf24 w⟩) rfl) ?_
    refine atq_guard_yes rfl rfl rfl ?_
    refine atq_val rfl rfl rfl (r_load_aggc (c:=c_api_Addr) (z:=x0.f_A) isAgg24 sizeOf24 rfl (lens_cell (.s .z) (Lens.comp lw (fun z=>{ x0 with f_A:=z }) (c_api_Prefix_f_A x0)))) ?_
    refine atq_guard_yes rfl rfl rfl ?_
    refine atq_val rfl rfl rfl (r_eqagg (c:=c_api_Addr) (a:=t8) (b:=x0.f_A) (eq_api_Addr_24) rfl Try.eqGuardType24 rfl rfl (.inl rfl) rfl) ?_
    refine atq_val rfl rfl rfl (r_pick rfl rfl rfl) ?_
    refine atq_val rfl rfl rfl (r_assign rfl) ?_
    refine atq_nil ?_
    refine dz (dz (wq [4] ?_))
    refine tn (qt ?_)
    have K:=os hF
    subst K
    exact r1 wb
   refine atq_fix (g:=19) rfl h7 ?_
   refine atq_guard_no rfl rfl rfl rfl rfl ?_
   refine atq_guard_no rfl rfl rfl rfl rfl ?_
   refine atq_guard_no rfl rfl rfl rfl rfl ?_
   refine atq_guard_no rfl rfl rfl rfl rfl ?_
   refine atq_guard_no rfl rfl rfl rfl rfl ?_
   refine atq_guard_no rfl rfl rfl rfl rfl ?_
   refine atq_guard_no rfl rfl rfl rfl rfl ?_
   refine atq_val rfl rfl rfl (r_pick rfl rfl rfl) ?_
   refine atq_val rfl rfl rfl (r_assign rfl) ?_
   refine atq_nil ?_
   refine dz (dz (wq [4] ?_))
   refine tn (qt ?_)
   have K:=os hF
   subst K
   exact r1 wb
  refine atq_fix (g:=11) rfl h6 ?_
  refine atq_guard_no rfl rfl rfl rfl rfl ?_
  refine atq_guard_no rfl rfl rfl rfl rfl ?_
  refine atq_guard_no rfl rfl rfl rfl rfl ?_
  refine atq_guard_no rfl rfl rfl rfl rfl ?_
  refine atq_guard_no rfl rfl rfl rfl rfl ?_
  refine atq_guard_no rfl rfl rfl rfl rfl ?_
  refine atq_val rfl rfl rfl (r_pick rfl rfl rfl) ?_
  refine atq_val rfl rfl rfl (r_move rfl) ?_
  refine atq_guard_no rfl rfl rfl rfl rfl ?_
  refine atq_guard_no rfl rfl rfl rfl rfl ?_
  refine atq_guard_no rfl rfl rfl rfl rfl ?_
  refine atq_guard_no rfl rfl rfl rfl rfl ?_
  refine atq_guard_no rfl rfl rfl rfl rfl ?_
  refine atq_guard_no rfl rfl rfl rfl rfl ?_
  refine atq_guard_no rfl rfl rfl rfl rfl ?_
  refine atq_val rfl rfl rfl (r_pick rfl rfl rfl) ?_
  refine atq_val rfl rfl rfl (r_assign rfl) ?_
  refine atq_nil ?_
  refine dz (dz (wq [4] ?_))
  refine tn (qt ?_)
  have K:=os hF
  subst K
  exact r1 wb
 refine atq_fix (g:=7) rfl h4 ?_
 refine atq_guard_no rfl rfl rfl rfl rfl ?_
 refine atq_guard_no rfl rfl rfl rfl rfl ?_
 refine atq_val rfl rfl rfl (r_pick rfl rfl rfl) ?_
 refine atq_val rfl rfl rfl (r_move rfl) ?_
 refine atq_guard_no rfl rfl rfl rfl rfl ?_
 refine atq_guard_no rfl rfl rfl rfl rfl ?_
 refine atq_guard_no rfl rfl rfl rfl rfl ?_
 refine atq_guard_no rfl rfl rfl rfl rfl ?_
 refine atq_guard_no rfl rfl rfl rfl rfl ?_
 refine atq_guard_no rfl rfl rfl rfl rfl ?_
 refine atq_val rfl rfl rfl (r_pick rfl rfl rfl) ?_
 refine atq_val rfl rfl rfl (r_move rfl) ?_
 refine atq_guard_no rfl rfl rfl rfl rfl ?_
 refine atq_guard_no rfl rfl rfl rfl rfl ?_
 refine atq_guard_no rfl rfl rfl rfl rfl ?_
 refine atq_guard_no rfl rfl rfl rfl rfl ?_
 refine atq_guard_no rfl rfl rfl rfl rfl ?_
 refine atq_guard_no rfl rfl rfl rfl rfl ?_
 refine atq_guard_no rfl rfl rfl rfl rfl ?_
 refine atq_val rfl rfl rfl (r_pick rfl rfl rfl) ?_
 refine atq_val rfl rfl rfl (r_assign rfl) ?_
 refine atq_nil ?_
 refine dz (dz (wq [4] ?_))
 refine tn (qt ?_)
 have K:=os hF
 subst K
 exact r1 wb
def cidr_Covers(x0:S_api_Prefix)(x1:S_api_Prefix):Option (Bool) :=
 cidr_Right x1>>=fun t3=>if t3=true then (if (decide (x0.f_Bits≤x1.f_Bits))=true then (cidr_Has x0 x1.f_A>>=fun t6=>some t6) else (some false)) else (some false)
theorem cidr_Covers_ok(x0:S_api_Prefix)(x1:S_api_Prefix)(r:Bool)(hF:cidr_Covers x0 x1=some r)(w:World) :
    Calls Try.prog 78 #[.agg (Cd.cs c_api_Prefix x0).toArray,.agg (Cd.cs c_api_Prefix x1).toArray] w (fun e w'=>e=.returned (.bool r)∧Below w.heap.size w w'):=by
 unfold cidr_Covers at hF
 refine ce (l:=[.agg (Cd.cs c_api_Prefix x0).toArray,.agg (Cd.cs c_api_Prefix x1).toArray]) func78 rfl rfl ?_
 refine at_start ?_
 refine sr ?_
 refine at_box (cs:=Cd.cs c_api_Prefix x0) rfl rfl rfl ?_
 intro b1
 refine at_box (cs:=Cd.cs c_api_Prefix x1) rfl rfl rfl ?_
 intro b2
 refine aa (nwx [3,2] ?_)
 refine aw (r_load_aggc (c:=c_api_Prefix) (z:=x1) isAgg37 sizeOf37 rfl (lens_cell .z lw)) ?_
 obtain ⟨t3,ht3,hF⟩:=bM hF
 refine cB func47 rfl (fun w hw=>cidr_Right_ok _ _ ht3 w) ?_
 refine am ?_
 obtain ⟨h4,hF⟩|⟨h4,hF⟩:=oi hF
 ·refine fx 7 h4 ?_
  refine gy ?_
  refine fa 17 underlying37 rfl sizeOf3 ?_
  refine gy ?_
  refine aw (r_load_cell isAgg3 rfl (lens_cell0 (c:=(cInt .i64)) (y:=x0.f_Bits) (.s .z) (Lens.comp lw (fun z=>{ x0 with f_Bits:=z }) (c_api_Prefix_f_Bits x0)) rfl)) ?_
  refine gy ?_
  refine fa 17 underlying37 rfl sizeOf3 ?_
  refine gy ?_
  refine aw (r_load_cell isAgg3 rfl (lens_cell0 (c:=(cInt .i64)) (y:=x1.f_Bits) .z (Lens.comp lw (fun z=>{ x1 with f_Bits:=z }) (c_api_Prefix_f_Bits x1)) rfl)) ?_
  refine gy ?_
  refine aw (r_ileq rfl rfl) ?_
  refine aw xp (am ?_)
  obtain ⟨h5,hF⟩|⟨h5,hF⟩:=oi hF
  ·refine fx 14 h5 ?_
   refine gy ?_
   refine aw (r_load_aggc (c:=c_api_Prefix) (z:=x0) isAgg37 sizeOf37 rfl (lens_cell (.s .z) lw)) ?_
   refine gy ?_
   refine fa 0 underlying37 rfl sizeOf24 ?_
   refine gy ?_
   refine aw (r_load_aggc (c:=c_api_Addr) (z:=x1.f_A) isAgg24 sizeOf24 rfl (lens_cell .z (Lens.comp lw (fun z=>{ x1 with f_A:=z }) (c_api_Prefix_f_A x1)))) ?_
   refine gy ?_
   obtain ⟨t6,ht6,hF⟩:=bM hF
   refine cB func97 rfl (fun w hw=>cidr_Has_ok _ _ _ ht6 w) ?_
   refine aw xp (aa (qn (dz (dz (wq [4] ?_)))))
   refine tn (qt ?_)
   have K:=os hF
   subst K
   exact r1 wb
  refine fx 14 h5 ?_
  refine gn ?_
  refine gn ?_
  refine gn ?_
  refine gn ?_
  refine aw xp (aa (qn (dz (dz (wq [4] ?_)))))
  refine tn (qt ?_)
  have K:=os hF
  subst K
  exact r1 wb
 refine fx 7 h4 ?_
 refine gn ?_
 refine gn ?_
 refine gn ?_
 refine gn ?_
 refine gn ?_
 refine aw xp (am ?_)
 refine gn ?_
 refine gn ?_
 refine gn ?_
 refine gn ?_
 refine aw xp (aa (qn (dz (dz (wq [4] ?_)))))
 refine tn (qt ?_)
 have K:=os hF
 subst K
 exact r1 wb
def crawlwayref10_Right.l0(x0:S_api_Addr)(i4:Int):Option (Ctl (Bool) (Unit)) :=
 if (decide (i4<16))=true then (if (0:Int)≤i4∧i4<16 then if (vget x0.f_B i4 != 0)=true then (some (.ret false)) else (crawlwayref10_Right.l0 x0 (wr .i64 (i4+1))) else none) else (some (.nx ()))
 partial_fixpoint
def crawlwayref10_Right(x0:S_api_Addr):Option (Bool) :=
 if (x0.f_V==6)=true then (some true) else (crawlwayref10_Right.l0 x0 4>>=fun q3=>match q3 with | .ret r'=>some r' | .nx sq3=>(some (x0.f_V==4)))
theorem crawlwayref10_Right_ok(x0:S_api_Addr)(r:Bool)(hF:crawlwayref10_Right x0=some r)(w:World) :
    Calls Try.prog 23 #[.agg (Cd.cs c_api_Addr x0).toArray] w (fun e w'=>e=.returned (.bool r)∧Below w.heap.size w w'):=by
 unfold crawlwayref10_Right at hF
 refine ce (l:=[.agg (Cd.cs c_api_Addr x0).toArray]) func23 rfl rfl ?_
 refine at_start ?_
 refine sr ?_
 refine at_box (cs:=Cd.cs c_api_Addr x0) rfl rfl rfl ?_
 intro b1
 refine aa (nt (qs (sr (fa 0 underlying24 rfl sizeOf3 ?_))))
 refine aw (r_load_cell isAgg3 rfl (lens_cell0 (c:=(cInt .i64)) (y:=x0.f_V) .z (Lens.comp lw (fun z=>{ x0 with f_V:=z }) (c_api_Addr_f_V x0)) rfl)) ?_
 refine aw xq (nwq [6,1] ?_)
 obtain ⟨h2,hF⟩|⟨h2,hF⟩:=oi hF
 ·refine ct h2 ?_
  refine sr (aa (qn (dz (wq [2] ?_))))
  refine tn (rt ?_)
  have K:=os hF
  subst K
  exact r1 wb
 refine cf h2 ?_
 refine sn (qs (sr (aa (nwq [3,1] ?_))))
 refine qb ?_
 obtain ⟨q3,hq3,hF⟩:=bM hF
 refine wq [3,1] ?_
 refine at_loop_r (B:=0) (r:=r) (q:=q3) (A:=fun (_:Unit) Y=>At 19 [(1,.pointer (some ⟨b1,0,none⟩))] (Wd w [cellsE b1 (Cd.cs c_api_Addr x0) 24]) Y) ?_ ?_
 ·intro K
  refine crawlwayref10_Right.l0.partial_correctness x0 (motive:=fun i4 x=>KR (fun (_:Unit) Y=>At 19 [(1,.pointer (some ⟨b1,0,none⟩))] (Wd w [cellsE b1 (Cd.cs c_api_Addr x0) 24]) Y) _ 0 r x→Round (fun Y=>At 19 [(1,.pointer (some ⟨b1,0,none⟩)),(3,.int .i64 i4)] (Wd w [cellsE b1 (Cd.cs c_api_Addr x0) 24]) Y) _ _ _) ?_ _ _ hq3 K
  ·clear K hF
   intro g ih i4 x hF K
   refine at_round ?_
   refine qs (sr (am (aw xl (nwq [8,3,1] ?_))))
   obtain ⟨h5,hF⟩|⟨h5,hF⟩:=oi hF
   ·refine ct h5 ?_
    refine sn (qs ?_)
    refine qb ?_
    refine sr (am (fa 1 underlying24 rfl sizeOf22 ?_))
    obtain ⟨h6,hF⟩:=gd hF
    refine aw (r_idxArr underlying22 sizeOf5 rfl rfl h6) ?_
    refine aw (r_load_cell isAgg5 rfl (lens_cell0 (c:=(cInt .u8)) (y:=vget x0.f_B i4) .z (Lens.comp (Lens.comp lw (fun z=>{ x0 with f_B:=z }) (c_api_Addr_f_B x0)) (fun z=>vset x0.f_B i4 z) (Lens.vec (cInt .u8) (by decide) x0.f_B i4 h6)) rfl)) ?_
    refine aw xn (nwq [15,3,1] ?_)
    obtain ⟨h7,hF⟩|⟨h7,hF⟩:=oi hF
    ·refine ct h7 ?_
     refine sr (aa (qn (dz (wq [2] ?_))))
     refine tn (qt ?_)
     refine br (tr (tr (br (tr ?_))))
     obtain rfl:=os hF
     subst K
     exact r1 wb
    refine cf h7 ?_
    refine at_skip ?_
    refine bm ?_
    refine qr (am (aw xa (aa (nwq [3,1] ?_))))
    exact at_weak_k (ih _ _ hF K) ⟨rfl,rfl,trivial⟩
   refine cf h5 ?_
   refine at_exit ?_
   refine te (te ?_)
   obtain rfl:=os hF
   exact at_weak_k K ⟨rfl,trivial⟩
 cases q3 with
 | ret r'=>exact os hF
 | nx sq3 =>
  skip
  refine at_blk_same ?_
  refine tn (sr (fa 0 underlying24 rfl sizeOf3 ?_))
  refine aw (r_load_cell isAgg3 rfl (lens_cell0 (c:=(cInt .i64)) (y:=x0.f_V) .z (Lens.comp lw (fun z=>{ x0 with f_V:=z }) (c_api_Addr_f_V x0)) rfl)) ?_
  refine aw xq (aa (qn (dz (wq [2] ?_))))
  refine tn (qt ?_)
  have K:=os hF
  subst K
  exact r1 wb
def crawlwayref10_Width(x0:S_api_Addr):Option (Int) :=
 crawlwayref10_Right x0>>=fun t2=>if (!t2)=true then (some 0) else (if (x0.f_V==4)=true then (some 32) else (some 128))
theorem crawlwayref10_Width_ok(x0:S_api_Addr)(r:Int)(hF:crawlwayref10_Width x0=some r)(w:World) :
    Calls Try.prog 42 #[.agg (Cd.cs c_api_Addr x0).toArray] w (fun e w'=>e=.returned (.int .i64 r)∧Below w.heap.size w w'):=by
 unfold crawlwayref10_Width at hF
 refine ce (l:=[.agg (Cd.cs c_api_Addr x0).toArray]) func42 rfl rfl ?_
 refine at_start ?_
 refine sr ?_
 refine at_box (cs:=Cd.cs c_api_Addr x0) rfl rfl rfl ?_
 intro b1
 refine aa (nt (qs (sr ?_)))
 refine aw (r_load_aggc (c:=c_api_Addr) (z:=x0) isAgg24 sizeOf24 rfl (lens_cell .z lw)) ?_
 obtain ⟨t2,ht2,hF⟩:=bM hF
 refine cB func23 rfl (fun w hw=>crawlwayref10_Right_ok _ _ ht2 w) ?_
 refine aw (r_not rfl) ?_
 refine nwq [5,1] ?_
 obtain ⟨h3,hF⟩|⟨h3,hF⟩:=oi hF
 ·refine ct h3 ?_
  refine sr (aa (qn (dz (wq [2] ?_))))
  refine tn (rt ?_)
  have K:=os hF
  subst K
  exact r1 wb
 refine cf h3 ?_
 refine sn (qs (sr (fa 0 underlying24 rfl sizeOf3 ?_)))
 refine aw (r_load_cell isAgg3 rfl (lens_cell0 (c:=(cInt .i64)) (y:=x0.f_V) .z (Lens.comp lw (fun z=>{ x0 with f_V:=z }) (c_api_Addr_f_V x0)) rfl)) ?_
 refine aw xq (qn (dz (wq [8] ?_)))
 refine tn ?_
 obtain ⟨h4,hF⟩|⟨h4,hF⟩:=oi hF
 ·refine ct h4 ?_
  refine sr (aa (nwq [2] ?_))
  refine rt ?_
  have K:=os hF
  subst K
  exact r1 wb
 refine cf h4 ?_
 refine sns (aa (nwq [2] ?_))
 refine qt ?_
 have K:=os hF
 subst K
 exact r1 wb
def crawlwayref10_digit.l0(x1:Int)(i4:Int)(i5:Int):Option (Int) :=
 if (decide (i5>Int.tmod x1 8))=true then (crawlwayref10_digit.l0 x1 (wr .i64 (Int.tdiv i4 2)) (wr .i64 (i5-1))) else (some i4)
 partial_fixpoint
def crawlwayref10_digit(x0:S_api_Addr)(x1:Int):Option (Int) :=
 if (0:Int)≤wr .i64 (Int.tdiv x1 8)∧wr .i64 (Int.tdiv x1 8)<16 then crawlwayref10_digit.l0 x1 (wr .i64 (vget x0.f_B (wr .i64 (Int.tdiv x1 8)))) 7>>=fun q3=>some (Int.tmod q3 2) else none
theorem crawlwayref10_digit_ok(x0:S_api_Addr)(x1:Int)(r:Int)(hF:crawlwayref10_digit x0 x1=some r)(w:World) :
    Calls Try.prog 43 #[.agg (Cd.cs c_api_Addr x0).toArray,.int .i64 x1] w (fun e w'=>e=.returned (.int .i64 r)∧Below w.heap.size w w'):=by
 unfold crawlwayref10_digit at hF
 refine ce (l:=[.agg (Cd.cs c_api_Addr x0).toArray,.int .i64 x1]) func43 rfl rfl ?_
 refine at_start ?_
 refine sr ?_
 refine at_box (cs:=Cd.cs c_api_Addr x0) rfl rfl rfl ?_
 intro b1
 refine aa (ns (am ?_))
 refine aw (r_iquo rfl rfl (by decide)) ?_
 refine fa 1 underlying24 rfl sizeOf22 ?_
 obtain ⟨h2,hF⟩:=gd hF
 refine aw (r_idxArr underlying22 sizeOf5 rfl rfl h2) ?_
 refine aw (r_load_cell isAgg5 rfl (lens_cell0 (c:=(cInt .u8)) (y:=vget x0.f_B (wr .i64 (Int.tdiv x1 8))) .z (Lens.comp (Lens.comp lw (fun z=>{ x0 with f_B:=z }) (c_api_Addr_f_B x0)) (fun z=>vset x0.f_B (wr .i64 (Int.tdiv x1 8)) z) (Lens.vec (cInt .u8) (by decide) x0.f_B (wr .i64 (Int.tdiv x1 8)) h2)) rfl)) ?_
 refine aw (r_conv underlying5 underlying3 rfl) ?_
 refine aa (qn (dz (tn (qs (sr (aa (nwq [6,5,1] ?_)))))))
 refine qb ?_
 obtain ⟨q3,hq3,hF⟩:=bM hF
 refine wq [6,5,1] ?_
 refine at_loop_n (B:=0) (A:=fun Y=>At 23 [(5,.int .i64 q3)] (Wd w []) Y) ?_ ?_
 ·intro K
  refine crawlwayref10_digit.l0.partial_correctness x1 (motive:=fun i4 i5 x=>KN (fun Y=>At 23 [(5,.int .i64 x)] (Wd w []) Y) _ 0→Round (fun Y=>At 23 [(1,.int .i64 x1),(5,.int .i64 i4),(6,.int .i64 i5)] (Wd w []) Y) _ _ _) ?_ _ _ _ hq3 K
  ·clear K hF
   intro g ih i4 i5 x hF K
   refine at_round ?_
   refine qs (sr (am (am ?_)))
   refine aw (r_irem rfl rfl (by decide)) ?_
   refine aw (r_igtr rfl rfl) ?_
   refine nwq [16,6,5,1] ?_
   obtain ⟨h6,hF⟩|⟨h6,hF⟩:=oi hF
   ·refine ct h6 ?_
    refine sn (qs ?_)
    refine qb ?_
    refine qr (am ?_)
    refine aw (r_iquo rfl rfl (by decide)) ?_
    refine aa (qn (wq [6,5,1] ?_))
    refine bm ?_
    refine qr (am ?_)
    refine aw (r_isub rfl rfl) ?_
    refine aa (nwq [6,5,1] ?_)
    exact at_weak_k (ih _ _ _ hF K) ⟨rfl,rfl,rfl,trivial⟩
   refine cf h6 ?_
   refine at_exit ?_
   refine te (te ?_)
   obtain rfl:=os hF
   exact at_weak_k K ⟨rfl,trivial⟩
 skip
 skip
 refine at_blk_same ?_
 refine tn (sr (am ?_))
 refine aw (r_irem rfl rfl (by decide)) ?_
 refine aa (nwq [4] ?_)
 refine qt ?_
 have K:=os hF
 subst K
 exact r1 wb
def crawlwayref10_Mask.l1(i9:Int)(i17:Int)(i18:Int):Option (Int) :=
 if (decide (i18<Int.tmod i9 8))=true then (crawlwayref10_Mask.l1 i9 (wr .i64 (Int.tdiv i17 2)) (wr .i64 (i18+1))) else (some i17)
 partial_fixpoint
def crawlwayref10_Mask.l0(x0:S_api_Addr)(x1:Int)(t6:Int)(i9:Int)(i10:S_api_Addr):Option (S_api_Addr) :=
 if (decide (i9<t6))=true then (if (decide (i9<x1))=true then (crawlwayref10_digit x0 i9>>=fun t13=>if (t13==1)=true then (crawlwayref10_Mask.l1 i9 128 0>>=fun q15=>if (0:Int)≤wr .i64 (Int.tdiv i9 8)∧wr .i64 (Int.tdiv i9 8)<16 then if (0:Int)≤wr .i64 (Int.tdiv i9 8)∧wr .i64 (Int.tdiv i9 8)<16 then crawlwayref10_Mask.l0 x0 x1 t6 (wr .i64 (i9+1)) ({ i10 with f_B:=vset i10.f_B (wr .i64 (Int.tdiv i9 8)) (wr .u8 ((vget i10.f_B (wr .i64 (Int.tdiv i9 8)))+(wr .u8 q15))) }) else none else none) else (crawlwayref10_Mask.l0 x0 x1 t6 (wr .i64 (i9+1)) i10)) else (some i10)) else (some i10)
 partial_fixpoint
def crawlwayref10_Mask(x0:S_api_Addr)(x1:Int):Option (S_api_Addr) :=
 crawlwayref10_Right x0>>=fun t3=>if (!t3)=true then (some ({ f_V:=(0:Int),f_B:=(Vector.replicate 16 (0:Int):(Vector Int 16)) }:S_api_Addr)) else (crawlwayref10_Width x0>>=fun t6=>crawlwayref10_Mask.l0 x0 x1 t6 0 ({ ({ f_V:=(0:Int),f_B:=(Vector.replicate 16 (0:Int):(Vector Int 16)) }:S_api_Addr) with f_V:=x0.f_V })>>=fun q7=>some q7)
theorem crawlwayref10_Mask_ok(x0:S_api_Addr)(x1:Int)(r:S_api_Addr)(hF:crawlwayref10_Mask x0 x1=some r)(w:World) :
    Calls Try.prog 16 #[.agg (Cd.cs c_api_Addr x0).toArray,.int .i64 x1] w (fun e w'=>e=.returned (.agg (Cd.cs c_api_Addr r).toArray)∧Below w.heap.size w w'):=by
 unfold crawlwayref10_Mask at hF
 refine ce (l:=[.agg (Cd.cs c_api_Addr x0).toArray,.int .i64 x1]) func16 rfl rfl ?_
 refine at_start ?_
 refine sr ?_
 refine at_box (cs:=Cd.cs c_api_Addr x0) rfl rfl rfl ?_
 intro b1
 refine al (cs:=Cd.cs c_api_Addr zv0) zeroValue24 ?_
 intro b2
 refine nt (qs (sr ?_))
 refine aw (r_load_aggc (c:=c_api_Addr) (z:=x0) isAgg24 sizeOf24 rfl (lens_cell (.s .z) lw)) ?_
 obtain ⟨t3,ht3,hF⟩:=bM hF
 refine cB func23 rfl (fun w hw=>crawlwayref10_Right_ok _ _ ht3 w) ?_
 refine aw (r_not rfl) ?_
 refine nwq [12,4,2,1] ?_
 obtain ⟨h4,hF⟩|⟨h4,hF⟩:=oi hF
 ·refine ct h4 ?_
  refine sr ?_
  refine aw (r_build_struct (zs:=Cd.cs c_api_Addr zv0) (cs:=Cd.cs c_api_Addr zv0) underlying24 zeroValue24 rfl (places_api_Addr_24) rfl rfl) ?_
  refine at_store (c:=c_api_Addr) (z:=zv0) .z lw sizeOf24 rfl rfl rfl ?_
  refine qn ?_
  refine at_drop (H:=_) (.s .z) ?_
  refine wq [4] ?_
  refine tn (rt ?_)
  have K:=os hF
  subst K
  exact at_res1 rfl (res_cell (c:=c_api_Addr) (y:=zv0) rfl .z lw isAgg24 sizeOf24 (.inl rfl)) wb
 refine cf h4 ?_
 refine sns (fa 0 underlying24 rfl sizeOf3 ?_)
 refine aw (r_load_cell isAgg3 rfl (lens_cell0 (c:=(cInt .i64)) (y:=x0.f_V) (.s .z) (Lens.comp lw (fun z=>{ x0 with f_V:=z }) (c_api_Addr_f_V x0)) rfl)) ?_
 refine aw (r_build_struct (zs:=Cd.cs c_api_Addr zv0) (cs:=Cd.cs c_api_Addr ({ zv0 with f_V:=x0.f_V })) underlying24 zeroValue24 rfl (places_api_Addr_24) rfl (fill_step (c:=(cInt .i64)) (z:=x0.f_V) rfl (c_api_Addr_f_V zv0) rfl rfl)) ?_
 refine al (cs:=Cd.cs c_api_Addr zv0) zeroValue24 ?_
 intro b5
 refine at_store (c:=c_api_Addr) (z:={ zv0 with f_V:=x0.f_V }) .z lw sizeOf24 rfl rfl rfl ?_
 refine ns ?_
 refine aw (r_load_aggc (c:=c_api_Addr) (z:=x0) isAgg24 sizeOf24 rfl (lens_cell (.s (.s .z)) lw)) ?_
 obtain ⟨t6,ht6,hF⟩:=bM hF
 refine cB func42 rfl (fun w hw=>crawlwayref10_Width_ok _ _ ht6 w) ?_
 refine aa (nt (qs (sr (aa (nwq [7,6,5,4,2,1] ?_)))))
 refine qb ?_
 obtain ⟨q7,hq7,hF⟩:=bM hF
 refine wq [7,6,5,4,2,1] ?_
 refine at_loop_n (B:=0) (A:=fun Y=>At 54 [(4,.pointer (some ⟨b2,0,none⟩)),(5,.pointer (some ⟨b5,0,none⟩))] (Wd w [cellsE b5 (Cd.cs c_api_Addr q7) 24,cellsE b2 (Cd.cs c_api_Addr zv0) 24]) Y) ?_ ?_
 ·intro K
  refine crawlwayref10_Mask.l0.partial_correctness x0 x1 t6 (motive:=fun i9 i10 x=>KN (fun Y=>At 54 [(4,.pointer (some ⟨b2,0,none⟩)),(5,.pointer (some ⟨b5,0,none⟩))] (Wd w [cellsE b5 (Cd.cs c_api_Addr x) 24,cellsE b2 (Cd.cs c_api_Addr zv0) 24]) Y) _ 0→Round (fun Y=>At 54 [(1,.int .i64 x1),(2,.pointer (some ⟨b1,0,none⟩)),(4,.pointer (some ⟨b2,0,none⟩)),(5,.pointer (some ⟨b5,0,none⟩)),(6,.int .i64 t6),(7,.int .i64 i9)] (Wd w [cellsE b5 (Cd.cs c_api_Addr i10) 24,cellsE b2 (Cd.cs c_api_Addr zv0) 24,cellsE b1 (Cd.cs c_api_Addr x0) 24]) Y) _ _ _) ?_ _ _ _ hq7 K
  ·clear K hF
   intro g ih i9 i10 x hF K
   refine at_round ?_
   refine qs (sr (am (am (aw xl (am ?_)))))
   obtain ⟨h11,hF⟩|⟨h11,hF⟩:=oi hF
   ·refine fx 22 h11 ?_
    refine gy ?_
    refine am ?_
    refine gy ?_
    refine am ?_
    refine gy ?_
    refine aw xl (aw xp (nwq [26,7,6,5,4,2,1] ?_))
    obtain ⟨h12,hF⟩|⟨h12,hF⟩:=oi hF
    ·refine ct h12 ?_
     refine sn (qs ?_)
     refine qb ?_
     refine sr ?_
     refine aw (r_load_aggc (c:=c_api_Addr) (z:=x0) isAgg24 sizeOf24 rfl (lens_cell (.s (.s .z)) lw)) ?_
     refine am ?_
     obtain ⟨t13,ht13,hF⟩:=bM hF
     refine cB func43 rfl (fun w hw=>crawlwayref10_digit_ok _ _ _ ht13 w) ?_
     refine aw xq (nwq [32,7,6,5,4,2,1] ?_)
     obtain ⟨h14,hF⟩|⟨h14,hF⟩:=oi hF
     ·refine ct h14 ?_
      refine sr (aa (nt (qs (sr (aa (nwq [9,8,7,6,5,4,2,1] ?_))))))
      refine qb ?_
      obtain ⟨q15,hq15,hF⟩:=bM hF
      refine wq [9,8,7,6,5,4,2,1] ?_
      refine at_loop_n (B:=2) (A:=fun Y=>At 54 [(1,.int .i64 x1),(2,.pointer (some ⟨b1,0,none⟩)),(4,.pointer (some ⟨b2,0,none⟩)),(5,.pointer (some ⟨b5,0,none⟩)),(6,.int .i64 t6),(7,.int .i64 i9),(8,.int .i64 q15)] (Wd w [cellsE b5 (Cd.cs c_api_Addr i10) 24,cellsE b2 (Cd.cs c_api_Addr zv0) 24,cellsE b1 (Cd.cs c_api_Addr x0) 24]) Y) ?_ ?_
      ·intro K
       refine crawlwayref10_Mask.l1.partial_correctness i9 (motive:=fun i17 i18 x=>KN (fun Y=>At 54 [(1,.int .i64 x1),(2,.pointer (some ⟨b1,0,none⟩)),(4,.pointer (some ⟨b2,0,none⟩)),(5,.pointer (some ⟨b5,0,none⟩)),(6,.int .i64 t6),(7,.int .i64 i9),(8,.int .i64 x)] (Wd w [cellsE b5 (Cd.cs c_api_Addr i10) 24,cellsE b2 (Cd.cs c_api_Addr zv0) 24,cellsE b1 (Cd.cs c_api_Addr x0) 24]) Y) _ 2→Round (fun Y=>At 54 [(1,.int .i64 x1),(2,.pointer (some ⟨b1,0,none⟩)),(4,.pointer (some ⟨b2,0,none⟩)),(5,.pointer (some ⟨b5,0,none⟩)),(6,.int .i64 t6),(7,.int .i64 i9),(8,.int .i64 i17),(9,.int .i64 i18)] (Wd w [cellsE b5 (Cd.cs c_api_Addr i10) 24,cellsE b2 (Cd.cs c_api_Addr zv0) 24,cellsE b1 (Cd.cs c_api_Addr x0) 24]) Y) _ _ _) ?_ _ _ _ hq15 K
       ·clear K hF
        intro g ih i17 i18 x hF K
        refine at_round ?_
        refine qs (sr (am (am ?_)))
        refine aw (r_irem rfl rfl (by decide)) ?_
        refine aw xl (nwq [36,9,8,7,6,5,4,2,1] ?_)
        obtain ⟨h19,hF⟩|⟨h19,hF⟩:=oi hF
        ·refine ct h19 ?_
         refine sn (qs ?_)
         refine qb ?_
         refine qr (am ?_)
         refine aw (r_iquo rfl rfl (by decide)) ?_
         refine aa (qn (wq [9,8,7,6,5,4,2,1] ?_))
         refine bm ?_
         refine qr (am (aw xa (aa (nwq [9,8,7,6,5,4,2,1] ?_))))
         exact at_weak_k (ih _ _ _ hF K) ⟨rfl,rfl,rfl,rfl,rfl,rfl,rfl,rfl,trivial⟩
        refine cf h19 ?_
        refine at_exit ?_
        refine te (te ?_)
        obtain rfl:=os hF
        exact at_weak_k K ⟨rfl,rfl,rfl,rfl,rfl,rfl,rfl,trivial⟩
      skip
      skip
      refine at_blk_same ?_
      refine tn (qr (am ?_))
      refine aw (r_iquo rfl rfl (by decide)) ?_
      refine am ?_
      refine aw (r_iquo rfl rfl (by decide)) ?_
      refine fa 1 underlying24 rfl sizeOf22 ?_
      obtain ⟨h20,hF⟩:=gd hF
      refine aw (r_idxArr underlying22 sizeOf5 rfl rfl h20) ?_
      refine aw (r_load_cell isAgg5 rfl (lens_cell0 (c:=(cInt .u8)) (y:=vget i10.f_B (wr .i64 (Int.tdiv i9 8))) .z (Lens.comp (Lens.comp lw (fun z=>{ i10 with f_B:=z }) (c_api_Addr_f_B i10)) (fun z=>vset i10.f_B (wr .i64 (Int.tdiv i9 8)) z) (Lens.vec (cInt .u8) (by decide) i10.f_B (wr .i64 (Int.tdiv i9 8)) h20)) rfl)) ?_
      refine am ?_
      refine aw (r_conv underlying3 underlying5 rfl) ?_
      refine aw xa (fa 1 underlying24 rfl sizeOf22 ?_)
      obtain ⟨h21,hF⟩:=gd hF
      refine aw (r_idxArr underlying22 sizeOf5 rfl rfl h21) ?_
      refine at_store (c:=(cInt .u8)) (z:=wr .u8 ((vget i10.f_B (wr .i64 (Int.tdiv i9 8)))+(wr .u8 q15))) .z (Lens.comp (Lens.comp lw (fun z=>{ i10 with f_B:=z }) (c_api_Addr_f_B i10)) (fun z=>vset i10.f_B (wr .i64 (Int.tdiv i9 8)) z) (Lens.vec (cInt .u8) (by decide) i10.f_B (wr .i64 (Int.tdiv i9 8)) h21)) sizeOf5 rfl rfl rfl ?_
      refine qn (wq [7,6,5,4,2,1] ?_)
      refine bm ?_
      refine qr (am (aw xa (aa (nwq [7,6,5,4,2,1] ?_))))
      exact at_weak_k (ih _ _ _ hF K) ⟨rfl,rfl,rfl,rfl,rfl,rfl,trivial⟩
     refine cf h14 ?_
     refine at_skip ?_
     refine bm ?_
     refine qr (am (aw xa (aa (nwq [7,6,5,4,2,1] ?_))))
     exact at_weak_k (ih _ _ _ hF K) ⟨rfl,rfl,rfl,rfl,rfl,rfl,trivial⟩
    refine cf h12 ?_
    refine at_exit ?_
    refine te (te ?_)
    refine at_drop (H:=_) (.s (.s .z)) ?_
    obtain rfl:=os hF
    exact at_weak_k K ⟨rfl,rfl,trivial⟩
   refine fx 22 h11 ?_
   refine gn ?_
   refine gn ?_
   refine gn ?_
   refine aw xp (nwq [26,7,6,5,4,2,1] ?_)
   refine cf rfl ?_
   refine at_exit ?_
   refine te (te ?_)
   refine at_drop (H:=_) (.s (.s .z)) ?_
   obtain rfl:=os hF
   exact at_weak_k K ⟨rfl,rfl,trivial⟩
 skip
 skip
 refine at_blk_same ?_
 refine tn (sr ?_)
 refine aw (r_load_aggc (c:=c_api_Addr) (z:=q7) isAgg24 sizeOf24 rfl (lens_cell .z lw)) ?_
 refine at_store (c:=c_api_Addr) (z:=q7) (.s .z) lw sizeOf24 rfl rfl rfl ?_
 refine qn (dz (wq [4] ?_))
 refine tn (qt ?_)
 have K:=os hF
 subst K
 exact at_res1 rfl (res_cell (c:=c_api_Addr) (y:=q7) rfl .z lw isAgg24 sizeOf24 (.inl rfl)) wb
def crawlwayref10_Less.l0(x0:S_api_Addr)(x1:S_api_Addr)(i5:Int):Option (Ctl (Bool) (Unit)) :=
 if (decide (i5<16))=true then (if (0:Int)≤i5∧i5<16 then if (0:Int)≤i5∧i5<16 then if (vget x0.f_B i5 != vget x1.f_B i5)=true then (if (0:Int)≤i5∧i5<16 then if (0:Int)≤i5∧i5<16 then some (.ret (decide (vget x0.f_B i5<vget x1.f_B i5))) else none else none) else (crawlwayref10_Less.l0 x0 x1 (wr .i64 (i5+1))) else none else none) else (some (.nx ()))
 partial_fixpoint
def crawlwayref10_Less(x0:S_api_Addr)(x1:S_api_Addr):Option (Bool) :=
 if (x0.f_V != x1.f_V)=true then (some (decide (x0.f_V<x1.f_V))) else (crawlwayref10_Less.l0 x0 x1 0>>=fun q4=>match q4 with | .ret r'=>some r' | .nx sq4=>(some false))
theorem crawlwayref10_Less_ok(x0:S_api_Addr)(x1:S_api_Addr)(r:Bool)(hF:crawlwayref10_Less x0 x1=some r)(w:World) :
    Calls Try.prog 24 #[.agg (Cd.cs c_api_Addr x0).toArray,.agg (Cd.cs c_api_Addr x1).toArray] w (fun e w'=>e=.returned (.bool r)∧Below w.heap.size w w'):=by
 unfold crawlwayref10_Less at hF
 refine ce (l:=[.agg (Cd.cs c_api_Addr x0).toArray,.agg (Cd.cs c_api_Addr x1).toArray]) func24 rfl rfl ?_
 refine at_start ?_
 refine sr ?_
 refine at_box (cs:=Cd.cs c_api_Addr x0) rfl rfl rfl ?_
 intro b1
 refine at_box (cs:=Cd.cs c_api_Addr x1) rfl rfl rfl ?_
 intro b2
 refine aa (nt (qs (sr (fa 0 underlying24 rfl sizeOf3 ?_))))
 refine aw (r_load_cell isAgg3 rfl (lens_cell0 (c:=(cInt .i64)) (y:=x0.f_V) (.s .z) (Lens.comp lw (fun z=>{ x0 with f_V:=z }) (c_api_Addr_f_V x0)) rfl)) ?_
 refine fa 0 underlying24 rfl sizeOf3 ?_
 refine aw (r_load_cell isAgg3 rfl (lens_cell0 (c:=(cInt .i64)) (y:=x1.f_V) .z (Lens.comp lw (fun z=>{ x1 with f_V:=z }) (c_api_Addr_f_V x1)) rfl)) ?_
 refine aw xn (nwq [10,3,2] ?_)
 obtain ⟨h3,hF⟩|⟨h3,hF⟩:=oi hF
 ·refine ct h3 ?_
  refine sr (fa 0 underlying24 rfl sizeOf3 ?_)
  refine aw (r_load_cell isAgg3 rfl (lens_cell0 (c:=(cInt .i64)) (y:=x0.f_V) (.s .z) (Lens.comp lw (fun z=>{ x0 with f_V:=z }) (c_api_Addr_f_V x0)) rfl)) ?_
  refine fa 0 underlying24 rfl sizeOf3 ?_
  refine aw (r_load_cell isAgg3 rfl (lens_cell0 (c:=(cInt .i64)) (y:=x1.f_V) .z (Lens.comp lw (fun z=>{ x1 with f_V:=z }) (c_api_Addr_f_V x1)) rfl)) ?_
  refine aw xl (aa (qn (dz (dz (wq [4] ?_)))))
  refine tn (rt ?_)
  have K:=os hF
  subst K
  exact r1 wb
 refine cf h3 ?_
 refine sn (qs (sr (aa (nwq [5,3,2] ?_))))
 refine qb ?_
 obtain ⟨q4,hq4,hF⟩:=bM hF
 refine wq [5,3,2] ?_
 refine at_loop_r (B:=0) (r:=r) (q:=q4) (A:=fun (_:Unit) Y=>At 38 [] (Wd w []) Y) ?_ ?_
 ·intro K
  refine crawlwayref10_Less.l0.partial_correctness x0 x1 (motive:=fun i5 x=>KR (fun (_:Unit) Y=>At 38 [] (Wd w []) Y) _ 0 r x→Round (fun Y=>At 38 [(2,.pointer (some ⟨b1,0,none⟩)),(3,.pointer (some ⟨b2,0,none⟩)),(5,.int .i64 i5)] (Wd w [cellsE b2 (Cd.cs c_api_Addr x1) 24,cellsE b1 (Cd.cs c_api_Addr x0) 24]) Y) _ _ _) ?_ _ _ hq4 K
  ·clear K hF
   intro g ih i5 x hF K
   refine at_round ?_
   refine qs (sr (am (aw xl (nwq [17,5,3,2] ?_))))
   obtain ⟨h6,hF⟩|⟨h6,hF⟩:=oi hF
   ·refine ct h6 ?_
    refine sn (qs ?_)
    refine qb ?_
    refine qs ?_
    refine at_draw (by kernel_rfl) (by kernel_rfl) (fun _ h=>h.drew) ?_
    refine atq_val rfl rfl rfl (r_move rfl) ?_
    refine atq_val rfl rfl rfl (r_fieldAddr (fo:=1) underlying24 rfl rfl (fun w=>⟨_,sizeOf22 w⟩) rfl) ?_
    obtain ⟨h7,hF⟩:=gd hF
    refine atq_val rfl rfl rfl (r_idxArr underlying22 sizeOf5 rfl rfl h7) ?_
    refine atq_val rfl rfl rfl (r_load_cell isAgg5 rfl (lens_cell0 (c:=(cInt .u8)) (y:=vget x0.f_B i5) (.s .z) (Lens.comp (Lens.comp lw (fun z=>{ x0 with f_B:=z }) (c_api_Addr_f_B x0)) (fun z=>vset x0.f_B i5 z) (Lens.vec (cInt .u8) (by decide) x0.f_B i5 h7)) rfl)) ?_
    refine atq_val rfl rfl rfl (r_move rfl) ?_
    refine atq_val rfl rfl rfl (r_fieldAddr (fo:=1) underlying24 rfl rfl (fun w=>⟨_,sizeOf22 w⟩) rfl) ?_
    obtain ⟨h8,hF⟩:=gd hF
    refine atq_val rfl rfl rfl (r_idxArr underlying22 sizeOf5 rfl rfl h8) ?_
    refine atq_val rfl rfl rfl (r_load_cell isAgg5 rfl (lens_cell0 (c:=(cInt .u8)) (y:=vget x1.f_B i5) .z (Lens.comp (Lens.comp lw (fun z=>{ x1 with f_B:=z }) (c_api_Addr_f_B x1)) (fun z=>vset x1.f_B i5 z) (Lens.vec (cInt .u8) (by decide) x1.f_B i5 h8)) rfl)) ?_
    refine atq_val rfl rfl rfl (r_ineq rfl rfl) ?_
    refine atq_nil ?_
    refine wq [28,5,3,2] ?_
    refine tn ?_
    obtain ⟨h9,hF⟩|⟨h9,hF⟩:=oi hF
    ·refine ct h9 ?_
     refine qs ?_
     refine at_draw (by kernel_rfl) (by kernel_rfl) (fun _ h=>h.drew) ?_
     refine atq_val rfl rfl rfl (r_move rfl) ?_
     refine atq_val rfl rfl rfl (r_fieldAddr (fo:=1) underlying24 rfl rfl (fun w=>⟨_,sizeOf22 w⟩) rfl) ?_
     obtain ⟨h10,hF⟩:=gd hF
     refine atq_val rfl rfl rfl (r_idxArr underlying22 sizeOf5 rfl rfl h10) ?_
     refine atq_val rfl rfl rfl (r_load_cell isAgg5 rfl (lens_cell0 (c:=(cInt .u8)) (y:=vget x0.f_B i5) (.s .z) (Lens.comp (Lens.comp lw (fun z=>{ x0 with f_B:=z }) (c_api_Addr_f_B x0)) (fun z=>vset x0.f_B i5 z) (Lens.vec (cInt .u8) (by decide) x0.f_B i5 h10)) rfl)) ?_
     refine atq_val rfl rfl rfl (r_move rfl) ?_
     refine atq_val rfl rfl rfl (r_fieldAddr (fo:=1) underlying24 rfl rfl (fun w=>⟨_,sizeOf22 w⟩) rfl) ?_
     obtain ⟨h11,hF⟩:=gd hF
     refine atq_val rfl rfl rfl (r_idxArr underlying22 sizeOf5 rfl rfl h11) ?_
     refine atq_val rfl rfl rfl (r_load_cell isAgg5 rfl (lens_cell0 (c:=(cInt .u8)) (y:=vget x1.f_B i5) .z (Lens.comp (Lens.comp lw (fun z=>{ x1 with f_B:=z }) (c_api_Addr_f_B x1)) (fun z=>vset x1.f_B i5 z) (Lens.vec (cInt .u8) (by decide) x1.f_B i5 h11)) rfl)) ?_
     refine atq_val rfl rfl rfl (r_ilss rfl rfl) ?_
     refine atq_val rfl rfl rfl (r_assign rfl) ?_
     refine atq_nil ?_
     refine dz (dz (wq [4] ?_))
     refine tn (qt ?_)
     refine br (tr (tr (br (tr ?_))))
     obtain rfl:=os hF
     subst K
     exact r1 wb
    refine cf h9 ?_
    refine at_skip ?_
    refine bm ?_
    refine qr (am (aw xa (aa (nwq [5,3,2] ?_))))
    exact at_weak_k (ih _ _ hF K) ⟨rfl,rfl,rfl,trivial⟩
   refine cf h6 ?_
   refine at_exit ?_
   refine te (te ?_)
   refine dz (dz ?_)
   obtain rfl:=os hF
   exact at_weak_k K trivial
 cases q4 with
 | ret r'=>exact os hF
 | nx sq4 =>
  skip
  refine at_blk_same ?_
  refine tn (sr (aa (nwq [4] ?_)))
  refine qt ?_
  have K:=os hF
  subst K
  exact r1 wb
def crawlwayref10_Common.l0(x0:S_api_Addr)(x1:S_api_Addr)(t8:Int)(i10:Int):Option (Int) :=
 if (decide (i10<t8))=true then (crawlwayref10_digit x0 i10>>=fun t12=>crawlwayref10_digit x1 i10>>=fun t13=>if (t12==t13)=true then (crawlwayref10_Common.l0 x0 x1 t8 (wr .i64 (i10+1))) else (some i10)) else (some i10)
 partial_fixpoint
def crawlwayref10_Common(x0:S_api_Addr)(x1:S_api_Addr):Option (Int) :=
 crawlwayref10_Right x0>>=fun t3=>if (!t3)=true then (some (-1)) else (crawlwayref10_Right x1>>=fun t5=>if (!t5)=true then (some (-1)) else (if (x0.f_V != x1.f_V)=true then (some (-1)) else (crawlwayref10_Width x0>>=fun t8=>crawlwayref10_Common.l0 x0 x1 t8 0>>=fun q9=>some q9)))
theorem crawlwayref10_Common_ok(x0:S_api_Addr)(x1:S_api_Addr)(r:Int)(hF:crawlwayref10_Common x0 x1=some r)(w:World) :
    Calls Try.prog 52 #[.agg (Cd.cs c_api_Addr x0).toArray,.agg (Cd.cs c_api_Addr x1).toArray] w (fun e w'=>e=.returned (.int .i64 r)∧Below w.heap.size w w'):=by
 unfold crawlwayref10_Common at hF
 refine ce (l:=[.agg (Cd.cs c_api_Addr x0).toArray,.agg (Cd.cs c_api_Addr x1).toArray]) func52 rfl rfl ?_
 refine at_start ?_
 refine sr ?_
 refine at_box (cs:=Cd.cs c_api_Addr x0) rfl rfl rfl ?_
 intro b1
 refine at_box (cs:=Cd.cs c_api_Addr x1) rfl rfl rfl ?_
 intro b2
 refine aa (nwq [3,2] ?_)
 refine qs (sr ?_)
 refine aw (r_load_aggc (c:=c_api_Addr) (z:=x0) isAgg24 sizeOf24 rfl (lens_cell (.s .z) lw)) ?_
 obtain ⟨t3,ht3,hF⟩:=bM hF
 refine cB func23 rfl (fun w hw=>crawlwayref10_Right_ok _ _ ht3 w) ?_
 refine aw (r_not rfl) ?_
 refine am ?_
 obtain ⟨h4,hF⟩|⟨h4,hF⟩:=oi hF
 ·refine fx 10 h4 ?_
  refine gn ?_
  refine gn ?_
  refine gn ?_
  refine aw xp (am ?_)
  refine gn ?_
  refine gn ?_
  refine gn ?_
  refine gn ?_
  refine gn ?_
  refine aw xp (nwq [21,3,2] ?_)
  refine ct rfl ?_
  refine sr (aa (qn (dz (dz (wq [4] ?_)))))
  refine tn (rt ?_)
  have K:=os hF
  subst K
  exact r1 wb
 refine fx 10 h4 ?_
 refine gy ?_
 refine aw (r_load_aggc (c:=c_api_Addr) (z:=x1) isAgg24 sizeOf24 rfl (lens_cell .z lw)) ?_
 refine gy ?_
 obtain ⟨t5,ht5,hF⟩:=bM hF
 refine cB func23 rfl (fun w hw=>crawlwayref10_Right_ok _ _ ht5 w) ?_
 refine gy ?_
 refine aw (r_not rfl) ?_
 refine aw xp (am ?_)
 obtain ⟨h6,hF⟩|⟨h6,hF⟩:=oi hF
 ·refine fx 15 h6 ?_
  refine gn ?_
  refine gn ?_
  refine gn ?_
  refine gn ?_
  refine gn ?_
  refine aw xp (nwq [21,3,2] ?_)
  refine ct rfl ?_
  refine sr (aa (qn (dz (dz (wq [4] ?_)))))
  refine tn (rt ?_)
  have K:=os hF
  subst K
  exact r1 wb
 refine fx 15 h6 ?_
 refine gy ?_
 refine fa 0 underlying24 rfl sizeOf3 ?_
 refine gy ?_
 refine aw (r_load_cell isAgg3 rfl (lens_cell0 (c:=(cInt .i64)) (y:=x0.f_V) (.s .z) (Lens.comp lw (fun z=>{ x0 with f_V:=z }) (c_api_Addr_f_V x0)) rfl)) ?_
 refine gy ?_
 refine fa 0 underlying24 rfl sizeOf3 ?_
 refine gy ?_
 refine aw (r_load_cell isAgg3 rfl (lens_cell0 (c:=(cInt .i64)) (y:=x1.f_V) .z (Lens.comp lw (fun z=>{ x1 with f_V:=z }) (c_api_Addr_f_V x1)) rfl)) ?_
 refine gy ?_
 refine aw xn (aw xp (nwq [21,3,2] ?_))
 obtain ⟨h7,hF⟩|⟨h7,hF⟩:=oi hF
 ·refine ct h7 ?_
  refine sr (aa (qn (dz (dz (wq [4] ?_)))))
  refine tn (rt ?_)
  have K:=os hF
  subst K
  exact r1 wb
 refine cf h7 ?_
 refine sns (aa (ns ?_))
 refine aw (r_load_aggc (c:=c_api_Addr) (z:=x0) isAgg24 sizeOf24 rfl (lens_cell (.s .z) lw)) ?_
 obtain ⟨t8,ht8,hF⟩:=bM hF
 refine cB func42 rfl (fun w hw=>crawlwayref10_Width_ok _ _ ht8 w) ?_
 refine aa (nwq [6,5,3,2] ?_)
 refine qs ?_
 refine qb ?_
 obtain ⟨q9,hq9,hF⟩:=bM hF
 refine wq [6,5,3,2] ?_
 refine at_loop_n (B:=0) (A:=fun Y=>At 39 [(5,.int .i64 q9)] (Wd w []) Y) ?_ ?_
 ·intro K
  refine crawlwayref10_Common.l0.partial_correctness x0 x1 t8 (motive:=fun i10 x=>KN (fun Y=>At 39 [(5,.int .i64 x)] (Wd w []) Y) _ 0→Round (fun Y=>At 39 [(2,.pointer (some ⟨b1,0,none⟩)),(3,.pointer (some ⟨b2,0,none⟩)),(5,.int .i64 i10),(6,.int .i64 t8)] (Wd w [cellsE b2 (Cd.cs c_api_Addr x1) 24,cellsE b1 (Cd.cs c_api_Addr x0) 24]) Y) _ _ _) ?_ _ _ hq9 K
  ·clear K hF
   intro g ih i10 x hF K
   refine at_round ?_
   refine qs (qs ?_)
   refine at_draw (by kernel_rfl) (by kernel_rfl) (fun _ h=>h.drew) ?_
   refine atq_val rfl rfl rfl (r_move rfl) ?_
   refine atq_val rfl rfl rfl (r_move rfl) ?_
   refine atq_val rfl rfl rfl (r_ilss rfl rfl) ?_
   refine atq_val rfl rfl rfl (r_move rfl) ?_
   obtain ⟨h11,hF⟩|⟨h11,hF⟩:=oi hF
   ·refine atq_fix (g:=27) rfl h11 ?_
    refine atq_guard_yes rfl rfl rfl ?_
    refine atq_val rfl rfl rfl (r_load_aggc (c:=c_api_Addr) (z:=x0) isAgg24 sizeOf24 rfl (lens_cell (.s .z) lw)) ?_
    refine atq_guard_yes rfl rfl rfl ?_
    refine atq_val rfl rfl rfl (r_move rfl) ?_
    refine atq_guard_yes rfl rfl rfl ?_
    obtain ⟨t12,ht12,hF⟩:=bM hF
    refine atq_call func43 rfl (by kernel_rfl) rfl rfl (fun w hw=>(crawlwayref10_digit_ok _ _ _ ht12 w).mono fun _ _ h=>⟨h.1,hw.call h.2⟩) ?_
    refine atq_guard_yes rfl rfl rfl ?_
    refine atq_val rfl rfl rfl (r_load_aggc (c:=c_api_Addr) (z:=x1) isAgg24 sizeOf24 rfl (lens_cell .z lw)) ?_
    refine atq_guard_yes rfl rfl rfl ?_
    refine atq_val rfl rfl rfl (r_move rfl) ?_
    refine atq_guard_yes rfl rfl rfl ?_
    obtain ⟨t13,ht13,hF⟩:=bM hF
    refine atq_call func43 rfl (by kernel_rfl) rfl rfl (fun w hw=>(crawlwayref10_digit_ok _ _ _ ht13 w).mono fun _ _ h=>⟨h.1,hw.call h.2⟩) ?_
    refine atq_guard_yes rfl rfl rfl ?_
    refine atq_val rfl rfl rfl (r_ieql rfl rfl) ?_
    refine atq_val rfl rfl rfl (r_pick rfl rfl rfl) ?_
    refine atq_nil ?_
    refine wq [35,6,5,3,2] ?_
    refine tn ?_
    obtain ⟨h14,hF⟩|⟨h14,hF⟩:=oi hF
    ·refine ct h14 ?_
     refine sn ?_
     refine qb ?_
     refine qr (am (aw xa (aa (qn (wq [6,5,3,2] ?_)))))
     refine bm ?_
     exact at_weak_k (ih _ _ hF K) ⟨rfl,rfl,rfl,rfl,trivial⟩
    refine cf h14 ?_
    refine at_exit ?_
    refine te (te ?_)
    refine dz (dz ?_)
    obtain rfl:=os hF
    exact at_weak_k K ⟨rfl,trivial⟩
   refine atq_fix (g:=27) rfl h11 ?_
   refine atq_guard_no rfl rfl rfl rfl rfl ?_
   refine atq_guard_no rfl rfl rfl rfl rfl ?_
   refine atq_guard_no rfl rfl rfl rfl rfl ?_
   refine atq_guard_no rfl rfl rfl rfl rfl ?_
   refine atq_guard_no rfl rfl rfl rfl rfl ?_
   refine atq_guard_no rfl rfl rfl rfl rfl ?_
   refine atq_guard_no rfl rfl rfl rfl rfl ?_
   refine atq_val rfl rfl rfl (r_pick rfl rfl rfl) ?_
   refine atq_nil ?_
   refine wq [35,6,5,3,2] ?_
   refine tn ?_
   refine cf rfl ?_
   refine at_exit ?_
   refine te (te ?_)
   refine dz (dz ?_)
   obtain rfl:=os hF
   exact at_weak_k K ⟨rfl,trivial⟩
 skip
 skip
 refine at_blk_same ?_
 refine tn (sr (am (aa (nwq [4] ?_))))
 refine qt ?_
 have K:=os hF
 subst K
 exact r1 wb
def crawlwayref11_Right(x0:S_api_Prefix):Option (Bool) :=
 crawlwayref10_Right x0.f_A>>=fun t2=>if (!t2)=true then (some false) else (if (decide (x0.f_Bits<0))=true then (some false) else (crawlwayref10_Width x0.f_A>>=fun t5=>if (decide (x0.f_Bits>t5))=true then (some false) else (crawlwayref10_Mask x0.f_A x0.f_Bits>>=fun t7=>some (decide (x0.f_A=t7)))))
theorem crawlwayref11_Right_ok(x0:S_api_Prefix)(r:Bool)(hF:crawlwayref11_Right x0=some r)(w:World) :
    Calls Try.prog 15 #[.agg (Cd.cs c_api_Prefix x0).toArray] w (fun e w'=>e=.returned (.bool r)∧Below w.heap.size w w'):=by
 unfold crawlwayref11_Right at hF
 refine ce (l:=[.agg (Cd.cs c_api_Prefix x0).toArray]) func15 rfl rfl ?_
 refine at_start ?_
 refine sr ?_
 refine at_box (cs:=Cd.cs c_api_Prefix x0) rfl rfl rfl ?_
 intro b1
 refine aa (nwq [1] ?_)
 refine qs (qs ?_)
 refine at_draw (by kernel_rfl) (by kernel_rfl) (fun _ h=>h.drew) ?_
 refine atq_val rfl rfl rfl (r_fieldAddr (fo:=0) underlying37 rfl rfl (fun w=>⟨_,sizeOf24 w⟩) rfl) ?_
 refine atq_val rfl rfl rfl (r_load_aggc (c:=c_api_Addr) (z:=x0.f_A) isAgg24 sizeOf24 rfl (lens_cell .z (Lens.comp lw (fun z=>{ x0 with f_A:=z }) (c_api_Prefix_f_A x0)))) ?_
 obtain ⟨t2,ht2,hF⟩:=bM hF
 refine atq_call func23 rfl (by kernel_rfl) rfl rfl (fun w hw=>(crawlwayref10_Right_ok _ _ ht2 w).mono fun _ _ h=>⟨h.1,hw.call h.2⟩) ?_
 refine atq_val rfl rfl rfl (r_not rfl) ?_
 refine atq_val rfl rfl rfl (r_move rfl) ?_
 obtain ⟨h3,hF⟩|⟨h3,hF⟩:=oi hF
 ·refine atq_fix (g:=7) rfl h3 ?_
  refine atq_guard_no rfl rfl rfl rfl rfl ?_
  refine atq_guard_no rfl rfl rfl rfl rfl ?_
  refine atq_guard_no rfl rfl rfl rfl rfl ?_
  refine atq_val rfl rfl rfl (r_pick rfl rfl rfl) ?_
  refine atq_val rfl rfl rfl (r_move rfl) ?_
  refine atq_guard_no rfl rfl rfl rfl rfl ?_
  refine atq_guard_no rfl rfl rfl rfl rfl ?_
  refine atq_guard_no rfl rfl rfl rfl rfl ?_
  refine atq_guard_no rfl rfl rfl rfl rfl ?_
  refine atq_guard_no rfl rfl rfl rfl rfl ?_
  refine atq_guard_no rfl rfl rfl rfl rfl ?_
  refine atq_val rfl rfl rfl (r_pick rfl rfl rfl) ?_
  refine atq_nil ?_
  refine wq [19,1] ?_
  refine tn ?_
  refine ct rfl ?_
  refine sr (aa (qn (dz (wq [2] ?_))))
  refine tn (rt ?_)
  have K:=os hF
  subst K
  exact r1 wb
 refine atq_fix (g:=7) rfl h3 ?_
 refine atq_guard_yes rfl rfl rfl ?_
 refine atq_val rfl rfl rfl (r_fieldAddr (fo:=17) underlying37 rfl rfl (fun w=>⟨_,sizeOf3 w⟩) rfl) ?_
 refine atq_guard_yes rfl rfl rfl ?_
 refine atq_val rfl rfl rfl (r_load_cell isAgg3 rfl (lens_cell0 (c:=(cInt .i64)) (y:=x0.f_Bits) .z (Lens.comp lw (fun z=>{ x0 with f_Bits:=z }) (c_api_Prefix_f_Bits x0)) rfl)) ?_
 refine atq_guard_yes rfl rfl rfl ?_
 refine atq_val rfl rfl rfl (r_ilss rfl rfl) ?_
 refine atq_val rfl rfl rfl (r_pick rfl rfl rfl) ?_
 refine atq_val rfl rfl rfl (r_move rfl) ?_
 obtain ⟨h4,hF⟩|⟨h4,hF⟩:=oi hF
 ·refine atq_fix (g:=12) rfl h4 ?_
  refine atq_guard_no rfl rfl rfl rfl rfl ?_
  refine atq_guard_no rfl rfl rfl rfl rfl ?_
  refine atq_guard_no rfl rfl rfl rfl rfl ?_
  refine atq_guard_no rfl rfl rfl rfl rfl ?_
  refine atq_guard_no rfl rfl rfl rfl rfl ?_
  refine atq_guard_no rfl rfl rfl rfl rfl ?_
  refine atq_val rfl rfl rfl (r_pick rfl rfl rfl) ?_
  refine atq_nil ?_
  refine wq [19,1] ?_
  refine tn ?_
  refine ct rfl ?_
  refine sr (aa (qn (dz (wq [2] ?_))))
  refine tn (rt ?_)
  have K:=os hF
  subst K
  exact r1 wb
 refine atq_fix (g:=12) rfl h4 ?_
 refine atq_guard_yes rfl rfl rfl ?_
 refine atq_val rfl rfl rfl (r_fieldAddr (fo:=17) underlying37 rfl rfl (fun w=>⟨_,sizeOf3 w⟩) rfl) ?_
 refine atq_guard_yes rfl rfl rfl ?_
 refine atq_val rfl rfl rfl (r_load_cell isAgg3 rfl (lens_cell0 (c:=(cInt .i64)) (y:=x0.f_Bits) .z (Lens.comp lw (fun z=>{ x0 with f_Bits:=z }) (c_api_Prefix_f_Bits x0)) rfl)) ?_
 refine atq_guard_yes rfl rfl rfl ?_
 refine atq_val rfl rfl rfl (r_fieldAddr (fo:=0) underlying37 rfl rfl (fun w=>⟨_,sizeOf24 w⟩) rfl) ?_
 refine atq_guard_yes rfl rfl rfl ?_
 refine atq_val rfl rfl rfl (r_load_aggc (c:=c_api_Addr) (z:=x0.f_A) isAgg24 sizeOf24 rfl (lens_cell .z (Lens.comp lw (fun z=>{ x0 with f_A:=z }) (c_api_Prefix_f_A x0)))) ?_
 refine atq_guard_yes rfl rfl rfl ?_
 obtain ⟨t5,ht5,hF⟩:=bM hF
 refine atq_call func42 rfl (by kernel_rfl) rfl rfl (fun w hw=>(crawlwayref10_Width_ok _ _ ht5 w).mono fun _ _ h=>⟨h.1,hw.call h.2⟩) ?_
 refine atq_guard_yes rfl rfl rfl ?_
 refine atq_val rfl rfl rfl (r_igtr rfl rfl) ?_
 refine atq_val rfl rfl rfl (r_pick rfl rfl rfl) ?_
 refine atq_nil ?_
 refine wq [19,1] ?_
 refine tn ?_
 obtain ⟨h6,hF⟩|⟨h6,hF⟩:=oi hF
 ·refine ct h6 ?_
  refine sr (aa (qn (dz (wq [2] ?_))))
  refine tn (rt ?_)
  have K:=os hF
  subst K
  exact r1 wb
 refine cf h6 ?_
 refine sn (qs ?_)
 refine at_draw (by kernel_rfl) (by kernel_rfl) (fun _ h=>h.drew) ?_
 refine atq_val rfl rfl rfl (r_fieldAddr (fo:=0) underlying37 rfl rfl (fun w=>⟨_,sizeOf24 w⟩) rfl) ?_
 refine atq_val rfl rfl rfl (r_load_aggc (c:=c_api_Addr) (z:=x0.f_A) isAgg24 sizeOf24 rfl (lens_cell .z (Lens.comp lw (fun z=>{ x0 with f_A:=z }) (c_api_Prefix_f_A x0)))) ?_
 refine atq_val rfl rfl rfl (r_fieldAddr (fo:=0) underlying37 rfl rfl (fun w=>⟨_,sizeOf24 w⟩) rfl) ?_
 refine atq_val rfl rfl rfl (r_load_aggc (c:=c_api_Addr) (z:=x0.f_A) isAgg24 sizeOf24 rfl (lens_cell .z (Lens.comp lw (fun z=>{ x0 with f_A:=z }) (c_api_Prefix_f_A x0)))) ?_
 refine atq_val rfl rfl rfl (r_fieldAddr (fo:=17) underlying37 rfl rfl (fun w=>⟨_,sizeOf3 w⟩) rfl) ?_
 refine atq_val rfl rfl rfl (r_load_cell isAgg3 rfl (lens_cell0 (c:=(cInt .i64)) (y:=x0.f_Bits) .z (Lens.comp lw (fun z=>{ x0 with f_Bits:=z }) (c_api_Prefix_f_Bits x0)) rfl)) ?_
 obtain ⟨t7,ht7,hF⟩:=bM hF
 refine atq_call func16 rfl (by kernel_rfl) rfl rfl (fun w hw=>(crawlwayref10_Mask_ok _ _ _ ht7 w).mono fun _ _ h=>⟨h.1,hw.call h.2⟩) ?_
 refine atq_val rfl rfl rfl (r_eqagg (c:=c_api_Addr) (a:=x0.f_A) (b:=t7) (eq_api_Addr_24) rfl Try.eqGuardType24 rfl rfl (.inl rfl) rfl) ?_
 refine atq_val rfl rfl rfl (r_assign rfl) ?_
 refine atq_nil ?_
 refine dz (wq [2] ?_)
 refine tn (qt ?_)
 have K:=os hF
 subst K
 exact r1 wb
def crawlwayref11_Has(x0:S_api_Prefix)(x1:S_api_Addr):Option (Bool) :=
 crawlwayref11_Right x0>>=fun t3=>if t3=true then (crawlwayref10_Common x0.f_A x1>>=fun t5=>some (decide (t5≥x0.f_Bits))) else (some false)
theorem crawlwayref11_Has_ok(x0:S_api_Prefix)(x1:S_api_Addr)(r:Bool)(hF:crawlwayref11_Has x0 x1=some r)(w:World) :
    Calls Try.prog 22 #[.agg (Cd.cs c_api_Prefix x0).toArray,.agg (Cd.cs c_api_Addr x1).toArray] w (fun e w'=>e=.returned (.bool r)∧Below w.heap.size w w'):=by
 unfold crawlwayref11_Has at hF
 refine ce (l:=[.agg (Cd.cs c_api_Prefix x0).toArray,.agg (Cd.cs c_api_Addr x1).toArray]) func22 rfl rfl ?_
 refine at_start ?_
 refine sr ?_
 refine at_box (cs:=Cd.cs c_api_Prefix x0) rfl rfl rfl ?_
 intro b1
 refine at_box (cs:=Cd.cs c_api_Addr x1) rfl rfl rfl ?_
 intro b2
 refine aa (nwq [3,2] ?_)
 refine qs ?_
 refine at_draw (by kernel_rfl) (by kernel_rfl) (fun _ h=>h.drew) ?_
 refine atq_val rfl rfl rfl (r_load_aggc (c:=c_api_Prefix) (z:=x0) isAgg37 sizeOf37 rfl (lens_cell (.s .z) lw)) ?_
 obtain ⟨t3,ht3,hF⟩:=bM hF
 refine atq_call func15 rfl (by kernel_rfl) rfl rfl (fun w hw=>(crawlwayref11_Right_ok _ _ ht3 w).mono fun _ _ h=>⟨h.1,hw.call h.2⟩) ?_
 refine atq_val rfl rfl rfl (r_move rfl) ?_
 obtain ⟨h4,hF⟩|⟨h4,hF⟩:=oi hF
 ·refine atq_fix (g:=7) rfl h4 ?_
  refine atq_guard_yes rfl rfl rfl ?_
  refine atq_val rfl rfl rfl (r_fieldAddr (fo:=0) underlying37 rfl rfl (fun w=>⟨_,sizeOf24 w⟩) rfl) ?_
  refine atq_guard_yes rfl rfl rfl ?_
  refine atq_val rfl rfl rfl (r_load_aggc (c:=c_api_Addr) (z:=x0.f_A) isAgg24 sizeOf24 rfl (lens_cell (.s .z) (Lens.comp lw (fun z=>{ x0 with f_A:=z }) (c_api_Prefix_f_A x0)))) ?_
  refine atq_guard_yes rfl rfl rfl ?_
  refine atq_val rfl rfl rfl (r_load_aggc (c:=c_api_Addr) (z:=x1) isAgg24 sizeOf24 rfl (lens_cell .z lw)) ?_
  refine atq_guard_yes rfl rfl rfl ?_
  obtain ⟨t5,ht5,hF⟩:=bM hF
  refine atq_call func52 rfl (by kernel_rfl) rfl rfl (fun w hw=>(crawlwayref10_Common_ok _ _ _ ht5 w).mono fun _ _ h=>⟨h.1,hw.call h.2⟩) ?_
  refine atq_guard_yes rfl rfl rfl ?_
  refine atq_val rfl rfl rfl (r_fieldAddr (fo:=17) underlying37 rfl rfl (fun w=>⟨_,sizeOf3 w⟩) rfl) ?_
  refine atq_guard_yes rfl rfl rfl ?_
  refine atq_val rfl rfl rfl (r_load_cell isAgg3 rfl (lens_cell0 (c:=(cInt .i64)) (y:=x0.f_Bits) (.s .z) (Lens.comp lw (fun z=>{ x0 with f_Bits:=z }) (c_api_Prefix_f_Bits x0)) rfl)) ?_
  refine atq_guard_yes rfl rfl rfl ?_
  refine atq_val rfl rfl rfl (r_igeq rfl rfl) ?_
  refine atq_val rfl rfl rfl (r_pick rfl rfl rfl) ?_
  refine atq_val rfl rfl rfl (r_assign rfl) ?_
  refine atq_nil ?_
  refine dz (dz (wq [4] ?_))
  refine tn (qt ?_)
  have K:=os hF
  subst K
  exact r1 wb
 refine atq_fix (g:=7) rfl h4 ?_
 refine atq_guard_no rfl rfl rfl rfl rfl ?_
 refine atq_guard_no rfl rfl rfl rfl rfl ?_
 refine atq_guard_no rfl rfl rfl rfl rfl ?_
 refine atq_guard_no rfl rfl rfl rfl rfl ?_
 refine atq_guard_no rfl rfl rfl rfl rfl ?_
 refine atq_guard_no rfl rfl rfl rfl rfl ?_
 refine atq_guard_no rfl rfl rfl rfl rfl ?_
 refine atq_val rfl rfl rfl (r_pick rfl rfl rfl) ?_
 refine atq_val rfl rfl rfl (r_assign rfl) ?_
 refine atq_nil ?_
 refine dz (dz (wq [4] ?_))
 refine tn (qt ?_)
 have K:=os hF
 subst K
 exact r1 wb
def crawlwayref11_Covers(x0:S_api_Prefix)(x1:S_api_Prefix):Option (Bool) :=
 crawlwayref11_Right x1>>=fun t3=>if t3=true then (crawlwayref11_Has x0 x1.f_A>>=fun t5=>if t5=true then (some (decide (x0.f_Bits≤x1.f_Bits))) else (some false)) else (some false)
def crawlwayref11_Less(x0:S_api_Prefix)(x1:S_api_Prefix):Option (Bool) :=
 if (!decide (x0.f_A=x1.f_A))=true then (crawlwayref10_Less x0.f_A x1.f_A>>=fun t4=>some t4) else (some (decide (x0.f_Bits<x1.f_Bits)))
theorem crawlwayref11_Less_ok(x0:S_api_Prefix)(x1:S_api_Prefix)(r:Bool)(hF:crawlwayref11_Less x0 x1=some r)(w:World) :
    Calls Try.prog 77 #[.agg (Cd.cs c_api_Prefix x0).toArray,.agg (Cd.cs c_api_Prefix x1).toArray] w (fun e w'=>e=.returned (.bool r)∧Below w.heap.size w w'):=by
 unfold crawlwayref11_Less at hF
 refine ce (l:=[.agg (Cd.cs c_api_Prefix x0).toArray,.agg (Cd.cs c_api_Prefix x1).toArray]) func77 rfl rfl ?_
 refine at_start ?_
 refine sr ?_
 refine at_box (cs:=Cd.cs c_api_Prefix x0) rfl rfl rfl ?_
 intro b1
 refine at_box (cs:=Cd.cs c_api_Prefix x1) rfl rfl rfl ?_
 intro b2
 refine aa (nt (qs (sr (fa 0 underlying37 rfl sizeOf24 ?_))))
 refine aw (r_load_aggc (c:=c_api_Addr) (z:=x0.f_A) isAgg24 sizeOf24 rfl (lens_cell (.s .z) (Lens.comp lw (fun z=>{ x0 with f_A:=z }) (c_api_Prefix_f_A x0)))) ?_
 refine fa 0 underlying37 rfl sizeOf24 ?_
 refine aw (r_load_aggc (c:=c_api_Addr) (z:=x1.f_A) isAgg24 sizeOf24 rfl (lens_cell .z (Lens.comp lw (fun z=>{ x1 with f_A:=z }) (c_api_Prefix_f_A x1)))) ?_
 refine aw (r_eqagg (c:=c_api_Addr) (a:=x0.f_A) (b:=x1.f_A) (eq_api_Addr_24) rfl Try.eqGuardType24 rfl rfl (.inr rfl) rfl) ?_
 refine nwq [9,3,2] ?_
 obtain ⟨h3,hF⟩|⟨h3,hF⟩:=oi hF
 ·refine ct h3 ?_
  refine sr (fa 0 underlying37 rfl sizeOf24 ?_)
  refine aw (r_load_aggc (c:=c_api_Addr) (z:=x0.f_A) isAgg24 sizeOf24 rfl (lens_cell (.s .z) (Lens.comp lw (fun z=>{ x0 with f_A:=z }) (c_api_Prefix_f_A x0)))) ?_
  refine fa 0 underlying37 rfl sizeOf24 ?_
  refine aw (r_load_aggc (c:=c_api_Addr) (z:=x1.f_A) isAgg24 sizeOf24 rfl (lens_cell .z (Lens.comp lw (fun z=>{ x1 with f_A:=z }) (c_api_Prefix_f_A x1)))) ?_
  obtain ⟨t4,ht4,hF⟩:=bM hF
  refine cB func24 rfl (fun w hw=>crawlwayref10_Less_ok _ _ _ ht4 w) ?_
  refine aa (qn (dz (dz (wq [4] ?_))))
  refine tn (rt ?_)
  have K:=os hF
  subst K
  exact r1 wb
 refine cf h3 ?_
 refine sns (fa 17 underlying37 rfl sizeOf3 ?_)
 refine aw (r_load_cell isAgg3 rfl (lens_cell0 (c:=(cInt .i64)) (y:=x0.f_Bits) (.s .z) (Lens.comp lw (fun z=>{ x0 with f_Bits:=z }) (c_api_Prefix_f_Bits x0)) rfl)) ?_
 refine fa 17 underlying37 rfl sizeOf3 ?_
 refine aw (r_load_cell isAgg3 rfl (lens_cell0 (c:=(cInt .i64)) (y:=x1.f_Bits) .z (Lens.comp lw (fun z=>{ x1 with f_Bits:=z }) (c_api_Prefix_f_Bits x1)) rfl)) ?_
 refine aw xl (aa (qn (dz (dz (wq [4] ?_)))))
 refine tn (qt ?_)
 have K:=os hF
 subst K
 exact r1 wb
end Go.Proofs.Ytahlbjmafceoeaa
namespace Go.Proofs.Ytahlbjmafceoeaa.Adr
open E Go.RowKit
def vb(l:List UInt8):Vector Int 16:=lvec 16 (ob l)
theorem vb_toList{l:List UInt8}(h:l.length=16):(vb l).toList=ob l:=by
 unfold vb
 rw [lvec_toList 16 (ob l) (by rw [ob_length];omega),List.take_of_length_le (by rw [ob_length];omega)]
theorem vb_of{v:Vector Int 16}{l:List UInt8}(h:v.toList=ob l):v=vb l:=by
 have hl:l.length=16:=by have:=congrArg List.length h;rw [ob_length] at this;simpa using this.symm
 apply Vector.toList_inj.1
 rw [vb_toList hl,h]
theorem vb_inj{l k:List UInt8}(hl:l.length=16)(hk:k.length=16):vb l=vb k↔l=k:=by
 constructor
 ·intro h
  have:=congrArg Vector.toList h
  rw [vb_toList hl,vb_toList hk] at this
  exact ob_inj this
 ·intro h;rw [h]
def mkA(V:Int)(l:List UInt8):S_api_Addr:={ f_V:=V,f_B:=vb l }
theorem exists_mkA(a:S_api_Addr)(h:ok_api_Addr a):∃ V l,a=mkA V l∧l.length=16∧(Lit.int .i64 V).wf=true:=by
 obtain ⟨l,hl⟩:=exists_ob a.f_B.toList h.2
 have hlen:l.length=16:=by have:=congrArg List.length hl;rw [ob_length] at this;simpa using this.symm
 refine ⟨a.f_V,l,?_,hlen,h.1⟩
 cases a with | mk V B =>
 show S_api_Addr.mk V B=S_api_Addr.mk V (vb l)
 have hB:B=vb l:=vb_of hl
 rw [hB]
theorem mkA_inj{V W:Int}{l k:List UInt8}(hl:l.length=16)(hk:k.length=16):mkA V l=mkA W k↔V=W∧l=k:=by
 unfold mkA
 rw [S_api_Addr.mk.injEq,vb_inj hl hk]
def bg(l:List UInt8)(i:Nat):Nat:=(l.getD i 0).toNat
theorem bg_lt(l:List UInt8)(i:Nat):bg l i<256:=(l.getD i 0).toNat_lt
theorem bg_get{l:List UInt8}{i:Nat}{c:UInt8}(h:l[i]? = some c):bg l i=c.toNat:=by
 unfold bg;rw [List.getD_eq_getElem?_getD,h];rfl
theorem vget_vb{l:List UInt8}(hl:l.length=16)(i:Nat)(hi:i<16):vget (vb l) (i:Int)=(bg l i:Int):=by
 unfold vget
 rw [vb_toList hl,Int.toNat_natCast]
 have hc:l[i]? = some l[i]:=List.getElem?_eq_getElem (by omega)
 rw [bg_get hc,List.getD_eq_getElem?_getD]
 unfold ob
 rw [List.getElem?_map,hc];rfl
theorem vset_vb{l:List UInt8}(hl:l.length=16)(i:Nat)(c:UInt8):vset (vb l) (i:Int) (c.toNat:Int)=vb (l.set i c):=by
 apply Vector.toList_inj.1
 rw [vset_toList,vb_toList hl,vb_toList (by simpa using hl),Int.toNat_natCast]
 unfold ob
 rw [List.map_set]
theorem zero_vb:(Vector.replicate 16 (0:Int):Vector Int 16)=vb (List.replicate 16 0):=by
 apply vb_of
 rfl
theorem zero_mkA:({ f_V:=(0:Int),f_B:=(Vector.replicate 16 (0:Int):(Vector Int 16)) }:S_api_Addr)=mkA 0 (List.replicate 16 0):=by
 unfold mkA;rw [zero_vb]
theorem ob_take(l:List UInt8)(n:Nat):(ob l).take n=ob (l.take n):=by unfold ob;rw [List.map_take]
theorem lsub_ob(l:List UInt8)(n:Nat):lsub (ob l) 0 (n:Int)=ob (l.take n):=by
 unfold lsub
 rw [Int.toNat_natCast,show (0:Int).toNat=0 from rfl,List.drop_zero,ob_take]
def fourL(m:List UInt8):List UInt8:=m++List.replicate 12 0
theorem fourL_len{m:List UInt8}(h:m.length=4):(fourL m).length=16:=by simp [fourL,h]
theorem four_eq(v:Vector Int 4)(m:List UInt8)(h:v.toList=ob m):addr_Four v=some (mkA 4 (fourL m)):=by
 have hm:m.length=4:=by have:=congrArg List.length h;rw [ob_length] at this;simpa using this.symm
 unfold addr_Four mkA
 refine congrArg some ?_
 show S_api_Addr.mk 4 _=S_api_Addr.mk 4 _
 congr 1
 apply vb_of
 show (vcopy (Vector.replicate 16 (0:Int)) (Int.toNat 0) (List.take (Int.toNat (16-0)) v.toList)).toList=_
 rw [h,show Int.toNat (16-0)=16 from rfl,List.take_of_length_le (by rw [ob_length];omega),show Int.toNat 0=0 from rfl,vcopy_toList _ _ _ (by rw [ob_length];omega)]
 rw [List.take_zero,List.nil_append,Nat.zero_add,ob_length,hm]
 unfold fourL
 rw [ob_append];rfl
theorem take4{l:List UInt8}(hl:l.length=16):(lvec 4 (lsub (vb l).toList 0 4)).toList=ob (l.take 4):=by
 have e:lsub (vb l).toList 0 4=ob (l.take 4):=by rw [vb_toList hl];exact lsub_ob l 4
 rw [e,lvec_toList 4 _ (by rw [ob_length];simp;omega),List.take_of_length_le (by rw [ob_length];simp;omega)]
theorem take4_len{l:List UInt8}(hl:l.length=16):4≤(lsub (vb l).toList 0 4).length:=by
 have e:lsub (vb l).toList 0 4=ob (l.take 4):=by rw [vb_toList hl];exact lsub_ob l 4
 rw [e,ob_length];simp;omega
def low(l:List UInt8):Bool:=(l.drop 4).all (·==0)
def rightL(V:Int)(l:List UInt8):Bool:=V==6||(V==4&&low l)
theorem all_zero:∀ (k:List UInt8),k.all (·==0)=true↔k=List.replicate k.length 0
 | []=>by simp
 | c::r=>by
  rw [List.all_cons,Bool.and_eq_true,all_zero r,List.length_cons,List.replicate_succ,List.cons.injEq,beq_iff_eq]
theorem low_iff{l:List UInt8}(hl:l.length=16):low l=true↔l=fourL (l.take 4):=by
 unfold low fourL
 rw [all_zero]
 have h12:(l.drop 4).length=12:=by simp;omega
 rw [h12]
 constructor
 ·intro h
  rw [←h];exact (List.take_append_drop 4 l).symm
 ·intro h
  have h1:l.drop 4=(l.take 4++List.replicate 12 0).drop 4:=congrArg (List.drop 4) h
  rw [h1]
  exact List.drop_left' (by simp;omega)
theorem right_code{V:Int}{l:List UInt8}(hl:l.length=16):addr_Right (mkA V l)=some (rightL V l):=by
 unfold addr_Right rightL
 show (if (V==6)=true then some true else (if (V==4)=true then (if 4≤(lsub (vb l).toList 0 4).length then addr_Four (lvec 4 (lsub (vb l).toList 0 4))>>=fun t8=>some (decide (mkA V l=t8)) else none) else some false))=_
 cases h6:(V==6)
 ·cases h4:(V==4)
  ·rfl
  ·have hV:V=4:=by simpa using h4
   rw [if_neg Bool.false_ne_true,if_pos rfl,if_pos (take4_len hl),four_eq _ _ (take4 hl),bindM_some]
   congr 1
   rw [Bool.false_or,Bool.true_and,Bool.eq_iff_iff,decide_eq_true_eq,mkA_inj hl (fourL_len (by simp;omega)),low_iff hl]
   exact ⟨fun h=>h.2,fun h=>⟨hV,h⟩⟩
 ·rfl
theorem right_loop{V:Int}{l:List UInt8}(hl:l.length=16):∀ (k i:Nat),i+k=16→crawlwayref10_Right.l0 (mkA V l) (i:Int)=some (if (l.drop i).all (·==0)=true then .nx () else .ret false):=by
 intro k
 induction k with
 | zero =>
  intro i hi
  have hz:decide ((i:Int)<16)=false:=decide_eq_false (by omega)
  rw [crawlwayref10_Right.l0.eq_def,hz,List.drop_eq_nil_of_le (by omega)];rfl
 | succ k ih =>
  intro i hi
  have hz:decide ((i:Int)<16)=true:=decide_eq_true (by omega)
  obtain ⟨c,hc,hd⟩:=drop_get l i (by omega)
  have hg:(0:Int)≤(i:Int)∧(i:Int)<16:=by omega
  rw [crawlwayref10_Right.l0.eq_def,hz,if_pos rfl,if_pos hg,hd,List.all_cons]
  show (if (vget (vb l) (i:Int) != 0)=true then _ else _)=_
  rw [vget_vb hl i (by omega),bg_get hc]
  by_cases h0:c=0
  ·subst h0
   have e1:(((0:UInt8).toNat:Int) != 0)=false:=rfl
   rw [e1,if_neg Bool.false_ne_true,wr_i64 (by omega) (by omega),show ((i:Int)+1)=((i+1:Nat):Int) by omega,ih (i+1) (by omega)]
   rw [show ((0:UInt8)==0)=true from rfl,Bool.true_and]
  ·have hne:c.toNat≠0:=fun e=>h0 (UInt8.toNat.inj e)
   have e1:((c.toNat:Int) != 0)=true:=by rw [bne_iff_ne];omega
   have e2:(c==0)=false:=by rw [beq_eq_false_iff_ne];exact h0
   rw [e1,if_pos rfl,e2,Bool.false_and];rfl
theorem right_ref{V:Int}{l:List UInt8}(hl:l.length=16):crawlwayref10_Right (mkA V l)=some (rightL V l):=by
 unfold crawlwayref10_Right rightL
 have h:=right_loop (V:=V) hl 12 4 rfl
 rw [show ((4:Nat):Int)=4 from rfl] at h
 rw [h]
 show (if (V==6)=true then some true else _)=_
 cases h6:(V==6)
 ·rw [if_neg Bool.false_ne_true,bindM_some]
  unfold low
  by_cases hz:(l.drop 4).all (·==0)=true
  ·rw [if_pos hz,hz]
   show some (V==4)=_
   rw [Bool.false_or,Bool.and_true]
  ·rw [if_neg hz]
   have:(l.drop 4).all (·==0)=false:=by simpa using hz
   rw [this,Bool.and_false];rfl
 ·rfl
def widthL(V:Int)(l:List UInt8):Nat:=if rightL V l=true then (if V=4 then 32 else 128) else 0
theorem width_code{V:Int}{l:List UInt8}(hl:l.length=16):addr_Width (mkA V l)=some ((widthL V l:Nat):Int):=by
 unfold addr_Width widthL
 rw [right_code hl,bindM_some]
 cases rightL V l
 ·rfl
 ·show (if (V==4)=true then some (32:Int) else some 128)=_
  by_cases h:V=4
  ·rw [if_pos (by simpa using h),if_pos rfl,if_pos h];rfl
  ·rw [if_neg (by simpa using h),if_pos rfl,if_neg h];rfl
theorem right_cases{V:Int}{l:List UInt8}(h:rightL V l=true):V=6∨(V=4∧low l=true):=by
 unfold rightL at h
 rw [Bool.or_eq_true,Bool.and_eq_true,beq_iff_eq,beq_iff_eq] at h
 exact h
theorem width_le{V:Int}{l:List UInt8}:widthL V l≤128:=by
 unfold widthL;split<;>(try split)<;>omega
end Go.Proofs.Ytahlbjmafceoeaa.Adr
namespace Go.Proofs.Ytahlbjmafceoeaa.Adr
open E Go.RowKit
theorem width_ref{V:Int}{l:List UInt8}(hl:l.length=16):crawlwayref10_Width (mkA V l)=some ((widthL V l:Nat):Int):=by
 unfold crawlwayref10_Width widthL
 rw [right_ref hl,bindM_some]
 cases rightL V l
 ·rfl
 ·show (if (V==4)=true then some (32:Int) else some 128)=_
  by_cases h:V=4
  ·rw [if_pos (by simpa using h),if_pos rfl,if_pos h];rfl
  ·rw [if_neg (by simpa using h),if_pos rfl,if_neg h];rfl
def mb(b:UInt8)(k:Nat):UInt8:=UInt8.ofNat (b.toNat-b.toNat%2 ^ (8-k))
theorem mb_fin:∀ (b:Fin 256) (k:Fin 9),iand .u8 ((b.val:Nat):Int) (ishl .u8 255 ((8-k.val:Nat):Int))=((b.val-b.val%2 ^ (8-k.val):Nat):Int):=by decide +kernel
theorem mb_toNat(b:UInt8)(k:Nat):(mb b k).toNat=b.toNat-b.toNat%2 ^ (8-k):=by
 unfold mb
 have:=b.toNat_lt
 rw [UInt8.toNat_ofNat',Nat.mod_eq_of_lt (by omega)]
theorem mb_code(b:UInt8)(k:Nat)(hk:k≤8):iand .u8 (b.toNat:Int) (ishl .u8 255 ((8-k:Nat):Int))=((mb b k).toNat:Int):=by
 rw [mb_toNat]
 exact mb_fin ⟨b.toNat,b.toNat_lt⟩ ⟨k,by omega⟩
theorem mb_zero(b:UInt8):mb b 0=0:=by
 apply UInt8.toNat.inj
 have:=b.toNat_lt
 rw [mb_toNat,show 2 ^ (8-0)=256 from rfl,Nat.mod_eq_of_lt (by omega),Nat.sub_self];rfl
theorem mb_of_zero(k:Nat):mb 0 k=0:=by
 apply UInt8.toNat.inj
 rw [mb_toNat,show (0:UInt8).toNat=0 from rfl,Nat.zero_mod]
theorem mb_step_fin:∀ (b:Fin 256) (k:Fin 8),b.val-b.val%2 ^ (8-(k.val+1))=b.val-b.val%2 ^ (8-k.val)+(b.val/2 ^ (7-k.val)%2)*(128/2 ^ k.val):=by decide +kernel
theorem mb_step(b:UInt8)(k:Nat)(hk:k<8):(mb b (k+1)).toNat=(mb b k).toNat+(b.toNat/2 ^ (7-k)%2)*(128/2 ^ k):=by
 rw [mb_toNat,mb_toNat]
 exact mb_step_fin ⟨b.toNat,b.toNat_lt⟩ ⟨k,hk⟩
def lft(bits:Int)(q:Nat):Nat:=(min (max (bits-8*(q:Int)) 0) 8).toNat
theorem lft_le(bits:Int)(q:Nat):lft bits q≤8:=by unfold lft;omega
def mfull(l:List UInt8)(bits:Int):List UInt8:=l.mapIdx fun q b=>mb b (lft bits q)
theorem mfull_len(l:List UInt8)(bits:Int):(mfull l bits).length=l.length:=by simp [mfull]
theorem mfull_get(l:List UInt8)(bits:Int)(i:Nat):(mfull l bits)[i]? = (l[i]?).map fun b=>mb b (lft bits i):=by
 unfold mfull;rw [List.getElem?_mapIdx]
theorem set_step{α:Type}(A l:List α)(i:Nat)(x:α)(hA:A.length=l.length)(hx:A[i]? = some x):(A.take i++l.drop i).set i x=A.take (i+1)++l.drop (i+1):=by
 have hi:i<A.length:=(List.getElem?_eq_some_iff.1 hx).1
 apply List.ext_getElem?
 intro j
 have h1:(A.take i).length=i:=by simp;omega
 have h2:(A.take (i+1)).length=i+1:=by simp;omega
 rw [List.getElem?_set]
 by_cases hj:i=j
 ·subst hj
  have hl:i<(A.take i++l.drop i).length:=by simp;omega
  rw [if_pos rfl,if_pos hl,List.getElem?_append_left (by omega),List.getElem?_take,if_pos (by omega),hx]
 ·rw [if_neg hj]
  by_cases hlt:j<i
  ·rw [List.getElem?_append_left (by omega),List.getElem?_append_left (by omega),List.getElem?_take,List.getElem?_take,if_pos hlt,if_pos (by omega)]
  ·rw [List.getElem?_append_right (by omega),List.getElem?_append_right (by omega),List.getElem?_drop,List.getElem?_drop,h1,h2]
   congr 1;omega
theorem lft_code(bits:Int)(hb : -9223372036854775808≤bits∧bits<9223372036854775808)(i:Nat)(hi:i<16)(h0:¬ bits<0) :
  (if 8<(if wr .i64 (bits-(wr .i64 (8*(i:Int))))<0 then 0 else wr .i64 (bits-(wr .i64 (8*(i:Int))))) then 8 else (if wr .i64 (bits-(wr .i64 (8*(i:Int))))<0 then 0 else wr .i64 (bits-(wr .i64 (8*(i:Int))))))=((lft bits i:Nat):Int):=by
 have e1:wr .i64 (8*(i:Int))=8*(i:Int):=wr_i64 (by omega) (by omega)
 rw [e1,wr_i64 (by omega) (by omega)]
 unfold lft
 by_cases h1:bits-8*(i:Int)<0
 ·rw [if_pos h1];split<;>omega
 ·rw [if_neg h1];split<;>omega
theorem mask_loop(V bits:Int)(l:List UInt8)(hl:l.length=16)(hb : -9223372036854775808≤bits∧bits<9223372036854775808):∀ (k i:Nat),i+k=16 →
  addr_Mask.l0 bits (i:Int) (mkA V ((mfull l bits).take i++l.drop i))=some (mkA V (mfull l bits)):=by
 have hml:=mfull_len l bits
 intro k
 induction k with
 | zero =>
  intro i hi
  have hz:decide ((i:Int)<16)=false:=decide_eq_false (by omega)
  rw [addr_Mask.l0.eq_def,hz,if_neg Bool.false_ne_true,List.drop_eq_nil_of_le (by omega),List.append_nil,List.take_of_length_le (by omega)]
 | succ k ih =>
  intro i hi
  have hz:decide ((i:Int)<16)=true:=decide_eq_true (by omega)
  have hc:l[i]? = some l[i]:=List.getElem?_eq_getElem (by omega)
  generalize hcc:l[i]=c at hc
  have hAlen:((mfull l bits).take i++l.drop i).length=16:=by simp;omega
  have hAi:((mfull l bits).take i++l.drop i)[i]? = some c:=by
   rw [List.getElem?_append_right (by simp;omega),List.getElem?_drop]
   have:i+(i-((mfull l bits).take i).length)=i:=by simp;omega
   rw [this,hc]
  have hg:(0:Int)≤(i:Int)∧(i:Int)<16:=by omega
  have hv:vget (vb ((mfull l bits).take i++l.drop i)) (i:Int)=(c.toNat:Int):=by rw [vget_vb hAlen i (by omega),bg_get hAi]
  have hstep:=set_step (mfull l bits) l i (mb c (lft bits i)) hml (by rw [mfull_get,hc];rfl)
  have hle:=lft_le bits i
  have hset:∀ s:Int,s=((8-lft bits i:Nat):Int)→({ mkA V ((mfull l bits).take i++l.drop i) with f_B:=vset (vb ((mfull l bits).take i++l.drop i)) (i:Int) (iand .u8 (vget (vb ((mfull l bits).take i++l.drop i)) (i:Int)) (ishl .u8 255 s)) }:S_api_Addr) =
    mkA V ((mfull l bits).take (i+1)++l.drop (i+1)):=fun s hs=>by
   rw [hs,hv,mb_code c _ hle,vset_vb hAlen,hstep];rfl
  have e8:wr .u64 (wr .i64 (8-((lft bits i:Nat):Int)))=((8-lft bits i:Nat):Int):=by
   rw [wr_i64 (by omega) (by omega),wr_u64 (by omega) (by omega)];omega
  have hn:(0:Int)≤((8-lft bits i:Nat):Int):=by omega
  have hi1:wr .i64 ((i:Int)+1)=((i+1:Nat):Int):=by rw [wr_i64 (by omega) (by omega)];omega
  rw [addr_Mask.l0.eq_def,hz,if_pos rfl]
  by_cases h0:bits<0
  ·have hl0:lft bits i=0:=by unfold lft;omega
   have e80:wr .u64 (wr .i64 (8-0))=((8-lft bits i:Nat):Int):=by rw [hl0];rfl
   rw [if_pos (decide_eq_true h0),if_pos hg,e80,if_pos hn,if_pos hg,hi1]
   have:=hset _ rfl
   rw [show (mkA V ((mfull l bits).take i++l.drop i)).f_B=vb ((mfull l bits).take i++l.drop i) from rfl,this]
   exact ih (i+1) (by omega)
  ·rw [if_neg (by rw [decide_eq_true_eq];exact h0),if_pos hg,lft_code bits hb i (by omega) h0,e8,if_pos hn,if_pos hg,hi1]
   have:=hset _ rfl
   rw [show (mkA V ((mfull l bits).take i++l.drop i)).f_B=vb ((mfull l bits).take i++l.drop i) from rfl,this]
   exact ih (i+1) (by omega)
def maskA(V:Int)(l:List UInt8)(bits:Int):S_api_Addr:=if rightL V l=true then mkA V (mfull l bits) else mkA 0 (List.replicate 16 0)
theorem mask_code{V bits:Int}{l:List UInt8}(hl:l.length=16)(hb : -9223372036854775808≤bits∧bits<9223372036854775808):addr_Mask (mkA V l) bits=some (maskA V l bits):=by
 unfold addr_Mask maskA
 rw [right_code hl,bindM_some]
 cases rightL V l
 ·show some _=_
  rw [zero_mkA];rfl
 ·have h:=mask_loop V bits l hl hb 16 0 rfl
  rw [List.take_zero,List.nil_append,List.drop_zero,show ((0:Nat):Int)=0 from rfl] at h
  show (addr_Mask.l0 bits 0 (mkA V l)>>=fun q5=>some q5)=_
  rw [h];rfl
def bit(l:List UInt8)(i:Nat):Nat:=bg l (i/8)/2 ^ (7-i%8)%2
theorem digit_loop(i:Nat)(hi:i<9223372036854775808):∀ (k n:Nat),n<256→i%8+k≤7→crawlwayref10_digit.l0 (i:Int) (n:Int) ((i%8+k:Nat):Int)=some ((n/2 ^ k:Nat):Int):=by
 intro k
 have hm:Int.tmod (i:Int) 8=((i%8:Nat):Int):=by rw [Int.tmod_eq_emod_of_nonneg (by omega)];omega
 induction k with
 | zero =>
  intro n hn hk
  rw [crawlwayref10_digit.l0.eq_def,hm,if_neg (by rw [decide_eq_true_eq];omega),Nat.pow_zero,Nat.div_one]
 | succ k ih =>
  intro n hn hk
  have e1:wr .i64 (Int.tdiv (n:Int) 2)=((n/2:Nat):Int):=by
   have:Int.tdiv (n:Int) 2=((n/2:Nat):Int):=by rw [Int.tdiv_eq_ediv_of_nonneg (by omega)];omega
   rw [this,wr_i64 (by omega) (by omega)]
  have e2:wr .i64 (((i%8+(k+1):Nat):Int)-1)=((i%8+k:Nat):Int):=by rw [wr_i64 (by omega) (by omega)];omega
  rw [crawlwayref10_digit.l0.eq_def,hm,if_pos (decide_eq_true (by omega)),e1,e2,ih (n/2) (by omega) (by omega),Nat.div_div_eq_div_mul]
  rw [Nat.pow_succ,Nat.mul_comm]
theorem digit_ref{V:Int}{l:List UInt8}(hl:l.length=16)(i:Nat)(hi:i<128):crawlwayref10_digit (mkA V l) (i:Int)=some ((bit l i:Nat):Int):=by
 have hd:wr .i64 (Int.tdiv (i:Int) 8)=((i/8:Nat):Int):=by
  have:Int.tdiv (i:Int) 8=((i/8:Nat):Int):=by rw [Int.tdiv_eq_ediv_of_nonneg (by omega)];omega
  rw [this,wr_i64 (by omega) (by omega)]
 have hb:=bg_lt l (i/8)
 unfold crawlwayref10_digit
 rw [hd,if_pos (by omega)]
 show (crawlwayref10_digit.l0 (i:Int) (wr .i64 (vget (vb l) ((i/8:Nat):Int))) 7>>=fun q3=>some (Int.tmod q3 2))=_
 rw [vget_vb hl _ (by omega),wr_i64 (by omega) (by omega)]
 have h:=digit_loop i (by omega) (7-i%8) (bg l (i/8)) hb (by omega)
 rw [show i%8+(7-i%8)=7 by omega,show ((7:Nat):Int)=7 from rfl] at h
 rw [h,bindM_some]
 unfold bit
 refine congrArg some ?_
 have:=Int.tmod_eq_emod_of_nonneg (a:=((bg l (i/8)/2 ^ (7-i%8):Nat):Int)) (b:=2) (Int.natCast_nonneg _)
 rw [this];exact (Int.natCast_emod _ 2).symm
theorem bit_lt(l:List UInt8)(i:Nat):bit l i<2:=Nat.mod_lt _ (by omega)
def lftN(t q:Nat):Nat:=min (t-8*q) 8
def refm(l:List UInt8)(t:Nat):List UInt8:=l.mapIdx fun q b=>mb b (lftN t q)
theorem refm_len(l:List UInt8)(t:Nat):(refm l t).length=l.length:=by simp [refm]
theorem refm_get(l:List UInt8)(t i:Nat):(refm l t)[i]? = (l[i]?).map fun b=>mb b (lftN t i):=by
 unfold refm;rw [List.getElem?_mapIdx]
theorem refm_step(l:List UInt8)(hl:l.length=16)(i:Nat)(hi:i<128):refm l (i+1)=(refm l i).set (i/8) (mb (l.getD (i/8) 0) (i%8+1)):=by
 apply List.ext_getElem?
 intro j
 rw [List.getElem?_set,refm_get,refm_get]
 by_cases hj:i/8=j
 ·subst hj
  have hlt:i/8<(refm l i).length:=by rw [refm_len];omega
  have hc:l[i/8]? = some l[i/8]:=List.getElem?_eq_getElem (by omega)
  have e:lftN (i+1) (i/8)=i%8+1:=by unfold lftN;omega
  rw [if_pos rfl,if_pos hlt,hc,List.getD_eq_getElem?_getD,hc,e];rfl
 ·rw [if_neg hj]
  have:lftN (i+1) j=lftN i j:=by unfold lftN;omega
  rw [this]
theorem refMask_l1(i:Nat)(hi:i<9223372036854775808):∀ (k j n:Nat),n<256→j+k=i%8→crawlwayref10_Mask.l1 (i:Int) (n:Int) (j:Int)=some ((n/2 ^ k:Nat):Int):=by
 intro k
 have hm:Int.tmod (i:Int) 8=((i%8:Nat):Int):=by rw [Int.tmod_eq_emod_of_nonneg (by omega)];omega
 induction k with
 | zero =>
  intro j n hn hk
  rw [crawlwayref10_Mask.l1.eq_def,hm,if_neg (by rw [decide_eq_true_eq];omega),Nat.pow_zero,Nat.div_one]
 | succ k ih =>
  intro j n hn hk
  have e1:wr .i64 (Int.tdiv (n:Int) 2)=((n/2:Nat):Int):=by
   have:Int.tdiv (n:Int) 2=((n/2:Nat):Int):=by rw [Int.tdiv_eq_ediv_of_nonneg (by omega)];omega
   rw [this,wr_i64 (by omega) (by omega)]
  have e2:wr .i64 ((j:Int)+1)=((j+1:Nat):Int):=by rw [wr_i64 (by omega) (by omega)];omega
  rw [crawlwayref10_Mask.l1.eq_def,hm,if_pos (decide_eq_true (by omega)),e1,e2,ih (j+1) (n/2) (by omega) (by omega),Nat.div_div_eq_div_mul]
  rw [Nat.pow_succ,Nat.mul_comm]
theorem refMask_loop(V bits:Int)(l:List UInt8)(hl:l.length=16)(w:Nat)(hw:w≤128):∀ (k i:Nat),i+k=min w bits.toNat →
  crawlwayref10_Mask.l0 (mkA V l) bits (w:Int) (i:Int) (mkA V (refm l i))=some (mkA V (refm l (min w bits.toNat))):=by
 intro k
 induction k with
 | zero =>
  intro i hi
  rw [crawlwayref10_Mask.l0.eq_def]
  by_cases h1:i<w
  ·have hb:decide ((i:Int)<bits)=false:=decide_eq_false (by omega)
   rw [if_pos (decide_eq_true (by omega)),hb,if_neg Bool.false_ne_true,show i=min w bits.toNat by omega]
  ·rw [if_neg (by rw [decide_eq_true_eq];omega),show i=min w bits.toNat by omega]
 | succ k ih =>
  intro i hi
  have hi128:i<128:=by omega
  have hd:wr .i64 (Int.tdiv (i:Int) 8)=((i/8:Nat):Int):=by
   have:Int.tdiv (i:Int) 8=((i/8:Nat):Int):=by rw [Int.tdiv_eq_ediv_of_nonneg (by omega)];omega
   rw [this,wr_i64 (by omega) (by omega)]
  have hi1:wr .i64 ((i:Int)+1)=((i+1:Nat):Int):=by rw [wr_i64 (by omega) (by omega)];omega
  have hl1:=refMask_l1 i (by omega) (i%8) 0 128 (by omega) (by omega)
  rw [show ((128:Nat):Int)=128 from rfl,show ((0:Nat):Int)=0 from rfl] at hl1
  have hc:l[i/8]? = some l[i/8]:=List.getElem?_eq_getElem (by omega)
  generalize hcc:l[i/8]=c at hc
  have hgd:l.getD (i/8) 0=c:=by rw [List.getD_eq_getElem?_getD,hc];rfl
  have hbit:bit l i=c.toNat/2 ^ (7-i%8)%2:=by unfold bit;rw [bg_get hc]
  have hst:=mb_step c (i%8) (by omega)
  have hlt:=(mb c (i%8+1)).toNat_lt
  have hrl:(refm l i).length=16:=by rw [refm_len];exact hl
  have hri:(refm l i)[i/8]? = some (mb c (i%8)):=by
   have e:lftN i (i/8)=i%8:=by unfold lftN;omega
   rw [refm_get,hc,e];rfl
  have hstep:=refm_step l hl i hi128
  rw [hgd] at hstep
  rw [crawlwayref10_Mask.l0.eq_def,if_pos (decide_eq_true (by omega)),if_pos (decide_eq_true (by omega)),digit_ref hl i hi128,bindM_some,hl1,bindM_some,hd,hi1]
  by_cases hb:bit l i=1
  ·have hbb:(((bit l i:Nat):Int)==1)=true:=by rw [hb];rfl
   rw [hbb,if_pos rfl,if_pos (by omega),if_pos (by omega)]
   have hset:({ mkA V (refm l i) with f_B:=vset (mkA V (refm l i)).f_B ((i/8:Nat):Int) (wr .u8 ((vget (mkA V (refm l i)).f_B ((i/8:Nat):Int))+(wr .u8 ((128/2 ^ (i%8):Nat):Int)))) }:S_api_Addr)=mkA V (refm l (i+1)):=by
    show S_api_Addr.mk V (vset (vb (refm l i)) ((i/8:Nat):Int) (wr .u8 ((vget (vb (refm l i)) ((i/8:Nat):Int))+(wr .u8 ((128/2 ^ (i%8):Nat):Int)))))=_
    have hq:128/2 ^ (i%8)<256:=Nat.lt_of_le_of_lt (Nat.div_le_self _ _) (by omega)
    have e6:wr .u8 ((128/2 ^ (i%8):Nat):Int)=((128/2 ^ (i%8):Nat):Int):=by
     generalize 128/2 ^ (i%8)=z at hq
     exact wr_u8 (by omega) (by omega)
    rw [vget_vb hrl _ (by omega),bg_get hri,e6]
    have e5:wr .u8 (((mb c (i%8)).toNat:Int)+((128/2 ^ (i%8):Nat):Int))=((mb c (i%8+1)).toNat:Int):=by
     rw [hst,←hbit,hb,Nat.one_mul] at hlt
     rw [hst,←hbit,hb,Nat.one_mul]
     generalize 128/2 ^ (i%8)=z at hlt
     rw [wr_u8 (by omega) (by omega)];omega
    rw [e5,vset_vb hrl,←hstep];rfl
   rw [hset]
   exact ih (i+1) (by omega)
  ·have h0:bit l i=0:=by have:=bit_lt l i;omega
   have hbb:(((bit l i:Nat):Int)==1)=false:=by rw [h0];rfl
   rw [hbb,if_neg Bool.false_ne_true]
   have:refm l (i+1)=refm l i:=by
    rw [hstep]
    have e6:mb c (i%8+1)=mb c (i%8):=by
     apply UInt8.toNat.inj
     rw [hst,←hbit,h0];omega
    rw [e6]
    apply List.ext_getElem?
    intro j
    rw [List.getElem?_set]
    by_cases hj:i/8=j
    ·subst hj;rw [if_pos rfl,if_pos (by omega),hri]
    ·rw [if_neg hj]
   rw [←this]
   exact ih (i+1) (by omega)
theorem refm_zero(l:List UInt8)(hl:l.length=16):refm l 0=List.replicate 16 0:=by
 apply List.ext_getElem?
 intro j
 rw [refm_get]
 by_cases hj:j<16
 ·have hc:l[j]? = some l[j]:=List.getElem?_eq_getElem (by omega)
  rw [hc,List.getElem?_replicate,if_pos hj]
  have e:lftN 0 j=0:=by unfold lftN;omega
  rw [e]
  exact congrArg some (mb_zero _)
 ·rw [List.getElem?_eq_none (by omega),List.getElem?_eq_none (by simp;omega)];rfl
theorem refm_full{V bits:Int}{l:List UInt8}(hl:l.length=16)(hr:rightL V l=true):refm l (min (widthL V l) bits.toNat)=mfull l bits:=by
 apply List.ext_getElem?
 intro j
 rw [refm_get,mfull_get]
 by_cases hj:j<16
 ·have hc:l[j]? = some l[j]:=List.getElem?_eq_getElem (by omega)
  rw [hc]
  show some _=some _
  congr 1
  rcases right_cases hr with h6 | ⟨h4,hlow⟩
  ·have hw:widthL V l=128:=by unfold widthL;rw [if_pos hr,if_neg (by omega)]
   have:lftN (min (widthL V l) bits.toNat) j=lft bits j:=by rw [hw];unfold lftN lft;omega
   rw [this]
  ·have hw:widthL V l=32:=by unfold widthL;rw [if_pos hr,if_pos h4]
   by_cases hj4:j<4
   ·have:lftN (min (widthL V l) bits.toNat) j=lft bits j:=by rw [hw];unfold lftN lft;omega
    rw [this]
   ·have hz:l[j]=0:=by
     have h1:=(low_iff hl).1 hlow
     have h2:l[j]? = some 0:=by
      rw [h1];unfold fourL
      rw [List.getElem?_append_right (by simp;omega),List.getElem?_replicate,if_pos (by simp;omega)]
     rw [hc] at h2;exact Option.some.inj h2
    rw [hz]
    exact (mb_of_zero _).trans (mb_of_zero _).symm
 ·rw [List.getElem?_eq_none (by omega)];rfl
theorem mask_ref{V bits:Int}{l:List UInt8}(hl:l.length=16):crawlwayref10_Mask (mkA V l) bits=some (maskA V l bits):=by
 unfold crawlwayref10_Mask maskA
 rw [right_ref hl,bindM_some]
 cases hr:rightL V l
 ·show some _=_
  rw [zero_mkA];rfl
 ·have h:=refMask_loop V bits l hl (widthL V l) width_le (min (widthL V l) bits.toNat) 0 (by omega)
  rw [refm_zero l hl,show ((0:Nat):Int)=0 from rfl,refm_full hl hr] at h
  show (crawlwayref10_Width (mkA V l)>>=fun t6=>crawlwayref10_Mask.l0 (mkA V l) bits t6 0 (S_api_Addr.mk V (Vector.replicate 16 (0:Int)))>>=fun q7=>some q7)=_
  rw [width_ref hl,bindM_some,zero_vb]
  show (crawlwayref10_Mask.l0 (mkA V l) bits _ 0 (mkA V (List.replicate 16 0))>>=fun q7=>some q7)=_
  rw [h];rfl
end Go.Proofs.Ytahlbjmafceoeaa.Adr
namespace Go.Proofs.Ytahlbjmafceoeaa.Cid
open E Go.RowKit
open Adr
def mkP(A:S_api_Addr)(b:Int):S_api_Prefix:={ f_A:=A,f_Bits:=b }
def zP:S_api_Prefix:={ f_A:=({ f_V:=(0:Int),f_B:=(Vector.replicate 16 (0:Int):(Vector Int 16)) }:S_api_Addr),f_Bits:=(0:Int) }
theorem exists_mkP(a:S_api_Prefix)(h:ok_api_Prefix a):∃ V l b,a=mkP (mkA V l) b∧l.length=16∧(Lit.int .i64 b).wf=true:=by
 obtain ⟨V,l,hA,hl,_⟩:=exists_mkA a.f_A h.1
 refine ⟨V,l,a.f_Bits,?_,hl,h.2⟩
 cases a with | mk A n =>
 simp only at hA
 subst hA;rfl
theorem mkP_inj{V W:Int}{l k:List UInt8}{b c:Int}(hl:l.length=16)(hk:k.length=16):mkP (mkA V l) b=mkP (mkA W k) c↔(V=W∧l=k)∧b=c:=by
 unfold mkP
 rw [S_api_Prefix.mk.injEq,mkA_inj hl hk]
def fits(V:Int)(l:List UInt8)(b:Int):Bool:=rightL V l&&(decide (0≤b)&&decide (b≤(widthL V l:Int)))
theorem fits_iff{V:Int}{l:List UInt8}{b:Int}:fits V l b=true↔rightL V l=true∧0≤b∧b≤(widthL V l:Int):=by
 unfold fits
 simp only [Bool.and_eq_true,decide_eq_true_eq]
def ofP(V:Int)(l:List UInt8)(b:Int):S_api_Prefix×Int:=if rightL V l=true then (if fits V l b=true then (mkP (mkA V (mfull l b)) b,0) else (zP,6)) else (zP,1)
theorem of_code{V b:Int}{l:List UInt8}(hl:l.length=16):cidr_Of (mkA V l) b=some (ofP V l b):=by
 unfold cidr_Of ofP
 rw [right_code hl,bindM_some]
 have hw:=width_le (V:=V) (l:=l)
 cases hr:rightL V l with
 | false=>rfl
 | true =>
  rw [if_neg (show ¬ (!true)=true by decide),if_pos rfl]
  by_cases h0:b<0
  ·have hf:¬ fits V l b=true:=fun h=>by have:=(fits_iff.1 h).2.1;omega
   rw [if_pos (decide_eq_true h0),if_neg hf];rfl
  ·rw [if_neg (by rw [decide_eq_true_eq];exact h0),width_code hl,bindM_some]
   by_cases h1:b>(widthL V l:Int)
   ·have hf:¬ fits V l b=true:=fun h=>by have:=(fits_iff.1 h).2.2;omega
    rw [if_pos (decide_eq_true h1),if_neg hf];rfl
   ·have hf:fits V l b=true:=fits_iff.2 ⟨hr,by omega,by omega⟩
    rw [if_neg (by rw [decide_eq_true_eq];exact h1),mask_code hl (by omega),bindM_some,if_pos hf]
    unfold maskA
    rw [if_pos hr];rfl
def rightP(V:Int)(l:List UInt8)(b:Int):Bool:=fits V l b&&decide (mfull l b=l)
theorem rightP_iff{V:Int}{l:List UInt8}{b:Int}:rightP V l b=true↔(rightL V l=true∧0≤b∧b≤(widthL V l:Int))∧mfull l b=l:=by
 unfold rightP
 rw [Bool.and_eq_true,fits_iff,decide_eq_true_eq]
theorem mlen{l:List UInt8}(hl:l.length=16)(b:Int):(mfull l b).length=16:=by rw [mfull_len,hl]
theorem cright_code{V b:Int}{l:List UInt8}(hl:l.length=16):cidr_Right (mkP (mkA V l) b)=some (rightP V l b):=by
 unfold cidr_Right
 show (cidr_Of (mkA V l) b>>=fun t2=>if (t2.2==0)=true then some (decide (t2.1=mkP (mkA V l) b)) else some false)=_
 rw [of_code hl,bindM_some]
 unfold ofP rightP
 cases hr:rightL V l with
 | false =>
  have hf:fits V l b=false:=by unfold fits;rw [hr];rfl
  rw [hf];rfl
 | true =>
  rw [if_pos rfl]
  cases hf:fits V l b with
  | false=>rfl
  | true =>
   rw [if_pos rfl]
   show (if ((0:Int)==0)=true then some (decide (mkP (mkA V (mfull l b)) b=mkP (mkA V l) b)) else some false)=_
   rw [if_pos (by rfl),Bool.true_and]
   refine congrArg some ?_
   rw [decide_eq_decide,mkP_inj (mlen hl b) hl]
   exact ⟨fun h=>h.1.2,fun h=>⟨⟨rfl,h⟩,rfl⟩⟩
theorem cright_ref{V b:Int}{l:List UInt8}(hl:l.length=16):crawlwayref11_Right (mkP (mkA V l) b)=some (rightP V l b):=by
 unfold crawlwayref11_Right rightP
 show (crawlwayref10_Right (mkA V l)>>=fun t2=>if (!t2)=true then some false else (if decide (b<0)=true then some false else (crawlwayref10_Width (mkA V l)>>=fun t5=>if decide (b>t5)=true then some false else (crawlwayref10_Mask (mkA V l) b>>=fun t7=>some (decide (mkA V l=t7))))))=_
 rw [right_ref hl,bindM_some]
 cases hr:rightL V l with
 | false =>
  have hf:fits V l b=false:=by unfold fits;rw [hr];rfl
  rw [hf];rfl
 | true =>
  rw [if_neg (show ¬ (!true)=true by decide)]
  by_cases h0:b<0
  ·have hf:fits V l b=false:=by cases h:fits V l b with | false=>rfl | true=>have:=(fits_iff.1 h).2.1;omega
   rw [if_pos (decide_eq_true h0),hf];rfl
  ·rw [if_neg (by rw [decide_eq_true_eq];exact h0),width_ref hl,bindM_some]
   by_cases h1:b>(widthL V l:Int)
   ·have hf:fits V l b=false:=by cases h:fits V l b with | false=>rfl | true=>have:=(fits_iff.1 h).2.2;omega
    rw [if_pos (decide_eq_true h1),hf];rfl
   ·have hf:fits V l b=true:=fits_iff.2 ⟨hr,by omega,by omega⟩
    rw [if_neg (by rw [decide_eq_true_eq];exact h1),mask_ref hl,bindM_some,hf,Bool.true_and]
    unfold maskA
    rw [if_pos hr]
    refine congrArg some ?_
    rw [decide_eq_decide,mkA_inj hl (mlen hl b)]
    exact ⟨fun h=>h.2.symm,fun h=>⟨rfl,h.symm⟩⟩
end Go.Proofs.Ytahlbjmafceoeaa.Cid
namespace Go.Proofs.Ytahlbjmafceoeaa.Adr
open E Go.RowKit Cid
def fd(p:Nat→Bool):Nat→Nat→Nat
 | 0,i=>i
 | f+1,i=>if p i=true then fd p f (i+1) else i
theorem fd_all(p:Nat→Bool):∀ (f i j:Nat),i≤j→j<fd p f i→p j=true
 | 0,i,j,h1,h2=>by unfold fd at h2;omega
 | f+1,i,j,h1,h2=>by
  unfold fd at h2
  by_cases hp:p i=true
  ·rw [if_pos hp] at h2
   by_cases hj:j=i
   ·subst hj;exact hp
   ·exact fd_all p f (i+1) j (by omega) h2
  ·rw [if_neg hp] at h2;omega
theorem fd_stop(p:Nat→Bool):∀ (f i:Nat),fd p f i<i+f→p (fd p f i)=false
 | 0,i,h=>by unfold fd at h;omega
 | f+1,i,h=>by
  unfold fd at h ⊢
  by_cases hp:p i=true
  ·rw [if_pos hp] at h ⊢
   exact fd_stop p f (i+1) (by omega)
  ·rw [if_neg hp];simpa using hp
def alikeB(l k:List UInt8)(i:Nat):Bool:=decide (bit l i=bit k i)
theorem refCommon_loop{V W:Int}{l k:List UInt8}(hl:l.length=16)(hk:k.length=16)(t:Nat)(ht:t≤128):∀ (f i:Nat),i+f=t →
  crawlwayref10_Common.l0 (mkA V l) (mkA W k) (t:Int) (i:Int)=some ((fd (alikeB l k) f i:Nat):Int):=by
 intro f
 induction f with
 | zero =>
  intro i hi
  rw [crawlwayref10_Common.l0.eq_def,if_neg (by rw [decide_eq_true_eq];omega)];rfl
 | succ f ih =>
  intro i hi
  rw [crawlwayref10_Common.l0.eq_def,if_pos (decide_eq_true (by omega)),digit_ref hl i (by omega),bindM_some,digit_ref hk i (by omega),bindM_some]
  unfold fd
  by_cases h:bit l i=bit k i
  ·have h1:(((bit l i:Nat):Int)==((bit k i:Nat):Int))=true:=by rw [h];exact beq_self_eq_true _
   have h2:alikeB l k i=true:=decide_eq_true h
   rw [h1,if_pos rfl,h2,if_pos rfl,wr_i64 (by omega) (by omega),show ((i:Int)+1)=((i+1:Nat):Int) by omega]
   exact ih (i+1) (by omega)
  ·have h1:(((bit l i:Nat):Int)==((bit k i:Nat):Int))=false:=by rw [beq_eq_false_iff_ne];omega
   have h2:alikeB l k i=false:=decide_eq_false h
   rw [h1,if_neg Bool.false_ne_true,h2,if_neg Bool.false_ne_true]
def commonL(V:Int)(l:List UInt8)(W:Int)(k:List UInt8):Int :=
 if rightL V l=true∧rightL W k=true∧V=W then ((fd (alikeB l k) (widthL V l) 0:Nat):Int) else -1
theorem common_ref{V W:Int}{l k:List UInt8}(hl:l.length=16)(hk:k.length=16):crawlwayref10_Common (mkA V l) (mkA W k)=some (commonL V l W k):=by
 unfold crawlwayref10_Common commonL
 rw [right_ref hl,bindM_some]
 cases hr:rightL V l
 ·show some (-1:Int)=_
  rw [if_neg (by simp)]
 ·show (crawlwayref10_Right (mkA W k)>>=fun t5=>_)=_
  rw [right_ref hk,bindM_some]
  cases hs:rightL W k
  ·show some (-1:Int)=_
   rw [if_neg (by simp)]
  ·show (if (V != W)=true then _ else _)=_
   by_cases hv:V=W
   ·subst hv
    have hne:(V != V)=false:=by simp
    rw [hne,if_neg Bool.false_ne_true,width_ref hl,bindM_some]
    have h1:=refCommon_loop (V:=V) (W:=V) hl hk (widthL V l) width_le (widthL V l) 0 (by omega)
    rw [show ((0:Nat):Int)=0 from rfl] at h1
    rw [h1,bindM_some,if_pos ⟨rfl,rfl,rfl⟩]
   ·have hne:(V != W)=true:=by simpa using hv
    rw [hne,if_pos rfl,if_neg (fun h=>hv h.2.2)]
def lessL:List UInt8→List UInt8→Bool
 | x::a,y::b=>if x≠y then decide (x<y) else lessL a b
 | _,_=>false
theorem less_cmp:∀ (a b:List UInt8),a.length=b.length→decide (Lib.compareBytes a b<0)=lessL a b
 | [],[],_=>rfl
 | [],_::_,h=>by simp at h
 | _::_,[],h=>by simp at h
 | x::a,y::b,h=>by
  unfold Lib.compareBytes lessL
  by_cases hxy:x=y
  ·subst hxy
   have:¬ x<x:=UInt8.lt_irrefl x
   simp only [this,if_false,ne_eq,not_true_eq_false]
   exact less_cmp a b (by simpa using h)
  ·by_cases hlt:x<y
   ·simp [hxy,hlt]
   ·have:y<x:=UInt8.lt_of_le_of_ne (UInt8.not_lt.1 hlt) (Ne.symm hxy)
    simp [hxy,hlt,this]
def lessA(V:Int)(l:List UInt8)(W:Int)(k:List UInt8):Bool:=if V=W then lessL l k else decide (V<W)
theorem refLess_loop{V W:Int}{l k:List UInt8}(hl:l.length=16)(hk:k.length=16)(f:Nat):∀ i:Nat,i+f=16 →
  ∃ q,crawlwayref10_Less.l0 (mkA V l) (mkA W k) i=some q∧(match q with | .ret r=>r=lessL (l.drop i) (k.drop i) | .nx _=>lessL (l.drop i) (k.drop i)=false):=by
 induction f with
 | zero =>
  intro i hi
  have hz:decide ((i:Int)<16)=false:=decide_eq_false (by omega)
  rw [crawlwayref10_Less.l0.eq_def,hz]
  refine ⟨_,rfl,?_⟩
  rw [List.drop_eq_nil_of_le (by omega)];rfl
 | succ f ih =>
  intro i hi
  have hz:decide ((i:Int)<16)=true:=decide_eq_true (by omega)
  obtain ⟨x,hx,hdx⟩:=drop_get l i (by omega)
  obtain ⟨y,hy,hdy⟩:=drop_get k i (by omega)
  have hg:(0:Int)≤(i:Int)∧(i:Int)<16:=by omega
  have ex:vget (mkA V l).f_B (i:Int)=x.toNat:=by show vget (vb l) (i:Int)=_;rw [vget_vb hl i (by omega),bg_get hx]
  have ey:vget (mkA W k).f_B (i:Int)=y.toNat:=by show vget (vb k) (i:Int)=_;rw [vget_vb hk i (by omega),bg_get hy]
  rw [crawlwayref10_Less.l0.eq_def,hz,if_pos rfl,if_pos hg,if_pos hg,ex,ey,hdx,hdy]
  unfold lessL
  by_cases hxy:x=y
  ·subst hxy
   have h1:((x.toNat:Int) != (x.toNat:Int))=false:=by simp
   obtain ⟨q,hq,hm⟩:=ih (i+1) (by omega)
   rw [h1,if_neg Bool.false_ne_true,wr_i64 (by omega) (by omega),show ((i:Int)+1)=((i+1:Nat):Int) by omega]
   refine ⟨q,hq,?_⟩
   rw [if_neg (by simp)]
   exact hm
  ·have hne:x.toNat≠y.toNat:=fun e=>hxy (UInt8.toNat.inj e)
   have h1:((x.toNat:Int) != (y.toNat:Int))=true:=by rw [bne_iff_ne];omega
   rw [h1,if_pos rfl,if_pos hg,if_pos hg]
   refine ⟨_,rfl,?_⟩
   show decide ((x.toNat:Int)<(y.toNat:Int))=_
   rw [if_pos hxy,Bool.eq_iff_iff,decide_eq_true_eq,decide_eq_true_eq,UInt8.lt_iff_toNat_lt]
   omega
theorem less_ref{V W:Int}{l k:List UInt8}(hl:l.length=16)(hk:k.length=16):crawlwayref10_Less (mkA V l) (mkA W k)=some (lessA V l W k):=by
 unfold crawlwayref10_Less lessA
 show (if (V != W)=true then some (decide (V<W)) else _)=_
 by_cases h:V=W
 ·have hne:(V != W)=false:=by simpa using h
  obtain ⟨q,hq,hm⟩:=refLess_loop (V:=V) (W:=W) hl hk 16 0 rfl
  rw [show ((0:Nat):Int)=0 from rfl] at hq
  rw [hne,if_neg Bool.false_ne_true,if_pos h,hq,bindM_some]
  rw [List.drop_zero,List.drop_zero] at hm
  cases q with
  | ret r=>show some r=_;rw [show r=_ from hm]
  | nx u=>show some false=_;rw [show lessL l k=false from hm]
 ·have hne:(V != W)=true:=by simpa using h
  rw [hne,if_pos rfl,if_neg h]
theorem mb_alike(x y:UInt8):∀ (k:Nat),k≤8→(∀ j,j<k→x.toNat/2 ^ (7-j)%2=y.toNat/2 ^ (7-j)%2)→mb x k=mb y k
 | 0,_,_=>by rw [mb_zero,mb_zero]
 | k+1,hk,h=>by
  apply UInt8.toNat.inj
  rw [mb_step x k (by omega),mb_step y k (by omega),mb_alike x y k (by omega) (fun j hj=>h j (by omega)),h k (by omega)]
theorem mfull_alike{l k:List UInt8}(hl:l.length=16)(hk:k.length=16)(c:Nat)(hc:c≤128)(h:∀ j,j<c→bit l j=bit k j):mfull l (c:Int)=mfull k (c:Int):=by
 apply List.ext_getElem?
 intro j
 rw [mfull_get,mfull_get]
 by_cases hj:j<16
 ·have hx:l[j]? = some l[j]:=List.getElem?_eq_getElem (by omega)
  have hy:k[j]? = some k[j]:=List.getElem?_eq_getElem (by omega)
  generalize l[j]=x at hx
  generalize k[j]=y at hy
  rw [hx,hy]
  show some _=some _
  congr 1
  refine mb_alike x y _ (lft_le _ _) fun i hi=>?_
  have hlt:i<8:=by have:=lft_le (c:Int) j;omega
  have hb:=h (8*j+i) (by unfold lft at hi;omega)
  unfold bit at hb
  rw [show (8*j+i)/8=j by omega,show (8*j+i)%8=i by omega,bg_get hx,bg_get hy] at hb
  exact hb
 ·rw [List.getElem?_eq_none (by omega),List.getElem?_eq_none (by omega)]
theorem mb_bit_fin:∀ (x:Fin 256) (m:Fin 9) (j:Fin 8),j.val<m.val→(x.val-x.val%2 ^ (8-m.val))/2 ^ (7-j.val)%2=x.val/2 ^ (7-j.val)%2:=by decide +kernel
theorem bit_mfull{l:List UInt8}(hl:l.length=16)(b:Int)(i:Nat)(hi:(i:Int)<b)(h128:i<128):bit (mfull l b) i=bit l i:=by
 unfold bit
 obtain ⟨c,hc⟩:∃ c,l[i/8]? = some c:=⟨_,List.getElem?_eq_getElem (by omega)⟩
 have hm:(mfull l b)[i/8]? = some (mb c (lft b (i/8))):=by rw [mfull_get,hc];rfl
 rw [bg_get hc,bg_get hm,mb_toNat]
 have hle:=lft_le b (i/8)
 have hlt:i%8<lft b (i/8):=by unfold lft;omega
 exact mb_bit_fin ⟨c.toNat,c.toNat_lt⟩ ⟨lft b (i/8),by omega⟩ ⟨i%8,by omega⟩ hlt
theorem fd_far(p:Nat→Bool)(f c:Nat)(hc:c≤f)(h:∀ j,j<c→p j=true):c≤fd p f 0:=by
 rcases Nat.lt_or_ge (fd p f 0) c with hlt | hge
 ·have h1:=fd_stop p f 0 (by omega)
  rw [h _ hlt] at h1;cases h1
 ·exact hge
theorem same_bits{V W:Int}{l k:List UInt8}{b:Int}(hl:l.length=16)(hk:k.length=16)(hp:rightP V l b=true)(hV:V=W)(hr:rightL W k=true):decide (mfull k b=l)=decide (commonL V l W k≥b):=by
 subst hV
 obtain ⟨⟨hrl,h0,h1⟩,hm⟩:=rightP_iff.1 hp
 have hw:=width_le (V:=V) (l:=l)
 obtain ⟨c,rfl⟩:=Int.eq_ofNat_of_zero_le h0
 have hc:commonL V l V k=((fd (alikeB l k) (widthL V l) 0:Nat):Int):=by unfold commonL;rw [if_pos ⟨hrl,hr,rfl⟩]
 rw [hc,decide_eq_decide]
 constructor
 ·intro h
  have:=fd_far (alikeB l k) (widthL V l) c (by omega) fun j hj=>by
   unfold alikeB
   refine decide_eq_true ?_
   rw [←h,bit_mfull hk (c:Int) j (by omega) (by omega)]
  omega
 ·intro h
  have hall:=fd_all (alikeB l k) (widthL V l) 0
  have:=mfull_alike hl hk c (by omega) fun j hj=>of_decide_eq_true (hall j (by omega) (by omega))
  rw [←this,hm]
def hasP(V:Int)(l:List UInt8)(b W:Int)(k:List UInt8):Bool:=rightP V l b&&(rightL W k&&(decide (W=V)&&decide (mfull k b=l)))
theorem has_ref{V b W:Int}{l k:List UInt8}(hl:l.length=16)(hk:k.length=16):crawlwayref11_Has (mkP (mkA V l) b) (mkA W k)=some (hasP V l b W k):=by
 unfold crawlwayref11_Has hasP
 rw [cright_ref hl,bindM_some]
 cases hp:rightP V l b with
 | false=>rfl
 | true =>
  obtain ⟨⟨hrl,h0,h1⟩,hm⟩:=rightP_iff.1 hp
  rw [if_pos rfl,Bool.true_and]
  show (crawlwayref10_Common (mkA V l) (mkA W k)>>=fun t5=>some (decide (t5≥b)))=_
  rw [common_ref hl hk,bindM_some]
  refine congrArg some ?_
  cases hr:rightL W k with
  | false =>
   have hc:commonL V l W k = -1:=by unfold commonL;rw [if_neg (by rw [hr];simp)]
   rw [hc,Bool.false_and]
   exact decide_eq_false (by omega)
  | true =>
   rw [Bool.true_and]
   by_cases hV:W=V
   ·rw [decide_eq_true hV,Bool.true_and]
    exact (same_bits hl hk hp hV.symm hr).symm
   ·have hc:commonL V l W k = -1:=by unfold commonL;rw [if_neg (fun h=>hV h.2.2.symm)]
    rw [hc,decide_eq_false hV,Bool.false_and]
    exact decide_eq_false (by omega)
end Go.Proofs.Ytahlbjmafceoeaa.Adr
namespace Go.Proofs.Ytahlbjmafceoeaa.E
def ins{α:Type}(lt:α→α→Bool)(x:α):List α→List α
 | []=>[x]
 | y::r=>if lt x y=true then x::y::r else y::ins lt x r
def isort{α:Type}(lt:α→α→Bool)(xs:List α):List α:=xs.foldl (fun o x=>ins lt x o) []
theorem ins_perm{α:Type}(lt:α→α→Bool)(x:α):∀ l:List α,(ins lt x l).Perm (x::l)
 | []=>.refl _
 | y::r=>by
  unfold ins
  split
  ·exact .refl _
  ·exact ((ins_perm lt x r).cons y).trans (.swap x y r)
theorem isort_perm_from{α:Type}(lt:α→α→Bool):∀ (xs o:List α),(xs.foldl (fun o x=>ins lt x o) o).Perm (o++xs)
 | [],o=>by simp
 | x::r,o=>by
  refine (isort_perm_from lt r (ins lt x o)).trans ?_
  refine ((ins_perm lt x o).append_right r).trans ?_
  exact List.perm_middle.symm
theorem isort_perm{α:Type}(lt:α→α→Bool)(xs:List α):(isort lt xs).Perm xs:=isort_perm_from lt xs []
theorem isort_length{α:Type}(lt:α→α→Bool)(xs:List α):(isort lt xs).length=xs.length:=(isort_perm lt xs).length_eq
structure SWOn {α:Type} (K:α→Prop) (lt:α→α→Bool):Prop where
 irrefl:∀ x,K x→lt x x=false
 trans:∀ x y z,K x→K y→K z→lt x y=true→lt y z=true→lt x z=true
 ntrans:∀ x y z,K x→K y→K z→lt x y=false→lt y z=false→lt x z=false
theorem SWOn.asymm{α:Type}{K:α→Prop}{lt:α→α→Bool}(h:SWOn K lt){x y:α}(hx:K x)(hy:K y)(e:lt x y=true):lt y x=false:=by
 cases h2:lt y x with
 | false=>rfl
 | true=>have:=h.trans x y x hx hy hx e h2;rw [h.irrefl x hx] at this;cases this
def Up{α:Type}(lt:α→α→Bool)(l:List α):Prop:=l.Pairwise fun x y=>lt y x=false
theorem ins_up{α:Type}{K:α→Prop}{lt:α→α→Bool}(h:SWOn K lt){x:α}(hx:K x):∀ {l:List α},(∀ y∈l,K y)→Up lt l→Up lt (ins lt x l)
 | [],_,_=>by simp [ins,Up]
 | y::r,hk,hl=>by
  have hy:=hk y (List.mem_cons_self ..)
  obtain ⟨h1,h2⟩:=List.pairwise_cons.1 hl
  unfold ins
  split
  ·next e =>
   refine List.pairwise_cons.2 ⟨fun z hz=>?_,hl⟩
   rcases List.mem_cons.1 hz with rfl | hz
   ·exact h.asymm hx hy e
   ·exact h.ntrans z y x (hk z (List.mem_cons_of_mem _ hz)) hy hx (h1 z hz) (h.asymm hx hy e)
  ·next e =>
   refine List.pairwise_cons.2 ⟨fun z hz=>?_,ins_up h hx (fun z hz=>hk z (List.mem_cons_of_mem _ hz)) h2⟩
   rcases List.mem_cons.1 ((ins_perm lt x r).mem_iff.1 hz) with rfl | hz
   ·cases h3:lt z y with
    | true=>exact absurd h3 e
    | false=>rfl
   ·exact h1 z hz
theorem isort_up_from{α:Type}{K:α→Prop}{lt:α→α→Bool}(h:SWOn K lt):∀ (xs o:List α),(∀ y∈xs,K y)→(∀ y∈o,K y)→Up lt o→Up lt (xs.foldl (fun o x=>ins lt x o) o)
 | [],o,_,_,ho=>ho
 | x::r,o,hk,hko,ho=>by
  have hx:=hk x (List.mem_cons_self ..)
  refine isort_up_from h r (ins lt x o) (fun y hy=>hk y (List.mem_cons_of_mem _ hy)) (fun y hy=>?_) (ins_up h hx hko ho)
  rcases List.mem_cons.1 ((ins_perm lt x o).mem_iff.1 hy) with rfl | hy
  ·exact hx
  ·exact hko y hy
theorem isort_up{α:Type}{K:α→Prop}{lt:α→α→Bool}(h:SWOn K lt)(xs:List α)(hk:∀ y∈xs,K y):Up lt (isort lt xs):=isort_up_from h xs [] hk (fun _ hy=>by cases hy) List.Pairwise.nil
theorem up_unique{α:Type}{lt:α→α→Bool}:∀ {l l':List α},l.Perm l'→Up lt l→Up lt l'→(∀ x∈l,∀ y∈l,lt x y=false→lt y x=false→x=y)→l=l'
 | [],l',hp,_,_,_=>by rw [List.nil_perm.1 hp]
 | x::r,l',hp,h1,h2,ha=>by
  cases l' with
  | nil=>exact absurd (List.Perm.length_eq hp) (by simp)
  | cons y s =>
   obtain ⟨a1,a2⟩:=List.pairwise_cons.1 h1
   obtain ⟨b1,b2⟩:=List.pairwise_cons.1 h2
   have hxy:x=y:=by
    have hy:y∈x::r:=hp.mem_iff.2 (List.mem_cons_self ..)
    have hx:x∈y::s:=hp.mem_iff.1 (List.mem_cons_self ..)
    rcases List.mem_cons.1 hy with e | hy
    ·exact e.symm
    ·rcases List.mem_cons.1 hx with e | hx
     ·exact e
     ·exact ha x (List.mem_cons_self ..) y (List.mem_cons_of_mem _ hy) (b1 x hx) (a1 y hy)
   subst hxy
   rw [up_unique ((List.perm_cons x).1 hp) a2 b2 fun z hz u hu=>ha z (List.mem_cons_of_mem _ hz) u (List.mem_cons_of_mem _ hu)]
end Go.Proofs.Ytahlbjmafceoeaa.E
namespace Go.Proofs.Ytahlbjmafceoeaa.E
theorem dr_ask{α:Type}:∀ (x:Ask α) (w:World),w.drawn≤(w.ask x).2.drawn
 | .done a,w=>Nat.le_refl _
 | .ask what range k,w=>by
  unfold World.ask
  dsimp only
  split
  ·exact dr_ask _ w
  ·exact Nat.le_trans (Nat.le_succ _) (dr_ask _ { w with drawn:=w.drawn+1 })
theorem dr_sys(w:World)(c:Sys):w.drawn≤(w.sys c).2.drawn:=by
 have h:=dr_ask (Kernel.perform c w.os) w
 unfold World.sys
 split
 ·exact Nat.le_refl _
 ·next h1 h2=>rw [h2] at h;exact h
theorem dr_freeze(w:World)(a:Addr)(n:Nat):(w.freeze a n).drawn=w.drawn:=by unfold World.freeze;split<;>rfl
theorem dr_viewStore{p:Program}{w:World}{a:Addr}{u:TypeId}{k:Addr}{v:Value}{b:Bool}{r:World×List Addr}(h:w.viewStore p a u k v b=.ok r):r.1.drawn=w.drawn:=by
 unfold World.viewStore at h
 simp only [bind,Except.bind,pure,Except.pure,throw,throwThe,MonadExceptOf.throw] at h
 repeat' first
  | (cases h;done)
  | (cases h;rfl)
  | split at h
theorem dr_farStore{p:Program}{w:World}{a:Addr}{v:Value}{b:Bool}{r:World×List Addr}(h:w.farStore p a v b=.ok r):r.1.drawn=w.drawn:=by
 unfold World.farStore at h
 split at h
 ·split at h
  ·next h1=>cases h;exact dr_viewStore h1
  ·cases h
 ·cases h
def rw_{α:Type}:Result α→World
 | .ok _ w=>w
 | .halt _ w=>w
theorem dr_run{α:Type}(p:Program):∀ (s:Sem α) (w:World),w.drawn≤(rw_ (s.run p w)).drawn
  | .pure a,w=>Nat.le_refl _
  | .load m a k,w=>by
    unfold Sem.run
    split
    · exact dr_run p _ w
    · split
      · exact dr_run p _ w
      · exact Nat.le_refl _
  | .store m a v k,w=>by
    cases v
    all_goals first
      | exact Nat.le_refl _
      | (unfold Sem.run
         split
         · split
           · exact Nat.le_refl _
           · exact dr_run p k (w.setCell a _)
         · split
           · next h=>exact Nat.le_trans (Nat.le_of_eq (dr_farStore h).symm) (dr_run p k _)
           · exact Nat.le_refl _)
  | .new o k,w=>by unfold Sem.run;exact dr_run p (k w.heap.size) { w with heap:=w.heap.push o }
  | .shape r k,w=>by unfold Sem.run;exact dr_run p _ w
  | .freeze a n k,w=>by unfold Sem.run;exact Nat.le_trans (Nat.le_of_eq (dr_freeze w a n).symm) (dr_run p k _)
  | .frozen a k,w=>by unfold Sem.run;exact dr_run p _ w
  | .getObj r k,w=>by
    unfold Sem.run
    split
    · exact Nat.le_refl _
    · exact dr_run p _ w
    · exact Nat.le_refl _
  | .setObj r o k,w=>by
    unfold Sem.run
    split
    · exact Nat.le_refl _
    · exact dr_run p k { w with heap:=w.heap.setIfInBounds r o }
    · exact Nat.le_refl _
  | .choose q k,w=>by
    unfold Sem.run
    split
    · exact dr_run p _ w
    · exact Nat.le_trans (Nat.le_succ _) (dr_run p (k (q.cut (w.tape w.drawn q))) { w with drawn:=w.drawn+1 })
  | .sys c k,w=>by unfold Sem.run;exact Nat.le_trans (dr_sys w c) (dr_run p _ _)
  | .program k,w=>by unfold Sem.run;exact dr_run p _ w
  | .mark _ k,w=>by unfold Sem.run;exact dr_run p k w
  | .halt h,w=>Nat.le_refl _
theorem dr_runT{α:Type}(p:Program):∀ (s:Sem α) (w:World) (es:Array Event),w.drawn≤(rw_ (s.runT p w es).1).drawn
  | .pure a,w,es=>Nat.le_refl _
  | .load m a k,w,es=>by
    unfold Sem.runT
    split
    · exact dr_runT p _ w _
    · split
      · exact dr_runT p _ w _
      · exact Nat.le_refl _
  | .store m a v k,w,es=>by
    cases v
    all_goals first
      | exact Nat.le_refl _
      | (unfold Sem.runT
         split
         · split
           · exact Nat.le_refl _
           · exact dr_runT p k (w.setCell a _) _
         · split
           · next h=>exact Nat.le_trans (Nat.le_of_eq (dr_farStore h).symm) (dr_runT p k _ _)
           · exact Nat.le_refl _)
  | .new o k,w,es=>by unfold Sem.runT;exact dr_runT p (k w.heap.size) { w with heap:=w.heap.push o } _
  | .shape r k,w,es=>by unfold Sem.runT;exact dr_runT p _ w _
  | .freeze a n k,w,es=>by unfold Sem.runT;exact Nat.le_trans (Nat.le_of_eq (dr_freeze w a n).symm) (dr_runT p k _ _)
  | .frozen a k,w,es=>by unfold Sem.runT;exact dr_runT p _ w _
  | .getObj r k,w,es=>by
    unfold Sem.runT
    split
    · exact Nat.le_refl _
    · exact dr_runT p _ w _
    · exact Nat.le_refl _
  | .setObj r o k,w,es=>by
    unfold Sem.runT
    split
    · exact Nat.le_refl _
    · exact dr_runT p k { w with heap:=w.heap.setIfInBounds r o } _
    · exact Nat.le_refl _
  | .choose q k,w,es=>by
    unfold Sem.runT
    split
    · exact dr_runT p _ w _
    · exact Nat.le_trans (Nat.le_succ _) (dr_runT p (k (q.cut (w.tape w.drawn q))) { w with drawn:=w.drawn+1 } _)
  | .sys c k,w,es=>by unfold Sem.runT;exact Nat.le_trans (dr_sys w c) (dr_runT p _ _ _)
  | .program k,w,es=>by unfold Sem.runT;exact dr_runT p _ w _
  | .mark _ k,w,es=>by unfold Sem.runT;exact dr_runT p k w _
  | .halt h,w,es=>Nat.le_refl _
theorem dr_ok{α:Type}{p:Program}{s:Sem α}{w w':World}{a:α}(h:s.run p w=.ok a w'):w.drawn≤w'.drawn:=by have:=dr_run p s w;rw [h] at this;exact this
theorem dr_halt{α:Type}{p:Program}{s:Sem α}{w w':World}{a:Halt}(h:s.run p w=.halt a w'):w.drawn≤w'.drawn:=by have:=dr_run p s w;rw [h] at this;exact this
def gw:GStep→World
 | .go _ w _=>w
 | .comm _ _ _ _ w _=>w
 | .spawn _ _ w _=>w
 | .count _ w _=>w
 | .timer _ _ w _=>w
 | .alone _ _ w _=>w
 | .newcoro _ _ _ w _=>w
 | .coroswitch _ _ _ w _=>w
 | .collect _ w _=>w
 | .watch _ w _=>w
 | .ended _ w _=>w
theorem gw_after(es:Array Event)(g:GStep):gw (g.after es)=gw g:=by cases g<;>rfl
theorem dr_doReturn(p:Program)(main:Bool)(fr:Frame)(cs:List Frame)(dy:Option Dying)(v:Value)(w:World):gw (doReturn p main fr cs dy v w)=w:=by
 unfold doReturn
 repeat' first
  | rfl
  | split
theorem dr_endWith(w:World)(fd:Nat)(t:ByteArray)(o:Outcome):w.drawn≤(gw (endWith w fd t o)).drawn:=by
 have h:=dr_sys w (.write fd t)
 unfold endWith
 dsimp only
 repeat' first
  | (rename_i h1;rw [h1] at h;exact h)
  | (rename_i h1 h2;rw [h1] at h;exact h)
  | split
theorem dr_endFatal(p:Program)(fr:Frame)(cs:List Frame)(dy:Option Dying)(m:String)(w:World):w.drawn≤(gw (endFatal p fr cs dy m w)).drawn:=by
 unfold endFatal
 dsimp only
 repeat' first
  | (rename_i h1;exact dr_ok h1)
  | (rename_i h1;exact dr_halt h1)
  | split
theorem dr_pair{α:Type}{p:Program}{s:Sem α}{w:World}{es:Array Event}{r:Result α}{es':Array Event}(h:s.runT p w es=(r,es')):w.drawn≤(rw_ r).drawn:=by have:=dr_runT p s w es;rw [h] at this;exact this
theorem dr_writeOn(p:Program)(fr:Frame)(d:Dying)(f:Fatal)(w:World):w.drawn≤(gw (writeOn p fr d f w)).drawn:=by
 unfold writeOn
 dsimp only
 repeat' first
  | exact Nat.le_refl _
  | (rename_i h1;exact dr_pair h1)
  | split
theorem dr_endPrinting(p:Program)(fr:Frame)(v:Value)(w:World):gw (endPrinting p fr v w)=w:=by
 unfold endPrinting
 dsimp only
 repeat' first
  | rfl
  | split
theorem dr_die(p:Program)(fr:Frame)(d:Dying)(w:World):w.drawn≤(gw (die p fr d w)).drawn:=by
 unfold die
 dsimp only
 split
 ·exact dr_writeOn p fr d _ w
 ·split
  ·split
   ·exact Nat.le_refl _
   ·exact dr_endWith w _ _ _
  ·split
   ·exact Nat.le_refl _
   ·split
    ·next h=>exact dr_ok h
    ·next h=>exact dr_halt h
   ·rw [gw_after]
    have h:=dr_runT p (invoke (.fn (.method ‹_›) #[]) #[.iface ‹_› ‹_›]) w #[]
    split
    all_goals first
     | exact Nat.le_refl _
     | (rename_i h1;rw [h1] at h;exact h)
     | (rename_i h1;rw [h1] at h;rw [dr_endPrinting];exact h)
   ·exact Nat.le_refl _
theorem dr_okT{α:Type}{p:Program}{s:Sem α}{w w':World}{es:Array Event}{a:α}(h:(s.runT p w es).1=.ok a w'):w.drawn≤w'.drawn:=by have:=dr_runT p s w es;rw [h] at this;exact this
theorem dr_haltT{α:Type}{p:Program}{s:Sem α}{w w':World}{es:Array Event}{a:Halt}(h:(s.runT p w es).1=.halt a w'):w.drawn≤w'.drawn:=by have:=dr_runT p s w es;rw [h] at this;exact this
theorem gw_ite{c:Prop}[Decidable c]{n:Nat}{A B:GStep}(a:n≤(gw A).drawn)(b:n≤(gw B).drawn):n≤(gw (if c then A else B)).drawn:=by
 split
 ·exact a
 ·exact b
theorem dr_callDeferred(p:Program)(fr:Frame)(cs:List Frame)(dy:Option Dying)(d:Deferred)(w:World):w.drawn≤(gw (callDeferred p fr cs dy d w)).drawn:=by
 unfold callDeferred
 dsimp only
 refine gw_ite (Nat.le_refl _) ?_
 rw [gw_after]
 have h:=dr_runT p (invoke d.target d.args) w #[]
 generalize (Sem.runT p (invoke d.target d.args) w #[]).1=r at h ⊢
 cases r with
 | ok a w' =>
  cases a
  all_goals first
   | exact h
   | (dsimp only;split<;>exact h)
   | (rename_i b _;cases b<;>exact h)
   | (rename_i b;cases b<;>exact h)
 | halt x w' =>
  cases x
  all_goals first
   | exact h
   | exact Nat.le_trans h (dr_endFatal ..)
theorem dr_unwind(p:Program)(main:Bool)(fr:Frame)(cs:List Frame)(dy:Option Dying)(w:World):w.drawn≤(gw (unwind p main fr cs dy w)).drawn:=by
 unfold unwind
 split
 ·dsimp only
  rw [gw_after]
  split
  ·next h=>exact dr_okT h
  ·next h=>exact dr_haltT h
 ·exact dr_callDeferred ..
 ·split
  ·exact Nat.le_refl _
  ·split
   ·exact Nat.le_refl _
   ·split
    ·exact Nat.le_refl _
    ·split
     ·split
      ·exact Nat.le_refl _
      ·split
       ·next h=>exact dr_ok h
       ·next h=>exact dr_halt h
       ·next h=>exact dr_halt h
     ·split
      ·rw [dr_endPrinting];exact Nat.le_refl _
      ·exact Nat.le_refl _
  ·split
   ·rw [dr_doReturn];exact Nat.le_refl _
   ·next fn _ =>
    dsimp only
    rw [gw_after]
    split
    all_goals (rename_i h1;first | exact dr_haltT h1 | (rw [dr_doReturn];exact dr_okT h1))
theorem dr_early(p:Program)(fr:Frame)(cs:List Frame)(dy:Option Dying)(g:Nat)(w:World):w.drawn≤(gw (early p fr cs dy g w)).drawn:=by
 unfold early
 dsimp only
 repeat' first
  | exact Nat.le_refl _
  | (rename_i h1;exact dr_ok h1)
  | (rename_i h1;exact dr_halt h1)
  | (rename_i h1 x c e h2;have h9:=dr_ok h1;exact h9)
  | (rename_i h1 x h2;have h9:=dr_ok h1;exact h9)
  | split
theorem dr_apply(p:Program)(listen:Bool)(fr:Frame)(cs:List Frame)(dy:Option Dying)(s:Sem Next)(w:World):w.drawn≤(gw (stepG.apply p listen fr cs dy s w)).drawn:=by
 unfold stepG.apply
 dsimp only
 rw [gw_after]
 have h:w.drawn≤(rw_ (if listen=true then s.runT p w #[] else (s.run p w,#[])).1).drawn:=by
  split
  ·exact dr_runT ..
  ·exact dr_run ..
 generalize (if listen=true then s.runT p w #[] else (s.run p w,#[])).1=r at h ⊢
 cases r with
 | ok a w' =>
  cases a
  all_goals first
   | exact h
   | (split<;>exact h)
   | (dsimp only;split<;>exact h)
   | exact gw_ite h h
 | halt x w' =>
  cases x
  all_goals first
   | exact h
   | exact Nat.le_trans h (dr_endFatal ..)
   | (rename_i u;cases u<;>first | exact h | exact Nat.le_trans h (dr_early ..))
theorem dr_oper(p:Program)(listen:Bool)(fr:Frame)(cs:List Frame)(dy:Option Dying)(w:World):w.drawn≤(gw (stepG.oper p listen fr cs dy w)).drawn:=by
 unfold stepG.oper
 split
 ·exact Nat.le_refl _
 ·split
  ·exact dr_apply ..
  ·exact dr_apply ..
theorem dr_exec(p:Program)(main:Bool)(listen:Bool)(fr:Frame)(cs:List Frame)(dy:Option Dying)(w:World):w.drawn≤(gw (stepG.exec p main listen fr cs dy w)).drawn:=by
 have lv:∀ (j:Option Code) (X:GStep),gw X=w→w.drawn≤(gw (match fr.roundOf with
   | none=>X
   | some l =>
    let (r,es):=(Instr.endRound l j).runT p w #[]
    GStep.after (seen p fr.fn es) <| match r with
    | .ok v w=>doReturn p main fr cs dy v w
    | .halt _ w => .ended (.stuck "range over a function: no such loop" (fr.pos p)) w)).drawn := by
  intro j X hX
  split
  ·rw [hX];exact Nat.le_refl _
  ·dsimp only
   rw [gw_after]
   split
   ·next h=>rw [dr_doReturn];exact dr_okT h
   ·next h=>exact dr_haltT h
 have hjump:∀ (o:Option (List Item)) (X:GStep) (Y:List Item→GStep),w.drawn≤(gw X).drawn→(∀ l,gw (Y l)=w)→w.drawn≤(gw (o.elim X Y)).drawn:=by
  intro o X Y h1 h2
  cases o with
  | none=>exact h1
  | some l=>show w.drawn≤(gw (Y l)).drawn;rw [h2];exact Nat.le_refl _
 obtain ⟨fn,tmps,todo,defers,mode,kind,ro⟩:=fr
 cases todo with
 | nil=>unfold stepG.exec;exact lv _ _ (by dsimp only;split<;>rfl)
 | cons i k =>
  cases i with
  | code c =>
   cases c with
   | skip=>exact Nat.le_refl _
   | label l=>exact Nat.le_refl _
   | seq a b=>exact Nat.le_refl _
   | block id b=>exact Nat.le_refl _
   | loop b=>exact Nat.le_refl _
   | scope b=>exact Nat.le_refl _
   | refuse why=>exact Nat.le_refl _
   | ret=>unfold stepG.exec;exact lv _ _ (by dsimp only;split<;>rfl)
   | cond c a b=>unfold stepG.exec;dsimp only;split<;>exact Nat.le_refl _
   | exit id=>unfold stepG.exec;exact hjump _ _ _ (lv _ _ (by dsimp only;split<;>rfl)) (fun _=>rfl)
   | goto l=>unfold stepG.exec;exact hjump _ _ _ (lv _ _ (by dsimp only;split<;>rfl)) (fun _=>rfl)
   | region id ops draw =>
    unfold stepG.exec
    dsimp only
    refine gw_ite (Nat.le_refl _) ?_
    split
    ·next h=>exact dr_ok h
    ·next h=>exact dr_halt h
   | rangeFunc f ps a b =>
    unfold stepG.exec
    dsimp only
    rw [gw_after]
    split
    ·next h=>exact Nat.le_trans (dr_okT h) (dr_apply ..)
    ·next h=>exact dr_haltT h
  | inBlock id=>exact Nat.le_refl _
  | inLoop b=>exact Nat.le_refl _
  | inScope b=>exact Nat.le_refl _
  | inRegion ops l =>
   cases l with
   | nil=>exact Nat.le_refl _
   | cons i l=>unfold stepG.exec;dsimp only;exact gw_ite (dr_oper ..) (Nat.le_refl _)
  | inRangeFunc l=>exact Nat.le_refl _
  | endRangeFunc l =>
   unfold stepG.exec
   dsimp only
   rw [gw_after]
   split
   ·next h=>exact dr_okT h
   ·next h=>exact dr_haltT h
   ·next h=>exact dr_haltT h
  | beginRound=>exact dr_apply ..
  | call d wr res sv=>exact dr_apply ..
  | extern row args =>
   unfold stepG.exec
   dsimp only
   cases Extern.next row with
   | none=>exact Nat.le_refl _
   | some e=>exact dr_apply ..
theorem dr_stepG(p:Program)(main:Bool)(g:Goroutine)(w:World)(listen:Bool):w.drawn≤(gw (stepG p main g w listen)).drawn:=by
 unfold stepG
 dsimp only
 split
 ·exact dr_die ..
 ·exact dr_exec ..
 ·exact dr_unwind ..
def sw(n:Nat):Stepped→Prop
 | .next m=>n≤m.world.drawn
 | _=>True
theorem sw_le{n k:Nat}{s:Stepped}(h:k≤n)(hs:sw n s):sw k s:=by
 cases s with
 | next m=>exact Nat.le_trans h hs
 | ended o w=>trivial
theorem dr_communicate(p:Program)(rest:Rest)(gs:Array Goroutine)(i:Nat)(g:Goroutine)(cases:Array CommCase)(b:Bool)(sh:CommShape)(w:World):sw w.drawn (communicate p rest gs i g cases b sh w).1:=by
 unfold communicate
 dsimp only
 split
 ·trivial
 ·split
  ·split
   ·split
    ·next h =>
     unfold waitingAt at h
     split at h
     ·split at h
      ·cases h;exact Nat.le_refl _
      ·cases h
     ·cases h;exact Nat.le_refl _
    ·trivial
   ·exact Nat.le_refl _
  ·split
   ·trivial
   ·next hr =>
    have h0:=dr_ok hr
    split
    ·split
     ·next h=>exact Nat.le_trans h0 (dr_halt h)
     ·trivial
    ·exact h0
    ·exact h0
    ·split
     ·exact h0
     ·split
      ·next h=>have h9:=Nat.le_trans h0 (dr_ok h);exact h9
      ·trivial
    ·exact h0
    ·exact h0
    ·trivial
theorem dr_look(p:Program)(gs:Array Goroutine)(rest:Rest)(w:World):sw w.drawn (look p gs rest w):=by
 unfold look
 dsimp only
 split
 ·split
  ·trivial
  ·split
   ·trivial
   ·split
    ·next h=>have h0:=dr_ok h;exact h0
    ·trivial
    ·trivial
 ·trivial
theorem dr_timerOp{m:Machine}{op:TimerOp}{v:Value}{m':Machine}(h:timerOp m op=.ok (v,m')):m.world.drawn≤m'.world.drawn:=by
 have hr:∀ (m:Machine) (k:Nat) (t:Timer) (a b:Nat),m.world.drawn≤(retime m k t a b).2.world.drawn:=by
  intro m k t a b
  unfold retime drain
  dsimp only
  repeat' first
   | exact Nat.le_refl _
   | split
 have hn:∀ (m:Machine) (var:Addr) (f:Nat→Timer→Value×Machine) (v:Value) (m':Machine),(∀ k t,m.world.drawn≤(f k t).2.world.drawn)→timerOp.named m var f=.ok (v,m')→m.world.drawn≤m'.world.drawn:=by
  intro m var f v m' hf h
  unfold timerOp.named at h
  split at h
  ·next k _=>have:=hf k (m.rest.timers.getD k default);injection h with h;rw [h] at this;exact this
  ·cases h
 cases op with
 | new t =>
  unfold timerOp at h
  dsimp only at h
  split at h
  ·cases h;exact Nat.le_refl _
  ·split at h
   ·split at h
    ·cases h
    ·cases h;exact Nat.le_refl _
   ·cases h
 | stop var=>exact hn _ _ _ _ _ (fun k t=>hr _ _ _ _ _) h
 | reset var a b =>
  unfold timerOp at h
  dsimp only at h
  split at h
  ·next m1 h1 =>
   have e:m1.world.drawn=m.world.drawn:=by
    unfold timerOp.opened at h1
    split at h1
    ·split at h1
     ·cases h1;rfl
     ·cases h1
    ·cases h1;rfl
   exact hn _ _ _ _ _ (fun k t=>by have:=hr m1 k t a b;omega) h
  ·cases h
 | deadline c r wr a=>unfold timerOp at h;dsimp only at h;cases h;exact Nat.le_refl _
theorem dr_runM(p:Program)(m:Machine)(i:Nat)(l:Bool):sw m.world.drawn (Go.runT p m i l).1:=by
 unfold Go.runT
 dsimp only
 generalize m.gs.swapAt! _ _=gg
 have h:=dr_stepG p (i==0) gg.1 m.world l
 generalize stepG p (i==0) gg.1 m.world l=s at h ⊢
 cases s with
 | ended o w es=>trivial
 | comm g cs b sh w es=>exact sw_le h (dr_communicate ..)
 | go g w es=>exact h
 | spawn g c w es=>exact h
 | count g w es=>dsimp only;split<;>first | trivial | exact h
 | alone g on w es=>exact h
 | collect g w es=>exact sw_le h (dr_look ..)
 | watch g w es=>exact h
 | newcoro g c d w es=>exact h
 | coroswitch g c e w es =>
  dsimp only
  split
  ·exact h
  ·split
   ·next hg=>simp only [endThrow,dieOf] at hg;cases hg;exact h
   ·trivial
  ·trivial
 | timer g op w es =>
  dsimp only
  split
  ·next hq=>have h9:=dr_timerOp hq;exact Nat.le_trans h h9
  ·split
   ·next hg=>simp only [endThrow,dieOf] at hg;cases hg;exact h
   ·trivial
  ·trivial
  ·trivial
theorem dr_serve(p:Program)(m:Machine)(k:Nat):sw m.world.drawn (serve p m k):=by
 unfold serve
 dsimp only
 split
 ·trivial
 ·exact Nat.le_refl _
 ·split
  ·trivial
  ·exact Nat.le_refl _
def mw(n:Nat):Move→Prop
 | .goroutine m _=>n≤m.world.drawn
 | .machine s _=>sw n s
theorem mw_le{n k:Nat}{s:Move}(h:k≤n)(hs:mw n s):mw k s:=by
 cases s with
 | goroutine m i=>exact Nat.le_trans h hs
 | machine s o=>exact sw_le h hs
theorem dr_askOn(p:Program)(m:Machine):mw m.world.drawn (askOn p m):=by
 have pick:∀ (rs:List Nat) (m:Machine),mw m.world.drawn (match (choose (.sched rs.length)).run p m.world with
   | .halt _ w => .machine (.ended (.stuck "sched" "") w)
   | .ok k world =>
    if rs.length≤1 then .goroutine { m with world } (rs.getD k 0) else
    match (choose (.extern "sched.slice" 65536)).run p world with
    | .halt _ w => .machine (.ended (.stuck "sched.slice" "") w)
    | .ok n world=>.goroutine { m with world,rest:={ m.rest with slice:=if n=0 then none else some (rs.getD k 0,n) } } (rs.getD k 0)):=by
  intro rs m
  split
  ·trivial
  ·next h =>
   have h0:=dr_ok h
   split
   ·exact h0
   ·split
    ·trivial
    ·next h=>have h1:=Nat.le_trans h0 (dr_ok h);exact h1
 unfold askOn
 dsimp only
 split
 ·trivial
 ·next h =>
  have h0:=dr_ok h
  split
  ·exact sw_le h0 (dr_serve p { m with world:=_ } _)
  ·split
   ·split
    ·exact h0
    ·split
     ·exact h0
     ·split
      ·trivial
      ·trivial
   ·split
    ·exact mw_le h0 (pick _ { m with world:=_ })
    ·split
     ·trivial
     ·next h=>exact mw_le (Nat.le_trans h0 (dr_ok h)) (pick _ { m with world:=_ })
     ·next h=>have h1:=Nat.le_trans h0 (dr_ok h);exact h1
     ·next h=>exact mw_le (Nat.le_trans h0 (dr_ok h)) (pick _ (Machine.advanceTo { m with world:=_ } _))
theorem dr_ask_(p:Program)(m:Machine):mw m.world.drawn (ask p m):=by
 unfold ask
 split
 ·split
  ·trivial
  ·next h =>
   have h0:=dr_ok h
   have h1:=sw_le h0 (dr_look p m.gs m.rest _)
   split
   ·next hl=>rw [hl] at h1;exact mw_le h1 (dr_askOn ..)
   ·exact h1
  ·next h=>exact mw_le (dr_ok h) (dr_askOn p { m with world:=_ })
 ·exact dr_askOn ..
theorem dr_move(p:Program)(m:Machine):mw m.world.drawn (move p m):=by
 unfold move
 split
 ·split
  ·exact Nat.le_refl _
  ·trivial
 ·split
  ·split
   ·exact Nat.le_refl _
   ·exact dr_ask_ p { m with rest:=_ }
  ·exact dr_ask_ ..
theorem dr_step{p:Program}{m m':Machine}(h:step p m=.next m'):m.world.drawn≤m'.world.drawn:=by
 have h1:=dr_move p m
 have h2:sw m.world.drawn (step p m):=by
  unfold step stepT
  split
  ·next hm=>rw [hm] at h1;exact sw_le h1 (dr_runM ..)
  ·next hm=>rw [hm] at h1;exact h1
 rw [h] at h2;exact h2
theorem dr_steps{p:Program}{m m':Machine}(h:Steps p m m'):m.world.drawn≤m'.world.drawn:=by
 obtain ⟨n,h⟩:=h
 induction n generalizing m with
 | zero=>cases h;exact Nat.le_refl _
 | succ n ih =>
  unfold runN at h
  split at h
  ·next h1=>exact Nat.le_trans (dr_step h1) (ih h)
  ·next h1=>exact absurd h (h1 _)
theorem calls_drawn{P:Program}{f:FuncId}{args:Array Value}{w:World}{R:Ending→World→Prop}(h:Calls P f args w R)(hR:∀ w',¬ R .outgrown w'):Calls P f args w fun e w'=>R e w'∧w.drawn≤w'.drawn:=by
 intro cs
 obtain ⟨e,w',fr,hr,hc,hf,hl⟩:=h cs
 refine ⟨e,w',fr,⟨hr,?_⟩,hc,hf,hl⟩
 cases e with
 | returned v=>exact dr_steps hc
 | panicked c=>exact dr_steps hc
 | outgrown=>exact absurd hr (hR _)
end Go.Proofs.Ytahlbjmafceoeaa.E
namespace Go.Proofs.Ytahlbjmafceoeaa.E
open Go.RowKit
theorem flat_all{α β:Type}[Inhabited α](c:Cd β)(v:α→β)(d:Array α):(Sort.flatK (fun x=>c.cs (v x)) c.sz d).toList=c.all (d.toList.map v):=by
 apply List.ext_getElem?
 intro t
 have hl:(c.all (d.toList.map v)).length=d.size*c.sz:=by rw [c.all_len];simp
 by_cases ht:t<d.size*c.sz
 ·have h1:(Sort.flatK (fun x=>c.cs (v x)) c.sz d).toList[t]? = some ((Sort.flatK (fun x=>c.cs (v x)) c.sz d)[t]!):=by
   rw [Array.getElem?_toList,getElem!_pos (Sort.flatK (fun x=>c.cs (v x)) c.sz d) t (by simpa using ht),Array.getElem?_eq_getElem (by simpa using ht)]
  rw [h1,Sort.get_flatK _ _ _ _ ht]
  have hk:=c.pos
  have hq:t/c.sz<d.size:=Nat.div_lt_of_lt_mul (by rw [Nat.mul_comm];exact ht)
  have hm:t%c.sz<c.sz:=Nat.mod_lt _ hk
  have hx:(d.toList.map v)[t/c.sz]? = some (v d[t/c.sz]!):=by
   rw [List.getElem?_map,Array.getElem?_toList,getElem!_pos d _ hq,Array.getElem?_eq_getElem hq];rfl
  have:=c.all_get _ _ (t%c.sz) _ hx hm
  rw [Nat.div_add_mod'] at this
  rw [this]
  have h2:t%c.sz<(c.cs (v d[t/c.sz]!)).length:=by rw [c.len];exact hm
  rw [List.getElem?_eq_getElem h2,getElem!_pos (c.cs (v d[t/c.sz]!)) (t%c.sz) h2]
 ·rw [List.getElem?_eq_none (by simpa using Nat.not_lt.1 ht),List.getElem?_eq_none (by omega)]
theorem put_take{F cur:Array Value}(h:F.size≤cur.size):(Sort.putCells id 0 F cur).toList.take F.size=F.toList∧(Sort.putCells id 0 F cur).size=cur.size:=by
 refine ⟨?_,by simp [Sort.putCells]⟩
 apply List.ext_getElem?
 intro t
 rw [List.getElem?_take]
 by_cases ht:t<F.size
 ·rw [if_pos ht,Array.getElem?_toList,Array.getElem?_toList]
  simp only [Sort.putCells,Array.getElem?_mapIdx]
  rw [Array.getElem?_eq_getElem (show t<cur.size by omega),Option.map_some,if_pos ⟨Nat.zero_le _,by omega⟩,Nat.sub_zero,getElem!_pos F t ht,Array.getElem?_eq_getElem ht];rfl
 ·rw [if_neg ht,Array.getElem?_toList,Array.getElem?_eq_none (by omega)]
section
variable {P : Program} {ρ : Shelf.Ren} {β : Type}
theorem grow_of{w w':World}(hb:Below w.heap.size w w')(hd:w.drawn≤w'.drawn):∃ q os,w'=Sort.grow (w.drewN q) os:=by
 refine ⟨w'.drawn-w.drawn,w'.heap.extract w.heap.size w'.heap.size,?_⟩
 obtain ⟨h,t,d,o,u⟩:=w
 obtain ⟨h',t',d',o',u'⟩:=w'
 obtain ⟨b1,b2,b3,b4,b5⟩:=hb
 simp only at b1 b2 b3 b4 b5 hd
 subst b1;subst b2;subst b3
 have hh:h'=h++h'.extract h.size h'.size:=by
  apply Array.ext_getElem?
  intro k
  rw [Array.getElem?_append]
  split
  ·next hk=>exact b5 k hk
  ·next hk =>
   rw [Array.getElem?_extract]
   split
   ·next h9=>rw [show h.size+(k-h.size)=k by omega]
   ·next h9=>rw [Array.getElem?_eq_none];omega
 unfold Sort.grow World.drewN
 simp only [World.mk.injEq,true_and,and_true]
 refine ⟨hh,?_⟩
 omega
theorem sort_calls(L:SlLaysF0.n6 P ρ)(c:Cd β)(K:β→Prop)(aE:∀ w,(isAgg (ρ.t 24)).run P w=.ok true w)(zE:∀ w,(Go.sizeOf (ρ.t 24)).run P w=.ok c.sz w)(cf:β→β→Int)(hO:SWOn K (ltOf cf))
  (g:Nat) (eg:∀ args w,(callFunc g args).run P w=.ok (.enter g args) w)
  (hcmp:∀ x y,K x→K y→∀ w,Calls P g #[.agg (c.cs x).toArray,.agg (c.cs y).toArray] w fun e w'=>e=.returned (.int .i64 (cf x y))∧Below w.heap.size w w')
  {w0 w:World} {H G:List Ent} {f:Ent→List Ent} {e cap:Nat} {p:Option Addr} {xs:List β} (hK:∀ x∈xs,K x) (hA:∀ x∈xs,∀ y∈xs,ltOf cf x y=false→ltOf cf y x=false→x=y) (hsz:xs.length<4611686018427387904)
  (hu:Upd H (rowE c e p cap xs) f G) (hw:Wd w0 H w) :
  Calls P (ρ.f 6) #[.slice p xs.length cap,.func (.func g) #[] #[]] w fun en w'=>en=.returned (.tuple #[])∧Wd w0 (f (rowE c e p cap (isort (ltOf cf) xs))) w':=by
 rcases hx:xs with _ | ⟨x0,xr⟩
 ·subst hx
  refine (AnyF.slices_SortFunc_none { L with } p cap _ w).mono fun en w' h=>⟨h.1,?_⟩
  rw [h.2]
  show Wd w0 (f (rowE c e p cap [])) w
  rw [hu.same];exact hw
 rw [←hx]
 have hx0:x0∈xs:=by rw [hx];exact List.mem_cons_self ..
 haveI:Inhabited { x // K x }:=⟨⟨x0,hK x0 hx0⟩⟩
 rcases (hw.ok hu.mem).2 with ⟨_,h0⟩ | ⟨g0,cap',cur,hs,hg0,hh,h1,h2,h3,h4⟩
 ·rw [hx] at h0;cases h0
 injection hs with e1 e2 e3
 subst e1;subst e3
 let d:Array { x // K x }:=(xs.attach.map fun x=>(⟨x.1,hK x.1 x.2⟩:{ x // K x })).toArray
 have hd:d.toList.map Subtype.val=xs:=by
  show List.map Subtype.val (xs.attach.map fun x=>(⟨x.1,hK x.1 x.2⟩:{ x // K x }))=xs
  rw [List.map_map]
  exact List.attach_map_subtype_val xs
 have hds:d.size=xs.length:=by rw [←hd];simp
 have hfl:=flat_all c Subtype.val d
 rw [hd] at hfl
 have hFs:(Sort.flatK (fun x:{ x // K x }=>c.cs x.1) c.sz d).size=xs.length*c.sz:=by rw [Sort.size_flatK,hds]
 have hH:Sort.HoldsK (fun x:{ x // K x }=>c.cs x.1) c.sz w g0 0 d:=by
  intro j hj
  have hcj:cur[j]? = some ((Sort.flatK (fun x:{ x // K x }=>c.cs x.1) c.sz d)[j]!):=by
   have a1:(cur.toList.take (xs.length*c.sz))[j]? = (Sort.flatK (fun x:{ x // K x }=>c.cs x.1) c.sz d).toList[j]?:=by rw [h4,hfl]
   rw [List.getElem?_take,if_pos (by rw [←hFs];exact hj),Array.getElem?_toList,Array.getElem?_toList,Array.getElem?_eq_getElem hj] at a1
   rw [a1,getElem!_pos _ j hj]
  refine ⟨?_,?_⟩
  ·simp [World.cell?,hh,hcj]
  ·simp [World.frozen?,hh]
 have hblk:g0<w.heap.size:=(Array.getElem?_eq_some_iff.1 hh).1
 have hcl:CmpLays P g #[] (fun x:{ x // K x }=>c.cs x.1) c.sz (fun x y=>cf x.1 y.1) g0 0 d.size w:=fun m os dk _ x y=>by
  rw [Array.append_empty]
  refine (calls_drawn (hcmp x.1 y.1 x.2 y.2 _) fun w' h=>by cases h.1).mono fun en w' h=>⟨h.1.1,grow_of h.1.2 h.2⟩
 have hO':Sort.SWO (ltOf fun x y:{ x // K x }=>cf x.1 y.1):=⟨fun x=>hO.irrefl x.1 x.2,fun x y z=>hO.trans x.1 y.1 z.1 x.2 y.2 z.2,fun x y z=>hO.ntrans x.1 y.1 z.1 x.2 y.2 z.2⟩
 have hS:=AnyQ.slices_SortFunc L c.sz aE zE (fun x:{ x // K x }=>c.cs x.1) (fun x=>c.len _) (fun x v hv=>c.one _ v hv) (fun x y=>cf x.1 y.1) hO' g #[] g0 0 cap d w eg hcl hH hblk (by rw [hds];exact hsz)
 rw [hds] at hS
 refine hS.mono fun en w' h=>⟨h.1,?_⟩
 obtain ⟨d',n,os,hp,hso,hw'⟩:=h.2
 rw [←hds] at hp hso
 have hys:d'.toList.map Subtype.val=isort (ltOf cf) xs:=by
  have hsz':d'.size=d.size:=hp.1
  have hperm:(d'.toList.map Subtype.val).Perm xs:=by
   have:=hp.2.2
   rw [Array.extract_size] at this
   rw [show d'.extract 0 d.size=d' by rw [←hsz'];exact Array.extract_size] at this
   have:=this.map Subtype.val
   rwa [hd] at this
  refine up_unique (lt:=ltOf cf) (hperm.trans (isort_perm _ xs).symm) ?_ (isort_up hO xs hK) ?_
  ·refine List.pairwise_iff_getElem.2 fun i j hi hj hij=>?_
   have hi':i<d'.size:=by simpa using hi
   have hj':j<d'.size:=by simpa using hj
   have:=hso i j (Nat.zero_le _) hij (by rw [←hsz'];exact hj')
   rw [getElem!_pos d' i hi',getElem!_pos d' j hj'] at this
   simp only [List.getElem_map,Array.getElem_toList]
   exact this
  ·intro x hx y hy
   exact hA x (hperm.mem_iff.1 hx) y (hperm.mem_iff.1 hy)
 have hfl':=flat_all c Subtype.val d'
 rw [hys] at hfl'
 have hFs':(Sort.flatK (fun x:{ x // K x }=>c.cs x.1) c.sz d').size=xs.length*c.sz:=by rw [Sort.size_flatK,hp.1,hds]
 have hput:=put_take (F:=Sort.flatK (fun x:{ x // K x }=>c.cs x.1) c.sz d') (cur:=cur) (by rw [hFs',h3];exact Nat.mul_le_mul_right _ h1)
 have hheap:∀ k,k<w.heap.size→w'.heap[k]? = if g0=k then (w.heap[k]?).map (Sort.onCells (Sort.putCells id 0 (Sort.flatK (fun x:{ x // K x }=>c.cs x.1) c.sz d'))) else w.heap[k]?:=by
  intro k hk
  rw [hw']
  unfold sortWorldK Sort.putRowK Sort.putRow
  rw [Sort.heap_grow_old _ _ (by simpa [Sort.mapBlock,Sort.ahead] using hk)]
  simp only [Sort.mapBlock,Sort.ahead,Array.getElem?_modify]
 have hlen:=isort_length (ltOf cf) xs
 refine hw.upd (E':=rowE c e (some ⟨g0,0,none⟩) cap (isort (ltOf cf) xs)) hu ?_ ?_ ?_ ?_ (fun k hk hk'=>?_) ?_ fun k hk=>.inl ?_
 ·rw [hw'];exact size_sortWorldK_c _ _ _ _ _ _ _ _
 ·rw [hw'];rfl
 ·rw [hw'];rfl
 ·rw [hw'];rfl
 ·rw [hheap k hk,if_neg]
  intro he
  exact hk' (by rw [←he];simp [rowE,Value.ownBlock])
 ·refine ⟨c.all_len _,.inr ⟨g0,cap,Sort.putCells id 0 (Sort.flatK (fun x:{ x // K x }=>c.cs x.1) c.sz d') cur,rfl,Nat.zero_le _,?_,by omega,h2,by rw [hput.2,h3],?_⟩⟩
  ·rw [hheap g0 hblk,if_pos rfl,hh];rfl
  ·rw [hlen,←hFs',hput.1,hfl']
 ·simpa [rowE,Value.ownBlock] using hk
end
end Go.Proofs.Ytahlbjmafceoeaa.E
namespace Go.Proofs
open Go.Shelf
def Try.sortP_ren:Go.Shelf.Ren:=⟨fun | 6=>48 | 15=>76 | 14=>75 | 28=>95 | 29=>96 | 20=>87 | 21=>88 | 22=>89 | 23=>90 | 24=>91 | 25=>92 | 26=>93 | 27=>94 | 46=>106 | 47=>107 | 48=>108 | 49=>109 | 50=>110 | 57=>114 | n=>n,fun | 22=>27 | 24=>37 | 25=>78 | 3=>3 | 39=>81 | 0=>0 | 53=>123 | 55=>125 | 4=>4 | 46=>117 | 45=>116 | 50=>63 | 5=>5 | 9=>9 | 66=>131 | 70=>135 | 76=>139 | 77=>140 | n=>n,fun | n=>n⟩
def Try.sortE_ren:Go.Shelf.Ren:=⟨fun | 6=>65 | 15=>76 | 14=>82 | 28=>95 | 29=>96 | 20=>98 | 21=>99 | 22=>100 | 23=>101 | 24=>102 | 25=>103 | 26=>104 | 27=>105 | 46=>111 | 47=>107 | 48=>108 | 49=>112 | 50=>113 | 57=>115 | n=>n,fun | 22=>54 | 24=>66 | 25=>99 | 3=>3 | 39=>81 | 0=>0 | 53=>123 | 55=>125 | 4=>4 | 46=>117 | 45=>116 | 50=>63 | 5=>5 | 9=>9 | 66=>131 | 70=>135 | 76=>139 | 77=>140 | n=>n,fun | n=>n⟩
theorem Try.sortE:Go.Proofs.SlLaysF0.n6 Try.prog Try.sortE_ren:={
 mixed:=by kernel_rfl
 f6:=⟨Try.f65.name,by decide,Try.func65.trans (congrArg some (by kernel_rfl))⟩
 f14:=⟨Try.f82.name,by decide,Try.func82.trans (congrArg some (by kernel_rfl))⟩
 f15:=Try.func76.trans (congrArg some (by kernel_rfl))
 f20:=⟨Try.f98.name,by decide,Try.func98.trans (congrArg some (by kernel_rfl))⟩
 f21:=⟨Try.f99.name,by decide,Try.func99.trans (congrArg some (by kernel_rfl))⟩
 f22:=⟨Try.f100.name,by decide,Try.func100.trans (congrArg some (by kernel_rfl))⟩
 f23:=⟨Try.f101.name,by decide,Try.func101.trans (congrArg some (by kernel_rfl))⟩
 f24:=⟨Try.f102.name,by decide,Try.func102.trans (congrArg some (by kernel_rfl))⟩
 f25:=⟨Try.f103.name,by decide,Try.func103.trans (congrArg some (by kernel_rfl))⟩
 f26:=⟨Try.f104.name,by decide,Try.func104.trans (congrArg some (by kernel_rfl))⟩
 f27:=⟨Try.f105.name,by decide,Try.func105.trans (congrArg some (by kernel_rfl))⟩
 f28:=Try.func95.trans (congrArg some (by kernel_rfl))
 f29:=Try.func96.trans (congrArg some (by kernel_rfl))
 f46:=⟨Try.f111.name,by decide,Try.func111.trans (congrArg some (by kernel_rfl))⟩
 f47:=Try.func107.trans (congrArg some (by kernel_rfl))
 f48:=Try.func108.trans (congrArg some (by kernel_rfl))
 f49:=⟨Try.f112.name,by decide,Try.func112.trans (congrArg some (by kernel_rfl))⟩
 f50:=⟨Try.f113.name,by decide,Try.func113.trans (congrArg some (by kernel_rfl))⟩
 f57:=⟨Try.f115.name,by decide,Try.func115.trans (congrArg some (by kernel_rfl))⟩
 t0:=Try.underlying0
 a0:=Try.isAgg0
 z0:=Try.sizeOf0
 v0:=Try.zeroValue0
 t3:=Try.underlying3
 a3:=Try.isAgg3
 z3:=Try.sizeOf3
 v3:=Try.zeroValue3
 t4:=Try.underlying4
 a4:=Try.isAgg4
 z4:=Try.sizeOf4
 v4:=Try.zeroValue4
 t5:=Try.underlying5
 a5:=Try.isAgg5
 z5:=Try.sizeOf5
 v5:=Try.zeroValue5
 t9:=Try.underlying9
 a9:=Try.isAgg9
 z9:=Try.sizeOf9
 v9:=Try.zeroValue9
 t22:=Try.underlying54
 a22:=Try.isAgg54
 z22:=Try.sizeOf54
 v22:=Try.zeroValue54
 t25:=Try.underlying99
 a25:=Try.isAgg99
 z25:=Try.sizeOf99
 v25:=Try.zeroValue99
 t39:=Try.underlying81
 a39:=Try.isAgg81
 z39:=Try.sizeOf81
 v39:=Try.zeroValue81
 t45:=Try.underlying116
 a45:=Try.isAgg116
 z45:=Try.sizeOf116
 v45:=Try.zeroValue116
 t46:=Try.underlying117
 a46:=Try.isAgg117
 z46:=Try.sizeOf117
 v46:=Try.zeroValue117
 t50:=Try.underlying63
 a50:=Try.isAgg63
 z50:=Try.sizeOf63
 v50:=Try.zeroValue63
 t53:=Try.underlying123
 a53:=Try.isAgg123
 z53:=Try.sizeOf123
 v53:=Try.zeroValue123
 t55:=Try.underlying125
 a55:=Try.isAgg125
 z55:=Try.sizeOf125
 v55:=Try.zeroValue125
 t66:=Try.underlying131
 a66:=Try.isAgg131
 z66:=Try.sizeOf131
 v66:=Try.zeroValue131
 t70:=Try.underlying135
 a70:=Try.isAgg135
 z70:=Try.sizeOf135
 v70:=Try.zeroValue135
 t76:=Try.underlying139
 a76:=Try.isAgg139
 z76:=Try.sizeOf139
 v76:=Try.zeroValue139
 t77:=Try.underlying140
 a77:=Try.isAgg140
 z77:=Try.sizeOf140
 v77:=Try.zeroValue140 }
end Go.Proofs
namespace Go.Proofs.Ytahlbjmafceoeaa
def num(l:List UInt8):Nat:=l.foldl (fun a b=>a*256+b.toNat) 0
theorem num_snoc(l:List UInt8)(x:UInt8):num (l++[x])=num l*256+x.toNat:=by simp [num]
theorem num_from(l:List UInt8)(a:Nat):l.foldl (fun a b=>a*256+b.toNat) a=a*256 ^ l.length+num l:=by
 induction l generalizing a with
 | nil=>simp [num]
 | cons x r ih =>
  unfold num
  rw [List.foldl_cons,List.foldl_cons,ih,ih (0*256+x.toNat),List.length_cons,Nat.pow_succ]
  rw [Nat.add_mul,Nat.zero_mul,Nat.zero_add,Nat.mul_assoc,Nat.mul_comm 256,Nat.add_assoc]
theorem num_append(l k:List UInt8):num (l++k)=num l*256 ^ k.length+num k:=by
 unfold num;rw [List.foldl_append,num_from];rfl
theorem num_cons(x:UInt8)(r:List UInt8):num (x::r)=x.toNat*256 ^ r.length+num r:=by
 rw [show x::r=[x]++r from rfl,num_append];simp [num]
theorem num_lt:∀ l:List UInt8,num l<256 ^ l.length
 | []=>by simp [num]
 | x::r=>by
  rw [num_cons,List.length_cons,Nat.pow_succ]
  have h1:=num_lt r
  have h2:=x.toNat_lt
  have h3:(x.toNat+1)*256 ^ r.length≤256*256 ^ r.length:=Nat.mul_le_mul_right _ (by omega)
  rw [Nat.add_mul,Nat.one_mul] at h3
  rw [Nat.mul_comm (256 ^ r.length)]
  omega
theorem cmp_num:∀ (a b:List UInt8),a.length=b.length→(Lib.compareBytes a b<0↔num a<num b)
 | [],[],_=>by simp [Lib.compareBytes,num]
 | x::a,y::b,h=>by
  have hl:a.length=b.length:=by simpa using h
  have ha:=num_lt a
  have hb:=num_lt b
  rw [num_cons,num_cons,←hl]
  rw [←hl] at hb
  unfold Lib.compareBytes
  by_cases h1:x<y
  ·rw [if_pos h1]
   have h2:x.toNat+1≤y.toNat:=UInt8.lt_iff_toNat_lt.1 h1
   have h3:(x.toNat+1)*256 ^ a.length≤y.toNat*256 ^ a.length:=Nat.mul_le_mul_right _ h2
   rw [Nat.add_mul,Nat.one_mul] at h3
   constructor
   ·intro _;omega
   ·intro _;decide
  ·rw [if_neg h1]
   by_cases h2:y<x
   ·rw [if_pos h2]
    have h4:y.toNat+1≤x.toNat:=UInt8.lt_iff_toNat_lt.1 h2
    have h3:(y.toNat+1)*256 ^ a.length≤x.toNat*256 ^ a.length:=Nat.mul_le_mul_right _ h4
    rw [Nat.add_mul,Nat.one_mul] at h3
    constructor
    ·intro h;exact absurd h (by decide)
    ·intro _;omega
   ·rw [if_neg h2]
    have he:x.toNat=y.toNat:=by
     have e1:=mt UInt8.lt_iff_toNat_lt.2 h1
     have e2:=mt UInt8.lt_iff_toNat_lt.2 h2
     omega
    rw [cmp_num a b hl,he]
    omega
theorem num_inj:∀ {a b:List UInt8},a.length=b.length→num a=num b→a=b
 | [],[],_,_=>rfl
 | x::a,y::b,h,e=>by
  have hl:a.length=b.length:=by simpa using h
  rw [num_cons,num_cons,←hl] at e
  have ha:=num_lt a
  have hb:=num_lt b
  rw [←hl] at hb
  have hx:x.toNat=y.toNat:=by
   rcases Nat.lt_trichotomy x.toNat y.toNat with h | h | h
   ·have h3:(x.toNat+1)*256 ^ a.length≤y.toNat*256 ^ a.length:=Nat.mul_le_mul_right _ h
    rw [Nat.add_mul,Nat.one_mul] at h3;omega
   ·exact h
   ·have h3:(y.toNat+1)*256 ^ a.length≤x.toNat*256 ^ a.length:=Nat.mul_le_mul_right _ h
    rw [Nat.add_mul,Nat.one_mul] at h3;omega
  rw [hx] at e
  rw [UInt8.toNat_inj.1 hx,num_inj hl (by omega)]
def digs:Nat→Nat→List UInt8
 | 0,_=>[]
 | m+1,n=>digs m (n/256)++[UInt8.ofNat (n%256)]
theorem digs_length:∀ m n,(digs m n).length=m
 | 0,_=>rfl
 | m+1,n=>by simp [digs,digs_length m]
theorem num_digs:∀ m n,n<256 ^ m→num (digs m n)=n
 | 0,n,h=>by simp at h;subst h;rfl
 | m+1,n,h=>by
  rw [digs,num_snoc,num_digs m (n/256) (by rw [Nat.pow_succ] at h;omega),UInt8.toNat_ofNat',Nat.mod_mod]
  omega
theorem digs_num(l:List UInt8):digs l.length (num l)=l:=num_inj (digs_length _ _) (num_digs _ _ (num_lt l))
theorem digs_get:∀ (m n i:Nat),i<m→(digs m n)[i]? = some (UInt8.ofNat (n/256 ^ (m-1-i)%256))
 | m+1,n,i,h=>by
  rw [digs]
  by_cases hi:i=m
  ·subst hi
   rw [List.getElem?_append_right (by rw [digs_length];exact Nat.le_refl _),digs_length]
   simp
  ·rw [List.getElem?_append_left (by rw [digs_length];omega),digs_get m (n/256) i (by omega),Nat.div_div_eq_div_mul]
   congr 4
   rw [show m+1-1-i=m-1-i+1 by omega,Nat.pow_succ,Nat.mul_comm]
end Go.Proofs.Ytahlbjmafceoeaa
namespace Go.Proofs.Ytahlbjmafceoeaa
open E Go.RowKit _root_.Go.Proofs.Try
def aggregate_Next.l0(i5:Int)(i6:S_api_Addr):Option (Ctl (S_api_Addr×Bool) (Unit)) :=
 if (decide (i5≥0))=true then (if (0:Int)≤i5∧i5<16 then if (0:Int)≤i5∧i5<16 then if (0:Int)≤i5∧i5<16 then if (vget (({ i6 with f_B:=vset i6.f_B i5 (wr .u8 ((vget i6.f_B i5)+1)) }).f_B) i5 != (0:Int))=true then (some (.ret ({ i6 with f_B:=vset i6.f_B i5 (wr .u8 ((vget i6.f_B i5)+1)) },true))) else (aggregate_Next.l0 (wr .i64 (i5-1)) ({ i6 with f_B:=vset i6.f_B i5 (wr .u8 ((vget i6.f_B i5)+1)) })) else none else none else none) else (some (.nx ()))
 partial_fixpoint
def aggregate_Next(x0:S_api_Addr):Option (S_api_Addr×Bool) :=
 addr_Width x0>>=fun t3=>aggregate_Next.l0 (wr .i64 ((ishr .i64 t3 3)-1)) x0>>=fun q4=>match q4 with | .ret r'=>some r' | .nx sq4=>(some (({ f_V:=(0:Int),f_B:=(Vector.replicate 16 (0:Int):(Vector Int 16)) }:S_api_Addr),false))
theorem aggregate_Next_ok(x0:S_api_Addr)(r:S_api_Addr×Bool)(hF:aggregate_Next x0=some r)(w:World) :
    Calls Try.prog 25 #[.agg (Cd.cs c_api_Addr x0).toArray] w (fun e w'=>e=.returned (.tuple #[.agg (Cd.cs c_api_Addr r.1).toArray,.bool r.2])∧Below w.heap.size w w'):=by
 unfold aggregate_Next at hF
 refine ce (l:=[.agg (Cd.cs c_api_Addr x0).toArray]) func25 rfl rfl ?_
 refine at_start ?_
 refine sr ?_
 refine at_box (cs:=Cd.cs c_api_Addr x0) rfl rfl rfl ?_
 intro b1
 refine al (cs:=Cd.cs c_api_Addr zv0) zeroValue24 ?_
 intro b2
 refine aa (nt (qs (sr ?_)))
 refine aw (r_load_aggc (c:=c_api_Addr) (z:=x0) isAgg24 sizeOf24 rfl (lens_cell (.s .z) lw)) ?_
 obtain ⟨t3,ht3,hF⟩:=bM hF
 refine cB func53 rfl (fun w hw=>addr_Width_ok _ _ ht3 w) ?_
 refine aw (r_ishr rfl rfl (by decide)) ?_
 refine aw (r_isub rfl rfl) ?_
 refine aa (nwq [4,2,1] ?_)
 refine qb ?_
 obtain ⟨q4,hq4,hF⟩:=bM hF
 refine wq [4,2,1] ?_
 refine at_loop_r (B:=0) (r:=r) (q:=q4) (A:=fun (_:Unit) Y=>At 27 [(2,.pointer (some ⟨b2,0,none⟩))] (Wd w [cellsE b2 (Cd.cs c_api_Addr zv0) 24]) Y) ?_ ?_
 ·intro K
  refine aggregate_Next.l0.partial_correctness  (motive:=fun i5 i6 x=>KR (fun (_:Unit) Y=>At 27 [(2,.pointer (some ⟨b2,0,none⟩))] (Wd w [cellsE b2 (Cd.cs c_api_Addr zv0) 24]) Y) _ 0 r x→Round (fun Y=>At 27 [(1,.pointer (some ⟨b1,0,none⟩)),(2,.pointer (some ⟨b2,0,none⟩)),(4,.int .i64 i5)] (Wd w [cellsE b2 (Cd.cs c_api_Addr zv0) 24,cellsE b1 (Cd.cs c_api_Addr i6) 24]) Y) _ _ _) ?_ _ _ _ hq4 K
  ·clear K hF
   intro g ih i5 i6 x hF K
   refine at_round ?_
   refine qs (sr (am ?_))
   refine aw (r_igeq rfl rfl) ?_
   refine nwq [10,4,2,1] ?_
   obtain ⟨h7,hF⟩|⟨h7,hF⟩:=oi hF
   ·refine ct h7 ?_
    refine sn (qs ?_)
    refine qb ?_
    refine sr (am (fa 1 underlying24 rfl sizeOf22 ?_))
    obtain ⟨h8,hF⟩:=gd hF
    refine aw (r_idxArr underlying22 sizeOf5 rfl rfl h8) ?_
    refine aw (r_load_cell isAgg5 rfl (lens_cell0 (c:=(cInt .u8)) (y:=vget i6.f_B i5) (.s .z) (Lens.comp (Lens.comp lw (fun z=>{ i6 with f_B:=z }) (c_api_Addr_f_B i6)) (fun z=>vset i6.f_B i5 z) (Lens.vec (cInt .u8) (by decide) i6.f_B i5 h8)) rfl)) ?_
    refine aw xa (fa 1 underlying24 rfl sizeOf22 ?_)
    obtain ⟨h9,hF⟩:=gd hF
    refine aw (r_idxArr underlying22 sizeOf5 rfl rfl h9) ?_
    refine at_store (c:=(cInt .u8)) (z:=wr .u8 ((vget i6.f_B i5)+1)) (.s .z) (Lens.comp (Lens.comp lw (fun z=>{ i6 with f_B:=z }) (c_api_Addr_f_B i6)) (fun z=>vset i6.f_B i5 z) (Lens.vec (cInt .u8) (by decide) i6.f_B i5 h9)) sizeOf5 rfl rfl rfl ?_
    refine ns (am (fa 1 underlying24 rfl sizeOf22 ?_))
    obtain ⟨h10,hF⟩:=gd hF
    refine aw (r_idxArr underlying22 sizeOf5 rfl rfl h10) ?_
    refine aw (r_load_cell isAgg5 rfl (lens_cell0 (c:=(cInt .u8)) (y:=vget (({ i6 with f_B:=vset i6.f_B i5 (wr .u8 ((vget i6.f_B i5)+1)) }).f_B) i5) (.s .z) (Lens.comp (Lens.comp lw (fun z=>{ { i6 with f_B:=vset i6.f_B i5 (wr .u8 ((vget i6.f_B i5)+1)) } with f_B:=z }) (c_api_Addr_f_B ({ i6 with f_B:=vset i6.f_B i5 (wr .u8 ((vget i6.f_B i5)+1)) }))) (fun z=>vset (({ i6 with f_B:=vset i6.f_B i5 (wr .u8 ((vget i6.f_B i5)+1)) }).f_B) i5 z) (Lens.vec (cInt .u8) (by decide) (({ i6 with f_B:=vset i6.f_B i5 (wr .u8 ((vget i6.f_B i5)+1)) }).f_B) i5 h10)) rfl)) ?_
    refine aw xn (nwq [24,4,2,1] ?_)
    obtain ⟨h11,hF⟩|⟨h11,hF⟩:=oi hF
    ·refine ct h11 ?_
     refine sr ?_
     refine aw (r_load_aggc (c:=c_api_Addr) (z:={ i6 with f_B:=vset i6.f_B i5 (wr .u8 ((vget i6.f_B i5)+1)) }) isAgg24 sizeOf24 rfl (lens_cell (.s .z) lw)) ?_
     refine at_store (c:=c_api_Addr) (z:={ i6 with f_B:=vset i6.f_B i5 (wr .u8 ((vget i6.f_B i5)+1)) }) .z lw sizeOf24 rfl rfl rfl ?_
     refine aa (qn ?_)
     refine at_drop (H:=_) (.s .z) ?_
     refine wq [3,2] ?_
     refine tn (qt ?_)
     refine br (tr (tr (br (tr ?_))))
     obtain rfl:=os hF
     subst K
     exact at_res2 rfl (res_cell (c:=c_api_Addr) (y:={ i6 with f_B:=vset i6.f_B i5 (wr .u8 ((vget i6.f_B i5)+1)) }) rfl .z lw isAgg24 sizeOf24 (.inl rfl)) (res_tmp rfl) wb
    refine cf h11 ?_
    refine at_skip ?_
    refine bm ?_
    refine qr (am ?_)
    refine aw (r_isub rfl rfl) ?_
    refine aa (nwq [4,2,1] ?_)
    exact at_weak_k (ih _ _ _ hF K) ⟨rfl,rfl,rfl,trivial⟩
   refine cf h7 ?_
   refine at_exit ?_
   refine te (te ?_)
   refine at_drop (H:=_) (.s .z) ?_
   obtain rfl:=os hF
   exact at_weak_k K ⟨rfl,trivial⟩
 cases q4 with
 | ret r'=>exact os hF
 | nx sq4 =>
  skip
  refine at_blk_same ?_
  refine tn (sr ?_)
  refine aw (r_build_struct (zs:=Cd.cs c_api_Addr zv0) (cs:=Cd.cs c_api_Addr zv0) underlying24 zeroValue24 rfl (places_api_Addr_24) rfl rfl) ?_
  refine at_store (c:=c_api_Addr) (z:=zv0) .z lw sizeOf24 rfl rfl rfl ?_
  refine aa (nwq [3,2] ?_)
  refine qt ?_
  have K:=os hF
  subst K
  exact at_res2 rfl (res_cell (c:=c_api_Addr) (y:=zv0) rfl .z lw isAgg24 sizeOf24 (.inl rfl)) (res_tmp rfl) wb
def aggregate_last.l0(x0:S_api_Prefix)(t4:Int)(i6:Int)(i7:S_api_Addr):Option (S_api_Addr) :=
 if (decide (i6<ishr .i64 t4 3))=true then (if (0:Int)≤i6∧i6<16 then if (0:Int)≤wr .u64 (if 8<(if wr .i64 (x0.f_Bits-(wr .i64 (8*i6)))<0 then 0 else wr .i64 (x0.f_Bits-(wr .i64 (8*i6)))) then 8 else (if wr .i64 (x0.f_Bits-(wr .i64 (8*i6)))<0 then 0 else wr .i64 (x0.f_Bits-(wr .i64 (8*i6))))) then if (0:Int)≤i6∧i6<16 then aggregate_last.l0 x0 t4 (wr .i64 (i6+1)) ({ i7 with f_B:=vset i7.f_B i6 (ior .u8 (vget i7.f_B i6) (ishr .u8 255 (wr .u64 (if 8<(if wr .i64 (x0.f_Bits-(wr .i64 (8*i6)))<0 then 0 else wr .i64 (x0.f_Bits-(wr .i64 (8*i6)))) then 8 else (if wr .i64 (x0.f_Bits-(wr .i64 (8*i6)))<0 then 0 else wr .i64 (x0.f_Bits-(wr .i64 (8*i6)))))))) }) else none else none else none) else (some i7)
 partial_fixpoint
def aggregate_last(x0:S_api_Prefix):Option (S_api_Addr) :=
 addr_Width x0.f_A>>=fun t4=>aggregate_last.l0 x0 t4 0 x0.f_A>>=fun q5=>some q5
theorem aggregate_last_ok(x0:S_api_Prefix)(r:S_api_Addr)(hF:aggregate_last x0=some r)(w:World) :
    Calls Try.prog 38 #[.agg (Cd.cs c_api_Prefix x0).toArray] w (fun e w'=>e=.returned (.agg (Cd.cs c_api_Addr r).toArray)∧Below w.heap.size w w'):=by
 unfold aggregate_last at hF
 refine ce (l:=[.agg (Cd.cs c_api_Prefix x0).toArray]) func38 rfl rfl ?_
 refine at_start ?_
 refine sr ?_
 refine at_box (cs:=Cd.cs c_api_Prefix x0) rfl rfl rfl ?_
 intro b1
 refine al (cs:=Cd.cs c_api_Addr zv0) zeroValue24 ?_
 intro b2
 refine ns (fa 0 underlying37 rfl sizeOf24 ?_)
 refine aw (r_load_aggc (c:=c_api_Addr) (z:=x0.f_A) isAgg24 sizeOf24 rfl (lens_cell (.s .z) (Lens.comp lw (fun z=>{ x0 with f_A:=z }) (c_api_Prefix_f_A x0)))) ?_
 refine al (cs:=Cd.cs c_api_Addr zv0) zeroValue24 ?_
 intro b3
 refine at_store (c:=c_api_Addr) (z:=x0.f_A) .z lw sizeOf24 rfl rfl rfl ?_
 refine nt (qs (sr ?_))
 refine aw (r_load_aggc (c:=c_api_Addr) (z:=x0.f_A) isAgg24 sizeOf24 rfl (lens_cell .z lw)) ?_
 obtain ⟨t4,ht4,hF⟩:=bM hF
 refine cB func53 rfl (fun w hw=>addr_Width_ok _ _ ht4 w) ?_
 refine aw (r_ishr rfl rfl (by decide)) ?_
 refine am (nwq [11,10,3,2,1] ?_)
 refine qb ?_
 obtain ⟨q5,hq5,hF⟩:=bM hF
 refine wq [11,10,3,2,1] ?_
 refine at_loop_n (B:=0) (A:=fun Y=>At 33 [(2,.pointer (some ⟨b2,0,none⟩)),(3,.pointer (some ⟨b3,0,none⟩))] (Wd w [cellsE b3 (Cd.cs c_api_Addr q5) 24,cellsE b2 (Cd.cs c_api_Addr zv0) 24]) Y) ?_ ?_
 ·intro K
  refine aggregate_last.l0.partial_correctness x0 t4 (motive:=fun i6 i7 x=>KN (fun Y=>At 33 [(2,.pointer (some ⟨b2,0,none⟩)),(3,.pointer (some ⟨b3,0,none⟩))] (Wd w [cellsE b3 (Cd.cs c_api_Addr x) 24,cellsE b2 (Cd.cs c_api_Addr zv0) 24]) Y) _ 0→Round (fun Y=>At 33 [(1,.pointer (some ⟨b1,0,none⟩)),(2,.pointer (some ⟨b2,0,none⟩)),(3,.pointer (some ⟨b3,0,none⟩)),(10,.int .i64 (ishr .i64 t4 3)),(11,.int .i64 i6)] (Wd w [cellsE b3 (Cd.cs c_api_Addr i7) 24,cellsE b2 (Cd.cs c_api_Addr zv0) 24,cellsE b1 (Cd.cs c_api_Prefix x0) 37]) Y) _ _ _) ?_ _ _ _ hq5 K
  ·clear K hF
   intro g ih i6 i7 x hF K
   refine at_round ?_
   refine sr (aw xl (nwq [12,11,10,3,2,1] ?_))
   refine qs ?_
   obtain ⟨h8,hF⟩|⟨h8,hF⟩:=oi hF
   ·refine ct h8 ?_
    refine sn (qs ?_)
    refine qb ?_
    refine sr (am (aa (ns (fa 17 underlying37 rfl sizeOf3 ?_))))
    refine aw (r_load_cell isAgg3 rfl (lens_cell0 (c:=(cInt .i64)) (y:=x0.f_Bits) (.s (.s .z)) (Lens.comp lw (fun z=>{ x0 with f_Bits:=z }) (c_api_Prefix_f_Bits x0)) rfl)) ?_
    refine am ?_
    refine aw (r_imul rfl rfl) ?_
    refine aw (r_isub rfl rfl) ?_
    refine aw (r_max rfl rfl) ?_
    refine aw (r_min rfl rfl) ?_
    refine aa (nt (qr (am (fa 1 underlying24 rfl sizeOf22 ?_))))
    obtain ⟨h9,hF⟩:=gd hF
    refine aw (r_idxArr underlying22 sizeOf5 rfl rfl h9) ?_
    refine aw (r_load_cell isAgg5 rfl (lens_cell0 (c:=(cInt .u8)) (y:=vget i7.f_B i6) .z (Lens.comp (Lens.comp lw (fun z=>{ i7 with f_B:=z }) (c_api_Addr_f_B i7)) (fun z=>vset i7.f_B i6 z) (Lens.vec (cInt .u8) (by decide) i7.f_B i6 h9)) rfl)) ?_
    refine am ?_
    refine aw (r_conv underlying3 underlying81 rfl) ?_
    obtain ⟨h10,hF⟩:=gd hF
    refine aw (r_ishr rfl rfl h10) ?_
    refine aw (r_ior rfl rfl) ?_
    refine fa 1 underlying24 rfl sizeOf22 ?_
    obtain ⟨h11,hF⟩:=gd hF
    refine aw (r_idxArr underlying22 sizeOf5 rfl rfl h11) ?_
    refine at_store (c:=(cInt .u8)) (z:=ior .u8 (vget i7.f_B i6) (ishr .u8 255 (wr .u64 (if 8<(if wr .i64 (x0.f_Bits-(wr .i64 (8*i6)))<0 then 0 else wr .i64 (x0.f_Bits-(wr .i64 (8*i6)))) then 8 else (if wr .i64 (x0.f_Bits-(wr .i64 (8*i6)))<0 then 0 else wr .i64 (x0.f_Bits-(wr .i64 (8*i6)))))))) .z (Lens.comp (Lens.comp lw (fun z=>{ i7 with f_B:=z }) (c_api_Addr_f_B i7)) (fun z=>vset i7.f_B i6 z) (Lens.vec (cInt .u8) (by decide) i7.f_B i6 h11)) sizeOf5 rfl rfl rfl ?_
    refine qn (wq [11,10,3,2,1] ?_)
    refine bm ?_
    refine qr (aw xa (am (nwq [11,10,3,2,1] ?_)))
    exact at_weak_k (ih _ _ _ hF K) ⟨rfl,rfl,rfl,rfl,rfl,trivial⟩
   refine cf h8 ?_
   refine at_exit ?_
   refine te (te ?_)
   refine at_drop (H:=_) (.s (.s .z)) ?_
   obtain rfl:=os hF
   exact at_weak_k K ⟨rfl,rfl,trivial⟩
 skip
 skip
 refine at_blk_same ?_
 refine tn (sr ?_)
 refine aw (r_load_aggc (c:=c_api_Addr) (z:=q5) isAgg24 sizeOf24 rfl (lens_cell .z lw)) ?_
 refine at_store (c:=c_api_Addr) (z:=q5) (.s .z) lw sizeOf24 rfl rfl rfl ?_
 refine qn (dz (wq [2] ?_))
 refine tn (qt ?_)
 have K:=os hF
 subst K
 exact at_res1 rfl (res_cell (c:=c_api_Addr) (y:=q5) rfl .z lw isAgg24 sizeOf24 (.inl rfl)) wb
def aggregate_Of(x0:S_api_Prefix):Option (S_aggregate_Range×Bool) :=
 cidr_Right x0>>=fun t3=>if (!t3)=true then (some (({ f_From:=({ f_V:=(0:Int),f_B:=(Vector.replicate 16 (0:Int):(Vector Int 16)) }:S_api_Addr),f_To:=({ f_V:=(0:Int),f_B:=(Vector.replicate 16 (0:Int):(Vector Int 16)) }:S_api_Addr) }:S_aggregate_Range),false)) else (aggregate_last x0>>=fun t5=>some ({ { ({ f_From:=({ f_V:=(0:Int),f_B:=(Vector.replicate 16 (0:Int):(Vector Int 16)) }:S_api_Addr),f_To:=({ f_V:=(0:Int),f_B:=(Vector.replicate 16 (0:Int):(Vector Int 16)) }:S_api_Addr) }:S_aggregate_Range) with f_From:=x0.f_A } with f_To:=t5 },true))
set_option maxHeartbeats 3200000 in
theorem aggregate_Of_ok(x0:S_api_Prefix)(r:S_aggregate_Range×Bool)(hF:aggregate_Of x0=some r)(w:World) :
    Calls Try.prog 26 #[.agg (Cd.cs c_api_Prefix x0).toArray] w (fun e w'=>e=.returned (.tuple #[.agg (Cd.cs c_aggregate_Range r.1).toArray,.bool r.2])∧Below w.heap.size w w'):=by
 unfold aggregate_Of at hF
 refine ce (l:=[.agg (Cd.cs c_api_Prefix x0).toArray]) func26 rfl rfl ?_
 refine at_start ?_
 refine sr ?_
 refine at_box (cs:=Cd.cs c_api_Prefix x0) rfl rfl rfl ?_
 intro b1
 refine al (cs:=Cd.cs c_aggregate_Range zv6) zeroValue26 ?_
 intro b2
 refine aa (nt (qs (sr ?_)))
 refine aw (r_load_aggc (c:=c_api_Prefix) (z:=x0) isAgg37 sizeOf37 rfl (lens_cell (.s .z) lw)) ?_
 obtain ⟨t3,ht3,hF⟩:=bM hF
 refine cB func47 rfl (fun w hw=>cidr_Right_ok _ _ ht3 w) ?_
 refine aw (r_not rfl) ?_
 refine nwq [6,2,1] ?_
 obtain ⟨h4,hF⟩|⟨h4,hF⟩:=oi hF
 ·refine ct h4 ?_
  refine sr ?_
  refine aw (r_build_struct (zs:=Cd.cs c_aggregate_Range zv6) (cs:=Cd.cs c_aggregate_Range zv6) underlying26 zeroValue26 rfl (places_aggregate_Range_26) rfl rfl) ?_
  refine at_store (c:=c_aggregate_Range) (z:=zv6) .z lw sizeOf26 rfl rfl rfl ?_
  refine aa (qn ?_)
  refine at_drop (H:=_) (.s .z) ?_
  refine wq [3,2] ?_
  refine tn (rt ?_)
  have K:=os hF
  subst K
  exact at_res2 rfl (res_cell (c:=c_aggregate_Range) (y:=zv6) rfl .z lw isAgg26 sizeOf26 (.inl rfl)) (res_tmp rfl) wb
 refine cf h4 ?_
 refine sn (qs (wq [2,1] ?_))
 obtain ⟨t5,ht5,hF⟩:=bM hF
 refine at_inv [.q 8 (fun g6=>.pointer (some ⟨b1,0+0,none⟩)) [] 0 0,.q 9 (fun g6=>.agg (Cd.cs c_api_Addr x0.f_A).toArray) [0] 0 0,.q 10 (fun g6=>.agg (Cd.cs c_api_Prefix x0).toArray) [] 0 0,.q 11 (fun g6=>.agg (Cd.cs c_api_Addr t5).toArray) [2] 0 0,.q 12 (fun g6=>.agg (Cd.cs c_aggregate_Range ({ { zv6 with f_From:=x0.f_A } with f_To:=t5 })).toArray) [1,3] 0 0,.st 0 none [4],.q 3 (fun g6=>.bool true) [] 1 1] (fun g6 s=>match s with | 0=>(Wd w [cellsE b2 (Cd.cs c_aggregate_Range zv6) 26,cellsE b1 (Cd.cs c_api_Prefix x0) 37]) | _=>(Wd w [cellsE b2 (Cd.cs c_aggregate_Range ({ { zv6 with f_From:=x0.f_A } with f_To:=t5 })) 26,cellsE b1 (Cd.cs c_api_Prefix x0) 37])) 1 (by kernel_rfl) (by kernel_rfl) (by kernel_rfl) (by kernel_rfl) (by kernel_rfl) ⟨fun _ _ _=>rfl,fun _ _ _=>rfl,fun _ _ _=>rfl,fun _ _ _=>rfl,fun _ _ _=>rfl,fun _ _ _=>rfl,fun _ _ _=>rfl,trivial⟩ (by kernel_rfl) (fun w_ h=>⟨fun _=>g3 0 none 0 none w_,h.drew⟩) ⟨?_,?_,?_,?_,?_,?_,?_,trivial⟩ ?_
 ·intro Lx g6 s K hl hh k
  show At 13 ((1,_)::(2,_)::Lx) _ _
  refine fa 0 underlying37 rfl sizeOf24 ?_
  exact at_nil k
 ·intro Lx g6 s K hl hh k
  show At 13 ((8,_)::(1,_)::(2,_)::Lx) _ _
  obtain rfl:s=0:=by omega
  refine aw (r_load_aggc (c:=c_api_Addr) (z:=x0.f_A) isAgg24 sizeOf24 rfl (lens_cell (.s .z) (Lens.comp lw (fun z=>{ x0 with f_A:=z }) (c_api_Prefix_f_A x0)))) ?_
  exact at_nil k
 ·intro Lx g6 s K hl hh k
  show At 13 ((1,_)::(2,_)::Lx) _ _
  obtain rfl:s=0:=by omega
  refine aw (r_load_aggc (c:=c_api_Prefix) (z:=x0) isAgg37 sizeOf37 rfl (lens_cell (.s .z) lw)) ?_
  exact at_nil k
 ·intro Lx g6 s K hl hh k
  show At 13 ((10,_)::(1,_)::(2,_)::Lx) _ _
  obtain rfl:s=0:=by omega
  refine cB func38 rfl (fun w hw=>aggregate_last_ok _ _ ht5 w) ?_
  exact at_nil k
 ·intro Lx g6 s K hl hh k
  show At 13 ((9,_)::(11,_)::(1,_)::(2,_)::Lx) _ _
  obtain rfl:s=0:=by omega
  refine aw (r_build_struct (zs:=Cd.cs c_aggregate_Range zv6) (cs:=Cd.cs c_aggregate_Range ({ { zv6 with f_From:=x0.f_A } with f_To:=t5 })) underlying26 zeroValue26 rfl (places_aggregate_Range_26) rfl (fill_step (c:=c_api_Addr) (z:=x0.f_A) rfl (c_aggregate_Range_f_From zv6) rfl (fill_step (c:=c_api_Addr) (z:=t5) rfl (c_aggregate_Range_f_To ({ zv6 with f_From:=x0.f_A })) rfl rfl))) ?_
  exact at_nil k
 ·intro Lx g6 K k
  show At 13 ((12,_)::(1,_)::(2,_)::Lx) _ _
  refine at_store (c:=c_aggregate_Range) (z:={ { zv6 with f_From:=x0.f_A } with f_To:=t5 }) .z lw sizeOf26 rfl rfl rfl ?_
  exact at_nil k
 ·intro Lx g6 s K hl hh k
  show At 13 ((1,_)::(2,_)::Lx) _ _
  refine aa ?_
  exact at_nil k
 intro g6
 show At 13 [(8,_),(9,_),(10,_),(11,_),(12,_),(3,_),(1,_),(2,_)] _ _
 refine at_drop (H:=_) (.s .z) ?_
 refine wq [3,2] ?_
 refine tn (qt ?_)
 have K:=os hF
 subst K
 exact at_res2 rfl (res_cell (c:=c_aggregate_Range) (y:={ { zv6 with f_From:=x0.f_A } with f_To:=t5 }) rfl .z lw isAgg26 sizeOf26 (.inl rfl)) (res_tmp rfl) wb
def crawlwayref53_last.l1(i6:Int)(i10:Int)(i11:Int):Option (Int) :=
 if (decide (i11<Int.tmod i6 8))=true then (crawlwayref53_last.l1 i6 (wr .i64 (Int.tdiv i10 2)) (wr .i64 (i11+1))) else (some i10)
 partial_fixpoint
def crawlwayref53_last.l0(t4:Int)(i6:Int)(i7:S_api_Addr):Option (S_api_Addr) :=
 if (decide (i6<t4))=true then (crawlwayref53_last.l1 i6 128 0>>=fun q9=>if (0:Int)≤wr .i64 (Int.tdiv i6 8)∧wr .i64 (Int.tdiv i6 8)<16 then if (0:Int)≤wr .i64 (Int.tdiv i6 8)∧wr .i64 (Int.tdiv i6 8)<16 then crawlwayref53_last.l0 t4 (wr .i64 (i6+1)) ({ i7 with f_B:=vset i7.f_B (wr .i64 (Int.tdiv i6 8)) (wr .u8 ((vget i7.f_B (wr .i64 (Int.tdiv i6 8)))+(wr .u8 q9))) }) else none else none) else (some i7)
 partial_fixpoint
def crawlwayref53_last(x0:S_api_Prefix):Option (S_api_Addr) :=
 crawlwayref10_Width x0.f_A>>=fun t4=>crawlwayref53_last.l0 t4 x0.f_Bits x0.f_A>>=fun q5=>some q5
theorem crawlwayref53_last_ok(x0:S_api_Prefix)(r:S_api_Addr)(hF:crawlwayref53_last x0=some r)(w:World) :
    Calls Try.prog 41 #[.agg (Cd.cs c_api_Prefix x0).toArray] w (fun e w'=>e=.returned (.agg (Cd.cs c_api_Addr r).toArray)∧Below w.heap.size w w'):=by
 unfold crawlwayref53_last at hF
 refine ce (l:=[.agg (Cd.cs c_api_Prefix x0).toArray]) func41 rfl rfl ?_
 refine at_start ?_
 refine sr ?_
 refine at_box (cs:=Cd.cs c_api_Prefix x0) rfl rfl rfl ?_
 intro b1
 refine al (cs:=Cd.cs c_api_Addr zv0) zeroValue24 ?_
 intro b2
 refine ns (fa 0 underlying37 rfl sizeOf24 ?_)
 refine aw (r_load_aggc (c:=c_api_Addr) (z:=x0.f_A) isAgg24 sizeOf24 rfl (lens_cell (.s .z) (Lens.comp lw (fun z=>{ x0 with f_A:=z }) (c_api_Prefix_f_A x0)))) ?_
 refine al (cs:=Cd.cs c_api_Addr zv0) zeroValue24 ?_
 intro b3
 refine at_store (c:=c_api_Addr) (z:=x0.f_A) .z lw sizeOf24 rfl rfl rfl ?_
 refine ns (fa 0 underlying37 rfl sizeOf24 ?_)
 refine aw (r_load_aggc (c:=c_api_Addr) (z:=x0.f_A) isAgg24 sizeOf24 rfl (lens_cell (.s (.s .z)) (Lens.comp lw (fun z=>{ x0 with f_A:=z }) (c_api_Prefix_f_A x0)))) ?_
 obtain ⟨t4,ht4,hF⟩:=bM hF
 refine cB func42 rfl (fun w hw=>crawlwayref10_Width_ok _ _ ht4 w) ?_
 refine aa (nt (qs (sr (fa 17 underlying37 rfl sizeOf3 ?_))))
 refine aw (r_load_cell isAgg3 rfl (lens_cell0 (c:=(cInt .i64)) (y:=x0.f_Bits) (.s (.s .z)) (Lens.comp lw (fun z=>{ x0 with f_Bits:=z }) (c_api_Prefix_f_Bits x0)) rfl)) ?_
 refine aa (qn ?_)
 refine at_drop (H:=_) (.s (.s .z)) ?_
 refine wq [5,4,3,2] ?_
 refine tn ?_
 refine qb ?_
 obtain ⟨q5,hq5,hF⟩:=bM hF
 refine wq [5,4,3,2] ?_
 refine at_loop_n (B:=0) (A:=fun Y=>At 41 [(2,.pointer (some ⟨b2,0,none⟩)),(3,.pointer (some ⟨b3,0,none⟩))] (Wd w [cellsE b3 (Cd.cs c_api_Addr q5) 24,cellsE b2 (Cd.cs c_api_Addr zv0) 24]) Y) ?_ ?_
 ·intro K
  refine crawlwayref53_last.l0.partial_correctness t4 (motive:=fun i6 i7 x=>KN (fun Y=>At 41 [(2,.pointer (some ⟨b2,0,none⟩)),(3,.pointer (some ⟨b3,0,none⟩))] (Wd w [cellsE b3 (Cd.cs c_api_Addr x) 24,cellsE b2 (Cd.cs c_api_Addr zv0) 24]) Y) _ 0→Round (fun Y=>At 41 [(2,.pointer (some ⟨b2,0,none⟩)),(3,.pointer (some ⟨b3,0,none⟩)),(4,.int .i64 t4),(5,.int .i64 i6)] (Wd w [cellsE b3 (Cd.cs c_api_Addr i7) 24,cellsE b2 (Cd.cs c_api_Addr zv0) 24]) Y) _ _ _) ?_ _ _ _ hq5 K
  ·clear K hF
   intro g ih i6 i7 x hF K
   refine at_round ?_
   refine qs (sr (am (am (aw xl (nwq [17,5,4,3,2] ?_)))))
   obtain ⟨h8,hF⟩|⟨h8,hF⟩:=oi hF
   ·refine ct h8 ?_
    refine sn (qs ?_)
    refine qb ?_
    refine sr (aa (nt (qs (sr (aa (nwq [7,6,5,4,3,2] ?_))))))
    refine qb ?_
    obtain ⟨q9,hq9,hF⟩:=bM hF
    refine wq [7,6,5,4,3,2] ?_
    refine at_loop_n (B:=2) (A:=fun Y=>At 41 [(2,.pointer (some ⟨b2,0,none⟩)),(3,.pointer (some ⟨b3,0,none⟩)),(4,.int .i64 t4),(5,.int .i64 i6),(6,.int .i64 q9)] (Wd w [cellsE b3 (Cd.cs c_api_Addr i7) 24,cellsE b2 (Cd.cs c_api_Addr zv0) 24]) Y) ?_ ?_
    ·intro K
     refine crawlwayref53_last.l1.partial_correctness i6 (motive:=fun i10 i11 x=>KN (fun Y=>At 41 [(2,.pointer (some ⟨b2,0,none⟩)),(3,.pointer (some ⟨b3,0,none⟩)),(4,.int .i64 t4),(5,.int .i64 i6),(6,.int .i64 x)] (Wd w [cellsE b3 (Cd.cs c_api_Addr i7) 24,cellsE b2 (Cd.cs c_api_Addr zv0) 24]) Y) _ 2→Round (fun Y=>At 41 [(2,.pointer (some ⟨b2,0,none⟩)),(3,.pointer (some ⟨b3,0,none⟩)),(4,.int .i64 t4),(5,.int .i64 i6),(6,.int .i64 i10),(7,.int .i64 i11)] (Wd w [cellsE b3 (Cd.cs c_api_Addr i7) 24,cellsE b2 (Cd.cs c_api_Addr zv0) 24]) Y) _ _ _) ?_ _ _ _ hq9 K
     ·clear K hF
      intro g ih i10 i11 x hF K
      refine at_round ?_
      refine qs (sr (am (am ?_)))
      refine aw (r_irem rfl rfl (by decide)) ?_
      refine aw xl (nwq [23,7,6,5,4,3,2] ?_)
      obtain ⟨h12,hF⟩|⟨h12,hF⟩:=oi hF
      ·refine ct h12 ?_
       refine sn (qs ?_)
       refine qb ?_
       refine qr (am ?_)
       refine aw (r_iquo rfl rfl (by decide)) ?_
       refine aa (qn (wq [7,6,5,4,3,2] ?_))
       refine bm ?_
       refine qr (am (aw xa (aa (nwq [7,6,5,4,3,2] ?_))))
       exact at_weak_k (ih _ _ _ hF K) ⟨rfl,rfl,rfl,rfl,rfl,rfl,trivial⟩
      refine cf h12 ?_
      refine at_exit ?_
      refine te (te ?_)
      obtain rfl:=os hF
      exact at_weak_k K ⟨rfl,rfl,rfl,rfl,rfl,trivial⟩
    skip
    skip
    refine at_blk_same ?_
    refine tn (qr (am ?_))
    refine aw (r_iquo rfl rfl (by decide)) ?_
    refine am ?_
    refine aw (r_iquo rfl rfl (by decide)) ?_
    refine fa 1 underlying24 rfl sizeOf22 ?_
    obtain ⟨h13,hF⟩:=gd hF
    refine aw (r_idxArr underlying22 sizeOf5 rfl rfl h13) ?_
    refine aw (r_load_cell isAgg5 rfl (lens_cell0 (c:=(cInt .u8)) (y:=vget i7.f_B (wr .i64 (Int.tdiv i6 8))) .z (Lens.comp (Lens.comp lw (fun z=>{ i7 with f_B:=z }) (c_api_Addr_f_B i7)) (fun z=>vset i7.f_B (wr .i64 (Int.tdiv i6 8)) z) (Lens.vec (cInt .u8) (by decide) i7.f_B (wr .i64 (Int.tdiv i6 8)) h13)) rfl)) ?_
    refine am ?_
    refine aw (r_conv underlying3 underlying5 rfl) ?_
    refine aw xa (fa 1 underlying24 rfl sizeOf22 ?_)
    obtain ⟨h14,hF⟩:=gd hF
    refine aw (r_idxArr underlying22 sizeOf5 rfl rfl h14) ?_
    refine at_store (c:=(cInt .u8)) (z:=wr .u8 ((vget i7.f_B (wr .i64 (Int.tdiv i6 8)))+(wr .u8 q9))) .z (Lens.comp (Lens.comp lw (fun z=>{ i7 with f_B:=z }) (c_api_Addr_f_B i7)) (fun z=>vset i7.f_B (wr .i64 (Int.tdiv i6 8)) z) (Lens.vec (cInt .u8) (by decide) i7.f_B (wr .i64 (Int.tdiv i6 8)) h14)) sizeOf5 rfl rfl rfl ?_
    refine qn (wq [5,4,3,2] ?_)
    refine bm ?_
    refine qr (am (aw xa (aa (nwq [5,4,3,2] ?_))))
    exact at_weak_k (ih _ _ _ hF K) ⟨rfl,rfl,rfl,rfl,trivial⟩
   refine cf h8 ?_
   refine at_exit ?_
   refine te (te ?_)
   obtain rfl:=os hF
   exact at_weak_k K ⟨rfl,rfl,trivial⟩
 skip
 skip
 refine at_blk_same ?_
 refine tn (sr ?_)
 refine aw (r_load_aggc (c:=c_api_Addr) (z:=q5) isAgg24 sizeOf24 rfl (lens_cell .z lw)) ?_
 refine at_store (c:=c_api_Addr) (z:=q5) (.s .z) lw sizeOf24 rfl rfl rfl ?_
 refine qn (dz (wq [2] ?_))
 refine tn (qt ?_)
 have K:=os hF
 subst K
 exact at_res1 rfl (res_cell (c:=c_api_Addr) (y:=q5) rfl .z lw isAgg24 sizeOf24 (.inl rfl)) wb
def crawlwayref53_Of(x0:S_api_Prefix):Option (S_api_Addr×S_api_Addr) :=
 crawlwayref53_last x0>>=fun t4=>some (x0.f_A,t4)
set_option maxHeartbeats 3200000 in
theorem crawlwayref53_Of_ok(x0:S_api_Prefix)(r:S_api_Addr×S_api_Addr)(hF:crawlwayref53_Of x0=some r)(w:World) :
    Calls Try.prog 14 #[.agg (Cd.cs c_api_Prefix x0).toArray] w (fun e w'=>e=.returned (.tuple #[.agg (Cd.cs c_api_Addr r.1).toArray,.agg (Cd.cs c_api_Addr r.2).toArray])∧Below w.heap.size w w'):=by
 unfold crawlwayref53_Of at hF
 refine ce (l:=[.agg (Cd.cs c_api_Prefix x0).toArray]) func14 rfl rfl ?_
 refine at_start ?_
 refine sr ?_
 refine at_box (cs:=Cd.cs c_api_Prefix x0) rfl rfl rfl ?_
 intro b1
 refine al (cs:=Cd.cs c_api_Addr zv0) zeroValue24 ?_
 intro b2
 refine al (cs:=Cd.cs c_api_Addr zv0) zeroValue24 ?_
 intro b3
 refine nt (qs (wq [3,2,1] ?_))
 obtain ⟨t4,ht4,hF⟩:=bM hF
 refine at_inv [.q 4 (fun g5=>.pointer (some ⟨b1,0+0,none⟩)) [] 0 0,.q 5 (fun g5=>.agg (Cd.cs c_api_Addr x0.f_A).toArray) [0] 0 0,.q 6 (fun g5=>.agg (Cd.cs c_api_Prefix x0).toArray) [] 0 0,.q 7 (fun g5=>.agg (Cd.cs c_api_Addr t4).toArray) [2] 0 0,.st 0 none [1],.st 1 none [3]] (fun g5 s=>match s with | 0=>(Wd w [cellsE b3 (Cd.cs c_api_Addr zv0) 24,cellsE b2 (Cd.cs c_api_Addr zv0) 24,cellsE b1 (Cd.cs c_api_Prefix x0) 37]) | 1=>(Wd w [cellsE b3 (Cd.cs c_api_Addr zv0) 24,cellsE b2 (Cd.cs c_api_Addr x0.f_A) 24,cellsE b1 (Cd.cs c_api_Prefix x0) 37]) | _=>(Wd w [cellsE b3 (Cd.cs c_api_Addr t4) 24,cellsE b2 (Cd.cs c_api_Addr x0.f_A) 24,cellsE b1 (Cd.cs c_api_Prefix x0) 37])) 2 (by kernel_rfl) (by kernel_rfl) (by kernel_rfl) (by kernel_rfl) (by kernel_rfl) ⟨fun _ _ _=>rfl,fun _ _ _=>rfl,fun _ _ _=>rfl,fun _ _ _=>rfl,fun _ _ _=>rfl,fun _ _ _=>rfl,trivial⟩ (by kernel_rfl) (fun w_ h=>⟨fun _=>g3 0 none 0 none w_,h.drew⟩) ⟨?_,?_,?_,?_,?_,?_,trivial⟩ ?_
 ·intro Lx g5 s K hl hh k
  show At 8 ((1,_)::(2,_)::(3,_)::Lx) _ _
  refine fa 0 underlying37 rfl sizeOf24 ?_
  exact at_nil k
 ·intro Lx g5 s K hl hh k
  show At 8 ((4,_)::(1,_)::(2,_)::(3,_)::Lx) _ _
  obtain rfl:s=0:=by omega
  refine aw (r_load_aggc (c:=c_api_Addr) (z:=x0.f_A) isAgg24 sizeOf24 rfl (lens_cell (.s (.s .z)) (Lens.comp lw (fun z=>{ x0 with f_A:=z }) (c_api_Prefix_f_A x0)))) ?_
  exact at_nil k
 ·intro Lx g5 s K hl hh k
  show At 8 ((1,_)::(2,_)::(3,_)::Lx) _ _
  obtain rfl:s=0:=by omega
  refine aw (r_load_aggc (c:=c_api_Prefix) (z:=x0) isAgg37 sizeOf37 rfl (lens_cell (.s (.s .z)) lw)) ?_
  exact at_nil k
 ·intro Lx g5 s K hl hh k
  show At 8 ((6,_)::(1,_)::(2,_)::(3,_)::Lx) _ _
  obtain rfl:s=0:=by omega
  refine cB func41 rfl (fun w hw=>crawlwayref53_last_ok _ _ ht4 w) ?_
  exact at_nil k
 ·intro Lx g5 K k
  show At 8 ((5,_)::(1,_)::(2,_)::(3,_)::Lx) _ _
  refine at_store (c:=c_api_Addr) (z:=x0.f_A) (.s .z) lw sizeOf24 rfl rfl rfl ?_
  exact at_nil k
 ·intro Lx g5 K k
  show At 8 ((7,_)::(1,_)::(2,_)::(3,_)::Lx) _ _
  refine at_store (c:=c_api_Addr) (z:=t4) .z lw sizeOf24 rfl rfl rfl ?_
  exact at_nil k
 intro g5
 show At 8 [(4,_),(5,_),(6,_),(7,_),(1,_),(2,_),(3,_)] _ _
 refine at_drop (H:=_) (.s (.s .z)) ?_
 refine wq [3,2] ?_
 refine tn (qt ?_)
 have K:=os hF
 subst K
 exact at_res2 rfl (res_cell (c:=c_api_Addr) (y:=x0.f_A) rfl (.s .z) lw isAgg24 sizeOf24 (.inl rfl)) (res_cell (c:=c_api_Addr) (y:=t4) rfl .z lw isAgg24 sizeOf24 (.inl rfl)) wb
def crawlwayref53_Next.l0(i5:Int)(i6:S_api_Addr):Option (Ctl (S_api_Addr×Bool) (Unit)) :=
 if (decide (i5≥0))=true then (if (0:Int)≤i5∧i5<16 then if (decide (vget i6.f_B i5<255))=true then (if (0:Int)≤i5∧i5<16 then if (0:Int)≤i5∧i5<16 then some (.ret ({ i6 with f_B:=vset i6.f_B i5 (wr .u8 ((vget i6.f_B i5)+1)) },true)) else none else none) else (if (0:Int)≤i5∧i5<16 then crawlwayref53_Next.l0 (wr .i64 (i5-1)) ({ i6 with f_B:=vset i6.f_B i5 0 }) else none) else none) else (some (.nx ()))
 partial_fixpoint
def crawlwayref53_Next(x0:S_api_Addr):Option (S_api_Addr×Bool) :=
 crawlwayref10_Width x0>>=fun t3=>crawlwayref53_Next.l0 (wr .i64 ((wr .i64 (Int.tdiv t3 8))-1)) x0>>=fun q4=>match q4 with | .ret r'=>some r' | .nx sq4=>(some (({ f_V:=(0:Int),f_B:=(Vector.replicate 16 (0:Int):(Vector Int 16)) }:S_api_Addr),false))
theorem crawlwayref53_Next_ok(x0:S_api_Addr)(r:S_api_Addr×Bool)(hF:crawlwayref53_Next x0=some r)(w:World) :
    Calls Try.prog 17 #[.agg (Cd.cs c_api_Addr x0).toArray] w (fun e w'=>e=.returned (.tuple #[.agg (Cd.cs c_api_Addr r.1).toArray,.bool r.2])∧Below w.heap.size w w'):=by
 unfold crawlwayref53_Next at hF
 refine ce (l:=[.agg (Cd.cs c_api_Addr x0).toArray]) func17 rfl rfl ?_
 refine at_start ?_
 refine sr ?_
 refine at_box (cs:=Cd.cs c_api_Addr x0) rfl rfl rfl ?_
 intro b1
 refine al (cs:=Cd.cs c_api_Addr zv0) zeroValue24 ?_
 intro b2
 refine aa (nt (qs (sr ?_)))
 refine aw (r_load_aggc (c:=c_api_Addr) (z:=x0) isAgg24 sizeOf24 rfl (lens_cell (.s .z) lw)) ?_
 obtain ⟨t3,ht3,hF⟩:=bM hF
 refine cB func42 rfl (fun w hw=>crawlwayref10_Width_ok _ _ ht3 w) ?_
 refine aw (r_iquo rfl rfl (by decide)) ?_
 refine aw (r_isub rfl rfl) ?_
 refine aa (nwq [4,2,1] ?_)
 refine qb ?_
 obtain ⟨q4,hq4,hF⟩:=bM hF
 refine wq [4,2,1] ?_
 refine at_loop_r (B:=0) (r:=r) (q:=q4) (A:=fun (_:Unit) Y=>At 31 [(2,.pointer (some ⟨b2,0,none⟩))] (Wd w [cellsE b2 (Cd.cs c_api_Addr zv0) 24]) Y) ?_ ?_
 ·intro K
  refine crawlwayref53_Next.l0.partial_correctness  (motive:=fun i5 i6 x=>KR (fun (_:Unit) Y=>At 31 [(2,.pointer (some ⟨b2,0,none⟩))] (Wd w [cellsE b2 (Cd.cs c_api_Addr zv0) 24]) Y) _ 0 r x→Round (fun Y=>At 31 [(1,.pointer (some ⟨b1,0,none⟩)),(2,.pointer (some ⟨b2,0,none⟩)),(4,.int .i64 i5)] (Wd w [cellsE b2 (Cd.cs c_api_Addr zv0) 24,cellsE b1 (Cd.cs c_api_Addr i6) 24]) Y) _ _ _) ?_ _ _ _ hq4 K
  ·clear K hF
   intro g ih i5 i6 x hF K
   refine at_round ?_
   refine qs (sr (am ?_))
   refine aw (r_igeq rfl rfl) ?_
   refine nwq [10,4,2,1] ?_
   obtain ⟨h7,hF⟩|⟨h7,hF⟩:=oi hF
   ·refine ct h7 ?_
    refine sn (qs ?_)
    refine qb ?_
    refine qs (sr (am (fa 1 underlying24 rfl sizeOf22 ?_)))
    obtain ⟨h8,hF⟩:=gd hF
    refine aw (r_idxArr underlying22 sizeOf5 rfl rfl h8) ?_
    refine aw (r_load_cell isAgg5 rfl (lens_cell0 (c:=(cInt .u8)) (y:=vget i6.f_B i5) (.s .z) (Lens.comp (Lens.comp lw (fun z=>{ i6 with f_B:=z }) (c_api_Addr_f_B i6)) (fun z=>vset i6.f_B i5 z) (Lens.vec (cInt .u8) (by decide) i6.f_B i5 h8)) rfl)) ?_
    refine aw xl (nwq [17,4,2,1] ?_)
    obtain ⟨h9,hF⟩|⟨h9,hF⟩:=oi hF
    ·refine ct h9 ?_
     refine sr (am (am (fa 1 underlying24 rfl sizeOf22 ?_)))
     obtain ⟨h10,hF⟩:=gd hF
     refine aw (r_idxArr underlying22 sizeOf5 rfl rfl h10) ?_
     refine aw (r_load_cell isAgg5 rfl (lens_cell0 (c:=(cInt .u8)) (y:=vget i6.f_B i5) (.s .z) (Lens.comp (Lens.comp lw (fun z=>{ i6 with f_B:=z }) (c_api_Addr_f_B i6)) (fun z=>vset i6.f_B i5 z) (Lens.vec (cInt .u8) (by decide) i6.f_B i5 h10)) rfl)) ?_
     refine aw xa (fa 1 underlying24 rfl sizeOf22 ?_)
     obtain ⟨h11,hF⟩:=gd hF
     refine aw (r_idxArr underlying22 sizeOf5 rfl rfl h11) ?_
     refine at_store (c:=(cInt .u8)) (z:=wr .u8 ((vget i6.f_B i5)+1)) (.s .z) (Lens.comp (Lens.comp lw (fun z=>{ i6 with f_B:=z }) (c_api_Addr_f_B i6)) (fun z=>vset i6.f_B i5 z) (Lens.vec (cInt .u8) (by decide) i6.f_B i5 h11)) sizeOf5 rfl rfl rfl ?_
     refine ns ?_
     refine aw (r_load_aggc (c:=c_api_Addr) (z:={ i6 with f_B:=vset i6.f_B i5 (wr .u8 ((vget i6.f_B i5)+1)) }) isAgg24 sizeOf24 rfl (lens_cell (.s .z) lw)) ?_
     refine at_store (c:=c_api_Addr) (z:={ i6 with f_B:=vset i6.f_B i5 (wr .u8 ((vget i6.f_B i5)+1)) }) .z lw sizeOf24 rfl rfl rfl ?_
     refine aa (qn ?_)
     refine at_drop (H:=_) (.s .z) ?_
     refine wq [3,2] ?_
     refine tn (qt ?_)
     refine tr (br (tr (tr (br (tr ?_)))))
     obtain rfl:=os hF
     subst K
     exact at_res2 rfl (res_cell (c:=c_api_Addr) (y:={ i6 with f_B:=vset i6.f_B i5 (wr .u8 ((vget i6.f_B i5)+1)) }) rfl .z lw isAgg24 sizeOf24 (.inl rfl)) (res_tmp rfl) wb
    refine cf h9 ?_
    refine sn (qr (am (fa 1 underlying24 rfl sizeOf22 ?_)))
    obtain ⟨h12,hF⟩:=gd hF
    refine aw (r_idxArr underlying22 sizeOf5 rfl rfl h12) ?_
    refine at_store (c:=(cInt .u8)) (z:=0) (.s .z) (Lens.comp (Lens.comp lw (fun z=>{ i6 with f_B:=z }) (c_api_Addr_f_B i6)) (fun z=>vset i6.f_B i5 z) (Lens.vec (cInt .u8) (by decide) i6.f_B i5 h12)) sizeOf5 rfl rfl rfl ?_
    refine qn (wq [4,2,1] ?_)
    refine bm ?_
    refine qr (am ?_)
    refine aw (r_isub rfl rfl) ?_
    refine aa (nwq [4,2,1] ?_)
    exact at_weak_k (ih _ _ _ hF K) ⟨rfl,rfl,rfl,trivial⟩
   refine cf h7 ?_
   refine at_exit ?_
   refine te (te ?_)
   refine at_drop (H:=_) (.s .z) ?_
   obtain rfl:=os hF
   exact at_weak_k K ⟨rfl,trivial⟩
 cases q4 with
 | ret r'=>exact os hF
 | nx sq4 =>
  skip
  refine at_blk_same ?_
  refine tn (sr ?_)
  refine aw (r_build_struct (zs:=Cd.cs c_api_Addr zv0) (cs:=Cd.cs c_api_Addr zv0) underlying24 zeroValue24 rfl (places_api_Addr_24) rfl rfl) ?_
  refine at_store (c:=c_api_Addr) (z:=zv0) .z lw sizeOf24 rfl rfl rfl ?_
  refine aa (nwq [3,2] ?_)
  refine qt ?_
  have K:=os hF
  subst K
  exact at_res2 rfl (res_cell (c:=c_api_Addr) (y:=zv0) rfl .z lw isAgg24 sizeOf24 (.inl rfl)) (res_tmp rfl) wb
end Go.Proofs.Ytahlbjmafceoeaa
namespace Go.Proofs.Ytahlbjmafceoeaa
open E Go.RowKit
def okb(v:Vector Int 16):Bool:=v.toList.all fun n=>decide (0≤n)&&decide (n<256)
theorem okb_mem{v:Vector Int 16}(h:okb v=true):∀ n∈v.toList,0≤n∧n<256:=fun n hn=>by
 have:=List.all_eq_true.1 h n hn
 simpa using this
theorem unb_inj:∀ {a b:List Int},(∀ n∈a,0≤n∧n<256)→(∀ n∈b,0≤n∧n<256)→unb a=unb b→a=b
 | [],[],_,_,_=>rfl
 | [],_::_,_,_,h=>by simp [unb] at h
 | _::_,[],_,_,h=>by simp [unb] at h
 | x::a,y::b,ha,hb,h=>by
  have h':UInt8.ofNat x.toNat::unb a=UInt8.ofNat y.toNat::unb b:=h
  injection h' with h1 h2
  have hx:=ha x (List.mem_cons_self ..)
  have hy:=hb y (List.mem_cons_self ..)
  have h3:x.toNat=y.toNat:=by
   have:=congrArg UInt8.toNat h1
   rw [UInt8.toNat_ofNat',UInt8.toNat_ofNat',Nat.mod_eq_of_lt (by omega),Nat.mod_eq_of_lt (by omega)] at this
   exact this
  rw [show x=y by omega,unb_inj (fun n hn=>ha n (List.mem_cons_of_mem _ hn)) (fun n hn=>hb n (List.mem_cons_of_mem _ hn)) h2]
theorem unb_len(l:List Int):(unb l).length=l.length:=by simp [unb]
theorem keyA_inj{a b:S_api_Addr}(ha:okb a.f_B=true)(hb:okb b.f_B=true)(h1:a.f_V=b.f_V)(h2:num (unb a.f_B.toList)=num (unb b.f_B.toList)):a=b:=by
 have e:=unb_inj (okb_mem ha) (okb_mem hb) (num_inj (by rw [unb_len,unb_len,Vector.length_toList,Vector.length_toList]) h2)
 obtain ⟨v,x⟩:=a
 obtain ⟨u,y⟩:=b
 simp only at h1 e
 subst h1
 rw [Vector.toList_inj.1 e]
def lessK(a b:S_api_Addr):Bool:=if a.f_V=b.f_V then decide (num (unb a.f_B.toList)<num (unb b.f_B.toList)) else decide (a.f_V<b.f_V)
theorem less_key(a b:S_api_Addr):addr_Less a b=some (lessK a b):=by
 unfold addr_Less lessK
 by_cases h:a.f_V=b.f_V
 ·have hne:(a.f_V != b.f_V)=false:=by simpa using h
  rw [hne,if_neg Bool.false_ne_true,if_pos h]
  unfold bytes_Compare
  show some (decide (Lib.compareBytes _ _<0))=_
  congr 1
  rw [decide_eq_decide]
  exact cmp_num _ _ (by rw [unb_len,unb_len,Vector.length_toList,Vector.length_toList])
 ·have hne:(a.f_V != b.f_V)=true:=by simpa using h
  rw [hne,if_pos rfl,if_neg h]
def lessP(x y:S_api_Prefix):Bool:=if x.f_A=y.f_A then decide (x.f_Bits<y.f_Bits) else lessK x.f_A y.f_A
theorem cless_key(x y:S_api_Prefix):cidr_Less x y=some (lessP x y):=by
 unfold cidr_Less lessP
 by_cases h:x.f_A=y.f_A
 ·rw [decide_eq_true h,if_pos rfl,if_pos h]
 ·rw [decide_eq_false h,if_neg Bool.false_ne_true,if_neg h,less_key];rfl
def okP(x:S_api_Prefix):Prop:=okb x.f_A.f_B=true
theorem lessP_iff{x y:S_api_Prefix}(hx:okP x)(hy:okP y):lessP x y=true↔x.f_A.f_V<y.f_A.f_V∨(x.f_A.f_V=y.f_A.f_V∧(num (unb x.f_A.f_B.toList)<num (unb y.f_A.f_B.toList)∨(num (unb x.f_A.f_B.toList)=num (unb y.f_A.f_B.toList)∧x.f_Bits<y.f_Bits))):=by
 unfold lessP lessK
 by_cases h:x.f_A=y.f_A
 ·rw [if_pos h,decide_eq_true_iff,h];omega
 ·rw [if_neg h]
  by_cases hV:x.f_A.f_V=y.f_A.f_V
  ·rw [if_pos hV,decide_eq_true_iff]
   have hn:num (unb x.f_A.f_B.toList)≠num (unb y.f_A.f_B.toList):=fun e=>h (keyA_inj hx hy hV e)
   omega
  ·rw [if_neg hV,decide_eq_true_iff];omega
theorem lessP_false{x y:S_api_Prefix}(hx:okP x)(hy:okP y):lessP x y=false↔¬ (x.f_A.f_V<y.f_A.f_V∨(x.f_A.f_V=y.f_A.f_V∧(num (unb x.f_A.f_B.toList)<num (unb y.f_A.f_B.toList)∨(num (unb x.f_A.f_B.toList)=num (unb y.f_A.f_B.toList)∧x.f_Bits<y.f_Bits)))):=by
 rw [←lessP_iff hx hy];simp
theorem lessP_swo:SWOn okP lessP where
 irrefl x hx:=by rw [lessP_false hx hx];omega
 trans x y z hx hy hz h1 h2:=by rw [lessP_iff hx hy] at h1;rw [lessP_iff hy hz] at h2;rw [lessP_iff hx hz];omega
 ntrans x y z hx hy hz h1 h2:=by rw [lessP_false hx hy] at h1;rw [lessP_false hy hz] at h2;rw [lessP_false hx hz];omega
theorem lessP_anti{x y:S_api_Prefix}(hx:okP x)(hy:okP y)(h1:lessP x y=false)(h2:lessP y x=false):x=y:=by
 rw [lessP_false hx hy] at h1
 rw [lessP_false hy hx] at h2
 have e1:=keyA_inj (a:=x.f_A) (b:=y.f_A) hx hy (by omega) (by omega)
 have e2:x.f_Bits=y.f_Bits:=by omega
 obtain ⟨a,b⟩:=x
 obtain ⟨c,d⟩:=y
 simp only at e1 e2
 rw [e1,e2]
end Go.Proofs.Ytahlbjmafceoeaa
namespace Go.Proofs.Ytahlbjmafceoeaa.Agg
open E Go.RowKit Adr Cid
def wd(V:Int):Nat:=if V=4 then 32 else 128
def wb(V:Int):Nat:=if V=4 then 4 else 16
def fam(V:Int):Prop:=V=4∨V=6
theorem wd_wb(V:Int):wd V=8*wb V:=by unfold wd wb;split<;>rfl
theorem wb_le(V:Int):wb V≤16:=by unfold wb;split<;>omega
theorem wd_le(V:Int):wd V≤128:=by unfold wd;split<;>omega
theorem pow_wb(V:Int):256 ^ wb V=2 ^ wd V:=by rw [wd_wb,Nat.pow_mul]
def bt(V:Int)(N:Nat):List UInt8:=digs (wb V) N++List.replicate (16-wb V) 0
theorem bt_len(V:Int)(N:Nat):(bt V N).length=16:=by
 have:=wb_le V
 unfold bt;rw [List.length_append,digs_length,List.length_replicate];omega
def adr(V:Int)(N:Nat):S_api_Addr:=mkA V (bt V N)
theorem bg_bt(V:Int)(N i:Nat):bg (bt V N) i=if i<wb V then N/256 ^ (wb V-1-i)%256 else 0:=by
 unfold bg bt
 rw [List.getD_eq_getElem?_getD]
 split
 ·next h =>
  rw [List.getElem?_append_left (by rw [digs_length];exact h),digs_get _ _ _ h,Option.getD_some,UInt8.toNat_ofNat',Nat.mod_mod]
 ·next h =>
  rw [List.getElem?_append_right (by rw [digs_length];omega),List.getElem?_replicate]
  split<;>rfl
theorem bg_ext{l k:List UInt8}(hl:l.length=16)(hk:k.length=16)(h:∀ i,i<16→bg l i=bg k i):l=k:=by
 apply List.ext_getElem?
 intro i
 by_cases hi:i<16
 ·have e:=h i hi
  unfold bg at e
  rw [List.getD_eq_getElem?_getD,List.getD_eq_getElem?_getD,List.getElem?_eq_getElem (by omega),List.getElem?_eq_getElem (by omega)] at e
  rw [List.getElem?_eq_getElem (by omega),List.getElem?_eq_getElem (by omega)]
  exact congrArg some (UInt8.toNat_inj.1 e)
 ·rw [List.getElem?_eq_none (by omega),List.getElem?_eq_none (by omega)]
theorem num_bt{V:Int}{N:Nat}(h:N<2 ^ wd V):num (bt V N)=N*256 ^ (16-wb V):=by
 have hz:∀ m,num (List.replicate m 0)=0:=by
  intro m
  induction m with
  | zero=>rfl
  | succ m ih=>rw [List.replicate_succ,num_cons,ih];simp
 unfold bt
 rw [num_append,num_digs _ _ (by rw [pow_wb];exact h),hz,List.length_replicate,Nat.add_zero]
theorem bt_inj{V:Int}{N M:Nat}(hN:N<2 ^ wd V)(hM:M<2 ^ wd V)(h:bt V N=bt V M):N=M:=by
 have:=congrArg num h
 rw [num_bt hN,num_bt hM] at this
 exact Nat.eq_of_mul_eq_mul_right (Nat.pow_pos (by omega)) this
theorem bt_right{V:Int}(hf:fam V)(N:Nat):rightL V (bt V N)=true:=by
 unfold rightL
 rcases hf with rfl | rfl
 ·have:low (bt 4 N)=true:=by
   unfold low bt
   rw [show wb 4=4 from rfl,List.drop_append_of_le_length (by rw [digs_length];exact Nat.le_refl _),List.drop_of_length_le (by rw [digs_length];exact Nat.le_refl _)]
   rfl
  rw [this];rfl
 ·rfl
theorem width_bt{V:Int}(hf:fam V)(N:Nat):widthL V (bt V N)=wd V:=by
 unfold widthL wd
 rw [bt_right hf,if_pos rfl]
theorem right_is{V:Int}{l:List UInt8}(hl:l.length=16)(h:rightL V l=true):fam V∧∃ N,N<2 ^ wd V∧l=bt V N:=by
 rcases right_cases h with rfl | ⟨rfl,hlow⟩
 ·refine ⟨.inr rfl,num l,?_,?_⟩
  ·have:=num_lt l;rw [hl] at this
   rw [←pow_wb];exact this
  ·have:=digs_num l
   rw [hl] at this
   show l=digs 16 (num l)++[]
   rw [List.append_nil,this]
 ·refine ⟨.inl rfl,num (l.take 4),?_,?_⟩
  ·have:=num_lt (l.take 4)
   rw [List.length_take,hl] at this
   rw [←pow_wb];exact this
  ·have h4:=(low_iff hl).1 hlow
   have:=digs_num (l.take 4)
   rw [List.length_take,hl] at this
   show l=digs 4 (num (l.take 4))++List.replicate 12 0
   rw [show digs 4 (num (l.take 4))=l.take 4 from this]
   exact h4
theorem adr_right{V:Int}(hf:fam V)(N:Nat):addr_Right (adr V N)=some true∧crawlwayref10_Right (adr V N)=some true:=by
 unfold adr
 rw [right_code (bt_len V N),right_ref (bt_len V N),bt_right hf];exact ⟨rfl,rfl⟩
theorem adr_width{V:Int}(hf:fam V)(N:Nat):addr_Width (adr V N)=some (wd V:Int)∧crawlwayref10_Width (adr V N)=some (wd V:Int):=by
 unfold adr
 rw [width_code (bt_len V N),width_ref (bt_len V N),width_bt hf];exact ⟨rfl,rfl⟩
theorem adr_inj{V W:Int}{N M:Nat}(hN:N<2 ^ wd V)(hM:M<2 ^ wd W):adr V N=adr W M↔V=W∧N=M:=by
 unfold adr
 rw [mkA_inj (bt_len V N) (bt_len W M)]
 constructor
 ·rintro ⟨rfl,h⟩;exact ⟨rfl,bt_inj hN hM h⟩
 ·rintro ⟨rfl,rfl⟩;exact ⟨rfl,rfl⟩
def ltA(V:Int)(N:Nat)(W:Int)(M:Nat):Bool:=if V=W then decide (N<M) else decide (V<W)
theorem lessL_num(l k:List UInt8)(h:l.length=k.length):lessL l k=decide (num l<num k):=by
 rw [←less_cmp l k h,decide_eq_decide];exact cmp_num l k h
theorem adr_less{V W:Int}{N M:Nat}(hN:N<2 ^ wd V)(hM:M<2 ^ wd W):addr_Less (adr V N) (adr W M)=some (ltA V N W M)∧crawlwayref10_Less (adr V N) (adr W M)=some (ltA V N W M):=by
 have hk:∀ (V:Int) (N:Nat),num (unb (vb (bt V N)).toList)=num (bt V N):=fun V N=>by
  rw [vb_toList (bt_len V N)]
  congr 1
  unfold unb ob
  rw [List.map_map]
  conv=>rhs;rw [←List.map_id (bt V N)]
  apply List.map_congr_left
  intro b _
  show UInt8.ofNat ((b.toNat:Int).toNat)=b
  rw [Int.toNat_natCast];exact UInt8.ofNat_toNat
 have hn:∀ h:V=W,(num (bt V N)<num (bt W M)↔N<M):=fun h=>by
  subst h
  rw [num_bt hN,num_bt hM]
  exact Nat.mul_lt_mul_right (Nat.pow_pos (by omega))
 constructor
 ·rw [less_key]
  unfold lessK ltA adr mkA
  simp only [hk]
  split
  ·next h=>rw [decide_eq_decide.2 (hn h)]
  ·rfl
 ·unfold adr
  rw [less_ref (bt_len V N) (bt_len W M)]
  unfold lessA ltA
  rw [lessL_num _ _ (by rw [bt_len,bt_len])]
  split
  ·next h=>rw [decide_eq_decide.2 (hn h)]
  ·rfl
theorem byte_mask(Y t:Nat)(ht:t≤8):(Y/2 ^ t*2 ^ t)%256=Y%256-Y%256%2 ^ t:=by
 have:t=0∨t=1∨t=2∨t=3∨t=4∨t=5∨t=6∨t=7∨t=8:=by omega
 rcases this with rfl | rfl | rfl | rfl | rfl | rfl | rfl | rfl | rfl<;>omega
theorem byte_clear(N c s:Nat):N/2 ^ c*2 ^ c/2 ^ (8*s)%256=N/2 ^ (8*s)%256-N/2 ^ (8*s)%256%2 ^ (min (c-8*s) 8):=by
 by_cases h1:c≤8*s
 ·have e:2 ^ (8*s)=2 ^ c*2 ^ (8*s-c):=by rw [←Nat.pow_add];congr 1;omega
  rw [show min (c-8*s) 8=0 by omega,Nat.pow_zero,Nat.mod_one,Nat.sub_zero,e,←Nat.div_div_eq_div_mul,←Nat.div_div_eq_div_mul,Nat.mul_div_cancel _ (Nat.pow_pos (by omega))]
 ·have e:2 ^ c=2 ^ (8*s)*2 ^ (c-8*s):=by rw [←Nat.pow_add];congr 1;omega
  have e2:N/2 ^ c*2 ^ c/2 ^ (8*s)=N/2 ^ (8*s)/2 ^ (c-8*s)*2 ^ (c-8*s):=by
   rw [Nat.div_div_eq_div_mul,←e]
   generalize N/2 ^ c=A
   rw [e,Nat.mul_comm (2 ^ (8*s)),←Nat.mul_assoc,Nat.mul_div_cancel _ (Nat.pow_pos (by omega))]
  rw [e2]
  generalize N/2 ^ (8*s)=Y
  by_cases h2:c-8*s≤8
  ·rw [Nat.min_eq_left h2];exact byte_mask Y _ h2
  ·rw [Nat.min_eq_right (by omega),show (2:Nat) ^ 8=256 from rfl,Nat.mod_mod,Nat.sub_self]
   have:2 ^ (c-8*s)=256*2 ^ (c-8*s-8):=by rw [show (256:Nat)=2 ^ 8 from rfl,←Nat.pow_add];congr 1;omega
   rw [this,←Nat.mul_assoc,Nat.mul_right_comm]
   exact Nat.mul_mod_left _ _
theorem pow256(s:Nat):256 ^ s=2 ^ (8*s):=by rw [Nat.pow_mul]
theorem mfull_bt{V:Int}{N b:Nat}(hb:b≤wd V):mfull (bt V N) (b:Int)=bt V (N/2 ^ (wd V-b)*2 ^ (wd V-b)):=by
 refine bg_ext (by rw [mfull_len,bt_len]) (bt_len _ _) fun i hi=>?_
 rw [bg_bt]
 have hx:(bt V N)[i]? = some ((bt V N).getD i 0):=by
  rw [List.getD_eq_getElem?_getD,List.getElem?_eq_getElem (by rw [bt_len];exact hi)];rfl
 have hg:=mfull_get (bt V N) (b:Int) i
 rw [hx,Option.map_some] at hg
 rw [bg_get hg,mb_toNat]
 have hbg:((bt V N).getD i 0).toNat=bg (bt V N) i:=rfl
 rw [hbg,bg_bt]
 split
 ·next h =>
  rw [pow256,byte_clear]
  congr 3
  unfold lft
  rw [wd_wb] at hb ⊢
  omega
 ·simp
theorem aligned{N c:Nat}(h:2 ^ c ∣ N):N/2 ^ c*2 ^ c=N:=Nat.div_mul_cancel h
def prf(V:Int)(N k:Nat):S_api_Prefix:=mkP (adr V N) ((wd V-k:Nat):Int)
theorem of_adr{V:Int}(hf:fam V){N k:Nat}(hk:k≤wd V)(h:2 ^ k ∣ N):cidr_Of (adr V N) ((wd V-k:Nat):Int)=some (prf V N k,0):=by
 unfold adr
 rw [of_code (bt_len V N)]
 unfold ofP
 rw [bt_right hf,if_pos rfl,if_pos (fits_iff.2 ⟨bt_right hf N,by omega,by rw [width_bt hf];omega⟩),mfull_bt (by omega),show wd V-(wd V-k)=k by omega,aligned h]
 rfl
theorem prf_right{V:Int}(hf:fam V){N k:Nat}(hk:k≤wd V)(h:2 ^ k ∣ N):cidr_Right (prf V N k)=some true∧crawlwayref11_Right (prf V N k)=some true:=by
 have:rightP V (bt V N) ((wd V-k:Nat):Int)=true:=by
  rw [rightP_iff]
  refine ⟨⟨bt_right hf N,by omega,by rw [width_bt hf];omega⟩,?_⟩
  rw [mfull_bt (by omega),show wd V-(wd V-k)=k by omega,aligned h]
 unfold prf adr
 rw [cright_code (bt_len V N),cright_ref (bt_len V N),this];exact ⟨rfl,rfl⟩
theorem right_prf{V b:Int}{l:List UInt8}(hl:l.length=16)(h:rightP V l b=true):fam V∧∃ N k,N<2 ^ wd V∧k≤wd V∧2 ^ k ∣ N∧mkP (mkA V l) b=prf V N k:=by
 obtain ⟨⟨h1,h2,h3⟩,h4⟩:=rightP_iff.1 h
 obtain ⟨hf,N,hN,rfl⟩:=right_is hl h1
 rw [width_bt hf] at h3
 obtain ⟨m,rfl⟩:=Int.eq_ofNat_of_zero_le h2
 have hm:m≤wd V:=by omega
 refine ⟨hf,N,wd V-m,hN,by omega,?_,?_⟩
 ·have h5:mfull (bt V N) (m:Int)=bt V N:=h4
  rw [mfull_bt hm] at h5
  have h6:N/2 ^ (wd V-m)*2 ^ (wd V-m)<2 ^ wd V:=Nat.lt_of_le_of_lt (Nat.div_mul_le_self _ _) hN
  exact ⟨N/2 ^ (wd V-m),by rw [Nat.mul_comm];exact (bt_inj h6 hN h5).symm⟩
 ·unfold prf adr
  rw [show wd V-(wd V-m)=m by omega]
end Go.Proofs.Ytahlbjmafceoeaa.Agg
namespace Go.Proofs.Ytahlbjmafceoeaa.Agg
open E Go.RowKit Adr Cid
def zA:S_api_Addr:={ f_V:=(0:Int),f_B:=(Vector.replicate 16 (0:Int):(Vector Int 16)) }
theorem set_mkA{V:Int}{l:List UInt8}(hl:l.length=16)(i:Nat)(c:UInt8):({ mkA V l with f_B:=vset (mkA V l).f_B (i:Int) (c.toNat:Int) }:S_api_Addr)=mkA V (l.set i c):=by
 show ({ f_V:=V,f_B:=vset (vb l) (i:Int) (c.toNat:Int) }:S_api_Addr)=_
 rw [vset_vb hl];rfl
theorem get_mkA{V:Int}{l:List UInt8}(hl:l.length=16)(i:Nat)(hi:i<16):vget (mkA V l).f_B (i:Int)=(bg l i:Int):=vget_vb hl i hi
theorem ofNat_toNat{n:Nat}(h:n<256):(UInt8.ofNat n).toNat=n:=by rw [UInt8.toNat_ofNat'];exact Nat.mod_eq_of_lt h
theorem bg_mid(p:List UInt8)(x:UInt8)(t:List UInt8):bg (p++x::t) p.length=x.toNat:=by simp [bg]
theorem set_mid(p:List UInt8)(x y:UInt8)(t:List UInt8):(p++x::t).set p.length y=p++y::t:=by simp
theorem next_loop(V:Int):∀ (i n:Nat) (tl:List UInt8),tl.length=16-i→i≤16→n<256 ^ i →
  aggregate_Next.l0 ((i:Int)-1) (mkA V (digs i n++tl))=some (if n+1<256 ^ i then .ret (mkA V (digs i (n+1)++tl),true) else .nx ()) ∧
  crawlwayref53_Next.l0 ((i:Int)-1) (mkA V (digs i n++tl))=some (if n+1<256 ^ i then .ret (mkA V (digs i (n+1)++tl),true) else .nx ())
 | 0,n,tl,ht,hi,hn=>by
  have hd:decide (((0:Nat):Int)-1≥0)=false:=by decide
  rw [aggregate_Next.l0.eq_def,crawlwayref53_Next.l0.eq_def,hd,if_neg Bool.false_ne_true,if_neg Bool.false_ne_true,if_neg (by simp)];exact ⟨rfl,rfl⟩
 | i+1,n,tl,ht,hi,hn=>by
  have e1:(((i+1:Nat):Int)-1)=(i:Int):=by omega
  have hd:decide ((i:Int)≥0)=true:=decide_eq_true (by omega)
  have hg:(0:Int)≤(i:Int)∧(i:Int)<16:=by omega
  have hp:digs (i+1) n++tl=digs i (n/256)++UInt8.ofNat (n%256)::tl:=by rw [digs,List.append_assoc];rfl
  have hpl:(digs i (n/256)).length=i:=digs_length _ _
  have hl:(digs i (n/256)++UInt8.ofNat (n%256)::tl).length=16:=by rw [List.length_append,List.length_cons,hpl,ht];omega
  have hx:(UInt8.ofNat (n%256)).toNat=n%256:=ofNat_toNat (Nat.mod_lt _ (by omega))
  have hbg:bg (digs i (n/256)++UInt8.ofNat (n%256)::tl) i=n%256:=by
   have:=bg_mid (digs i (n/256)) (UInt8.ofNat (n%256)) tl
   rw [hpl,hx] at this;exact this
  have hset:∀ y,(digs i (n/256)++UInt8.ofNat (n%256)::tl).set i y=digs i (n/256)++y::tl:=fun y=>by
   have:=set_mid (digs i (n/256)) (UInt8.ofNat (n%256)) y tl
   rw [hpl] at this;exact this
  have hwi:wr .i64 ((i:Int)-1)=(i:Int)-1:=wr_i64 (by omega) (by omega)
  rw [Nat.pow_succ] at hn
  rw [e1,hp,aggregate_Next.l0.eq_def,crawlwayref53_Next.l0.eq_def,hd,if_pos rfl,if_pos hg,if_pos hg,if_pos hg,if_pos rfl,if_pos hg,get_mkA hl i (by omega),hbg,hwi]
  by_cases h255:n%256=255
  ·have hw:wr .u8 (((n%256:Nat):Int)+1)=(((0:UInt8).toNat:Nat):Int):=by rw [wr_u8_mod,h255];rfl
   have h0:(0:Int)=(((0:UInt8).toNat:Nat):Int):=rfl
   have hlt:decide (((n%256:Nat):Int)<255)=false:=decide_eq_false (by omega)
   rw [hw,set_mkA hl,hset,hlt,if_neg Bool.false_ne_true,if_pos hg]
   have hl2:(digs i (n/256)++0::tl).length=16:=by rw [List.length_append,List.length_cons,hpl,ht];omega
   have hb0:bg (digs i (n/256)++0::tl) i=0:=by
    have:=bg_mid (digs i (n/256)) 0 tl
    rw [hpl] at this;exact this
   rw [get_mkA hl2 i (by omega),hb0]
   have hne:(((0:Nat):Int) != (0:Int))=false:=rfl
   rw [hne,if_neg Bool.false_ne_true]
   conv=>rhs;lhs;rw [show (0:Int)=(((0:UInt8).toNat:Nat):Int) from rfl]
   rw [set_mkA hl,hset]
   obtain ⟨i1,i2⟩:=next_loop V i (n/256) (0::tl) (by rw [List.length_cons,ht];omega) (by omega) (by omega)
   rw [i1,i2]
   have hd1:digs (i+1) (n+1)++tl=digs i (n/256+1)++0::tl:=by
    rw [digs,show (n+1)/256=n/256+1 by omega,show (n+1)%256=0 by omega,List.append_assoc];rfl
   rw [hd1,Nat.pow_succ]
   have:(n/256+1<256 ^ i)↔(n+1<256 ^ i*256):=by omega
   simp only [this,and_self]
  ·have hb:n%256<255:=by omega
   have hw:wr .u8 (((n%256:Nat):Int)+1)=(((UInt8.ofNat (n%256+1)).toNat:Nat):Int):=by
    rw [wr_u8_mod,ofNat_toNat (by omega)];omega
   have hlt:decide (((n%256:Nat):Int)<255)=true:=decide_eq_true (by omega)
   rw [hw,set_mkA hl,hset,hlt,if_pos rfl,if_pos hg,if_pos hg]
   have hl2:(digs i (n/256)++UInt8.ofNat (n%256+1)::tl).length=16:=by rw [List.length_append,List.length_cons,hpl,ht];omega
   have hb0:bg (digs i (n/256)++UInt8.ofNat (n%256+1)::tl) i=n%256+1:=by
    have:=bg_mid (digs i (n/256)) (UInt8.ofNat (n%256+1)) tl
    rw [hpl,ofNat_toNat (by omega)] at this;exact this
   rw [get_mkA hl2 i (by omega),hb0]
   have hne:(((n%256+1:Nat):Int) != (0:Int))=true:=by rw [bne_iff_ne];omega
   rw [hne,if_pos rfl]
   have hd1:digs (i+1) (n+1)++tl=digs i (n/256)++UInt8.ofNat (n%256+1)::tl:=by
    rw [digs,show (n+1)/256=n/256 by omega,show (n+1)%256=n%256+1 by omega,List.append_assoc];rfl
   rw [hd1,Nat.pow_succ,if_pos (by omega)]
   exact ⟨rfl,rfl⟩
def nx(V:Int)(N:Nat):S_api_Addr×Bool:=if N+1<2 ^ wd V then (adr V (N+1),true) else (zA,false)
theorem next_adr{V:Int}(hf:fam V){N:Nat}(hN:N<2 ^ wd V):aggregate_Next (adr V N)=some (nx V N)∧crawlwayref53_Next (adr V N)=some (nx V N):=by
 obtain ⟨w1,w2⟩:=adr_width hf N
 have hi:wr .i64 ((ishr .i64 (wd V:Int) 3)-1)=(wb V:Int)-1:=by
  have e:=ishr_nat .i64 (wd V) 3 (by decide)
  rw [show ((3:Nat):Int)=3 from rfl] at e
  rw [e,wd_wb,show (8*wb V)/2 ^ 3=wb V by omega]
  exact wr_i64 (by have:=wb_le V;omega) (by have:=wb_le V;omega)
 have hi2:wr .i64 ((wr .i64 (Int.tdiv (wd V:Int) 8))-1)=(wb V:Int)-1:=by
  have e:Int.tdiv (wd V:Int) 8=(wb V:Int):=by rw [wd_wb,Int.tdiv_eq_ediv_of_nonneg (by omega)];omega
  have:=wb_le V
  rw [e,wr_i64 (x:=(wb V:Int)) (by omega) (by omega)]
  exact wr_i64 (by omega) (by omega)
 obtain ⟨l1,l2⟩:=next_loop V (wb V) N (List.replicate (16-wb V) 0) (by rw [List.length_replicate]) (wb_le V) (by rw [pow_wb];exact hN)
 unfold aggregate_Next crawlwayref53_Next
 rw [w1,w2,bindM_some,bindM_some,hi,hi2]
 unfold adr bt at *
 rw [l1,l2,pow_wb,bindM_some]
 unfold nx adr bt
 by_cases h:N+1<2 ^ wd V
 ·rw [if_pos h,if_pos h];exact ⟨rfl,rfl⟩
 ·rw [if_neg h,if_neg h];exact ⟨rfl,rfl⟩
theorem byte_ones(c s:Nat):(2 ^ c-1)/2 ^ (8*s)%256=2 ^ (min (c-8*s) 8)-1:=by
 apply Nat.eq_of_testBit_eq
 intro j
 rw [show (256:Nat)=2 ^ 8 from rfl,Nat.testBit_mod_two_pow,Nat.testBit_div_two_pow,Nat.testBit_two_pow_sub_one,Nat.testBit_two_pow_sub_one]
 rw [Bool.eq_iff_iff,Bool.and_eq_true,decide_eq_true_iff,decide_eq_true_iff,decide_eq_true_iff]
 omega
theorem add_or{N c a:Nat}(h:2 ^ c ∣ N)(ha:a<2 ^ c):N+a=N ||| a:=by
 obtain ⟨m,rfl⟩:=h
 exact Nat.two_pow_add_eq_or_of_lt ha m
theorem byte_or(x y s:Nat):(x ||| y)/2 ^ (8*s)%256=x/2 ^ (8*s)%256 ||| y/2 ^ (8*s)%256:=by
 apply Nat.eq_of_testBit_eq
 intro j
 rw [show (256:Nat)=2 ^ 8 from rfl]
 simp only [Nat.testBit_or,Nat.testBit_mod_two_pow,Nat.testBit_div_two_pow]
 cases decide (j<8)<;>simp
theorem get_bt{V:Int}{N i:Nat}(hi:i<wb V):(bt V N)[i]? = some (UInt8.ofNat (N/2 ^ (8*(wb V-1-i))%256)):=by
 unfold bt
 rw [List.getElem?_append_left (by rw [digs_length];exact hi),digs_get _ _ _ hi,pow256]
theorem last_own{V:Int}{k i:Nat}(hk:k≤wd V)(hi:i<wb V) :
  wr .u64 (if 8<(if wr .i64 (((wd V-k:Nat):Int)-(wr .i64 (8*(i:Int))))<0 then 0 else wr .i64 (((wd V-k:Nat):Int)-(wr .i64 (8*(i:Int))))) then 8 else (if wr .i64 (((wd V-k:Nat):Int)-(wr .i64 (8*(i:Int))))<0 then 0 else wr .i64 (((wd V-k:Nat):Int)-(wr .i64 (8*(i:Int))))))=((8-min (k-8*(wb V-1-i)) 8:Nat):Int):=by
 have hw:=wd_le V
 have hb:=wb_le V
 have hwb:=wd_wb V
 rw [wr_i64 (x:=8*(i:Int)) (by omega) (by omega),wr_i64 (by omega) (by omega)]
 have:(if 8<(if ((wd V-k:Nat):Int)-8*(i:Int)<0 then 0 else ((wd V-k:Nat):Int)-8*(i:Int)) then 8 else (if ((wd V-k:Nat):Int)-8*(i:Int)<0 then 0 else ((wd V-k:Nat):Int)-8*(i:Int)))=((8-min (k-8*(wb V-1-i)) 8:Nat):Int):=by
  split
  ·split at *<;>omega
  ·split<;>omega
 rw [this]
 exact wr_u64 (by omega) (by omega)
theorem last_loop{V:Int}{N k:Nat}(hk:k≤wd V)(h:2 ^ k ∣ N)(b:Int)(hb:b=((wd V-k:Nat):Int))(x:S_api_Prefix)(hx:x.f_Bits=b):∀ (f i:Nat),i+f=wb V →
  aggregate_last.l0 x (wd V:Int) (i:Int) (mkA V ((bt V (N+2 ^ k-1)).take i++(bt V N).drop i))=some (adr V (N+2 ^ k-1))
 | 0,i,hf=>by
  have e:ishr .i64 (wd V:Int) 3=(wb V:Int):=by
   have e:=ishr_nat .i64 (wd V) 3 (by decide)
   rw [show ((3:Nat):Int)=3 from rfl] at e
   rw [e,wd_wb,show (8*wb V)/2 ^ 3=wb V by omega]
  have hd:decide ((i:Int)<ishr .i64 (wd V:Int) 3)=false:=by rw [e];exact decide_eq_false (by omega)
  rw [aggregate_last.l0.eq_def,hd,if_neg Bool.false_ne_true]
  have hi:i=wb V:=by omega
  subst hi
  have:(bt V (N+2 ^ k-1)).take (wb V)++(bt V N).drop (wb V)=bt V (N+2 ^ k-1):=by
   unfold bt
   rw [List.take_append_of_le_length (by rw [digs_length];exact Nat.le_refl _),List.take_of_length_le (by rw [digs_length];exact Nat.le_refl _),List.drop_append_of_le_length (by rw [digs_length];exact Nat.le_refl _),List.drop_of_length_le (by rw [digs_length];exact Nat.le_refl _)]
   rfl
  rw [this];rfl
 | f+1,i,hf=>by
  have e:ishr .i64 (wd V:Int) 3=(wb V:Int):=by
   have e:=ishr_nat .i64 (wd V) 3 (by decide)
   rw [show ((3:Nat):Int)=3 from rfl] at e
   rw [e,wd_wb,show (8*wb V)/2 ^ 3=wb V by omega]
  have hwb:=wb_le V
  have hd:decide ((i:Int)<ishr .i64 (wd V:Int) 3)=true:=by rw [e];exact decide_eq_true (by omega)
  have hg:(0:Int)≤(i:Int)∧(i:Int)<16:=by omega
  have hib:i<wb V:=by omega
  have hA:(bt V (N+2 ^ k-1)).length=(bt V N).length:=by rw [bt_len,bt_len]
  have hl:((bt V (N+2 ^ k-1)).take i++(bt V N).drop i).length=16:=by rw [List.length_append,List.length_take,List.length_drop,bt_len,bt_len];omega
  have hbg:bg ((bt V (N+2 ^ k-1)).take i++(bt V N).drop i) i=N/2 ^ (8*(wb V-1-i))%256:=by
   unfold bg
   rw [List.getD_eq_getElem?_getD,List.getElem?_append_right (by rw [List.length_take,bt_len];omega),List.length_take,bt_len,List.getElem?_drop,show i+(i-min i 16)=i by omega,get_bt hib,Option.getD_some,UInt8.toNat_ofNat',Nat.mod_mod]
  rw [aggregate_last.l0.eq_def,hd,if_pos rfl,if_pos hg,hx,hb,last_own hk hib,if_pos (by omega),if_pos hg,get_mkA hl i (by omega),hbg]
  have hsh:ishr .u8 255 ((8-min (k-8*(wb V-1-i)) 8:Nat):Int)=((2 ^ (min (k-8*(wb V-1-i)) 8)-1:Nat):Int):=by
   have e2:=ishr_nat .u8 255 (8-min (k-8*(wb V-1-i)) 8) (by show _≤8;omega)
   rw [show ((255:Nat):Int)=255 from rfl] at e2
   rw [e2]
   congr 1
   generalize hm:min (k-8*(wb V-1-i)) 8=m
   have:m=0∨m=1∨m=2∨m=3∨m=4∨m=5∨m=6∨m=7∨m=8:=by omega
   rcases this with rfl | rfl | rfl | rfl | rfl | rfl | rfl | rfl | rfl<;>rfl
  have hor:ior .u8 ((N/2 ^ (8*(wb V-1-i))%256:Nat):Int) ((2 ^ (min (k-8*(wb V-1-i)) 8)-1:Nat):Int)=(((UInt8.ofNat ((N+2 ^ k-1)/2 ^ (8*(wb V-1-i))%256)).toNat:Nat):Int):=by
   have hp:2 ^ (min (k-8*(wb V-1-i)) 8)≤2 ^ 8:=Nat.pow_le_pow_right (by omega) (by omega)
   rw [ior_nat .u8 rfl _ _ (by show _<256;omega) (by show _<256;omega),ofNat_toNat (Nat.mod_lt _ (by omega))]
   congr 1
   have hpos:0<2 ^ k:=Nat.pow_pos (by omega)
   rw [←byte_ones,←byte_or,←add_or h (by omega)]
   congr 2
   omega
  rw [hsh,hor,set_mkA hl,set_step _ _ i _ hA (get_bt hib)]
  have hwi:wr .i64 ((i:Int)+1)=((i+1:Nat):Int):=by rw [wr_i64 (by omega) (by omega)];omega
  rw [hwi]
  exact last_loop hk h b hb x hx f (i+1) (by omega)
theorem last_prf{V:Int}(hf:fam V){N k:Nat}(hk:k≤wd V)(h:2 ^ k ∣ N):aggregate_last (prf V N k)=some (adr V (N+2 ^ k-1)):=by
 unfold aggregate_last
 show (addr_Width (adr V N)>>=fun t4=>aggregate_last.l0 (prf V N k) t4 0 (adr V N)>>=fun q5=>some q5)=_
 rw [(adr_width hf N).1,bindM_some]
 have:=last_loop hk h _ rfl (prf V N k) rfl (wb V) 0 (by omega)
 rw [List.take_zero,List.drop_zero,List.nil_append] at this
 show (aggregate_last.l0 (prf V N k) (wd V:Int) ((0:Nat):Int) (mkA V (bt V N))>>=_)=_
 rw [this];rfl
end Go.Proofs.Ytahlbjmafceoeaa.Agg
namespace Go.Proofs.Ytahlbjmafceoeaa.Agg
open E Go.RowKit Adr Cid
theorem refl1_loop(i:Nat)(hi:i≤1000):∀ (f j n:Nat),j+f=i%8→n<256→crawlwayref53_last.l1 (i:Int) (n:Int) (j:Int)=some ((n/2 ^ f:Nat):Int)
 | 0,j,n,hf,hn=>by
  have e:Int.tmod (i:Int) 8=((i%8:Nat):Int):=by rw [Int.tmod_eq_emod_of_nonneg (by omega)];omega
  rw [crawlwayref53_last.l1.eq_def,e,decide_eq_false (by omega),if_neg Bool.false_ne_true,Nat.pow_zero,Nat.div_one]
 | f+1,j,n,hf,hn=>by
  have e:Int.tmod (i:Int) 8=((i%8:Nat):Int):=by rw [Int.tmod_eq_emod_of_nonneg (by omega)];omega
  have e2:wr .i64 (Int.tdiv (n:Int) 2)=((n/2:Nat):Int):=by
   rw [Int.tdiv_eq_ediv_of_nonneg (by omega),wr_i64 (by omega) (by omega)];omega
  have e3:wr .i64 ((j:Int)+1)=((j+1:Nat):Int):=by rw [wr_i64 (by omega) (by omega)];omega
  rw [crawlwayref53_last.l1.eq_def,e,decide_eq_true (by omega),if_pos rfl,e2,e3,refl1_loop i hi f (j+1) (n/2) (by omega) (by omega),Nat.div_div_eq_div_mul,Nat.pow_succ,Nat.mul_comm 2]
theorem byte_at(e s:Nat):2 ^ e/2 ^ (8*s)%256=if 8*s≤e∧e<8*s+8 then 2 ^ (e-8*s) else 0:=by
 apply Nat.eq_of_testBit_eq
 intro j
 rw [show (256:Nat)=2 ^ 8 from rfl,Nat.testBit_mod_two_pow,Nat.testBit_div_two_pow,Nat.testBit_two_pow]
 split
 ·rw [Nat.testBit_two_pow,Bool.eq_iff_iff,Bool.and_eq_true,decide_eq_true_iff,decide_eq_true_iff,decide_eq_true_iff];omega
 ·rw [Nat.zero_testBit,Bool.eq_iff_iff,Bool.and_eq_true,decide_eq_true_iff,decide_eq_true_iff]
  constructor
  ·rintro ⟨_,_⟩;omega
  ·intro h;cases h
theorem bg_add{V:Int}{X e i:Nat}(hX:2 ^ (e+1) ∣ X)(hi:i<wb V) :
  bg (bt V (X+2 ^ e)) i=if 8*(wb V-1-i)≤e∧e<8*(wb V-1-i)+8 then bg (bt V X) i+2 ^ (e-8*(wb V-1-i)) else bg (bt V X) i:=by
 rw [bg_bt,bg_bt,if_pos hi,if_pos hi,pow256,add_or (c:=e+1) hX (Nat.pow_lt_pow_right (by omega) (by omega)),byte_or,byte_at]
 generalize wb V-1-i=s
 split
 ·next h =>
  have h1:2 ^ (e-8*s+1) ∣ X/2 ^ (8*s)%256:=by
   have h2:2 ^ (e-8*s+1) ∣ X/2 ^ (8*s):=by
    refine (Nat.dvd_div_iff_mul_dvd ?_).2 ?_
    ·exact Nat.dvd_trans (Nat.pow_dvd_pow 2 (by omega)) hX
    ·rw [←Nat.pow_add,show 8*s+(e-8*s+1)=e+1 by omega];exact hX
   refine (Nat.dvd_mod_iff ?_).2 h2
   exact Nat.pow_dvd_pow 2 (show e-8*s+1≤8 by omega)
  exact (add_or h1 (Nat.pow_lt_pow_right (by omega) (by omega))).symm
 ·rw [Nat.or_zero]
theorem reflast_loop{V:Int}{N k:Nat}(hk:k≤wd V)(h:2 ^ k ∣ N):∀ (f i:Nat),i+f=wd V→wd V-k≤i →
  crawlwayref53_last.l0 (wd V:Int) (i:Int) (adr V (N+2 ^ k-2 ^ (wd V-i)))=some (adr V (N+2 ^ k-1))
 | 0,i,hf,hi=>by
  have hw:=wd_le V
  rw [crawlwayref53_last.l0.eq_def,decide_eq_false (by omega),if_neg Bool.false_ne_true,show wd V-i=0 by omega,Nat.pow_zero]
 | f+1,i,hf,hi=>by
  have hw:=wd_le V
  have hwb:=wd_wb V
  have hb:=wb_le V
  have hd:decide ((i:Int)<(wd V:Int))=true:=decide_eq_true (by omega)
  have e8:wr .i64 (Int.tdiv (i:Int) 8)=((i/8:Nat):Int):=by rw [Int.tdiv_eq_ediv_of_nonneg (by omega),wr_i64 (by omega) (by omega)];omega
  have hg:(0:Int)≤((i/8:Nat):Int)∧((i/8:Nat):Int)<16:=by omega
  have hl1:=refl1_loop i (by omega) (i%8) 0 128 (by omega) (by omega)
  have hl1':crawlwayref53_last.l1 (i:Int) 128 0=some ((128/2 ^ (i%8):Nat):Int):=hl1
  obtain ⟨e,he⟩:∃ e,e=wd V-1-i:=⟨_,rfl⟩
  have hpe:2 ^ (wd V-i)=2 ^ e+2 ^ e:=by rw [show wd V-i=e+1 by omega,Nat.pow_succ];omega
  have hle:2 ^ (wd V-i)≤2 ^ k:=Nat.pow_le_pow_right (by omega) (by omega)
  have hX:2 ^ (e+1) ∣ N+2 ^ k-2 ^ (wd V-i):=by
   rw [show e+1=wd V-i by omega]
   refine Nat.dvd_sub ?_ (Nat.dvd_refl _)
   exact Nat.dvd_add (Nat.dvd_trans (Nat.pow_dvd_pow 2 (by omega)) h) (Nat.pow_dvd_pow 2 (by omega))
  have hnext:N+2 ^ k-2 ^ (wd V-(i+1))=N+2 ^ k-2 ^ (wd V-i)+2 ^ e:=by
   rw [hpe,show wd V-(i+1)=e by omega];omega
  rw [crawlwayref53_last.l0.eq_def,hd,if_pos rfl,hl1',bindM_some,e8,if_pos hg,if_pos hg]
  generalize hXX:N+2 ^ k-2 ^ (wd V-i)=X at hX hnext
  have hq:i/8<wb V:=by omega
  have hs:8*(wb V-1-i/8)≤e∧e<8*(wb V-1-i/8)+8:=by omega
  have hbit:=bg_add (V:=V) hX hq
  rw [if_pos hs,show e-8*(wb V-1-i/8)=7-i%8 by omega] at hbit
  have h128:128/2 ^ (i%8)=2 ^ (7-i%8):=by
   have:i%8=0∨i%8=1∨i%8=2∨i%8=3∨i%8=4∨i%8=5∨i%8=6∨i%8=7:=by omega
   rcases this with h | h | h | h | h | h | h | h<;>rw [h]<;>rfl
  have hsmall:2 ^ (7-i%8)≤2 ^ 7:=Nat.pow_le_pow_right (by omega) (by omega)
  have hlt:=bg_lt (bt V (X+2 ^ e)) (i/8)
  have hset:({ adr V X with f_B:=vset (adr V X).f_B ((i/8:Nat):Int) (wr .u8 ((vget (adr V X).f_B ((i/8:Nat):Int))+(wr .u8 ((128/2 ^ (i%8):Nat):Int)))) }:S_api_Addr)=adr V (X+2 ^ e):=by
   have hw1:wr .u8 ((128/2 ^ (i%8):Nat):Int)=((2 ^ (7-i%8):Nat):Int):=by rw [h128];clear h128;exact wr_u8 (Int.natCast_nonneg _) (by omega)
   have hgx:vget (adr V X).f_B ((i/8:Nat):Int)=(bg (bt V X) (i/8):Int):=get_mkA (bt_len V X) _ (by omega)
   rw [hw1,hgx]
   have hw2:wr .u8 ((bg (bt V X) (i/8):Int)+((2 ^ (7-i%8):Nat):Int))=(((UInt8.ofNat (bg (bt V (X+2 ^ e)) (i/8))).toNat:Nat):Int):=by
    rw [ofNat_toNat hlt,hbit]
    clear hw1 h128 hl1 hl1'
    generalize 2 ^ (7-i%8)=t at hbit hsmall ⊢
    rw [wr_u8 (by omega) (by omega)];omega
   rw [hw2]
   show ({ mkA V (bt V X) with f_B:=vset (mkA V (bt V X)).f_B ((i/8:Nat):Int) _ }:S_api_Addr)=_
   rw [set_mkA (bt_len V X)]
   unfold adr
   congr 1
   refine bg_ext (by rw [List.length_set,bt_len]) (bt_len _ _) fun j hj=>?_
   by_cases hji:i/8=j
   ·subst hji
    unfold bg
    rw [List.getD_eq_getElem?_getD,List.getElem?_set_self (by rw [bt_len];omega),Option.getD_some]
    exact ofNat_toNat hlt
   ·have:bg ((bt V X).set (i/8) (UInt8.ofNat (bg (bt V (X+2 ^ e)) (i/8)))) j=bg (bt V X) j:=by
     unfold bg
     rw [List.getD_eq_getElem?_getD,List.getElem?_set_ne hji,←List.getD_eq_getElem?_getD]
    rw [this]
    by_cases hjb:j<wb V
    ·rw [bg_add hX hjb,if_neg (by omega)]
    ·rw [bg_bt,bg_bt,if_neg hjb,if_neg hjb]
  rw [hset]
  have hwi:wr .i64 ((i:Int)+1)=((i+1:Nat):Int):=by rw [wr_i64 (by omega) (by omega)];omega
  rw [hwi,←hnext]
  exact reflast_loop hk h f (i+1) (by omega) (by omega)
theorem reflast_prf{V:Int}(hf:fam V){N k:Nat}(hk:k≤wd V)(h:2 ^ k ∣ N):crawlwayref53_last (prf V N k)=some (adr V (N+2 ^ k-1)):=by
 unfold crawlwayref53_last
 show (crawlwayref10_Width (adr V N)>>=fun t4=>crawlwayref53_last.l0 t4 ((wd V-k:Nat):Int) (adr V N)>>=fun q5=>some q5)=_
 rw [(adr_width hf N).2,bindM_some]
 have:=reflast_loop hk h k (wd V-k) (by omega) (Nat.le_refl _)
 rw [show wd V-(wd V-k)=k by omega,Nat.add_sub_cancel] at this
 rw [this];rfl
end Go.Proofs.Ytahlbjmafceoeaa.Agg
namespace Go.Proofs.Ytahlbjmafceoeaa.Agg
open E Go.RowKit Adr Cid
def rng(V:Int)(N M:Nat):S_aggregate_Range:=⟨adr V N,adr V M⟩
end Go.Proofs.Ytahlbjmafceoeaa.Agg
namespace Go.Proofs.Ytahlbjmafceoeaa.Agg
open E Go.RowKit Adr Cid
theorem lget_mid{α:Type}[Inhabited α](A:List α)(x:α)(B:List α):lget (A++x::B) (A.length:Int)=x:=by simp [lget]
theorem in_mid{α:Type}(A:List α)(x:α)(B:List α):(0:Int)≤(A.length:Int)∧(A.length:Int)<((A++x::B).length:Int):=by simp;omega
theorem wr_mid{α:Type}(A:List α)(x:α)(h:A.length≤1000000):wr .i64 ((A.length:Int)+1)=((A++[x]).length:Int):=by rw [wr_i64 (by omega) (by omega)];simp
def rgt(x:S_api_Prefix):Bool:=(cidr_Right x).getD false
theorem lessP_prf{V W:Int}{N M k j:Nat}(hN:N<2 ^ wd V)(hM:M<2 ^ wd W):lessP (prf V N k) (prf W M j)=if V=W∧N=M then decide (((wd V-k:Nat):Int)<((wd W-j:Nat):Int)) else ltA V N W M:=by
 have h1:=(adr_less hN hM).1
 rw [less_key] at h1
 unfold lessP
 show (if adr V N=adr W M then decide (((wd V-k:Nat):Int)<((wd W-j:Nat):Int)) else lessK (adr V N) (adr W M))=_
 simp only [adr_inj hN hM]
 split
 ·rfl
 ·exact Option.some.inj h1
theorem less11{V W:Int}{N M k j:Nat}(hN:N<2 ^ wd V)(hM:M<2 ^ wd W):crawlwayref11_Less (prf V N k) (prf W M j)=some (lessP (prf V N k) (prf W M j)):=by
 rw [lessP_prf hN hM]
 unfold crawlwayref11_Less
 show (if (!decide (adr V N=adr W M))=true then (crawlwayref10_Less (adr V N) (adr W M)>>=fun t4=>some t4) else (some (decide (((wd V-k:Nat):Int)<((wd W-j:Nat):Int)))))=_
 rw [(adr_less hN hM).2,bindM_some]
 by_cases h:V=W∧N=M
 ·rw [if_pos h,decide_eq_true ((adr_inj hN hM).2 h),if_neg (by decide)]
 ·rw [if_neg h,decide_eq_false (mt (adr_inj hN hM).1 h),if_pos (by decide)]
structure Good (t:Int×Nat×Nat):Prop where
 fam:fam t.1
 lt:t.2.1<2 ^ wd t.1
 le:t.2.2≤wd t.1
 dvd:2 ^ t.2.2 ∣ t.2.1
def pf(t:Int×Nat×Nat):S_api_Prefix:=prf t.1 t.2.1 t.2.2
theorem okb_vb{l:List UInt8}(hl:l.length=16):okb (vb l)=true:=by
 unfold okb
 rw [vb_toList hl]
 unfold ob
 rw [List.all_map]
 refine List.all_eq_true.2 fun b _=>?_
 have:=b.toNat_lt
 simp;omega
theorem ok_prf(V:Int)(N k:Nat):okP (prf V N k):=okb_vb (bt_len V N)
def IsPf(x:S_api_Prefix):Prop:=∃ t,Good t∧x=pf t
theorem IsPf.ok{x:S_api_Prefix}(h:IsPf x):okP x:=by obtain ⟨t,_,rfl⟩:=h;exact ok_prf _ _ _
theorem IsPf.less{x y:S_api_Prefix}(hx:IsPf x)(hy:IsPf y):crawlwayref11_Less x y=some (lessP x y):=by
 obtain ⟨t,ht,rfl⟩:=hx
 obtain ⟨u,hu,rfl⟩:=hy
 exact less11 ht.lt hu.lt
end Go.Proofs.Ytahlbjmafceoeaa.Agg
namespace Go.Proofs.Ytahlbjmafceoeaa.Agg
open E Go.RowKit Adr Cid
abbrev Rg:=Int×Nat×Nat
structure GoodR (r:Rg):Prop where
 fam:fam r.1
 le:r.2.1≤r.2.2
 lt:r.2.2<2 ^ wd r.1
def toR(r:Rg):S_aggregate_Range:=rng r.1 r.2.1 r.2.2
def endT(t:Int×Nat×Nat):Nat:=t.2.1+2 ^ t.2.2-1
theorem Good.end_lt{t:Int×Nat×Nat}(h:Good t):endT t<2 ^ wd t.1:=by
 obtain ⟨V,N,k⟩:=t
 obtain ⟨hf,hN,hk,hd⟩:=h
 simp only at hf hN hk hd
 unfold endT
 simp only
 obtain ⟨m,rfl⟩:=hd
 have hp:0<2 ^ k:=Nat.pow_pos (by omega)
 have e:2 ^ wd V=2 ^ k*2 ^ (wd V-k):=by rw [←Nat.pow_add];congr 1;omega
 rw [e] at hN ⊢
 have h1:=Nat.lt_of_mul_lt_mul_left hN
 have h3:2 ^ k*(m+1)≤2 ^ k*2 ^ (wd V-k):=Nat.mul_le_mul_left _ h1
 rw [Nat.mul_add,Nat.mul_one] at h3
 omega
theorem le_endT(t:Int×Nat×Nat):t.2.1≤endT t:=by
 have hp:0<2 ^ t.2.2:=Nat.pow_pos (by omega)
 unfold endT;omega
theorem last_pf{t:Int×Nat×Nat}(h:Good t):aggregate_last (pf t)=some (adr t.1 (endT t))∧crawlwayref53_last (pf t)=some (adr t.1 (endT t)):=⟨last_prf h.fam h.le h.dvd,reflast_prf h.fam h.le h.dvd⟩
theorem nx_pair{V:Int}{N:Nat}:(nx V N).2=decide (N+1<2 ^ wd V)∧(N+1<2 ^ wd V→(nx V N).1=adr V (N+1)):=by
 unfold nx
 split
 ·next h=>exact ⟨(decide_eq_true h).symm,fun _=>rfl⟩
 ·next h=>exact ⟨(decide_eq_false h).symm,fun h'=>absurd h' h⟩
end Go.Proofs.Ytahlbjmafceoeaa.Agg
namespace Go.Proofs.Ytahlbjmafceoeaa.Agg
open E Go.RowKit Adr Cid
theorem pf_inj{t u:Int×Nat×Nat}(ht:Good t)(hu:Good u)(h:pf t=pf u):t=u:=by
 obtain ⟨V,N,k⟩:=t
 obtain ⟨W,M,j⟩:=u
 have h1:adr V N=adr W M:=congrArg S_api_Prefix.f_A h
 have h2:((wd V-k:Nat):Int)=((wd W-j:Nat):Int):=congrArg S_api_Prefix.f_Bits h
 obtain ⟨rfl,rfl⟩:=(adr_inj ht.lt hu.lt).1 h1
 have h3:k≤wd V:=ht.le
 have h4:j≤wd V:=hu.le
 simp only at h2
 have:k=j:=by omega
 rw [this]
theorem ok_pf{t:Int×Nat×Nat}(h:Good t):ok_api_Prefix (pf t):=by
 obtain ⟨V,N,k⟩:=t
 have hw:=wd_le V
 refine ⟨⟨?_,?_⟩,?_⟩
 ·rcases h.fam with e | e
  ·show (Lit.int .i64 V).wf=true
   have e:V=4:=e
   rw [e];rfl
  ·show (Lit.int .i64 V).wf=true
   have e:V=6:=e
   rw [e];rfl
 ·intro x hx
  have hx:x∈(vb (bt V N)).toList:=hx
  rw [vb_toList (bt_len V N)] at hx
  obtain ⟨b,_,rfl⟩:=List.mem_map.1 hx
  have:=b.toNat_lt
  simp [Lit.wf,IntKind.min,IntKind.max,IntKind.signed,IntKind.bits]
  omega
 ·show (Lit.int .i64 ((wd V-k:Nat):Int)).wf=true
  simp [Lit.wf,IntKind.min,IntKind.max,IntKind.signed,IntKind.bits]
  omega
theorem g0:Good (4,167772160,23):=⟨.inl rfl,by decide,by decide,by decide⟩
theorem g1:Good (4,176160768,23):=⟨.inl rfl,by decide,by decide,by decide⟩
end Go.Proofs.Ytahlbjmafceoeaa.Agg
namespace Go.Proofs.Ytahlbjmafceoeaa.Agg
open E Go.RowKit Adr Cid
def LeT(t u:Int×Nat×Nat):Prop:=t.1≤u.1∧(t.1=u.1→t.2.1≤u.2.1)
theorem leT_of{t u:Int×Nat×Nat}(ht:Good t)(hu:Good u)(h:lessP (pf u) (pf t)=false):LeT t u:=by
 unfold pf at h
 rw [lessP_prf hu.lt ht.lt] at h
 by_cases e:u.1=t.1∧u.2.1=t.2.1
 ·exact ⟨by omega,fun _=>by omega⟩
 ·rw [if_neg e] at h
  unfold ltA at h
  by_cases e1:u.1=t.1
  ·rw [if_pos e1] at h
   have:=of_decide_eq_false h
   exact ⟨by omega,fun _=>by omega⟩
  ·rw [if_neg e1] at h
   have:=of_decide_eq_false h
   exact ⟨by omega,fun e2=>by omega⟩
def sp(r q:Rg):Prop:=r.1<q.1∨(r.1=q.1∧r.2.2+1<q.2.1)
def inR(W:Int)(x:Nat)(r:Rg):Prop:=W=r.1∧r.2.1≤x∧x≤r.2.2
theorem lessP_anti{t u:Int×Nat×Nat}(ht:Good t)(hu:Good u)(h1:lessP (pf t) (pf u)=false)(h2:lessP (pf u) (pf t)=false):t=u:=by
 have a:=leT_of ht hu h2
 have b:=leT_of hu ht h1
 unfold LeT at a b
 obtain ⟨V,N,k⟩:=t
 obtain ⟨W,M,j⟩:=u
 simp only at a b
 have e1:V=W:=by omega
 subst e1
 have e2:N=M:=by omega
 subst e2
 unfold pf at h1 h2
 rw [lessP_prf ht.lt hu.lt,if_pos ⟨rfl,rfl⟩] at h1
 rw [lessP_prf hu.lt ht.lt,if_pos ⟨rfl,rfl⟩] at h2
 have h3:=of_decide_eq_false h1
 have h4:=of_decide_eq_false h2
 have h5:k≤wd V:=ht.le
 have h6:j≤wd V:=hu.le
 simp only at h3 h4
 have:k=j:=by omega
 rw [this]
theorem has_pf{t:Int×Nat×Nat}(h:Good t){W:Int}(hW:fam W)(x:Nat)(hx:x<2 ^ wd W):crawlwayref11_Has (pf t) (adr W x)=some (decide (W=t.1∧t.2.1≤x∧x≤endT t)):=by
 obtain ⟨V,N,k⟩:=t
 have hr:=(prf_right h.fam h.le h.dvd).2
 unfold pf prf adr at hr ⊢
 rw [cright_ref (bt_len _ _)] at hr
 rw [has_ref (bt_len _ _) (bt_len _ _)]
 unfold hasP
 rw [Option.some.inj hr,bt_right hW,Bool.true_and,Bool.true_and]
 simp only
 congr 1
 by_cases e:W=V
 ·subst e
  have hk:k≤wd W:=h.le
  have hN:N<2 ^ wd W:=h.lt
  have hd:2 ^ k ∣ N:=h.dvd
  have hp:0<2 ^ k:=Nat.pow_pos (by omega)
  rw [mfull_bt (by omega),show wd W-(wd W-k)=k by omega,decide_eq_true rfl,Bool.true_and,decide_eq_decide]
  have hlt:x/2 ^ k*2 ^ k<2 ^ wd W:=Nat.lt_of_le_of_lt (Nat.div_mul_le_self _ _) hx
  have hdm:=Nat.div_add_mod x (2 ^ k)
  have hm:=Nat.mod_lt x hp
  rw [Nat.mul_comm] at hdm
  unfold endT
  simp only
  constructor
  ·intro e
   have e2:=bt_inj hlt hN e
   exact ⟨trivial,by omega,by omega⟩
  ·rintro ⟨_,h1,h2⟩
   obtain ⟨m,rfl⟩:=hd
   have:x/2 ^ k=m:=by
    apply Nat.div_eq_of_lt_le
    ·rw [Nat.mul_comm];exact h1
    ·rw [Nat.add_mul,Nat.one_mul,Nat.mul_comm];omega
   rw [this,Nat.mul_comm]
 ·rw [decide_eq_false e,Bool.false_and]
  exact (decide_eq_false fun h=>e h.1).symm
theorem has_wrong2{x:S_api_Prefix}(hx:ok_api_Prefix x){W:Int}{k:List UInt8}(hk:k.length=16)(h:rightL W k=false):crawlwayref11_Has x (mkA W k)=some false:=by
 obtain ⟨V,l,b,rfl,hl,_⟩:=exists_mkP x hx
 rw [has_ref hl hk]
 unfold hasP
 rw [h,Bool.false_and,Bool.and_false]
end Go.Proofs.Ytahlbjmafceoeaa.Agg
namespace Go.Proofs.Ytahlbjmafceoeaa
open E Go.RowKit _root_.Go.Proofs.Try
theorem infoF166_is:(Try.prog.info? 66).isSome=true:=by kernel_rfl
noncomputable def infoF166_v:TypeInfo:=(Try.prog.info? 66).get infoF166_is
theorem infoF166:Try.prog.info? 66=some infoF166_v:=(Option.some_get _).symm
def crawlwayref25_Find.l0(x0:List S_api_Entry)(x1:S_api_Addr)(i5:Bool)(i6:Int)(i7:S_api_Entry):Option (Bool×S_api_Entry) :=
 if (decide (i6<(x0.length:Int)))=true then (if (0:Int)≤i6∧i6<(x0.length:Int) then crawlwayref11_Has ((lget x0 i6).f_P) x1>>=fun t13=>if t13=true then (if (!i5)=true then (if (0:Int)≤i6∧i6<(x0.length:Int) then crawlwayref25_Find.l0 x0 x1 true (wr .i64 (i6+1)) (lget x0 i6) else none) else (if (0:Int)≤i6∧i6<(x0.length:Int) then if (decide (((lget x0 i6).f_P).f_Bits>i7.f_P.f_Bits))=true then (if (0:Int)≤i6∧i6<(x0.length:Int) then crawlwayref25_Find.l0 x0 x1 true (wr .i64 (i6+1)) (lget x0 i6) else none) else (crawlwayref25_Find.l0 x0 x1 i5 (wr .i64 (i6+1)) i7) else none)) else (crawlwayref25_Find.l0 x0 x1 i5 (wr .i64 (i6+1)) i7) else none) else (some (i5,i7))
 partial_fixpoint
def crawlwayref25_Find(x0:List S_api_Entry)(x1:S_api_Addr):Option (S_api_Entry×Bool) :=
 crawlwayref25_Find.l0 x0 x1 false 0 ({ f_P:=({ f_A:=({ f_V:=(0:Int),f_B:=(Vector.replicate 16 (0:Int):(Vector Int 16)) }:S_api_Addr),f_Bits:=(0:Int) }:S_api_Prefix),f_Owner:=(0:Int) }:S_api_Entry)>>=fun q4=>some (q4.2,q4.1)
theorem crawlwayref25_Find_ok(x0:List S_api_Entry)(p0_:Option Addr)(c0_:Nat)(x1:S_api_Addr)(r:S_api_Entry×Bool)(hF:crawlwayref25_Find x0 x1=some r)(w:World)(hr0:Row c_api_Entry w p0_ c0_ x0) :
    Calls Try.prog 31 #[.slice p0_ x0.length c0_,.agg (Cd.cs c_api_Addr x1).toArray] w (fun e w'=>e=.returned (.tuple #[.agg (Cd.cs c_api_Entry r.1).toArray,.bool r.2])∧Below w.heap.size w w'):=by
 unfold crawlwayref25_Find at hF
 refine ce (l:=[.slice p0_ x0.length c0_,.agg (Cd.cs c_api_Addr x1).toArray]) func31 rfl rfl ?_
 refine at_start ?_
 refine sr ?_
 refine at_box (cs:=Cd.cs c_api_Addr x1) rfl rfl rfl ?_
 intro b1
 refine al (cs:=Cd.cs c_api_Entry zv8) zeroValue66 ?_
 intro b2
 refine aa (ns ?_)
 refine al (cs:=Cd.cs c_api_Entry zv8) zeroValue66 ?_
 intro b3
 refine ns (aa (nt (qs (sr (aa (nwq [8,7,6,4,3,0] ?_))))))
 refine qb ?_
 obtain ⟨q4,hq4,hF⟩:=bM hF
 refine wq [8,7,6,4,3,0] ?_
 refine at_loop_n (B:=0) (A:=fun Y=>At 44 [(4,.pointer (some ⟨b2,0,none⟩)),(6,.pointer (some ⟨b3,0,none⟩)),(7,.bool q4.1)] (Wd w [cellsE b3 (Cd.cs c_api_Entry q4.2) 66,cellsE b2 (Cd.cs c_api_Entry zv8) 66]) Y) ?_ ?_
 ·intro K
  refine crawlwayref25_Find.l0.partial_correctness x0 x1 (motive:=fun i5 i6 i7 x=>KN (fun Y=>At 44 [(4,.pointer (some ⟨b2,0,none⟩)),(6,.pointer (some ⟨b3,0,none⟩)),(7,.bool x.1)] (Wd w [cellsE b3 (Cd.cs c_api_Entry x.2) 66,cellsE b2 (Cd.cs c_api_Entry zv8) 66]) Y) _ 0→Round (fun Y=>At 44 [(0,.slice p0_ x0.length c0_),(3,.pointer (some ⟨b1,0,none⟩)),(4,.pointer (some ⟨b2,0,none⟩)),(6,.pointer (some ⟨b3,0,none⟩)),(7,.bool i5),(8,.int .i64 i6)] (Wd w [cellsE b3 (Cd.cs c_api_Entry i7) 66,cellsE b2 (Cd.cs c_api_Entry zv8) 66,cellsE b1 (Cd.cs c_api_Addr x1) 24]) Y) _ _ _) ?_ _ _ _ _ hq4 K
  ·clear K hF
   intro g ih i5 i6 i7 x hF K
   refine at_round ?_
   refine qs (sr (am (am ?_)))
   refine aw (r_len_sl underlying54 rfl) ?_
   refine aw xl (nwq [12,8,7,6,4,3,0] ?_)
   obtain ⟨h8,hF⟩|⟨h8,hF⟩:=oi hF
   ·refine ct h8 ?_
    refine sn (qs ?_)
    refine qb ?_
    refine qs ?_
    refine at_draw (by kernel_rfl) (by kernel_rfl) (fun _ h=>h.drew) ?_
    refine atq_val rfl rfl rfl (r_move rfl) ?_
    refine atq_val rfl rfl rfl (r_move rfl) ?_
    obtain ⟨h9,hF⟩:=gd hF
    obtain ⟨b11,o12,hp10⟩:=row_ptr hr0 h9
    refine atq_val rfl rfl rfl (r_idx underlying54 sizeOf66 rfl rfl h9 hp10) ?_
    refine atq_val rfl rfl rfl (r_fieldAddr (fo:=0) underlying66 rfl rfl (fun w=>⟨_,sizeOf37 w⟩) rfl) ?_
    refine atq_val rfl rfl rfl (r_load_aggc (c:=c_api_Prefix) (z:=(lget x0 i6).f_P) isAgg37 sizeOf37 rfl (row_lens (y:=(lget x0 i6).f_P) (fun _ h=>h.below) hr0 h9 hp10 (Lens.comp lw (fun z=>{ (lget x0 i6) with f_P:=z }) (c_api_Entry_f_P (lget x0 i6))))) ?_
    refine atq_val rfl rfl rfl (r_load_aggc (c:=c_api_Addr) (z:=x1) isAgg24 sizeOf24 rfl (lens_cell (.s (.s .z)) lw)) ?_
    obtain ⟨t13,ht13,hF⟩:=bM hF
    refine atq_call func22 rfl (by kernel_rfl) rfl rfl (fun w hw=>(crawlwayref11_Has_ok _ _ _ ht13 w).mono fun _ _ h=>⟨h.1,hw.call h.2⟩) ?_
    refine atq_val rfl rfl rfl (r_move rfl) ?_
    obtain ⟨h14,hF⟩|⟨h14,hF⟩:=oi hF
    ·refine atq_fix (g:=22) rfl h14 ?_
     refine atq_guard_yes rfl rfl rfl ?_
     refine atq_val rfl rfl rfl (r_move rfl) ?_
     refine atq_guard_yes rfl rfl rfl ?_
     refine atq_val rfl rfl rfl (r_not rfl) ?_
     refine atq_guard_yes rfl rfl rfl ?_
     refine atq_val rfl rfl rfl (r_move rfl) ?_
     obtain ⟨h15,hF⟩|⟨h15,hF⟩:=oi hF
     ·refine atq_fix (g:=25) rfl h15 ?_
      refine atq_guard_no rfl rfl rfl rfl rfl ?_
      refine atq_guard_no rfl rfl rfl rfl rfl ?_
      refine atq_guard_no rfl rfl rfl rfl rfl ?_
      refine atq_guard_no rfl rfl rfl rfl rfl ?_
      refine atq_guard_no rfl rfl rfl rfl rfl ?_
      refine atq_guard_no rfl rfl rfl rfl rfl ?_
      refine atq_guard_no rfl rfl rfl rfl rfl ?_
      refine atq_guard_no rfl rfl rfl rfl rfl ?_
      refine atq_guard_no rfl rfl rfl rfl rfl ?_
      refine atq_guard_no rfl rfl rfl rfl rfl ?_
      refine atq_guard_yes rfl rfl rfl ?_
      refine atq_val rfl rfl rfl (r_pick rfl rfl rfl) ?_
      refine atq_val rfl rfl rfl (r_pick rfl rfl rfl) ?_
      refine atq_nil ?_
      refine wq [37,8,7,6,4,3,0] ?_
      refine tn ?_
      refine ct rfl ?_
      refine sr (am (am ?_))
      obtain ⟨h16,hF⟩:=gd hF
      obtain ⟨b18,o19,hp17⟩:=row_ptr hr0 h16
      refine aw (r_idx underlying54 sizeOf66 rfl rfl h16 hp17) ?_
      refine aw (r_load_aggc (c:=c_api_Entry) (z:=lget x0 i6) isAgg66 sizeOf66 rfl (row_cell (fun _ h=>h.below) hr0 h16 hp17)) ?_
      refine at_store (c:=c_api_Entry) (z:=lget x0 i6) .z lw sizeOf66 rfl rfl rfl ?_
      refine nt (qr (aa (qn (wq [8,7,6,4,3,0] ?_))))
      refine bm ?_
      refine qr (am (aw xa (aa (nwq [8,7,6,4,3,0] ?_))))
      exact at_weak_k (ih _ _ _ _ hF K) ⟨rfl,rfl,rfl,rfl,rfl,rfl,trivial⟩
     refine atq_fix (g:=25) rfl h15 ?_
     refine atq_guard_yes rfl rfl rfl ?_
     refine atq_val rfl rfl rfl (r_move rfl) ?_
     refine atq_guard_yes rfl rfl rfl ?_
     refine atq_val rfl rfl rfl (r_move rfl) ?_
     refine atq_guard_yes rfl rfl rfl ?_
     obtain ⟨h20,hF⟩:=gd hF
     obtain ⟨b22,o23,hp21⟩:=row_ptr hr0 h20
     refine atq_val rfl rfl rfl (r_idx underlying54 sizeOf66 rfl rfl h20 hp21) ?_
     refine atq_guard_yes rfl rfl rfl ?_
     refine atq_val rfl rfl rfl (r_fieldAddr (fo:=0) underlying66 rfl rfl (fun w=>⟨_,sizeOf37 w⟩) rfl) ?_
     refine atq_guard_yes rfl rfl rfl ?_
     refine atq_val rfl rfl rfl (r_fieldAddr (fo:=17) underlying37 rfl rfl (fun w=>⟨_,sizeOf3 w⟩) rfl) ?_
     refine atq_guard_yes rfl rfl rfl ?_
     refine atq_val rfl rfl rfl (r_load_cell isAgg3 rfl (row_lens0 (y:=((lget x0 i6).f_P).f_Bits) (fun _ h=>h.below) hr0 h20 hp21 (Lens.comp (Lens.comp lw (fun z=>{ (lget x0 i6) with f_P:=z }) (c_api_Entry_f_P (lget x0 i6))) (fun z=>{ (lget x0 i6).f_P with f_Bits:=z }) (c_api_Prefix_f_Bits ((lget x0 i6).f_P))) rfl)) ?_
     refine atq_guard_yes rfl rfl rfl ?_
     refine atq_val rfl rfl rfl (r_fieldAddr (fo:=0) underlying66 rfl rfl (fun w=>⟨_,sizeOf37 w⟩) rfl) ?_
     refine atq_guard_yes rfl rfl rfl ?_
     refine atq_val rfl rfl rfl (r_fieldAddr (fo:=17) underlying37 rfl rfl (fun w=>⟨_,sizeOf3 w⟩) rfl) ?_
     refine atq_guard_yes rfl rfl rfl ?_
     refine atq_val rfl rfl rfl (r_load_cell isAgg3 rfl (lens_cell0 (c:=(cInt .i64)) (y:=i7.f_P.f_Bits) .z (Lens.comp (Lens.comp lw (fun z=>{ i7 with f_P:=z }) (c_api_Entry_f_P i7)) (fun z=>{ i7.f_P with f_Bits:=z }) (c_api_Prefix_f_Bits i7.f_P)) rfl)) ?_
     refine atq_guard_yes rfl rfl rfl ?_
     refine atq_val rfl rfl rfl (r_igtr rfl rfl) ?_
     refine atq_guard_yes rfl rfl rfl ?_
     refine atq_val rfl rfl rfl (r_pick rfl rfl rfl) ?_
     refine atq_val rfl rfl rfl (r_pick rfl rfl rfl) ?_
     refine atq_nil ?_
     refine wq [37,8,7,6,4,3,0] ?_
     refine tn ?_
     obtain ⟨h24,hF⟩|⟨h24,hF⟩:=oi hF
     ·refine ct h24 ?_
      refine sr (am (am ?_))
      obtain ⟨h25,hF⟩:=gd hF
      obtain ⟨b27,o28,hp26⟩:=row_ptr hr0 h25
      refine aw (r_idx underlying54 sizeOf66 rfl rfl h25 hp26) ?_
      refine aw (r_load_aggc (c:=c_api_Entry) (z:=lget x0 i6) isAgg66 sizeOf66 rfl (row_cell (fun _ h=>h.below) hr0 h25 hp26)) ?_
      refine at_store (c:=c_api_Entry) (z:=lget x0 i6) .z lw sizeOf66 rfl rfl rfl ?_
      refine nt (qr (aa (qn (wq [8,7,6,4,3,0] ?_))))
      refine bm ?_
      refine qr (am (aw xa (aa (nwq [8,7,6,4,3,0] ?_))))
      exact at_weak_k (ih _ _ _ _ hF K) ⟨rfl,rfl,rfl,rfl,rfl,rfl,trivial⟩
     refine cf h24 ?_
     refine at_skip ?_
     refine bm ?_
     refine qr (am (aw xa (aa (nwq [8,7,6,4,3,0] ?_))))
     exact at_weak_k (ih _ _ _ _ hF K) ⟨rfl,rfl,rfl,rfl,rfl,rfl,trivial⟩
    refine atq_fix (g:=22) rfl h14 ?_
    refine atq_guard_no rfl rfl rfl rfl rfl ?_
    refine atq_guard_no rfl rfl rfl rfl rfl ?_
    refine atq_guard_no rfl rfl rfl rfl rfl ?_
    refine atq_guard_undef rfl rfl rfl rfl ?_
    refine atq_guard_undef rfl rfl rfl rfl ?_
    refine atq_guard_undef rfl rfl rfl rfl ?_
    refine atq_guard_undef rfl rfl rfl rfl ?_
    refine atq_guard_undef rfl rfl rfl rfl ?_
    refine atq_guard_undef rfl rfl rfl rfl ?_
    refine atq_guard_undef rfl rfl rfl rfl ?_
    refine atq_guard_undef rfl rfl rfl rfl ?_
    refine atq_guard_undef rfl rfl rfl rfl ?_
    refine atq_guard_undef rfl rfl rfl rfl ?_
    refine atq_guard_no rfl rfl rfl rfl rfl ?_
    refine atq_val rfl rfl rfl (r_pick rfl rfl rfl) ?_
    refine atq_nil ?_
    refine wq [37,8,7,6,4,3,0] ?_
    refine tn ?_
    refine cf rfl ?_
    refine at_skip ?_
    refine bm ?_
    refine qr (am (aw xa (aa (nwq [8,7,6,4,3,0] ?_))))
    exact at_weak_k (ih _ _ _ _ hF K) ⟨rfl,rfl,rfl,rfl,rfl,rfl,trivial⟩
   refine cf h8 ?_
   refine at_exit ?_
   refine te (te ?_)
   refine at_drop (H:=_) (.s (.s .z)) ?_
   obtain rfl:=os hF
   exact at_weak_k K ⟨rfl,rfl,rfl,trivial⟩
 skip
 skip
 refine at_blk_same ?_
 refine tn (sr ?_)
 refine aw (r_load_aggc (c:=c_api_Entry) (z:=q4.2) isAgg66 sizeOf66 rfl (lens_cell .z lw)) ?_
 refine am ?_
 refine at_store (c:=c_api_Entry) (z:=q4.2) (.s .z) lw sizeOf66 rfl rfl rfl ?_
 refine aa (qn (dz (wq [5,4] ?_)))
 refine tn (qt ?_)
 have K:=os hF
 subst K
 exact at_res2 rfl (res_cell (c:=c_api_Entry) (y:=q4.2) rfl .z lw isAgg66 sizeOf66 (.inl rfl)) (res_tmp rfl) wb
def crawlwayref25_Put.l0(x0:List S_api_Entry)(x1:S_api_Entry)(i5:List S_api_Entry)(i6:Bool)(i7:Int):Option (List S_api_Entry×Bool) :=
 if (decide (i7<(x0.length:Int)))=true then (if (0:Int)≤i7∧i7<(x0.length:Int) then if (decide ((lget x0 i7).f_P=x1.f_P))=true then (crawlwayref25_Put.l0 x0 x1 i5 i6 (wr .i64 (i7+1))) else (if (!i6)=true then (if (0:Int)≤i7∧i7<(x0.length:Int) then crawlwayref11_Less x1.f_P ((lget x0 i7).f_P)>>=fun t23=>if t23=true then (if (i5.length+1)*40≤140737488355328 then if (0:Int)≤i7∧i7<(x0.length:Int) then if ((i5++[x1]).length+1)*40≤140737488355328 then crawlwayref25_Put.l0 x0 x1 ((i5++[x1])++[lget x0 i7]) true (wr .i64 (i7+1)) else none else none else none) else (if (0:Int)≤i7∧i7<(x0.length:Int) then if (i5.length+1)*40≤140737488355328 then crawlwayref25_Put.l0 x0 x1 (i5++[lget x0 i7]) i6 (wr .i64 (i7+1)) else none else none) else none) else (if (0:Int)≤i7∧i7<(x0.length:Int) then if (i5.length+1)*40≤140737488355328 then crawlwayref25_Put.l0 x0 x1 (i5++[lget x0 i7]) i6 (wr .i64 (i7+1)) else none else none)) else none) else (some (i5,i6))
 partial_fixpoint
def crawlwayref25_Put(x0:List S_api_Entry)(x1:S_api_Entry):Option (List S_api_Entry) :=
 crawlwayref25_Put.l0 x0 x1 ([]:List S_api_Entry) false 0>>=fun q4=>if (!q4.2)=true then (if (q4.1.length+1)*40≤140737488355328 then some (q4.1++[x1]) else none) else (some q4.1)
theorem crawlwayref25_Put_ok(x0:List S_api_Entry)(p0_:Option Addr)(c0_:Nat)(x1:S_api_Entry)(r:List S_api_Entry)(hF:crawlwayref25_Put x0 x1=some r)(w:World)(hr0:Row c_api_Entry w p0_ c0_ x0) :
    Calls Try.prog 62 #[.slice p0_ x0.length c0_,.agg (Cd.cs c_api_Entry x1).toArray] w (fun e w'=>∃ p cap,e=.returned (.slice p r.length cap)∧Own c_api_Entry 66 w.heap.size w' p cap r∧Below w.heap.size w w'):=by
 unfold crawlwayref25_Put at hF
 refine ce (l:=[.slice p0_ x0.length c0_,.agg (Cd.cs c_api_Entry x1).toArray]) func62 rfl rfl ?_
 refine at_start ?_
 refine sr ?_
 refine at_box (cs:=Cd.cs c_api_Entry x1) rfl rfl rfl ?_
 intro b1
 refine aa (ns (aa (ns (aa (nt (qs (sr (aa ?_))))))))
 refine nwq [7,6,5,3,0] ?_
 refine qb ?_
 refine at_own_nil c_api_Entry 66 ?_
 obtain ⟨q4,hq4,hF⟩:=bM hF
 refine wq [7,6,5,3,0] ?_
 refine at_loop_n (B:=0) (A:=fun Y=>∀ (p10:Option Addr) (c11:Nat),At 52 [(3,.pointer (some ⟨b1,0,none⟩)),(5,.slice p10 q4.1.length c11),(6,.bool q4.2)] (Wd w [rowE c_api_Entry 66 p10 c11 q4.1,cellsE b1 (Cd.cs c_api_Entry x1) 66]) Y) ?_ ?_
 ·intro K
  refine crawlwayref25_Put.l0.partial_correctness x0 x1 (motive:=fun i5 i6 i7 x=>KN (fun Y=>∀ (p10:Option Addr) (c11:Nat),At 52 [(3,.pointer (some ⟨b1,0,none⟩)),(5,.slice p10 x.1.length c11),(6,.bool x.2)] (Wd w [rowE c_api_Entry 66 p10 c11 x.1,cellsE b1 (Cd.cs c_api_Entry x1) 66]) Y) _ 0→Round (fun Y=>∀ (p8:Option Addr) (c9:Nat),At 52 [(0,.slice p0_ x0.length c0_),(3,.pointer (some ⟨b1,0,none⟩)),(5,.slice p8 i5.length c9),(6,.bool i6),(7,.int .i64 i7)] (Wd w [rowE c_api_Entry 66 p8 c9 i5,cellsE b1 (Cd.cs c_api_Entry x1) 66]) Y) _ _ _) ?_ _ _ _ _ hq4 K none 0
  ·clear K hF
   intro g ih i5 i6 i7 x hF K p8 c9
   refine at_round ?_
   refine qs (sr (am (am ?_)))
   refine aw (r_len_sl underlying54 rfl) ?_
   refine aw xl (nwq [11,7,6,5,3,0] ?_)
   obtain ⟨h12,hF⟩|⟨h12,hF⟩:=oi hF
   ·refine ct h12 ?_
    refine sn (qs ?_)
    refine qb ?_
    refine qs (qs ?_)
    refine at_draw (by kernel_rfl) (by kernel_rfl) (fun _ h=>h.drew) ?_
    refine atq_val rfl rfl rfl (r_move rfl) ?_
    refine atq_val rfl rfl rfl (r_move rfl) ?_
    obtain ⟨h13,hF⟩:=gd hF
    obtain ⟨b15,o16,hp14⟩:=row_ptr hr0 h13
    refine atq_val rfl rfl rfl (r_idx underlying54 sizeOf66 rfl rfl h13 hp14) ?_
    refine atq_val rfl rfl rfl (r_fieldAddr (fo:=0) underlying66 rfl rfl (fun w=>⟨_,sizeOf37 w⟩) rfl) ?_
    refine atq_val rfl rfl rfl (r_load_aggc (c:=c_api_Prefix) (z:=(lget x0 i7).f_P) isAgg37 sizeOf37 rfl (row_lens (y:=(lget x0 i7).f_P) (fun _ h=>h.below) hr0 h13 hp14 (Lens.comp lw (fun z=>{ (lget x0 i7) with f_P:=z }) (c_api_Entry_f_P (lget x0 i7))))) ?_
    refine atq_val rfl rfl rfl (r_fieldAddr (fo:=0) underlying66 rfl rfl (fun w=>⟨_,sizeOf37 w⟩) rfl) ?_
    refine atq_val rfl rfl rfl (r_load_aggc (c:=c_api_Prefix) (z:=x1.f_P) isAgg37 sizeOf37 rfl (lens_cell (.s .z) (Lens.comp lw (fun z=>{ x1 with f_P:=z }) (c_api_Entry_f_P x1)))) ?_
    refine atq_val rfl rfl rfl (r_eqagg (c:=c_api_Prefix) (a:=(lget x0 i7).f_P) (b:=x1.f_P) (eq_api_Prefix_37) rfl Try.eqGuardType37 rfl rfl (.inl rfl) rfl) ?_
    refine atq_nil ?_
    refine wq [21,7,6,5,3,0] ?_
    refine tn ?_
    obtain ⟨h17,hF⟩|⟨h17,hF⟩:=oi hF
    ·refine ct h17 ?_
     refine at_exit ?_
     refine te (at_blk_same (tn ?_))
     refine qr (am (aw xa (aa (nwq [7,6,5,3,0] ?_))))
     exact at_weak_k (ih _ _ _ _ hF K p8 c9) ⟨rfl,rfl,rfl,rfl,rfl,trivial⟩
    refine cf h17 ?_
    refine sn (qs (qs ?_))
    refine at_draw (by kernel_rfl) (by kernel_rfl) (fun _ h=>h.drew) ?_
    refine atq_val rfl rfl rfl (r_move rfl) ?_
    refine atq_val rfl rfl rfl (r_not rfl) ?_
    refine atq_val rfl rfl rfl (r_move rfl) ?_
    obtain ⟨h18,hF⟩|⟨h18,hF⟩:=oi hF
    ·refine atq_fix (g:=24) rfl h18 ?_
     refine atq_guard_yes rfl rfl rfl ?_
     refine atq_val rfl rfl rfl (r_fieldAddr (fo:=0) underlying66 rfl rfl (fun w=>⟨_,sizeOf37 w⟩) rfl) ?_
     refine atq_guard_yes rfl rfl rfl ?_
     refine atq_val rfl rfl rfl (r_load_aggc (c:=c_api_Prefix) (z:=x1.f_P) isAgg37 sizeOf37 rfl (lens_cell (.s .z) (Lens.comp lw (fun z=>{ x1 with f_P:=z }) (c_api_Entry_f_P x1)))) ?_
     refine atq_guard_yes rfl rfl rfl ?_
     refine atq_val rfl rfl rfl (r_move rfl) ?_
     refine atq_guard_yes rfl rfl rfl ?_
     refine atq_val rfl rfl rfl (r_move rfl) ?_
     refine atq_guard_yes rfl rfl rfl ?_
     obtain ⟨h19,hF⟩:=gd hF
     obtain ⟨b21,o22,hp20⟩:=row_ptr hr0 h19
     refine atq_val rfl rfl rfl (r_idx underlying54 sizeOf66 rfl rfl h19 hp20) ?_
     refine atq_guard_yes rfl rfl rfl ?_
     refine atq_val rfl rfl rfl (r_fieldAddr (fo:=0) underlying66 rfl rfl (fun w=>⟨_,sizeOf37 w⟩) rfl) ?_
     refine atq_guard_yes rfl rfl rfl ?_
     refine atq_val rfl rfl rfl (r_load_aggc (c:=c_api_Prefix) (z:=(lget x0 i7).f_P) isAgg37 sizeOf37 rfl (row_lens (y:=(lget x0 i7).f_P) (fun _ h=>h.below) hr0 h19 hp20 (Lens.comp lw (fun z=>{ (lget x0 i7) with f_P:=z }) (c_api_Entry_f_P (lget x0 i7))))) ?_
     refine atq_guard_yes rfl rfl rfl ?_
     obtain ⟨t23,ht23,hF⟩:=bM hF
     refine atq_call func77 rfl (by kernel_rfl) rfl rfl (fun w hw=>(crawlwayref11_Less_ok _ _ _ ht23 w).mono fun _ _ h=>⟨h.1,hw.call h.2⟩) ?_
     refine atq_val rfl rfl rfl (r_pick rfl rfl rfl) ?_
     refine atq_nil ?_
     refine wq [33,7,6,5,3,0] ?_
     refine tn ?_
     obtain ⟨h24,hF⟩|⟨h24,hF⟩:=oi hF
     ·refine ct h24 ?_
      refine sr (am ?_)
      refine aw (r_load_aggc (c:=c_api_Entry) (z:=x1) isAgg66 sizeOf66 rfl (lens_cell (.s .z) lw)) ?_
      refine at_litL (c:=c_api_Entry) ([zv8]:List S_api_Entry) ([x1]:List S_api_Entry) underlying54 sizeOf66 zeroValue66 rfl rfl rfl (by kernel_rfl) (fill_step (c:=c_api_Entry) (z:=x1) rfl (Lens.all c_api_Entry ([zv8]:List S_api_Entry) 0 (by first | decide | exact Nat.le_of_ble_eq_true rfl)) rfl rfl) rfl ?_
      intro b25
      obtain ⟨h26,hF⟩:=gd hF
      refine at_append (z:=.agg (Cd.cs c_api_Entry zv8).toArray) (c:=c_api_Entry) (ys:=([x1]:List S_api_Entry)) (.s .z) underlying54 infoF166 (by kernel_rfl) (by kernel_rfl) rfl rfl rfl rfl (fun _ hw=>cells_src (hw.ok (Upd.mem .z))) (by kernel_rfl) h26 (app_small h26) rfl ?_
      intro p27 c28
      refine aa (qn (dz (tn (qr (aa (nt (qr (am ?_))))))))
      refine am (am ?_)
      obtain ⟨h29,hF⟩:=gd hF
      obtain ⟨b31,o32,hp30⟩:=row_ptr hr0 h29
      refine aw (r_idx underlying54 sizeOf66 rfl rfl h29 hp30) ?_
      refine aw (r_load_aggc (c:=c_api_Entry) (z:=lget x0 i7) isAgg66 sizeOf66 rfl (row_cell (fun _ h=>h.below) hr0 h29 hp30)) ?_
      refine at_litL (c:=c_api_Entry) ([zv8]:List S_api_Entry) ([lget x0 i7]:List S_api_Entry) underlying54 sizeOf66 zeroValue66 rfl rfl rfl (by kernel_rfl) (fill_step (c:=c_api_Entry) (z:=lget x0 i7) rfl (Lens.all c_api_Entry ([zv8]:List S_api_Entry) 0 (by first | decide | exact Nat.le_of_ble_eq_true rfl)) rfl rfl) rfl ?_
      intro b33
      obtain ⟨h34,hF⟩:=gd hF
      refine at_append (z:=.agg (Cd.cs c_api_Entry zv8).toArray) (c:=c_api_Entry) (ys:=([lget x0 i7]:List S_api_Entry)) (.s .z) underlying54 infoF166 (by kernel_rfl) (by kernel_rfl) rfl rfl rfl rfl (fun _ hw=>cells_src (hw.ok (Upd.mem .z))) (by kernel_rfl) h34 (app_small h34) rfl ?_
      intro p35 c36
      refine aa (qn (dz (wq [7,6,5,3,0] ?_)))
      refine bm ?_
      refine qr (am (aw xa (aa (nwq [7,6,5,3,0] ?_))))
      exact at_weak_k (ih _ _ _ _ hF K p35 c36) ⟨rfl,rfl,rfl,rfl,rfl,trivial⟩
     refine cf h24 ?_
     refine sn (qr (am (am (am ?_))))
     obtain ⟨h37,hF⟩:=gd hF
     obtain ⟨b39,o40,hp38⟩:=row_ptr hr0 h37
     refine aw (r_idx underlying54 sizeOf66 rfl rfl h37 hp38) ?_
     refine aw (r_load_aggc (c:=c_api_Entry) (z:=lget x0 i7) isAgg66 sizeOf66 rfl (row_cell (fun _ h=>h.below) hr0 h37 hp38)) ?_
     refine at_litL (c:=c_api_Entry) ([zv8]:List S_api_Entry) ([lget x0 i7]:List S_api_Entry) underlying54 sizeOf66 zeroValue66 rfl rfl rfl (by kernel_rfl) (fill_step (c:=c_api_Entry) (z:=lget x0 i7) rfl (Lens.all c_api_Entry ([zv8]:List S_api_Entry) 0 (by first | decide | exact Nat.le_of_ble_eq_true rfl)) rfl rfl) rfl ?_
     intro b41
     obtain ⟨h42,hF⟩:=gd hF
     refine at_append (z:=.agg (Cd.cs c_api_Entry zv8).toArray) (c:=c_api_Entry) (ys:=([lget x0 i7]:List S_api_Entry)) (.s .z) underlying54 infoF166 (by kernel_rfl) (by kernel_rfl) rfl rfl rfl rfl (fun _ hw=>cells_src (hw.ok (Upd.mem .z))) (by kernel_rfl) h42 (app_small h42) rfl ?_
     intro p43 c44
     refine aa (qn (dz (wq [7,6,5,3,0] ?_)))
     refine bm ?_
     refine qr (am (aw xa (aa (nwq [7,6,5,3,0] ?_))))
     exact at_weak_k (ih _ _ _ _ hF K p43 c44) ⟨rfl,rfl,rfl,rfl,rfl,trivial⟩
    refine atq_fix (g:=24) rfl h18 ?_
    refine atq_guard_no rfl rfl rfl rfl rfl ?_
    refine atq_guard_no rfl rfl rfl rfl rfl ?_
    refine atq_guard_no rfl rfl rfl rfl rfl ?_
    refine atq_guard_no rfl rfl rfl rfl rfl ?_
    refine atq_guard_no rfl rfl rfl rfl rfl ?_
    refine atq_guard_no rfl rfl rfl rfl rfl ?_
    refine atq_guard_no rfl rfl rfl rfl rfl ?_
    refine atq_guard_no rfl rfl rfl rfl rfl ?_
    refine atq_val rfl rfl rfl (r_pick rfl rfl rfl) ?_
    refine atq_nil ?_
    refine wq [33,7,6,5,3,0] ?_
    refine tn ?_
    refine cf rfl ?_
    refine sn (qr (am (am (am ?_))))
    obtain ⟨h45,hF⟩:=gd hF
    obtain ⟨b47,o48,hp46⟩:=row_ptr hr0 h45
    refine aw (r_idx underlying54 sizeOf66 rfl rfl h45 hp46) ?_
    refine aw (r_load_aggc (c:=c_api_Entry) (z:=lget x0 i7) isAgg66 sizeOf66 rfl (row_cell (fun _ h=>h.below) hr0 h45 hp46)) ?_
    refine at_litL (c:=c_api_Entry) ([zv8]:List S_api_Entry) ([lget x0 i7]:List S_api_Entry) underlying54 sizeOf66 zeroValue66 rfl rfl rfl (by kernel_rfl) (fill_step (c:=c_api_Entry) (z:=lget x0 i7) rfl (Lens.all c_api_Entry ([zv8]:List S_api_Entry) 0 (by first | decide | exact Nat.le_of_ble_eq_true rfl)) rfl rfl) rfl ?_
    intro b49
    obtain ⟨h50,hF⟩:=gd hF
    refine at_append (z:=.agg (Cd.cs c_api_Entry zv8).toArray) (c:=c_api_Entry) (ys:=([lget x0 i7]:List S_api_Entry)) (.s .z) underlying54 infoF166 (by kernel_rfl) (by kernel_rfl) rfl rfl rfl rfl (fun _ hw=>cells_src (hw.ok (Upd.mem .z))) (by kernel_rfl) h50 (app_small h50) rfl ?_
    intro p51 c52
    refine aa (qn (dz (wq [7,6,5,3,0] ?_)))
    refine bm ?_
    refine qr (am (aw xa (aa (nwq [7,6,5,3,0] ?_))))
    exact at_weak_k (ih _ _ _ _ hF K p51 c52) ⟨rfl,rfl,rfl,rfl,rfl,trivial⟩
   refine cf h12 ?_
   refine at_exit ?_
   refine te (te ?_)
   obtain rfl:=os hF
   exact at_weak_k (K p8 c9) ⟨rfl,rfl,rfl,trivial⟩
 skip
 intro p10 c11
 refine at_blk_same ?_
 refine tn (qs (sr (am ?_)))
 refine aw (r_not rfl) ?_
 refine nwq [46,5,3] ?_
 obtain ⟨h53,hF⟩|⟨h53,hF⟩:=oi hF
 ·refine ct h53 ?_
  refine qr (am ?_)
  refine aw (r_load_aggc (c:=c_api_Entry) (z:=x1) isAgg66 sizeOf66 rfl (lens_cell (.s .z) lw)) ?_
  refine at_litL (c:=c_api_Entry) ([zv8]:List S_api_Entry) ([x1]:List S_api_Entry) underlying54 sizeOf66 zeroValue66 rfl rfl rfl (by kernel_rfl) (fill_step (c:=c_api_Entry) (z:=x1) rfl (Lens.all c_api_Entry ([zv8]:List S_api_Entry) 0 (by first | decide | exact Nat.le_of_ble_eq_true rfl)) rfl rfl) rfl ?_
  intro b54
  obtain ⟨h55,hF⟩:=gd hF
  refine at_append (z:=.agg (Cd.cs c_api_Entry zv8).toArray) (c:=c_api_Entry) (ys:=([x1]:List S_api_Entry)) (.s .z) underlying54 infoF166 (by kernel_rfl) (by kernel_rfl) rfl rfl rfl rfl (fun _ hw=>cells_src (hw.ok (Upd.mem .z))) (by kernel_rfl) h55 (app_small h55) rfl ?_
  intro p56 c57
  refine aa (qn (dz ?_))
  refine at_drop (H:=_) (.s .z) ?_
  refine tn (sr (am (aa (nwq [4] ?_))))
  refine qt ?_
  have K:=os hF
  subst K
  exact r1 (fun w1 hw=>⟨p56,c57,rfl,hw.own .z,hw.below⟩)
 refine cf h53 ?_
 refine sns (am (aa (qn ?_)))
 refine at_drop (H:=_) (.s .z) ?_
 refine wq [4] ?_
 refine tn (qt ?_)
 have K:=os hF
 subst K
 exact r1 (fun w1 hw=>⟨p10,c11,rfl,hw.own .z,hw.below⟩)
def crawlwayref59_previous.l0(i5:Int)(i6:S_api_Addr):Option (Ctl (S_api_Addr) (S_api_Addr)) :=
 if (decide (i5≥0))=true then (if (0:Int)≤i5∧i5<16 then if (decide (vget i6.f_B i5>0))=true then (if (0:Int)≤i5∧i5<16 then if (0:Int)≤i5∧i5<16 then some (.ret ({ i6 with f_B:=vset i6.f_B i5 (wr .u8 ((vget i6.f_B i5)-1)) })) else none else none) else (if (0:Int)≤i5∧i5<16 then crawlwayref59_previous.l0 (wr .i64 (i5-1)) ({ i6 with f_B:=vset i6.f_B i5 255 }) else none) else none) else (some (.nx i6))
 partial_fixpoint
def crawlwayref59_previous(x0:S_api_Addr):Option (S_api_Addr) :=
 crawlwayref10_Width x0>>=fun t3=>crawlwayref59_previous.l0 (wr .i64 ((wr .i64 (Int.tdiv t3 8))-1)) x0>>=fun q4=>match q4 with | .ret r'=>some r' | .nx sq4=>(some sq4)
theorem crawlwayref59_previous_ok(x0:S_api_Addr)(r:S_api_Addr)(hF:crawlwayref59_previous x0=some r)(w:World) :
    Calls Try.prog 59 #[.agg (Cd.cs c_api_Addr x0).toArray] w (fun e w'=>e=.returned (.agg (Cd.cs c_api_Addr r).toArray)∧Below w.heap.size w w'):=by
 unfold crawlwayref59_previous at hF
 refine ce (l:=[.agg (Cd.cs c_api_Addr x0).toArray]) func59 rfl rfl ?_
 refine at_start ?_
 refine sr ?_
 refine at_box (cs:=Cd.cs c_api_Addr x0) rfl rfl rfl ?_
 intro b1
 refine al (cs:=Cd.cs c_api_Addr zv0) zeroValue24 ?_
 intro b2
 refine nt (qs (sr ?_))
 refine aw (r_load_aggc (c:=c_api_Addr) (z:=x0) isAgg24 sizeOf24 rfl (lens_cell (.s .z) lw)) ?_
 obtain ⟨t3,ht3,hF⟩:=bM hF
 refine cB func42 rfl (fun w hw=>crawlwayref10_Width_ok _ _ ht3 w) ?_
 refine aw (r_iquo rfl rfl (by decide)) ?_
 refine aw (r_isub rfl rfl) ?_
 refine aa (nwq [3,2,1] ?_)
 refine qb ?_
 obtain ⟨q4,hq4,hF⟩:=bM hF
 refine wq [3,2,1] ?_
 refine at_loop_r (B:=0) (r:=r) (q:=q4) (A:=fun sq4 Y=>At 30 [(1,.pointer (some ⟨b1,0,none⟩)),(2,.pointer (some ⟨b2,0,none⟩))] (Wd w [cellsE b2 (Cd.cs c_api_Addr zv0) 24,cellsE b1 (Cd.cs c_api_Addr sq4) 24]) Y) ?_ ?_
 ·intro K
  refine crawlwayref59_previous.l0.partial_correctness  (motive:=fun i5 i6 x=>KR (fun sq4 Y=>At 30 [(1,.pointer (some ⟨b1,0,none⟩)),(2,.pointer (some ⟨b2,0,none⟩))] (Wd w [cellsE b2 (Cd.cs c_api_Addr zv0) 24,cellsE b1 (Cd.cs c_api_Addr sq4) 24]) Y) _ 0 r x→Round (fun Y=>At 30 [(1,.pointer (some ⟨b1,0,none⟩)),(2,.pointer (some ⟨b2,0,none⟩)),(3,.int .i64 i5)] (Wd w [cellsE b2 (Cd.cs c_api_Addr zv0) 24,cellsE b1 (Cd.cs c_api_Addr i6) 24]) Y) _ _ _) ?_ _ _ _ hq4 K
  ·clear K hF
   intro g ih i5 i6 x hF K
   refine at_round ?_
   refine qs (sr (am ?_))
   refine aw (r_igeq rfl rfl) ?_
   refine nwq [9,3,2,1] ?_
   obtain ⟨h7,hF⟩|⟨h7,hF⟩:=oi hF
   ·refine ct h7 ?_
    refine sn (qs ?_)
    refine qb ?_
    refine qs (sr (am (fa 1 underlying24 rfl sizeOf22 ?_)))
    obtain ⟨h8,hF⟩:=gd hF
    refine aw (r_idxArr underlying22 sizeOf5 rfl rfl h8) ?_
    refine aw (r_load_cell isAgg5 rfl (lens_cell0 (c:=(cInt .u8)) (y:=vget i6.f_B i5) (.s .z) (Lens.comp (Lens.comp lw (fun z=>{ i6 with f_B:=z }) (c_api_Addr_f_B i6)) (fun z=>vset i6.f_B i5 z) (Lens.vec (cInt .u8) (by decide) i6.f_B i5 h8)) rfl)) ?_
    refine aw (r_igtr rfl rfl) ?_
    refine nwq [16,3,2,1] ?_
    obtain ⟨h9,hF⟩|⟨h9,hF⟩:=oi hF
    ·refine ct h9 ?_
     refine sr (am (am (fa 1 underlying24 rfl sizeOf22 ?_)))
     obtain ⟨h10,hF⟩:=gd hF
     refine aw (r_idxArr underlying22 sizeOf5 rfl rfl h10) ?_
     refine aw (r_load_cell isAgg5 rfl (lens_cell0 (c:=(cInt .u8)) (y:=vget i6.f_B i5) (.s .z) (Lens.comp (Lens.comp lw (fun z=>{ i6 with f_B:=z }) (c_api_Addr_f_B i6)) (fun z=>vset i6.f_B i5 z) (Lens.vec (cInt .u8) (by decide) i6.f_B i5 h10)) rfl)) ?_
     refine aw (r_isub rfl rfl) ?_
     refine fa 1 underlying24 rfl sizeOf22 ?_
     obtain ⟨h11,hF⟩:=gd hF
     refine aw (r_idxArr underlying22 sizeOf5 rfl rfl h11) ?_
     refine at_store (c:=(cInt .u8)) (z:=wr .u8 ((vget i6.f_B i5)-1)) (.s .z) (Lens.comp (Lens.comp lw (fun z=>{ i6 with f_B:=z }) (c_api_Addr_f_B i6)) (fun z=>vset i6.f_B i5 z) (Lens.vec (cInt .u8) (by decide) i6.f_B i5 h11)) sizeOf5 rfl rfl rfl ?_
     refine ns ?_
     refine aw (r_load_aggc (c:=c_api_Addr) (z:={ i6 with f_B:=vset i6.f_B i5 (wr .u8 ((vget i6.f_B i5)-1)) }) isAgg24 sizeOf24 rfl (lens_cell (.s .z) lw)) ?_
     refine at_store (c:=c_api_Addr) (z:={ i6 with f_B:=vset i6.f_B i5 (wr .u8 ((vget i6.f_B i5)-1)) }) .z lw sizeOf24 rfl rfl rfl ?_
     refine qn ?_
     refine at_drop (H:=_) (.s .z) ?_
     refine wq [2] ?_
     refine tn (qt ?_)
     refine tr (br (tr (tr (br (tr ?_)))))
     obtain rfl:=os hF
     subst K
     exact at_res1 rfl (res_cell (c:=c_api_Addr) (y:={ i6 with f_B:=vset i6.f_B i5 (wr .u8 ((vget i6.f_B i5)-1)) }) rfl .z lw isAgg24 sizeOf24 (.inl rfl)) wb
    refine cf h9 ?_
    refine sn (qr (am (fa 1 underlying24 rfl sizeOf22 ?_)))
    obtain ⟨h12,hF⟩:=gd hF
    refine aw (r_idxArr underlying22 sizeOf5 rfl rfl h12) ?_
    refine at_store (c:=(cInt .u8)) (z:=255) (.s .z) (Lens.comp (Lens.comp lw (fun z=>{ i6 with f_B:=z }) (c_api_Addr_f_B i6)) (fun z=>vset i6.f_B i5 z) (Lens.vec (cInt .u8) (by decide) i6.f_B i5 h12)) sizeOf5 rfl rfl rfl ?_
    refine qn (wq [3,2,1] ?_)
    refine bm ?_
    refine qr (am ?_)
    refine aw (r_isub rfl rfl) ?_
    refine aa (nwq [3,2,1] ?_)
    exact at_weak_k (ih _ _ _ hF K) ⟨rfl,rfl,rfl,trivial⟩
   refine cf h7 ?_
   refine at_exit ?_
   refine te (te ?_)
   obtain rfl:=os hF
   exact at_weak_k K ⟨rfl,rfl,trivial⟩
 cases q4 with
 | ret r'=>exact os hF
 | nx sq4 =>
  skip
  refine at_blk_same ?_
  refine tn (sr ?_)
  refine aw (r_load_aggc (c:=c_api_Addr) (z:=sq4) isAgg24 sizeOf24 rfl (lens_cell (.s .z) lw)) ?_
  refine at_store (c:=c_api_Addr) (z:=sq4) .z lw sizeOf24 rfl rfl rfl ?_
  refine qn ?_
  refine at_drop (H:=_) (.s .z) ?_
  refine wq [2] ?_
  refine tn (qt ?_)
  have K:=os hF
  subst K
  exact at_res1 rfl (res_cell (c:=c_api_Addr) (y:=sq4) rfl .z lw isAgg24 sizeOf24 (.inl rfl)) wb
def flat_previous.l0(i5:Int)(i6:S_api_Addr):Option (Ctl (S_api_Addr×Bool) (S_api_Addr)) :=
 if (decide (i5≥0))=true then (if (0:Int)≤i5∧i5<16 then if (0:Int)≤i5∧i5<16 then if (0:Int)≤i5∧i5<16 then if (vget (({ i6 with f_B:=vset i6.f_B i5 (wr .u8 ((vget i6.f_B i5)-1)) }).f_B) i5 != (255:Int))=true then (some (.ret ({ i6 with f_B:=vset i6.f_B i5 (wr .u8 ((vget i6.f_B i5)-1)) },true))) else (flat_previous.l0 (wr .i64 (i5-1)) ({ i6 with f_B:=vset i6.f_B i5 (wr .u8 ((vget i6.f_B i5)-1)) })) else none else none else none) else (some (.nx i6))
 partial_fixpoint
def flat_previous(x0:S_api_Addr):Option (S_api_Addr×Bool) :=
 addr_Width x0>>=fun t3=>flat_previous.l0 (wr .i64 ((ishr .i64 t3 3)-1)) x0>>=fun q4=>match q4 with | .ret r'=>some r' | .nx sq4=>(some (sq4,false))
theorem flat_previous_ok(x0:S_api_Addr)(r:S_api_Addr×Bool)(hF:flat_previous x0=some r)(w:World) :
    Calls Try.prog 55 #[.agg (Cd.cs c_api_Addr x0).toArray] w (fun e w'=>e=.returned (.tuple #[.agg (Cd.cs c_api_Addr r.1).toArray,.bool r.2])∧Below w.heap.size w w'):=by
 unfold flat_previous at hF
 refine ce (l:=[.agg (Cd.cs c_api_Addr x0).toArray]) func55 rfl rfl ?_
 refine at_start ?_
 refine sr ?_
 refine at_box (cs:=Cd.cs c_api_Addr x0) rfl rfl rfl ?_
 intro b1
 refine al (cs:=Cd.cs c_api_Addr zv0) zeroValue24 ?_
 intro b2
 refine aa (nt (qs (sr ?_)))
 refine aw (r_load_aggc (c:=c_api_Addr) (z:=x0) isAgg24 sizeOf24 rfl (lens_cell (.s .z) lw)) ?_
 obtain ⟨t3,ht3,hF⟩:=bM hF
 refine cB func53 rfl (fun w hw=>addr_Width_ok _ _ ht3 w) ?_
 refine aw (r_ishr rfl rfl (by decide)) ?_
 refine aw (r_isub rfl rfl) ?_
 refine aa (nwq [4,2,1] ?_)
 refine qb ?_
 obtain ⟨q4,hq4,hF⟩:=bM hF
 refine wq [4,2,1] ?_
 refine at_loop_r (B:=0) (r:=r) (q:=q4) (A:=fun sq4 Y=>At 27 [(1,.pointer (some ⟨b1,0,none⟩)),(2,.pointer (some ⟨b2,0,none⟩))] (Wd w [cellsE b2 (Cd.cs c_api_Addr zv0) 24,cellsE b1 (Cd.cs c_api_Addr sq4) 24]) Y) ?_ ?_
 ·intro K
  refine flat_previous.l0.partial_correctness  (motive:=fun i5 i6 x=>KR (fun sq4 Y=>At 27 [(1,.pointer (some ⟨b1,0,none⟩)),(2,.pointer (some ⟨b2,0,none⟩))] (Wd w [cellsE b2 (Cd.cs c_api_Addr zv0) 24,cellsE b1 (Cd.cs c_api_Addr sq4) 24]) Y) _ 0 r x→Round (fun Y=>At 27 [(1,.pointer (some ⟨b1,0,none⟩)),(2,.pointer (some ⟨b2,0,none⟩)),(4,.int .i64 i5)] (Wd w [cellsE b2 (Cd.cs c_api_Addr zv0) 24,cellsE b1 (Cd.cs c_api_Addr i6) 24]) Y) _ _ _) ?_ _ _ _ hq4 K
  ·clear K hF
   intro g ih i5 i6 x hF K
   refine at_round ?_
   refine qs (sr (am ?_))
   refine aw (r_igeq rfl rfl) ?_
   refine nwq [10,4,2,1] ?_
   obtain ⟨h7,hF⟩|⟨h7,hF⟩:=oi hF
   ·refine ct h7 ?_
    refine sn (qs ?_)
    refine qb ?_
    refine sr (am (fa 1 underlying24 rfl sizeOf22 ?_))
    obtain ⟨h8,hF⟩:=gd hF
    refine aw (r_idxArr underlying22 sizeOf5 rfl rfl h8) ?_
    refine aw (r_load_cell isAgg5 rfl (lens_cell0 (c:=(cInt .u8)) (y:=vget i6.f_B i5) (.s .z) (Lens.comp (Lens.comp lw (fun z=>{ i6 with f_B:=z }) (c_api_Addr_f_B i6)) (fun z=>vset i6.f_B i5 z) (Lens.vec (cInt .u8) (by decide) i6.f_B i5 h8)) rfl)) ?_
    refine aw (r_isub rfl rfl) ?_
    refine fa 1 underlying24 rfl sizeOf22 ?_
    obtain ⟨h9,hF⟩:=gd hF
    refine aw (r_idxArr underlying22 sizeOf5 rfl rfl h9) ?_
    refine at_store (c:=(cInt .u8)) (z:=wr .u8 ((vget i6.f_B i5)-1)) (.s .z) (Lens.comp (Lens.comp lw (fun z=>{ i6 with f_B:=z }) (c_api_Addr_f_B i6)) (fun z=>vset i6.f_B i5 z) (Lens.vec (cInt .u8) (by decide) i6.f_B i5 h9)) sizeOf5 rfl rfl rfl ?_
    refine ns (am (fa 1 underlying24 rfl sizeOf22 ?_))
    obtain ⟨h10,hF⟩:=gd hF
    refine aw (r_idxArr underlying22 sizeOf5 rfl rfl h10) ?_
    refine aw (r_load_cell isAgg5 rfl (lens_cell0 (c:=(cInt .u8)) (y:=vget (({ i6 with f_B:=vset i6.f_B i5 (wr .u8 ((vget i6.f_B i5)-1)) }).f_B) i5) (.s .z) (Lens.comp (Lens.comp lw (fun z=>{ { i6 with f_B:=vset i6.f_B i5 (wr .u8 ((vget i6.f_B i5)-1)) } with f_B:=z }) (c_api_Addr_f_B ({ i6 with f_B:=vset i6.f_B i5 (wr .u8 ((vget i6.f_B i5)-1)) }))) (fun z=>vset (({ i6 with f_B:=vset i6.f_B i5 (wr .u8 ((vget i6.f_B i5)-1)) }).f_B) i5 z) (Lens.vec (cInt .u8) (by decide) (({ i6 with f_B:=vset i6.f_B i5 (wr .u8 ((vget i6.f_B i5)-1)) }).f_B) i5 h10)) rfl)) ?_
    refine aw xn (nwq [24,4,2,1] ?_)
    obtain ⟨h11,hF⟩|⟨h11,hF⟩:=oi hF
    ·refine ct h11 ?_
     refine sr ?_
     refine aw (r_load_aggc (c:=c_api_Addr) (z:={ i6 with f_B:=vset i6.f_B i5 (wr .u8 ((vget i6.f_B i5)-1)) }) isAgg24 sizeOf24 rfl (lens_cell (.s .z) lw)) ?_
     refine at_store (c:=c_api_Addr) (z:={ i6 with f_B:=vset i6.f_B i5 (wr .u8 ((vget i6.f_B i5)-1)) }) .z lw sizeOf24 rfl rfl rfl ?_
     refine aa (qn ?_)
     refine at_drop (H:=_) (.s .z) ?_
     refine wq [3,2] ?_
     refine tn (qt ?_)
     refine br (tr (tr (br (tr ?_))))
     obtain rfl:=os hF
     subst K
     exact at_res2 rfl (res_cell (c:=c_api_Addr) (y:={ i6 with f_B:=vset i6.f_B i5 (wr .u8 ((vget i6.f_B i5)-1)) }) rfl .z lw isAgg24 sizeOf24 (.inl rfl)) (res_tmp rfl) wb
    refine cf h11 ?_
    refine at_skip ?_
    refine bm ?_
    refine qr (am ?_)
    refine aw (r_isub rfl rfl) ?_
    refine aa (nwq [4,2,1] ?_)
    exact at_weak_k (ih _ _ _ hF K) ⟨rfl,rfl,rfl,trivial⟩
   refine cf h7 ?_
   refine at_exit ?_
   refine te (te ?_)
   obtain rfl:=os hF
   exact at_weak_k K ⟨rfl,rfl,trivial⟩
 cases q4 with
 | ret r'=>exact os hF
 | nx sq4 =>
  skip
  refine at_blk_same ?_
  refine tn (sr ?_)
  refine aw (r_load_aggc (c:=c_api_Addr) (z:=sq4) isAgg24 sizeOf24 rfl (lens_cell (.s .z) lw)) ?_
  refine at_store (c:=c_api_Addr) (z:=sq4) .z lw sizeOf24 rfl rfl rfl ?_
  refine aa (qn ?_)
  refine at_drop (H:=_) (.s .z) ?_
  refine wq [3,2] ?_
  refine tn (qt ?_)
  have K:=os hF
  subst K
  exact at_res2 rfl (res_cell (c:=c_api_Addr) (y:=sq4) rfl .z lw isAgg24 sizeOf24 (.inl rfl)) (res_tmp rfl) wb
end Go.Proofs.Ytahlbjmafceoeaa
