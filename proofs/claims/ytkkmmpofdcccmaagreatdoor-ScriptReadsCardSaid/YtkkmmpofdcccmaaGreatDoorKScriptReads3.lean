/- Texts of this claim, those in one that belong together; printed by a program of this project. -/
import Derived.Test.YtkkmmpofdcccmaaGreatDoorProg
import Derived.Lib.Bytealg
import Derived.Lib.IndexLaws
import Derived.Test.YtkkmmpofdcccmaaGreatDoorKScriptReads2
set_option linter.unusedVariables false
set_option linter.unusedSimpArgs false
namespace Go.Proofs.YtkkmmpofdcccmaaGreatDoor
open E Go.RowKit _root_.Go.Proofs.Tryz
set_option maxHeartbeats 3200000 in
theorem script_shapeOf_in0{n d:Nat}{L:List (Nat×Value)}{w0:World}{H:List Ent}{ops:Array Oper}{Q:Exit→Act→World→Prop}{rest:List Oper}{xs:List Operand}{ats:Array TypeId}{ty:TypeId}{pos:String}{aft:Array Edge}{a0:Int}(hx:evs L xs=some [.int .i64 a0])(hdn:Nat.blt d n=true)(h0_:(a0==1)=true)(k:∀ b9:Nat,At n ((d,.tuple #[.agg #[.string (⟨#[115,101,116]⟩),.slice (some ⟨b9,0,none⟩) 1 1],.bool true])::L) (Wd w0 (cellsE b9 [.func (.func 125) #[] #[],.func (.func 127) #[] #[],.func (.func 129) #[] #[]] 104::H)) (wpList Tryz.prog ops Q rest)) :
    At n L (Wd w0 H) (wpList Tryz.prog ops Q (⟨some d,.call { callee:=.value (.func 46),args:=xs.toArray,argTypes:=ats },ty,pos,aft,none⟩::rest)):=by
 refine at_callI func46 rfl (by kernel_rfl) rfl hx hdn rfl ?_
 refine sr ?_
 refine al (cs:=zl20) zeroValue98 ?_
 intro b1
 refine aa (nwx [2,0] ?_)
 refine at_callI func75 rfl (by kernel_rfl) rfl rfl rfl rfl ?_
 refine sr ?_
 refine at_box (cs:=zl22) rfl rfl rfl ?_
 intro b2
 refine al (cs:=zl21) zeroValue104 ?_
 intro b3
 refine nwx [2,1] ?_
 refine aw (r_makeFunc rfl) ?_
 refine aw (r_makeFunc rfl) ?_
 refine aw (r_makeFunc rfl) ?_
 refine aw (r_build_struct (zs:=zl21) (cs:=(zl6 b2)) underlying104 zeroValue104 rfl placesR_104 rfl rfl) ?_
 refine sa 3 ((zl6 b2)) .z rfl rfl sizeOf104 rfl rfl rfl ?_
 refine nwq [2] ?_
 refine qt ?_
 refine at_resI1 rfl (res_cell (c:=cK 3 (by decide)) (y:=ck 3 ((zl6 b2)) rfl) rfl .z lw isAgg104 sizeOf104 (.inl rfl)) ?_
 refine al (cs:=zl21) zeroValue104 ?_
 intro b4
 refine sa 3 ((zl6 b2)) .z rfl rfl sizeOf104 rfl rfl rfl ?_
 refine qn ?_
 refine at_drop (H:=_) (.s .z) ?_
 refine wq [4,2,0] ?_
 refine tn (sr ?_)
 refine at_callI func75 rfl (by kernel_rfl) rfl rfl rfl rfl ?_
 refine sr ?_
 refine at_box (cs:=zl23) rfl rfl rfl ?_
 intro b5
 refine al (cs:=zl21) zeroValue104 ?_
 intro b6
 refine nwx [2,1] ?_
 refine aw (r_makeFunc rfl) ?_
 refine aw (r_makeFunc rfl) ?_
 refine aw (r_makeFunc rfl) ?_
 refine aw (r_build_struct (zs:=zl21) (cs:=(zl6 b5)) underlying104 zeroValue104 rfl placesR_104 rfl rfl) ?_
 refine sa 3 ((zl6 b5)) .z rfl rfl sizeOf104 rfl rfl rfl ?_
 refine nwq [2] ?_
 refine qt ?_
 refine at_resI1 rfl (res_cell (c:=cK 3 (by decide)) (y:=ck 3 ((zl6 b5)) rfl) rfl .z lw isAgg104 sizeOf104 (.inl rfl)) ?_
 refine al (cs:=zl21) zeroValue104 ?_
 intro b7
 refine sa 3 ((zl6 b5)) .z rfl rfl sizeOf104 rfl rfl rfl ?_
 refine qn ?_
 refine at_drop (H:=_) (.s .z) ?_
 refine tn (qs (sr (am (nwq [8,5,4,2] ?_))))
 refine qb ?_
 refine sr (aw xq (aa (nwq [9,8,5,4,2] ?_)))
 refine ct h0_ ?_
 refine sr ?_
 refine at_callI func78 rfl (by kernel_rfl) rfl rfl rfl rfl ?_
 refine dz (dz (dz (dz ?_)))
 refine at_weak [] trivial ?_
 refine sr ?_
 refine al (cs:=zl21) zeroValue104 ?_
 intro b8
 refine nwx [0] ?_
 refine aw (r_build_struct (zs:=zl21) (cs:=zl12) underlying104 zeroValue104 rfl placesR_104 rfl rfl) ?_
 refine sa 3 (zl12) .z rfl rfl sizeOf104 rfl rfl rfl ?_
 refine nwq [0] ?_
 refine qt ?_
 refine at_resI1 rfl (res_cell (c:=cK 3 (by decide)) (y:=ck 3 (zl12) rfl) rfl .z lw isAgg104 sizeOf104 (.inl rfl)) ?_
 refine at_litG (cs:=zl12) underlying96 sizeOf104 zeroValue104 rfl rfl rfl (by kernel_rfl) rfl ?_
 intro b9
 refine aw (r_build_struct (zs:=zl20) (cs:=(zl17 b9)) underlying98 zeroValue98 rfl placesR_98 rfl rfl) ?_
 refine sa 2 ((zl17 b9)) (.s (.s .z)) rfl rfl sizeOf98 rfl rfl rfl ?_
 refine aa (qn ?_)
 refine at_drop (H:=_) (.s .z) ?_
 refine wq [3,2] ?_
 refine tn (qt ?_)
 refine br (tr ?_)
 refine at_resI2 rfl (res_cell (c:=cK 2 (by decide)) (y:=ck 2 ((zl17 b9)) rfl) rfl (.s .z) lw isAgg98 sizeOf98 (.inl rfl)) (res_tmp rfl) ?_
 refine at_drop (H:=_) (.s .z) ?_
 exact k b9
set_option maxHeartbeats 3200000 in
theorem script_shapeOf_in1{n d:Nat}{L:List (Nat×Value)}{w0:World}{H:List Ent}{ops:Array Oper}{Q:Exit→Act→World→Prop}{rest:List Oper}{xs:List Operand}{ats:Array TypeId}{ty:TypeId}{pos:String}{aft:Array Edge}{a0:Int}(hx:evs L xs=some [.int .i64 a0])(hdn:Nat.blt d n=true)(h0_:(a0==1)=false)(h1_:(a0==2)=true)(k:∀ b9:Nat,At n ((d,.tuple #[.agg #[.string (⟨#[108,111,97,100]⟩),.slice (some ⟨b9,0,none⟩) 1 1],.bool true])::L) (Wd w0 (cellsE b9 [.func (.func 125) #[] #[],.func (.func 127) #[] #[],.func (.func 129) #[] #[]] 104::H)) (wpList Tryz.prog ops Q rest)) :
    At n L (Wd w0 H) (wpList Tryz.prog ops Q (⟨some d,.call { callee:=.value (.func 46),args:=xs.toArray,argTypes:=ats },ty,pos,aft,none⟩::rest)):=by
 refine at_callI func46 rfl (by kernel_rfl) rfl hx hdn rfl ?_
 refine sr ?_
 refine al (cs:=zl20) zeroValue98 ?_
 intro b1
 refine aa (nwx [2,0] ?_)
 refine at_callI func75 rfl (by kernel_rfl) rfl rfl rfl rfl ?_
 refine sr ?_
 refine at_box (cs:=zl22) rfl rfl rfl ?_
 intro b2
 refine al (cs:=zl21) zeroValue104 ?_
 intro b3
 refine nwx [2,1] ?_
 refine aw (r_makeFunc rfl) ?_
 refine aw (r_makeFunc rfl) ?_
 refine aw (r_makeFunc rfl) ?_
 refine aw (r_build_struct (zs:=zl21) (cs:=(zl6 b2)) underlying104 zeroValue104 rfl placesR_104 rfl rfl) ?_
 refine sa 3 ((zl6 b2)) .z rfl rfl sizeOf104 rfl rfl rfl ?_
 refine nwq [2] ?_
 refine qt ?_
 refine at_resI1 rfl (res_cell (c:=cK 3 (by decide)) (y:=ck 3 ((zl6 b2)) rfl) rfl .z lw isAgg104 sizeOf104 (.inl rfl)) ?_
 refine al (cs:=zl21) zeroValue104 ?_
 intro b4
 refine sa 3 ((zl6 b2)) .z rfl rfl sizeOf104 rfl rfl rfl ?_
 refine qn ?_
 refine at_drop (H:=_) (.s .z) ?_
 refine wq [4,2,0] ?_
 refine tn (sr ?_)
 refine at_callI func75 rfl (by kernel_rfl) rfl rfl rfl rfl ?_
 refine sr ?_
 refine at_box (cs:=zl23) rfl rfl rfl ?_
 intro b5
 refine al (cs:=zl21) zeroValue104 ?_
 intro b6
 refine nwx [2,1] ?_
 refine aw (r_makeFunc rfl) ?_
 refine aw (r_makeFunc rfl) ?_
 refine aw (r_makeFunc rfl) ?_
 refine aw (r_build_struct (zs:=zl21) (cs:=(zl6 b5)) underlying104 zeroValue104 rfl placesR_104 rfl rfl) ?_
 refine sa 3 ((zl6 b5)) .z rfl rfl sizeOf104 rfl rfl rfl ?_
 refine nwq [2] ?_
 refine qt ?_
 refine at_resI1 rfl (res_cell (c:=cK 3 (by decide)) (y:=ck 3 ((zl6 b5)) rfl) rfl .z lw isAgg104 sizeOf104 (.inl rfl)) ?_
 refine al (cs:=zl21) zeroValue104 ?_
 intro b7
 refine sa 3 ((zl6 b5)) .z rfl rfl sizeOf104 rfl rfl rfl ?_
 refine qn ?_
 refine at_drop (H:=_) (.s .z) ?_
 refine tn (qs (sr (am (nwq [8,5,4,2] ?_))))
 refine qb ?_
 refine sr (aw xq (aa (nwq [9,8,5,4,2] ?_)))
 refine cf h0_ ?_
 refine sr (aw xq (aa (nwq [14,8,5,4,2] ?_)))
 refine ct h1_ ?_
 refine sr ?_
 refine at_callI func78 rfl (by kernel_rfl) rfl rfl rfl rfl ?_
 refine dz (dz (dz (dz ?_)))
 refine at_weak [] trivial ?_
 refine sr ?_
 refine al (cs:=zl21) zeroValue104 ?_
 intro b8
 refine nwx [0] ?_
 refine aw (r_build_struct (zs:=zl21) (cs:=zl12) underlying104 zeroValue104 rfl placesR_104 rfl rfl) ?_
 refine sa 3 (zl12) .z rfl rfl sizeOf104 rfl rfl rfl ?_
 refine nwq [0] ?_
 refine qt ?_
 refine at_resI1 rfl (res_cell (c:=cK 3 (by decide)) (y:=ck 3 (zl12) rfl) rfl .z lw isAgg104 sizeOf104 (.inl rfl)) ?_
 refine at_litG (cs:=zl12) underlying96 sizeOf104 zeroValue104 rfl rfl rfl (by kernel_rfl) rfl ?_
 intro b9
 refine aw (r_build_struct (zs:=zl20) (cs:=(zl16 b9)) underlying98 zeroValue98 rfl placesR_98 rfl rfl) ?_
 refine sa 2 ((zl16 b9)) (.s (.s .z)) rfl rfl sizeOf98 rfl rfl rfl ?_
 refine aa (qn ?_)
 refine at_drop (H:=_) (.s .z) ?_
 refine wq [3,2] ?_
 refine tn (qt ?_)
 refine br (tr ?_)
 refine at_resI2 rfl (res_cell (c:=cK 2 (by decide)) (y:=ck 2 ((zl16 b9)) rfl) rfl (.s .z) lw isAgg98 sizeOf98 (.inl rfl)) (res_tmp rfl) ?_
 refine at_drop (H:=_) (.s .z) ?_
 exact k b9
set_option maxHeartbeats 3200000 in
theorem script_shapeOf_in2{n d:Nat}{L:List (Nat×Value)}{w0:World}{H:List Ent}{ops:Array Oper}{Q:Exit→Act→World→Prop}{rest:List Oper}{xs:List Operand}{ats:Array TypeId}{ty:TypeId}{pos:String}{aft:Array Edge}{a0:Int}(hx:evs L xs=some [.int .i64 a0])(hdn:Nat.blt d n=true)(h0_:(a0==1)=false)(h1_:(a0==2)=false)(h2_:(a0==3)=true)(k:∀ b10:Nat,At n ((d,.tuple #[.agg #[.string (⟨#[111,117,116]⟩),.slice (some ⟨b10,0,none⟩) 2 2],.bool true])::L) (Wd w0 (cellsE b10 [.func (.func 125) #[] #[],.func (.func 127) #[] #[],.func (.func 129) #[] #[],.func (.func 130) #[] #[],.func (.func 131) #[] #[],.func (.func 132) #[] #[]] 104::H)) (wpList Tryz.prog ops Q rest)) :
    At n L (Wd w0 H) (wpList Tryz.prog ops Q (⟨some d,.call { callee:=.value (.func 46),args:=xs.toArray,argTypes:=ats },ty,pos,aft,none⟩::rest)):=by
 refine at_callI func46 rfl (by kernel_rfl) rfl hx hdn rfl ?_
 refine sr ?_
 refine al (cs:=zl20) zeroValue98 ?_
 intro b1
 refine aa (nwx [2,0] ?_)
 refine at_callI func75 rfl (by kernel_rfl) rfl rfl rfl rfl ?_
 refine sr ?_
 refine at_box (cs:=zl22) rfl rfl rfl ?_
 intro b2
 refine al (cs:=zl21) zeroValue104 ?_
 intro b3
 refine nwx [2,1] ?_
 refine aw (r_makeFunc rfl) ?_
 refine aw (r_makeFunc rfl) ?_
 refine aw (r_makeFunc rfl) ?_
 refine aw (r_build_struct (zs:=zl21) (cs:=(zl6 b2)) underlying104 zeroValue104 rfl placesR_104 rfl rfl) ?_
 refine sa 3 ((zl6 b2)) .z rfl rfl sizeOf104 rfl rfl rfl ?_
 refine nwq [2] ?_
 refine qt ?_
 refine at_resI1 rfl (res_cell (c:=cK 3 (by decide)) (y:=ck 3 ((zl6 b2)) rfl) rfl .z lw isAgg104 sizeOf104 (.inl rfl)) ?_
 refine al (cs:=zl21) zeroValue104 ?_
 intro b4
 refine sa 3 ((zl6 b2)) .z rfl rfl sizeOf104 rfl rfl rfl ?_
 refine qn ?_
 refine at_drop (H:=_) (.s .z) ?_
 refine wq [4,2,0] ?_
 refine tn (sr ?_)
 refine at_callI func75 rfl (by kernel_rfl) rfl rfl rfl rfl ?_
 refine sr ?_
 refine at_box (cs:=zl23) rfl rfl rfl ?_
 intro b5
 refine al (cs:=zl21) zeroValue104 ?_
 intro b6
 refine nwx [2,1] ?_
 refine aw (r_makeFunc rfl) ?_
 refine aw (r_makeFunc rfl) ?_
 refine aw (r_makeFunc rfl) ?_
 refine aw (r_build_struct (zs:=zl21) (cs:=(zl6 b5)) underlying104 zeroValue104 rfl placesR_104 rfl rfl) ?_
 refine sa 3 ((zl6 b5)) .z rfl rfl sizeOf104 rfl rfl rfl ?_
 refine nwq [2] ?_
 refine qt ?_
 refine at_resI1 rfl (res_cell (c:=cK 3 (by decide)) (y:=ck 3 ((zl6 b5)) rfl) rfl .z lw isAgg104 sizeOf104 (.inl rfl)) ?_
 refine al (cs:=zl21) zeroValue104 ?_
 intro b7
 refine sa 3 ((zl6 b5)) .z rfl rfl sizeOf104 rfl rfl rfl ?_
 refine qn ?_
 refine at_drop (H:=_) (.s .z) ?_
 refine tn (qs (sr (am (nwq [8,5,4,2] ?_))))
 refine qb ?_
 refine sr (aw xq (aa (nwq [9,8,5,4,2] ?_)))
 refine cf h0_ ?_
 refine sr (aw xq (aa (nwq [14,8,5,4,2] ?_)))
 refine cf h1_ ?_
 refine sr (aw xq (aa (nwq [19,8,5,4,2] ?_)))
 refine ct h2_ ?_
 refine sr ?_
 refine at_callI func78 rfl (by kernel_rfl) rfl rfl rfl rfl ?_
 refine dz (dz (dz (dz ?_)))
 refine at_weak [] trivial ?_
 refine sr ?_
 refine al (cs:=zl21) zeroValue104 ?_
 intro b8
 refine nwx [0] ?_
 refine aw (r_build_struct (zs:=zl21) (cs:=zl12) underlying104 zeroValue104 rfl placesR_104 rfl rfl) ?_
 refine sa 3 (zl12) .z rfl rfl sizeOf104 rfl rfl rfl ?_
 refine nwq [0] ?_
 refine qt ?_
 refine at_resI1 rfl (res_cell (c:=cK 3 (by decide)) (y:=ck 3 (zl12) rfl) rfl .z lw isAgg104 sizeOf104 (.inl rfl)) ?_
 refine at_callI func79 rfl (by kernel_rfl) rfl rfl rfl rfl ?_
 refine dz ?_
 refine at_weak [] trivial ?_
 refine sr ?_
 refine al (cs:=zl21) zeroValue104 ?_
 intro b9
 refine nwx [0] ?_
 refine aw (r_build_struct (zs:=zl21) (cs:=zl13) underlying104 zeroValue104 rfl placesR_104 rfl rfl) ?_
 refine sa 3 (zl13) .z rfl rfl sizeOf104 rfl rfl rfl ?_
 refine nwq [0] ?_
 refine qt ?_
 refine at_resI1 rfl (res_cell (c:=cK 3 (by decide)) (y:=ck 3 (zl13) rfl) rfl .z lw isAgg104 sizeOf104 (.inl rfl)) ?_
 refine at_litG (cs:=zl7) underlying96 sizeOf104 zeroValue104 rfl rfl rfl (by kernel_rfl) rfl ?_
 intro b10
 refine aw (r_build_struct (zs:=zl20) (cs:=(zl18 b10)) underlying98 zeroValue98 rfl placesR_98 rfl rfl) ?_
 refine sa 2 ((zl18 b10)) (.s (.s .z)) rfl rfl sizeOf98 rfl rfl rfl ?_
 refine aa (qn ?_)
 refine at_drop (H:=_) (.s .z) ?_
 refine wq [3,2] ?_
 refine tn (qt ?_)
 refine br (tr ?_)
 refine at_resI2 rfl (res_cell (c:=cK 2 (by decide)) (y:=ck 2 ((zl18 b10)) rfl) rfl (.s .z) lw isAgg98 sizeOf98 (.inl rfl)) (res_tmp rfl) ?_
 refine at_drop (H:=_) (.s .z) ?_
 exact k b10
set_option maxHeartbeats 3200000 in
theorem script_shapeOf_in3{n d:Nat}{L:List (Nat×Value)}{w0:World}{H:List Ent}{ops:Array Oper}{Q:Exit→Act→World→Prop}{rest:List Oper}{xs:List Operand}{ats:Array TypeId}{ty:TypeId}{pos:String}{aft:Array Edge}{a0:Int}(hx:evs L xs=some [.int .i64 a0])(hdn:Nat.blt d n=true)(h0_:(a0==1)=false)(h1_:(a0==2)=false)(h2_:(a0==3)=false)(h3_:(a0==4)=true)(k:∀ b11:Nat,At n ((d,.tuple #[.agg #[.string (⟨#[105,110]⟩),.slice (some ⟨b11,0,none⟩) 3 3],.bool true])::L) (Wd w0 (cellsE b11 [.func (.func 133) #[] #[],.func (.func 134) #[] #[],.func (.func 135) #[] #[],.func (.func 125) #[] #[],.func (.func 127) #[] #[],.func (.func 129) #[] #[],.func (.func 130) #[] #[],.func (.func 131) #[] #[],.func (.func 132) #[] #[]] 104::H)) (wpList Tryz.prog ops Q rest)) :
    At n L (Wd w0 H) (wpList Tryz.prog ops Q (⟨some d,.call { callee:=.value (.func 46),args:=xs.toArray,argTypes:=ats },ty,pos,aft,none⟩::rest)):=by
 refine at_callI func46 rfl (by kernel_rfl) rfl hx hdn rfl ?_
 refine sr ?_
 refine al (cs:=zl20) zeroValue98 ?_
 intro b1
 refine aa (nwx [2,0] ?_)
 refine at_callI func75 rfl (by kernel_rfl) rfl rfl rfl rfl ?_
 refine sr ?_
 refine at_box (cs:=zl22) rfl rfl rfl ?_
 intro b2
 refine al (cs:=zl21) zeroValue104 ?_
 intro b3
 refine nwx [2,1] ?_
 refine aw (r_makeFunc rfl) ?_
 refine aw (r_makeFunc rfl) ?_
 refine aw (r_makeFunc rfl) ?_
 refine aw (r_build_struct (zs:=zl21) (cs:=(zl6 b2)) underlying104 zeroValue104 rfl placesR_104 rfl rfl) ?_
 refine sa 3 ((zl6 b2)) .z rfl rfl sizeOf104 rfl rfl rfl ?_
 refine nwq [2] ?_
 refine qt ?_
 refine at_resI1 rfl (res_cell (c:=cK 3 (by decide)) (y:=ck 3 ((zl6 b2)) rfl) rfl .z lw isAgg104 sizeOf104 (.inl rfl)) ?_
 refine al (cs:=zl21) zeroValue104 ?_
 intro b4
 refine sa 3 ((zl6 b2)) .z rfl rfl sizeOf104 rfl rfl rfl ?_
 refine qn ?_
 refine at_drop (H:=_) (.s .z) ?_
 refine wq [4,2,0] ?_
 refine tn (sr ?_)
 refine at_callI func75 rfl (by kernel_rfl) rfl rfl rfl rfl ?_
 refine sr ?_
 refine at_box (cs:=zl23) rfl rfl rfl ?_
 intro b5
 refine al (cs:=zl21) zeroValue104 ?_
 intro b6
 refine nwx [2,1] ?_
 refine aw (r_makeFunc rfl) ?_
 refine aw (r_makeFunc rfl) ?_
 refine aw (r_makeFunc rfl) ?_
 refine aw (r_build_struct (zs:=zl21) (cs:=(zl6 b5)) underlying104 zeroValue104 rfl placesR_104 rfl rfl) ?_
 refine sa 3 ((zl6 b5)) .z rfl rfl sizeOf104 rfl rfl rfl ?_
 refine nwq [2] ?_
 refine qt ?_
 refine at_resI1 rfl (res_cell (c:=cK 3 (by decide)) (y:=ck 3 ((zl6 b5)) rfl) rfl .z lw isAgg104 sizeOf104 (.inl rfl)) ?_
 refine al (cs:=zl21) zeroValue104 ?_
 intro b7
 refine sa 3 ((zl6 b5)) .z rfl rfl sizeOf104 rfl rfl rfl ?_
 refine qn ?_
 refine at_drop (H:=_) (.s .z) ?_
 refine tn (qs (sr (am (nwq [8,5,4,2] ?_))))
 refine qb ?_
 refine sr (aw xq (aa (nwq [9,8,5,4,2] ?_)))
 refine cf h0_ ?_
 refine sr (aw xq (aa (nwq [14,8,5,4,2] ?_)))
 refine cf h1_ ?_
 refine sr (aw xq (aa (nwq [19,8,5,4,2] ?_)))
 refine cf h2_ ?_
 refine sr (aw xq (aa (nwq [25,8,5,4,2] ?_)))
 refine ct h3_ ?_
 refine sr ?_
 refine at_callI func80 rfl (by kernel_rfl) rfl rfl rfl rfl ?_
 refine dz (dz (dz (dz ?_)))
 refine at_weak [] trivial ?_
 refine sr ?_
 refine al (cs:=zl21) zeroValue104 ?_
 intro b8
 refine nwx [0] ?_
 refine aw (r_build_struct (zs:=zl21) (cs:=zl14) underlying104 zeroValue104 rfl placesR_104 rfl rfl) ?_
 refine sa 3 (zl14) .z rfl rfl sizeOf104 rfl rfl rfl ?_
 refine nwq [0] ?_
 refine qt ?_
 refine at_resI1 rfl (res_cell (c:=cK 3 (by decide)) (y:=ck 3 (zl14) rfl) rfl .z lw isAgg104 sizeOf104 (.inl rfl)) ?_
 refine at_callI func78 rfl (by kernel_rfl) rfl rfl rfl rfl ?_
 refine dz ?_
 refine at_weak [] trivial ?_
 refine sr ?_
 refine al (cs:=zl21) zeroValue104 ?_
 intro b9
 refine nwx [0] ?_
 refine aw (r_build_struct (zs:=zl21) (cs:=zl12) underlying104 zeroValue104 rfl placesR_104 rfl rfl) ?_
 refine sa 3 (zl12) .z rfl rfl sizeOf104 rfl rfl rfl ?_
 refine nwq [0] ?_
 refine qt ?_
 refine at_resI1 rfl (res_cell (c:=cK 3 (by decide)) (y:=ck 3 (zl12) rfl) rfl .z lw isAgg104 sizeOf104 (.inl rfl)) ?_
 refine at_callI func79 rfl (by kernel_rfl) rfl rfl rfl rfl ?_
 refine dz ?_
 refine at_weak [] trivial ?_
 refine sr ?_
 refine al (cs:=zl21) zeroValue104 ?_
 intro b10
 refine nwx [0] ?_
 refine aw (r_build_struct (zs:=zl21) (cs:=zl13) underlying104 zeroValue104 rfl placesR_104 rfl rfl) ?_
 refine sa 3 (zl13) .z rfl rfl sizeOf104 rfl rfl rfl ?_
 refine nwq [0] ?_
 refine qt ?_
 refine at_resI1 rfl (res_cell (c:=cK 3 (by decide)) (y:=ck 3 (zl13) rfl) rfl .z lw isAgg104 sizeOf104 (.inl rfl)) ?_
 refine at_litG (cs:=zl5) underlying96 sizeOf104 zeroValue104 rfl rfl rfl (by kernel_rfl) rfl ?_
 intro b11
 refine aw (r_build_struct (zs:=zl20) (cs:=(zl19 b11)) underlying98 zeroValue98 rfl placesR_98 rfl rfl) ?_
 refine sa 2 ((zl19 b11)) (.s (.s .z)) rfl rfl sizeOf98 rfl rfl rfl ?_
 refine aa (qn ?_)
 refine at_drop (H:=_) (.s .z) ?_
 refine wq [3,2] ?_
 refine tn (qt ?_)
 refine br (tr ?_)
 refine at_resI2 rfl (res_cell (c:=cK 2 (by decide)) (y:=ck 2 ((zl19 b11)) rfl) rfl (.s .z) lw isAgg98 sizeOf98 (.inl rfl)) (res_tmp rfl) ?_
 refine at_drop (H:=_) (.s .z) ?_
 exact k b11
set_option maxHeartbeats 3200000 in
theorem script_shapeOf_in4{n d:Nat}{L:List (Nat×Value)}{w0:World}{H:List Ent}{ops:Array Oper}{Q:Exit→Act→World→Prop}{rest:List Oper}{xs:List Operand}{ats:Array TypeId}{ty:TypeId}{pos:String}{aft:Array Edge}{a0:Int}(hx:evs L xs=some [.int .i64 a0])(hdn:Nat.blt d n=true)(h0_:(a0==1)=false)(h1_:(a0==2)=false)(h2_:(a0==3)=false)(h3_:(a0==4)=false)(h4_:(a0==5)=true)(k:∀ b2 b5 b9000:Nat,At n ((d,.tuple #[.agg #[.string (⟨#[105,110,115,116,97,108,108]⟩),.slice (some ⟨b9000,0,none⟩) 4 4],.bool true])::L) (Wd w0 (cellsE b9000 [.func (.func 136) #[] #[],.func (.func 137) #[] #[],.func (.func 138) #[] #[],.func (.func 122) #[] #[.pointer (some ⟨b2,0,none⟩)],.func (.func 123) #[] #[.pointer (some ⟨b2,0,none⟩)],.func (.func 124) #[] #[.pointer (some ⟨b2,0,none⟩)],.func (.func 122) #[] #[.pointer (some ⟨b5,0,none⟩)],.func (.func 123) #[] #[.pointer (some ⟨b5,0,none⟩)],.func (.func 124) #[] #[.pointer (some ⟨b5,0,none⟩)],.func (.func 139) #[] #[],.func (.func 140) #[] #[],.func (.func 141) #[] #[]] 104::cellsE b5 [.func (.func 77) #[] #[]] 133::cellsE b2 [.func (.func 76) #[] #[]] 133::H)) (wpList Tryz.prog ops Q rest)) :
    At n L (Wd w0 H) (wpList Tryz.prog ops Q (⟨some d,.call { callee:=.value (.func 46),args:=xs.toArray,argTypes:=ats },ty,pos,aft,none⟩::rest)):=by
 refine at_callI func46 rfl (by kernel_rfl) rfl hx hdn rfl ?_
 refine sr ?_
 refine al (cs:=zl20) zeroValue98 ?_
 intro b1
 refine aa (nwx [2,0] ?_)
 refine at_callI func75 rfl (by kernel_rfl) rfl rfl rfl rfl ?_
 refine sr ?_
 refine at_box (cs:=zl22) rfl rfl rfl ?_
 intro b2
 refine al (cs:=zl21) zeroValue104 ?_
 intro b3
 refine nwx [2,1] ?_
 refine aw (r_makeFunc rfl) ?_
 refine aw (r_makeFunc rfl) ?_
 refine aw (r_makeFunc rfl) ?_
 refine aw (r_build_struct (zs:=zl21) (cs:=(zl6 b2)) underlying104 zeroValue104 rfl placesR_104 rfl rfl) ?_
 refine sa 3 ((zl6 b2)) .z rfl rfl sizeOf104 rfl rfl rfl ?_
 refine nwq [2] ?_
 refine qt ?_
 refine at_resI1 rfl (res_cell (c:=cK 3 (by decide)) (y:=ck 3 ((zl6 b2)) rfl) rfl .z lw isAgg104 sizeOf104 (.inl rfl)) ?_
 refine al (cs:=zl21) zeroValue104 ?_
 intro b4
 refine sa 3 ((zl6 b2)) .z rfl rfl sizeOf104 rfl rfl rfl ?_
 refine qn ?_
 refine at_drop (H:=_) (.s .z) ?_
 refine wq [4,2,0] ?_
 refine tn (sr ?_)
 refine at_callI func75 rfl (by kernel_rfl) rfl rfl rfl rfl ?_
 refine sr ?_
 refine at_box (cs:=zl23) rfl rfl rfl ?_
 intro b5
 refine al (cs:=zl21) zeroValue104 ?_
 intro b6
 refine nwx [2,1] ?_
 refine aw (r_makeFunc rfl) ?_
 refine aw (r_makeFunc rfl) ?_
 refine aw (r_makeFunc rfl) ?_
 refine aw (r_build_struct (zs:=zl21) (cs:=(zl6 b5)) underlying104 zeroValue104 rfl placesR_104 rfl rfl) ?_
 refine sa 3 ((zl6 b5)) .z rfl rfl sizeOf104 rfl rfl rfl ?_
 refine nwq [2] ?_
 refine qt ?_
 refine at_resI1 rfl (res_cell (c:=cK 3 (by decide)) (y:=ck 3 ((zl6 b5)) rfl) rfl .z lw isAgg104 sizeOf104 (.inl rfl)) ?_
 refine al (cs:=zl21) zeroValue104 ?_
 intro b7
 refine sa 3 ((zl6 b5)) .z rfl rfl sizeOf104 rfl rfl rfl ?_
 refine qn ?_
 refine at_drop (H:=_) (.s .z) ?_
 refine tn (qs (sr (am (nwq [8,5,4,2] ?_))))
 refine qb ?_
 refine sr (aw xq (aa (nwq [9,8,5,4,2] ?_)))
 refine cf h0_ ?_
 refine sr (aw xq (aa (nwq [14,8,5,4,2] ?_)))
 refine cf h1_ ?_
 refine sr (aw xq (aa (nwq [19,8,5,4,2] ?_)))
 refine cf h2_ ?_
 refine sr (aw xq (aa (nwq [25,8,5,4,2] ?_)))
 refine cf h3_ ?_
 refine sr (aw xq (aa (nwq [32,8,5,4,2] ?_)))
 refine ct h4_ ?_
 refine qs (wq [5,4,2] ?_)
 refine at_inv [.q 34 (fun g9=>.agg (zl10).toArray) [] 0 0,.q 35 (fun g9=>.agg (zl6 b2).toArray) [] 0 0,.q 36 (fun g9=>.agg (zl6 b5).toArray) [] 0 0,.q 37 (fun g9=>.agg (zl11).toArray) [] 0 0,.al 0 38 (fun g9=>.slice (some ⟨((g9 0).1),0,none⟩) 4 4) [0,1,2,3],.q 39 (fun g9=>.agg #[.string (⟨#[105,110,115,116,97,108,108]⟩),.slice (some ⟨((g9 0).1),0,none⟩) 4 4]) [4] 1 1,.st 1 none [5],.q 3 (fun g9=>.bool true) [] 2 2] (fun g9 s=>match s with | 0=>(Wd w0 (cellsE b7 (zl6 b5) 104::cellsE b5 zl23 133::cellsE b4 (zl6 b2) 104::cellsE b2 zl22 133::cellsE b1 zl20 98::H)) | 1=>(Wd w0 (cellsE ((g9 0).1) (zl0 b2 b5) 104::cellsE b7 (zl6 b5) 104::cellsE b5 zl23 133::cellsE b4 (zl6 b2) 104::cellsE b2 zl22 133::cellsE b1 zl20 98::H)) | _=>(Wd w0 (cellsE ((g9 0).1) (zl0 b2 b5) 104::cellsE b7 (zl6 b5) 104::cellsE b5 zl23 133::cellsE b4 (zl6 b2) 104::cellsE b2 zl22 133::cellsE b1 [.string (⟨#[105,110,115,116,97,108,108]⟩),.slice (some ⟨((g9 0).1),0,none⟩) 4 4] 98::H))) 2 (by kernel_rfl) (by kernel_rfl) (by kernel_rfl) (by kernel_rfl) (by kernel_rfl) ⟨fun _ _ _=>rfl,fun _ _ _=>rfl,fun _ _ _=>rfl,fun _ _ _=>rfl,fun g9 g2 h=>by show (.slice (some ⟨((g9 0).1),0,none⟩) 4 4:Value)=.slice (some ⟨((g2 0).1),0,none⟩) 4 4;rw [h 0 (show 0<1 by decide)],fun g9 g2 h=>by show (.agg #[.string (⟨#[105,110,115,116,97,108,108]⟩),.slice (some ⟨((g9 0).1),0,none⟩) 4 4]:Value)=.agg #[.string (⟨#[105,110,115,116,97,108,108]⟩),.slice (some ⟨((g2 0).1),0,none⟩) 4 4];rw [h 0 (show 0<1 by decide)],fun _ _ _=>rfl,fun _ _ _=>rfl,trivial⟩ (by kernel_rfl) (fun w_ h=>⟨fun _=>g3 0 none 0 none w_,h.drew⟩) ⟨?_,?_,?_,?_,?_,?_,?_,?_,trivial⟩ ?_
 ·intro Lx g9 s K hl hh k
  show At 46 ((2,_)::(4,_)::(5,_)::Lx) _ _
  obtain rfl:s=0:=by omega
  refine cB func81 rfl (fun w1 hw=>script_key_ok () rfl w1) ?_
  exact at_nil k
 ·intro Lx g9 s K hl hh k
  show At 46 ((2,_)::(4,_)::(5,_)::Lx) _ _
  obtain rfl:s=0:=by omega
  refine aw (r_load_agg (l:=(zl6 b2)) isAgg104 sizeOf104 rfl rfl (fun w1 hw=>cells_mid (pre:=[]) (suf:=[]) (hw.ok (Upd.mem (.s (.s .z)))) (List.append_nil _).symm rfl)) ?_
  exact at_nil k
 ·intro Lx g9 s K hl hh k
  show At 46 ((2,_)::(4,_)::(5,_)::Lx) _ _
  obtain rfl:s=0:=by omega
  refine aw (r_load_agg (l:=(zl6 b5)) isAgg104 sizeOf104 rfl rfl (fun w1 hw=>cells_mid (pre:=[]) (suf:=[]) (hw.ok (Upd.mem .z)) (List.append_nil _).symm rfl)) ?_
  exact at_nil k
 ·intro Lx g9 s K hl hh k
  show At 46 ((2,_)::(4,_)::(5,_)::Lx) _ _
  obtain rfl:s=0:=by omega
  refine cB func82 rfl (fun w1 hw=>script_next_ok () rfl w1) ?_
  exact at_nil k
 ·intro Lx g9 K k
  show At 46 ((34,_)::(35,_)::(36,_)::(37,_)::(2,_)::(4,_)::(5,_)::Lx) _ _
  refine at_litG (cs:=(zl0 b2 b5)) underlying96 sizeOf104 zeroValue104 rfl rfl rfl (by kernel_rfl) rfl ?_
  intro b8
  exact at_nil (k (g3 b8 none 0 none w0))
 ·intro Lx g9 s K hl hh k
  show At 46 ((38,_)::(2,_)::(4,_)::(5,_)::Lx) _ _
  obtain rfl:s=1:=by omega
  refine aw (r_build_struct (zs:=zl20) (cs:=[.string (⟨#[105,110,115,116,97,108,108]⟩),.slice (some ⟨((g9 0).1),0,none⟩) 4 4]) underlying98 zeroValue98 rfl placesR_98 rfl rfl) ?_
  exact at_nil k
 ·intro Lx g9 K k
  show At 46 ((39,_)::(2,_)::(4,_)::(5,_)::Lx) _ _
  refine sa 2 ([.string (⟨#[105,110,115,116,97,108,108]⟩),.slice (some ⟨((g9 0).1),0,none⟩) 4 4]) (.s (.s (.s (.s (.s .z))))) rfl rfl sizeOf98 rfl rfl rfl ?_
  exact at_nil k
 ·intro Lx g9 s K hl hh k
  show At 46 ((2,_)::(4,_)::(5,_)::Lx) _ _
  refine aa ?_
  exact at_nil k
 intro g9
 show At 46 [(34,_),(35,_),(36,_),(37,_),(38,_),(39,_),(3,_),(2,_),(4,_),(5,_)] _ _
 refine at_drop (H:=_) (.s .z) ?_
 refine at_drop (H:=_) (.s (.s .z)) ?_
 refine wq [3,2] ?_
 refine tn (qt ?_)
 refine br (tr ?_)
 refine at_resI2 rfl (res_cell (c:=cK 2 (by decide)) (y:=ck 2 ([.string (⟨#[105,110,115,116,97,108,108]⟩),.slice (some ⟨(g9 0).1,0,none⟩) 4 4]) rfl) rfl (.s (.s (.s .z))) lw isAgg98 sizeOf98 (.inl rfl)) (res_tmp rfl) ?_
 refine at_drop (H:=_) (.s (.s (.s .z))) ?_
 exact k b2 b5 ((g9 0).1)
set_option maxHeartbeats 3200000 in
theorem script_shapeOf_in5{n d:Nat}{L:List (Nat×Value)}{w0:World}{H:List Ent}{ops:Array Oper}{Q:Exit→Act→World→Prop}{rest:List Oper}{xs:List Operand}{ats:Array TypeId}{ty:TypeId}{pos:String}{aft:Array Edge}{a0:Int}(hx:evs L xs=some [.int .i64 a0])(hdn:Nat.blt d n=true)(h0_:(a0==1)=false)(h1_:(a0==2)=false)(h2_:(a0==3)=false)(h3_:(a0==4)=false)(h4_:(a0==5)=false)(h5_:(a0==6)=true)(k:∀ b2 b8:Nat,At n ((d,.tuple #[.agg #[.string (⟨#[102,111,114,103,101,116]⟩),.slice (some ⟨b8,0,none⟩) 1 1],.bool true])::L) (Wd w0 (cellsE b8 [.func (.func 122) #[] #[.pointer (some ⟨b2,0,none⟩)],.func (.func 123) #[] #[.pointer (some ⟨b2,0,none⟩)],.func (.func 124) #[] #[.pointer (some ⟨b2,0,none⟩)]] 104::cellsE b2 [.func (.func 76) #[] #[]] 133::H)) (wpList Tryz.prog ops Q rest)) :
    At n L (Wd w0 H) (wpList Tryz.prog ops Q (⟨some d,.call { callee:=.value (.func 46),args:=xs.toArray,argTypes:=ats },ty,pos,aft,none⟩::rest)):=by
 refine at_callI func46 rfl (by kernel_rfl) rfl hx hdn rfl ?_
 refine sr ?_
 refine al (cs:=zl20) zeroValue98 ?_
 intro b1
 refine aa (nwx [2,0] ?_)
 refine at_callI func75 rfl (by kernel_rfl) rfl rfl rfl rfl ?_
 refine sr ?_
 refine at_box (cs:=zl22) rfl rfl rfl ?_
 intro b2
 refine al (cs:=zl21) zeroValue104 ?_
 intro b3
 refine nwx [2,1] ?_
 refine aw (r_makeFunc rfl) ?_
 refine aw (r_makeFunc rfl) ?_
 refine aw (r_makeFunc rfl) ?_
 refine aw (r_build_struct (zs:=zl21) (cs:=(zl6 b2)) underlying104 zeroValue104 rfl placesR_104 rfl rfl) ?_
 refine sa 3 ((zl6 b2)) .z rfl rfl sizeOf104 rfl rfl rfl ?_
 refine nwq [2] ?_
 refine qt ?_
 refine at_resI1 rfl (res_cell (c:=cK 3 (by decide)) (y:=ck 3 ((zl6 b2)) rfl) rfl .z lw isAgg104 sizeOf104 (.inl rfl)) ?_
 refine al (cs:=zl21) zeroValue104 ?_
 intro b4
 refine sa 3 ((zl6 b2)) .z rfl rfl sizeOf104 rfl rfl rfl ?_
 refine qn ?_
 refine at_drop (H:=_) (.s .z) ?_
 refine wq [4,2,0] ?_
 refine tn (sr ?_)
 refine at_callI func75 rfl (by kernel_rfl) rfl rfl rfl rfl ?_
 refine sr ?_
 refine at_box (cs:=zl23) rfl rfl rfl ?_
 intro b5
 refine al (cs:=zl21) zeroValue104 ?_
 intro b6
 refine nwx [2,1] ?_
 refine aw (r_makeFunc rfl) ?_
 refine aw (r_makeFunc rfl) ?_
 refine aw (r_makeFunc rfl) ?_
 refine aw (r_build_struct (zs:=zl21) (cs:=(zl6 b5)) underlying104 zeroValue104 rfl placesR_104 rfl rfl) ?_
 refine sa 3 ((zl6 b5)) .z rfl rfl sizeOf104 rfl rfl rfl ?_
 refine nwq [2] ?_
 refine qt ?_
 refine at_resI1 rfl (res_cell (c:=cK 3 (by decide)) (y:=ck 3 ((zl6 b5)) rfl) rfl .z lw isAgg104 sizeOf104 (.inl rfl)) ?_
 refine al (cs:=zl21) zeroValue104 ?_
 intro b7
 refine sa 3 ((zl6 b5)) .z rfl rfl sizeOf104 rfl rfl rfl ?_
 refine qn ?_
 refine at_drop (H:=_) (.s .z) ?_
 refine tn (qs (sr (am (nwq [8,5,4,2] ?_))))
 refine qb ?_
 refine sr (aw xq (aa (nwq [9,8,5,4,2] ?_)))
 refine cf h0_ ?_
 refine sr (aw xq (aa (nwq [14,8,5,4,2] ?_)))
 refine cf h1_ ?_
 refine sr (aw xq (aa (nwq [19,8,5,4,2] ?_)))
 refine cf h2_ ?_
 refine sr (aw xq (aa (nwq [25,8,5,4,2] ?_)))
 refine cf h3_ ?_
 refine sr (aw xq (aa (nwq [32,8,5,4,2] ?_)))
 refine cf h4_ ?_
 refine sr (aw xq (aa (qn (dz (dz (wq [40,4,2] ?_))))))
 refine tn ?_
 refine ct h5_ ?_
 refine sr ?_
 refine aw (r_load_agg (l:=(zl6 b2)) isAgg104 sizeOf104 rfl rfl (fun w1 hw=>cells_mid (pre:=[]) (suf:=[]) (hw.ok (Upd.mem .z)) (List.append_nil _).symm rfl)) ?_
 refine at_litG (cs:=(zl6 b2)) underlying96 sizeOf104 zeroValue104 rfl rfl rfl (by kernel_rfl) rfl ?_
 intro b8
 refine aw (r_build_struct (zs:=zl20) (cs:=(zl15 b8)) underlying98 zeroValue98 rfl placesR_98 rfl rfl) ?_
 refine sa 2 ((zl15 b8)) (.s (.s (.s .z))) rfl rfl sizeOf98 rfl rfl rfl ?_
 refine aa (qn ?_)
 refine at_drop (H:=_) (.s .z) ?_
 refine wq [3,2] ?_
 refine tn (qt ?_)
 refine br (tr ?_)
 refine at_resI2 rfl (res_cell (c:=cK 2 (by decide)) (y:=ck 2 ((zl15 b8)) rfl) rfl (.s (.s .z)) lw isAgg98 sizeOf98 (.inl rfl)) (res_tmp rfl) ?_
 refine at_drop (H:=_) (.s (.s .z)) ?_
 exact k b2 b8
set_option maxHeartbeats 3200000 in
theorem script_shapeOf_in6{n d:Nat}{L:List (Nat×Value)}{w0:World}{H:List Ent}{ops:Array Oper}{Q:Exit→Act→World→Prop}{rest:List Oper}{xs:List Operand}{ats:Array TypeId}{ty:TypeId}{pos:String}{aft:Array Edge}{a0:Int}(hx:evs L xs=some [.int .i64 a0])(hdn:Nat.blt d n=true)(h0_:(a0==1)=false)(h1_:(a0==2)=false)(h2_:(a0==3)=false)(h3_:(a0==4)=false)(h4_:(a0==5)=false)(h5_:(a0==6)=false)(k:∀ _:Unit,At n ((d,.tuple #[.agg #[.string (⟨#[]⟩),.slice none 0 0],.bool false])::L) (Wd w0 (H)) (wpList Tryz.prog ops Q rest)) :
    At n L (Wd w0 H) (wpList Tryz.prog ops Q (⟨some d,.call { callee:=.value (.func 46),args:=xs.toArray,argTypes:=ats },ty,pos,aft,none⟩::rest)):=by
 refine at_callI func46 rfl (by kernel_rfl) rfl hx hdn rfl ?_
 refine sr ?_
 refine al (cs:=zl20) zeroValue98 ?_
 intro b1
 refine aa (nwx [2,0] ?_)
 refine at_callI func75 rfl (by kernel_rfl) rfl rfl rfl rfl ?_
 refine sr ?_
 refine at_box (cs:=zl22) rfl rfl rfl ?_
 intro b2
 refine al (cs:=zl21) zeroValue104 ?_
 intro b3
 refine nwx [2,1] ?_
 refine aw (r_makeFunc rfl) ?_
 refine aw (r_makeFunc rfl) ?_
 refine aw (r_makeFunc rfl) ?_
 refine aw (r_build_struct (zs:=zl21) (cs:=(zl6 b2)) underlying104 zeroValue104 rfl placesR_104 rfl rfl) ?_
 refine sa 3 ((zl6 b2)) .z rfl rfl sizeOf104 rfl rfl rfl ?_
 refine nwq [2] ?_
 refine qt ?_
 refine at_resI1 rfl (res_cell (c:=cK 3 (by decide)) (y:=ck 3 ((zl6 b2)) rfl) rfl .z lw isAgg104 sizeOf104 (.inl rfl)) ?_
 refine al (cs:=zl21) zeroValue104 ?_
 intro b4
 refine sa 3 ((zl6 b2)) .z rfl rfl sizeOf104 rfl rfl rfl ?_
 refine qn ?_
 refine at_drop (H:=_) (.s .z) ?_
 refine wq [4,2,0] ?_
 refine tn (sr ?_)
 refine at_callI func75 rfl (by kernel_rfl) rfl rfl rfl rfl ?_
 refine sr ?_
 refine at_box (cs:=zl23) rfl rfl rfl ?_
 intro b5
 refine al (cs:=zl21) zeroValue104 ?_
 intro b6
 refine nwx [2,1] ?_
 refine aw (r_makeFunc rfl) ?_
 refine aw (r_makeFunc rfl) ?_
 refine aw (r_makeFunc rfl) ?_
 refine aw (r_build_struct (zs:=zl21) (cs:=(zl6 b5)) underlying104 zeroValue104 rfl placesR_104 rfl rfl) ?_
 refine sa 3 ((zl6 b5)) .z rfl rfl sizeOf104 rfl rfl rfl ?_
 refine nwq [2] ?_
 refine qt ?_
 refine at_resI1 rfl (res_cell (c:=cK 3 (by decide)) (y:=ck 3 ((zl6 b5)) rfl) rfl .z lw isAgg104 sizeOf104 (.inl rfl)) ?_
 refine al (cs:=zl21) zeroValue104 ?_
 intro b7
 refine sa 3 ((zl6 b5)) .z rfl rfl sizeOf104 rfl rfl rfl ?_
 refine qn ?_
 refine at_drop (H:=_) (.s .z) ?_
 refine tn (qs (sr (am (nwq [8,5,4,2] ?_))))
 refine qb ?_
 refine sr (aw xq (aa (nwq [9,8,5,4,2] ?_)))
 refine cf h0_ ?_
 refine sr (aw xq (aa (nwq [14,8,5,4,2] ?_)))
 refine cf h1_ ?_
 refine sr (aw xq (aa (nwq [19,8,5,4,2] ?_)))
 refine cf h2_ ?_
 refine sr (aw xq (aa (nwq [25,8,5,4,2] ?_)))
 refine cf h3_ ?_
 refine sr (aw xq (aa (nwq [32,8,5,4,2] ?_)))
 refine cf h4_ ?_
 refine sr (aw xq (aa (qn (dz (dz (wq [40,4,2] ?_))))))
 refine tn ?_
 refine cf h5_ ?_
 refine at_skip ?_
 refine bm ?_
 refine sr ?_
 refine aw (r_build_struct (zs:=zl20) (cs:=zl20) underlying98 zeroValue98 rfl placesR_98 rfl rfl) ?_
 refine sa 2 (zl20) (.s (.s .z)) rfl rfl sizeOf98 rfl rfl rfl ?_
 refine aa (qn (dz (dz (wq [3,2] ?_))))
 refine tn (qt ?_)
 refine at_resI2 rfl (res_cell (c:=cK 2 (by decide)) (y:=ck 2 (zl20) rfl) rfl .z lw isAgg98 sizeOf98 (.inl rfl)) (res_tmp rfl) ?_
 refine dz ?_
 exact k ()
def script_Right(x0:S_api_Item):Option (Bool) :=
 if (x0.f_Kind==1)=true then (script_Same ({ x0 with f_Bytes:=([]:List Int) }) ({ zv8 with f_Kind:=({ x0 with f_Bytes:=([]:List Int) }).f_Kind })>>=fun t6=>some t6) else (if (x0.f_Kind==2)=true then (script_Same ({ x0 with f_Bytes:=([]:List Int) }) ({ zv8 with f_Kind:=({ x0 with f_Bytes:=([]:List Int) }).f_Kind })>>=fun t11=>some t11) else (if (x0.f_Kind==3)=true then (if (({ x0 with f_Bytes:=([]:List Int) }).f_Ok)=true then (script_Same ({ { { x0 with f_Bytes:=([]:List Int) } with f_Ok:=false } with f_Result:=([]:List Int) }) ({ zv8 with f_Kind:=({ { { x0 with f_Bytes:=([]:List Int) } with f_Ok:=false } with f_Result:=([]:List Int) }).f_Kind })>>=fun t18=>some t18) else (script_Same ({ x0 with f_Bytes:=([]:List Int) }) ({ zv8 with f_Kind:=({ x0 with f_Bytes:=([]:List Int) }).f_Kind })>>=fun t19=>some t19)) else (if (x0.f_Kind==4)=true then (hostport_Right x0.f_From>>=fun t24=>if t24=true then (if (({ { x0 with f_From:=zv7 } with f_Bytes:=([]:List Int) }).f_Ok)=true then (script_Same ({ { { { x0 with f_From:=zv7 } with f_Bytes:=([]:List Int) } with f_Ok:=false } with f_Result:=([]:List Int) }) ({ zv8 with f_Kind:=({ { { { x0 with f_From:=zv7 } with f_Bytes:=([]:List Int) } with f_Ok:=false } with f_Result:=([]:List Int) }).f_Kind })>>=fun t29=>some t29) else (script_Same ({ { x0 with f_From:=zv7 } with f_Bytes:=([]:List Int) }) ({ zv8 with f_Kind:=({ { x0 with f_From:=zv7 } with f_Bytes:=([]:List Int) }).f_Kind })>>=fun t30=>some t30)) else (if (({ { x0 with f_From:={ x0.f_From with f_Port:=(-1) } } with f_Bytes:=([]:List Int) }).f_Ok)=true then (script_Same ({ { { { x0 with f_From:={ x0.f_From with f_Port:=(-1) } } with f_Bytes:=([]:List Int) } with f_Ok:=false } with f_Result:=([]:List Int) }) ({ zv8 with f_Kind:=({ { { { x0 with f_From:={ x0.f_From with f_Port:=(-1) } } with f_Bytes:=([]:List Int) } with f_Ok:=false } with f_Result:=([]:List Int) }).f_Kind })>>=fun t34=>some t34) else (script_Same ({ { x0 with f_From:={ x0.f_From with f_Port:=(-1) } } with f_Bytes:=([]:List Int) }) ({ zv8 with f_Kind:=({ { x0 with f_From:={ x0.f_From with f_Port:=(-1) } } with f_Bytes:=([]:List Int) }).f_Kind })>>=fun t35=>some t35))) else (if (x0.f_Kind==5)=true then (script_Same ({ { { { x0 with f_Key:=zv3 } with f_Local:=0 } with f_Remote:=0 } with f_Next:=0 }) ({ zv8 with f_Kind:=({ { { { x0 with f_Key:=zv3 } with f_Local:=0 } with f_Remote:=0 } with f_Next:=0 }).f_Kind })>>=fun t45=>some t45) else (if (x0.f_Kind==6)=true then (script_Same ({ x0 with f_Local:=0 }) ({ zv8 with f_Kind:=({ x0 with f_Local:=0 }).f_Kind })>>=fun t51=>some t51) else (some false))))))
set_option maxRecDepth 20000 in
set_option maxHeartbeats 3200000 in
theorem script_Right_ok(g0_:G_api_Item)(x0:S_api_Item)(r:Bool)(hF:script_Right x0=some r)(w:World)(hn0:N_api_Item w (g0_,x0))(hg_bytealg_MaxLen:GV_bytealg_MaxLen w)(hg_strconv_ErrRange:GV_strconv_ErrRange w)(hg_strconv_ErrSyntax:GV_strconv_ErrSyntax w)(hg_strconv_uint64pow10:GV_strconv_uint64pow10 w) :
    Calls Tryz.prog 24 #[.agg (Cd.cs c_api_Item (g0_,x0)).toArray] w (fun e w'=>e=.returned (.bool r)∧Below w.heap.size w w'):=by
 unfold script_Right at hF
 refine ce (l:=[.agg (Cd.cs c_api_Item (g0_,x0)).toArray]) func24 rfl rfl ?_
 refine at_start ?_
 refine at_frz0 ?_
 intro Z_ s_ hB_
 have hz0:=NK_api_Item.mono (NK_api_Item.of hn0) hB_
 refine sr ?_
 refine at_box (cs:=Cd.cs c_api_Item (g0_,x0)) rfl rfl rfl ?_
 intro b1
 refine aa (nwx [1] ?_)
 refine fa 0 underlying33 rfl sizeOf3 ?_
 refine aw (r_load_cell isAgg3 rfl (lens_cell0 (c:=(cInt .i64)) (y:=x0.f_Kind) .z (c_api_Item_f_Kind g0_ x0) rfl)) ?_
 obtain ⟨h2,hF⟩|⟨h2,hF⟩:=oi hF
 ·skip
  refine script_shapeOf_in0 rfl rfl h2 ?_
  intro b3
  refine am ?_
  refine aw xe (aw xe ?_)
  refine al (cs:=zl20) zeroValue98 ?_
  intro b4
  refine sa 2 ((zl17 b3)) .z rfl rfl sizeOf98 rfl rfl rfl ?_
  refine aa (nt (qs (sr (fa 1 underlying98 rfl sizeOf96 ?_))))
  refine aw (r_load_cell isAgg96 rfl (fun w1 hw=>cells_get (hw.ok (Upd.mem .z)) 1 _ rfl)) ?_
  refine aw (r_len_sl underlying96 rfl) ?_
  refine am (qn (dz (wq [16,15,14,4,1] ?_)))
  refine tn ?_
  refine qb ?_
  refine wq [16,15,14,4,1] ?_
  refine at_loop ?_
  refine at_round ?_
  refine sr (aw xl ?_)
  refine at_fix (g:=17) rfl (show (decide (0<1))=true from by decide) ?_
  refine nwq [17,16,15,14,4,1] ?_
  refine qs ?_
  refine ct rfl ?_
  refine sn (qs ?_)
  refine qb ?_
  refine sr ?_
  refine aw (r_idx underlying96 sizeOf104 rfl rfl (by decide) rfl) ?_
  refine aw (r_load_agg (l:=zl12) isAgg104 sizeOf104 rfl rfl (fun w1 hw=>cells_mid (pre:=[]) (suf:=[]) (hw.ok (Upd.mem .z)) rfl rfl)) ?_
  refine al (cs:=zl21) zeroValue104 ?_
  intro b5
  refine sa 3 (zl12) .z rfl rfl sizeOf104 rfl rfl rfl ?_
  refine nwq [16,15,14,6,4,1] ?_
  refine qr (fa 2 underlying104 rfl sizeOf102 ?_)
  refine aw (r_load_cell isAgg102 rfl (fun w1 hw=>cells_get (hw.ok (Upd.mem .z)) 2 _ rfl)) ?_
  refine at_callee rfl ?_
  refine at_callI func129 rfl (by kernel_rfl) rfl rfl rfl rfl ?_
  refine dz (qr (am ?_))
  refine aw (r_nilCheck rfl) ?_
  refine fa 1 underlying33 rfl sizeOf22 ?_
  refine at_store (c:=cSv Int) (z:=(zv6,([]:List Int))) (.s .z) (c_api_Item_f_Bytes_sv g0_ x0) sizeOf22 rfl rfl rfl ?_
  refine qn ?_
  refine at_weak [] trivial ?_
  refine at_retI0 rfl ?_
  refine qn (wq [16,15,14,4,1] ?_)
  refine bm ?_
  refine qr (aw xa ?_)
  refine at_ov (t:=23) rfl (show Value.int .i64 (wr .i64 (0+1))=.int .i64 1 from by rfl) ?_
  refine am (nt (wq [16,15,14,4,1] ?_))
  refine at_round ?_
  refine sr (aw xl ?_)
  refine at_fix (g:=17) rfl (show (decide (1<1))=false from by decide) ?_
  refine nwq [17,16,15,14,4,1] ?_
  refine qs ?_
  refine cf rfl ?_
  refine at_exit ?_
  refine te (te ?_)
  refine at_blk_same ?_
  refine dz (tn (sr (am (am ?_))))
  refine gy ?_
  refine aw (r_load_aggc (c:=c_api_Item) (z:=((zv6,(g0_.2.1,g0_.2.2)),{ x0 with f_Bytes:=([]:List Int) })) isAgg33 sizeOf33 rfl (lens_cell .z lw)) ?_
  refine gy ?_
  refine fa 0 underlying33 rfl sizeOf3 ?_
  refine gy ?_
  refine aw (r_load_cell isAgg3 rfl (lens_cell0 (c:=(cInt .i64)) (y:=({ x0 with f_Bytes:=([]:List Int) }).f_Kind) .z (c_api_Item_f_Kind (zv6,(g0_.2.1,g0_.2.2)) ({ x0 with f_Bytes:=([]:List Int) })) rfl)) ?_
  refine gy ?_
  refine aw (r_build_struct (zs:=Cd.cs c_api_Item zv10) (cs:=Cd.cs c_api_Item (zv9,{ zv8 with f_Kind:=({ x0 with f_Bytes:=([]:List Int) }).f_Kind })) underlying33 zeroValue33 rfl (places_api_Item_33) rfl (fill_step (c:=(cInt .i64)) (z:=({ x0 with f_Bytes:=([]:List Int) }).f_Kind) rfl (c_api_Item_f_Kind zv9 zv8) rfl rfl)) ?_
  refine gy ?_
  obtain ⟨t6,ht6,hF⟩:=bM hF
  refine cB func12 rfl (fun w hw=>script_Same_ok _ _ _ _ _ ht6 w ⟨(Row.nil ..),(RowK.row (RowK.mono hz0.2 (frz_mono (.s .z) hw)))⟩ ⟨(Row.nil ..),(Row.nil ..)⟩) ?_
  refine aw xp (aa (qn (dz (wq [2] ?_))))
  refine tn (qt ?_)
  have K:=os hF
  subst K
  exact r1 wb
 skip
 obtain ⟨h7,hF⟩|⟨h7,hF⟩:=oi hF
 ·skip
  refine script_shapeOf_in1 rfl rfl h2 h7 ?_
  intro b8
  refine am ?_
  refine aw xe (aw xe ?_)
  refine al (cs:=zl20) zeroValue98 ?_
  intro b9
  refine sa 2 ((zl16 b8)) .z rfl rfl sizeOf98 rfl rfl rfl ?_
  refine aa (nt (qs (sr (fa 1 underlying98 rfl sizeOf96 ?_))))
  refine aw (r_load_cell isAgg96 rfl (fun w1 hw=>cells_get (hw.ok (Upd.mem .z)) 1 _ rfl)) ?_
  refine aw (r_len_sl underlying96 rfl) ?_
  refine am (qn (dz (wq [16,15,14,4,1] ?_)))
  refine tn ?_
  refine qb ?_
  refine wq [16,15,14,4,1] ?_
  refine at_loop ?_
  refine at_round ?_
  refine sr (aw xl ?_)
  refine at_fix (g:=17) rfl (show (decide (0<1))=true from by decide) ?_
  refine nwq [17,16,15,14,4,1] ?_
  refine qs ?_
  refine ct rfl ?_
  refine sn (qs ?_)
  refine qb ?_
  refine sr ?_
  refine aw (r_idx underlying96 sizeOf104 rfl rfl (by decide) rfl) ?_
  refine aw (r_load_agg (l:=zl12) isAgg104 sizeOf104 rfl rfl (fun w1 hw=>cells_mid (pre:=[]) (suf:=[]) (hw.ok (Upd.mem .z)) rfl rfl)) ?_
  refine al (cs:=zl21) zeroValue104 ?_
  intro b10
  refine sa 3 (zl12) .z rfl rfl sizeOf104 rfl rfl rfl ?_
  refine nwq [16,15,14,6,4,1] ?_
  refine qr (fa 2 underlying104 rfl sizeOf102 ?_)
  refine aw (r_load_cell isAgg102 rfl (fun w1 hw=>cells_get (hw.ok (Upd.mem .z)) 2 _ rfl)) ?_
  refine at_callee rfl ?_
  refine at_callI func129 rfl (by kernel_rfl) rfl rfl rfl rfl ?_
  refine dz (qr (am ?_))
  refine aw (r_nilCheck rfl) ?_
  refine fa 1 underlying33 rfl sizeOf22 ?_
  refine at_store (c:=cSv Int) (z:=(zv6,([]:List Int))) (.s .z) (c_api_Item_f_Bytes_sv g0_ x0) sizeOf22 rfl rfl rfl ?_
  refine qn ?_
  refine at_weak [] trivial ?_
  refine at_retI0 rfl ?_
  refine qn (wq [16,15,14,4,1] ?_)
  refine bm ?_
  refine qr (aw xa ?_)
  refine at_ov (t:=23) rfl (show Value.int .i64 (wr .i64 (0+1))=.int .i64 1 from by rfl) ?_
  refine am (nt (wq [16,15,14,4,1] ?_))
  refine at_round ?_
  refine sr (aw xl ?_)
  refine at_fix (g:=17) rfl (show (decide (1<1))=false from by decide) ?_
  refine nwq [17,16,15,14,4,1] ?_
  refine qs ?_
  refine cf rfl ?_
  refine at_exit ?_
  refine te (te ?_)
  refine at_blk_same ?_
  refine dz (tn (sr (am (am ?_))))
  refine gy ?_
  refine aw (r_load_aggc (c:=c_api_Item) (z:=((zv6,(g0_.2.1,g0_.2.2)),{ x0 with f_Bytes:=([]:List Int) })) isAgg33 sizeOf33 rfl (lens_cell .z lw)) ?_
  refine gy ?_
  refine fa 0 underlying33 rfl sizeOf3 ?_
  refine gy ?_
  refine aw (r_load_cell isAgg3 rfl (lens_cell0 (c:=(cInt .i64)) (y:=({ x0 with f_Bytes:=([]:List Int) }).f_Kind) .z (c_api_Item_f_Kind (zv6,(g0_.2.1,g0_.2.2)) ({ x0 with f_Bytes:=([]:List Int) })) rfl)) ?_
  refine gy ?_
  refine aw (r_build_struct (zs:=Cd.cs c_api_Item zv10) (cs:=Cd.cs c_api_Item (zv9,{ zv8 with f_Kind:=({ x0 with f_Bytes:=([]:List Int) }).f_Kind })) underlying33 zeroValue33 rfl (places_api_Item_33) rfl (fill_step (c:=(cInt .i64)) (z:=({ x0 with f_Bytes:=([]:List Int) }).f_Kind) rfl (c_api_Item_f_Kind zv9 zv8) rfl rfl)) ?_
  refine gy ?_
  obtain ⟨t11,ht11,hF⟩:=bM hF
  refine cB func12 rfl (fun w hw=>script_Same_ok _ _ _ _ _ ht11 w ⟨(Row.nil ..),(RowK.row (RowK.mono hz0.2 (frz_mono (.s .z) hw)))⟩ ⟨(Row.nil ..),(Row.nil ..)⟩) ?_
  refine aw xp (aa (qn (dz (wq [2] ?_))))
  refine tn (qt ?_)
  have K:=os hF
  subst K
  exact r1 wb
 skip
 obtain ⟨h12,hF⟩|⟨h12,hF⟩:=oi hF
 ·skip
  refine script_shapeOf_in2 rfl rfl h2 h7 h12 ?_
  intro b13
  refine am ?_
  refine aw xe (aw xe ?_)
  refine al (cs:=zl20) zeroValue98 ?_
  intro b14
  refine sa 2 ((zl18 b13)) .z rfl rfl sizeOf98 rfl rfl rfl ?_
  refine aa (nt (qs (sr (fa 1 underlying98 rfl sizeOf96 ?_))))
  refine aw (r_load_cell isAgg96 rfl (fun w1 hw=>cells_get (hw.ok (Upd.mem .z)) 1 _ rfl)) ?_
  refine aw (r_len_sl underlying96 rfl) ?_
  refine am (qn (dz (wq [16,15,14,4,1] ?_)))
  refine tn ?_
  refine qb ?_
  refine wq [16,15,14,4,1] ?_
  refine at_loop ?_
  refine at_round ?_
  refine sr (aw xl ?_)
  refine at_fix (g:=17) rfl (show (decide (0<2))=true from by decide) ?_
  refine nwq [17,16,15,14,4,1] ?_
  refine qs ?_
  refine ct rfl ?_
  refine sn (qs ?_)
  refine qb ?_
  refine sr ?_
  refine aw (r_idx underlying96 sizeOf104 rfl rfl (by decide) rfl) ?_
  refine aw (r_load_agg (l:=zl12) isAgg104 sizeOf104 rfl rfl (fun w1 hw=>cells_mid (pre:=[]) (suf:=zl13) (hw.ok (Upd.mem .z)) rfl rfl)) ?_
  refine al (cs:=zl21) zeroValue104 ?_
  intro b15
  refine sa 3 (zl12) .z rfl rfl sizeOf104 rfl rfl rfl ?_
  refine nwq [16,15,14,6,4,1] ?_
  refine qr (fa 2 underlying104 rfl sizeOf102 ?_)
  refine aw (r_load_cell isAgg102 rfl (fun w1 hw=>cells_get (hw.ok (Upd.mem .z)) 2 _ rfl)) ?_
  refine at_callee rfl ?_
  refine at_callI func129 rfl (by kernel_rfl) rfl rfl rfl rfl ?_
  refine dz (qr (am ?_))
  refine aw (r_nilCheck rfl) ?_
  refine fa 1 underlying33 rfl sizeOf22 ?_
  refine at_store (c:=cSv Int) (z:=(zv6,([]:List Int))) (.s .z) (c_api_Item_f_Bytes_sv g0_ x0) sizeOf22 rfl rfl rfl ?_
  refine qn ?_
  refine at_weak [] trivial ?_
  refine at_retI0 rfl ?_
  refine qn (wq [16,15,14,4,1] ?_)
  refine bm ?_
  refine qr (aw xa ?_)
  refine at_ov (t:=23) rfl (show Value.int .i64 (wr .i64 (0+1))=.int .i64 1 from by rfl) ?_
  refine am (nt (wq [16,15,14,4,1] ?_))
  refine at_round ?_
  refine sr (aw xl ?_)
  refine at_fix (g:=17) rfl (show (decide (1<2))=true from by decide) ?_
  refine nwq [17,16,15,14,4,1] ?_
  refine qs ?_
  refine ct rfl ?_
  refine sn (qs ?_)
  refine qb ?_
  refine sr ?_
  refine aw (r_idx underlying96 sizeOf104 rfl rfl (by decide) rfl) ?_
  refine aw (r_load_agg (l:=zl13) isAgg104 sizeOf104 rfl rfl (fun w1 hw=>cells_mid (pre:=zl12) (suf:=[]) (hw.ok (Upd.mem .z)) rfl rfl)) ?_
  refine al (cs:=zl21) zeroValue104 ?_
  intro b16
  refine sa 3 (zl13) .z rfl rfl sizeOf104 rfl rfl rfl ?_
  refine nwq [16,15,14,6,4,1] ?_
  refine qr (fa 2 underlying104 rfl sizeOf102 ?_)
  refine aw (r_load_cell isAgg102 rfl (fun w1 hw=>cells_get (hw.ok (Upd.mem .z)) 2 _ rfl)) ?_
  refine at_callee rfl ?_
  refine at_callI func132 rfl (by kernel_rfl) rfl rfl rfl rfl ?_
  refine dz (sr (am ?_))
  refine aw (r_nilCheck rfl) ?_
  refine fa 21 underlying33 rfl sizeOf4 ?_
  refine aw (r_load_cell isAgg4 rfl (lens_cell0 (c:=cBool) (y:=({ x0 with f_Bytes:=([]:List Int) }).f_Ok) (.s .z) (c_api_Item_f_Ok (zv6,(g0_.2.1,g0_.2.2)) ({ x0 with f_Bytes:=([]:List Int) })) rfl)) ?_
  refine nwq [5,0] ?_
  obtain ⟨h17,hF⟩|⟨h17,hF⟩:=oi hF
  ·refine ct h17 ?_
   refine qr (am (am ?_))
   refine aw (r_nilCheck rfl) ?_
   refine fa 21 underlying33 rfl sizeOf4 ?_
   refine at_store (c:=cBool) (z:=false) (.s .z) (c_api_Item_f_Ok (zv6,(g0_.2.1,g0_.2.2)) ({ x0 with f_Bytes:=([]:List Int) })) sizeOf4 rfl rfl rfl ?_
   refine aw (r_nilCheck rfl) ?_
   refine fa 20 underlying33 rfl sizeOf22 ?_
   refine at_store (c:=cSv Int) (z:=(zv6,([]:List Int))) (.s .z) (c_api_Item_f_Result_sv (zv6,(g0_.2.1,g0_.2.2)) ({ { x0 with f_Bytes:=([]:List Int) } with f_Ok:=false })) sizeOf22 rfl rfl rfl ?_
   refine qn ?_
   refine at_weak [] trivial ?_
   refine at_retI0 rfl ?_
   refine qn (wq [16,15,14,4,1] ?_)
   refine bm ?_
   refine qr (aw xa ?_)
   refine at_ov (t:=23) rfl (show Value.int .i64 (wr .i64 (1+1))=.int .i64 2 from by rfl) ?_
   refine am (nt (wq [16,15,14,4,1] ?_))
   refine at_round ?_
   refine sr (aw xl ?_)
   refine at_fix (g:=17) rfl (show (decide (2<2))=false from by decide) ?_
   refine nwq [17,16,15,14,4,1] ?_
   refine qs ?_
   refine cf rfl ?_
   refine at_exit ?_
   refine te (te ?_)
   refine at_blk_same ?_
   refine dz (tn (sr (am (am ?_))))
   refine gy ?_
   refine aw (r_load_aggc (c:=c_api_Item) (z:=(zv9,{ { { x0 with f_Bytes:=([]:List Int) } with f_Ok:=false } with f_Result:=([]:List Int) })) isAgg33 sizeOf33 rfl (lens_cell .z lw)) ?_
   refine gy ?_
   refine fa 0 underlying33 rfl sizeOf3 ?_
   refine gy ?_
   refine aw (r_load_cell isAgg3 rfl (lens_cell0 (c:=(cInt .i64)) (y:=({ { { x0 with f_Bytes:=([]:List Int) } with f_Ok:=false } with f_Result:=([]:List Int) }).f_Kind) .z (c_api_Item_f_Kind zv9 ({ { { x0 with f_Bytes:=([]:List Int) } with f_Ok:=false } with f_Result:=([]:List Int) })) rfl)) ?_
   refine gy ?_
   refine aw (r_build_struct (zs:=Cd.cs c_api_Item zv10) (cs:=Cd.cs c_api_Item (zv9,{ zv8 with f_Kind:=({ { { x0 with f_Bytes:=([]:List Int) } with f_Ok:=false } with f_Result:=([]:List Int) }).f_Kind })) underlying33 zeroValue33 rfl (places_api_Item_33) rfl (fill_step (c:=(cInt .i64)) (z:=({ { { x0 with f_Bytes:=([]:List Int) } with f_Ok:=false } with f_Result:=([]:List Int) }).f_Kind) rfl (c_api_Item_f_Kind zv9 zv8) rfl rfl)) ?_
   refine gy ?_
   obtain ⟨t18,ht18,hF⟩:=bM hF
   refine cB func12 rfl (fun w hw=>script_Same_ok _ _ _ _ _ ht18 w ⟨(Row.nil ..),(Row.nil ..)⟩ ⟨(Row.nil ..),(Row.nil ..)⟩) ?_
   refine aw xp (aa (qn (dz (wq [2] ?_))))
   refine tn (qt ?_)
   have K:=os hF
   subst K
   exact r1 wb
  refine cf h17 ?_
  refine at_skip ?_
  refine at_retI0 rfl ?_
  refine qn (wq [16,15,14,4,1] ?_)
  refine bm ?_
  refine qr (aw xa ?_)
  refine at_ov (t:=23) rfl (show Value.int .i64 (wr .i64 (1+1))=.int .i64 2 from by rfl) ?_
  refine am (nt (wq [16,15,14,4,1] ?_))
  refine at_round ?_
  refine sr (aw xl ?_)
  refine at_fix (g:=17) rfl (show (decide (2<2))=false from by decide) ?_
  refine nwq [17,16,15,14,4,1] ?_
  refine qs ?_
  refine cf rfl ?_
  refine at_exit ?_
  refine te (te ?_)
  refine at_blk_same ?_
  refine dz (tn (sr (am (am ?_))))
  refine gy ?_
  refine aw (r_load_aggc (c:=c_api_Item) (z:=((zv6,(g0_.2.1,g0_.2.2)),{ x0 with f_Bytes:=([]:List Int) })) isAgg33 sizeOf33 rfl (lens_cell .z lw)) ?_
  refine gy ?_
  refine fa 0 underlying33 rfl sizeOf3 ?_
  refine gy ?_
  refine aw (r_load_cell isAgg3 rfl (lens_cell0 (c:=(cInt .i64)) (y:=({ x0 with f_Bytes:=([]:List Int) }).f_Kind) .z (c_api_Item_f_Kind (zv6,(g0_.2.1,g0_.2.2)) ({ x0 with f_Bytes:=([]:List Int) })) rfl)) ?_
  refine gy ?_
  refine aw (r_build_struct (zs:=Cd.cs c_api_Item zv10) (cs:=Cd.cs c_api_Item (zv9,{ zv8 with f_Kind:=({ x0 with f_Bytes:=([]:List Int) }).f_Kind })) underlying33 zeroValue33 rfl (places_api_Item_33) rfl (fill_step (c:=(cInt .i64)) (z:=({ x0 with f_Bytes:=([]:List Int) }).f_Kind) rfl (c_api_Item_f_Kind zv9 zv8) rfl rfl)) ?_
  refine gy ?_
  obtain ⟨t19,ht19,hF⟩:=bM hF
  refine cB func12 rfl (fun w hw=>script_Same_ok _ _ _ _ _ ht19 w ⟨(Row.nil ..),(RowK.row (RowK.mono hz0.2 (frz_mono (.s .z) hw)))⟩ ⟨(Row.nil ..),(Row.nil ..)⟩) ?_
  refine aw xp (aa (qn (dz (wq [2] ?_))))
  refine tn (qt ?_)
  have K:=os hF
  subst K
  exact r1 wb
 skip
 obtain ⟨h20,hF⟩|⟨h20,hF⟩:=oi hF
 ·skip
  refine script_shapeOf_in3 rfl rfl h2 h7 h12 h20 ?_
  intro b21
  refine am ?_
  refine aw xe (aw xe ?_)
  refine al (cs:=zl20) zeroValue98 ?_
  intro b22
  refine sa 2 ((zl19 b21)) .z rfl rfl sizeOf98 rfl rfl rfl ?_
  refine aa (nt (qs (sr (fa 1 underlying98 rfl sizeOf96 ?_))))
  refine aw (r_load_cell isAgg96 rfl (fun w1 hw=>cells_get (hw.ok (Upd.mem .z)) 1 _ rfl)) ?_
  refine aw (r_len_sl underlying96 rfl) ?_
  refine am (qn (dz (wq [16,15,14,4,1] ?_)))
  refine tn ?_
  refine qb ?_
  refine wq [16,15,14,4,1] ?_
  refine at_loop ?_
  refine at_round ?_
  refine sr (aw xl ?_)
  refine at_fix (g:=17) rfl (show (decide (0<3))=true from by decide) ?_
  refine nwq [17,16,15,14,4,1] ?_
  refine qs ?_
  refine ct rfl ?_
  refine sn (qs ?_)
  refine qb ?_
  refine sr ?_
  refine aw (r_idx underlying96 sizeOf104 rfl rfl (by decide) rfl) ?_
  refine aw (r_load_agg (l:=zl14) isAgg104 sizeOf104 rfl rfl (fun w1 hw=>cells_mid (pre:=[]) (suf:=zl7) (hw.ok (Upd.mem .z)) rfl rfl)) ?_
  refine al (cs:=zl21) zeroValue104 ?_
  intro b23
  refine sa 3 (zl14) .z rfl rfl sizeOf104 rfl rfl rfl ?_
  refine nwq [16,15,14,6,4,1] ?_
  refine qr (fa 2 underlying104 rfl sizeOf102 ?_)
  refine aw (r_load_cell isAgg102 rfl (fun w1 hw=>cells_get (hw.ok (Upd.mem .z)) 2 _ rfl)) ?_
  refine at_callee rfl ?_
  refine at_callI func135 rfl (by kernel_rfl) rfl rfl rfl rfl ?_
  refine dz (sr (am ?_))
  refine aw (r_nilCheck rfl) ?_
  refine fa 2 underlying33 rfl sizeOf27 ?_
  refine aw (r_load_aggc (c:=c_api_Endpoint) (z:=x0.f_From) isAgg27 sizeOf27 rfl (lens_cell (.s .z) (c_api_Item_f_From g0_ x0))) ?_
  obtain ⟨t24,ht24,hF⟩:=bM hF
  refine cB func102 rfl (fun w hw=>hostport_Right_ok _ _ ht24 w) ?_
  refine nwq [6,0] ?_
  obtain ⟨h25,hF⟩|⟨h25,hF⟩:=oi hF
  ·refine ct h25 ?_
   refine qr (am ?_)
   refine aw (r_build_struct (zs:=Cd.cs c_api_Endpoint zv7) (cs:=Cd.cs c_api_Endpoint zv7) underlying27 zeroValue27 rfl (places_api_Endpoint_27) rfl rfl) ?_
   refine aw (r_nilCheck rfl) ?_
   refine fa 2 underlying33 rfl sizeOf27 ?_
   refine at_store (c:=c_api_Endpoint) (z:=zv7) (.s .z) (c_api_Item_f_From g0_ x0) sizeOf27 rfl rfl rfl ?_
   refine qn ?_
   refine at_weak [] trivial ?_
   refine at_retI0 rfl ?_
   refine qn (wq [16,15,14,4,1] ?_)
   refine bm ?_
   refine qr (aw xa ?_)
   refine at_ov (t:=23) rfl (show Value.int .i64 (wr .i64 (0+1))=.int .i64 1 from by rfl) ?_
   refine am (nt (wq [16,15,14,4,1] ?_))
   refine at_round ?_
   refine sr (aw xl ?_)
   refine at_fix (g:=17) rfl (show (decide (1<3))=true from by decide) ?_
   refine nwq [17,16,15,14,4,1] ?_
   refine qs ?_
   refine ct rfl ?_
   refine sn (qs ?_)
   refine qb ?_
   refine sr ?_
   refine aw (r_idx underlying96 sizeOf104 rfl rfl (by decide) rfl) ?_
   refine aw (r_load_agg (l:=zl12) isAgg104 sizeOf104 rfl rfl (fun w1 hw=>cells_mid (pre:=zl14) (suf:=zl13) (hw.ok (Upd.mem .z)) rfl rfl)) ?_
   refine al (cs:=zl21) zeroValue104 ?_
   intro b26
   refine sa 3 (zl12) .z rfl rfl sizeOf104 rfl rfl rfl ?_
   refine nwq [16,15,14,6,4,1] ?_
   refine qr (fa 2 underlying104 rfl sizeOf102 ?_)
   refine aw (r_load_cell isAgg102 rfl (fun w1 hw=>cells_get (hw.ok (Upd.mem .z)) 2 _ rfl)) ?_
   refine at_callee rfl ?_
   refine at_callI func129 rfl (by kernel_rfl) rfl rfl rfl rfl ?_
   refine dz (qr (am ?_))
   refine aw (r_nilCheck rfl) ?_
   refine fa 1 underlying33 rfl sizeOf22 ?_
   refine at_store (c:=cSv Int) (z:=(zv6,([]:List Int))) (.s .z) (c_api_Item_f_Bytes_sv g0_ ({ x0 with f_From:=zv7 })) sizeOf22 rfl rfl rfl ?_
   refine qn ?_
   refine at_weak [] trivial ?_
   refine at_retI0 rfl ?_
   refine qn (wq [16,15,14,4,1] ?_)
   refine bm ?_
   refine qr (aw xa ?_)
   refine at_ov (t:=23) rfl (show Value.int .i64 (wr .i64 (1+1))=.int .i64 2 from by rfl) ?_
   refine am (nt (wq [16,15,14,4,1] ?_))
   refine at_round ?_
   refine sr (aw xl ?_)
   refine at_fix (g:=17) rfl (show (decide (2<3))=true from by decide) ?_
   refine nwq [17,16,15,14,4,1] ?_
   refine qs ?_
   refine ct rfl ?_
   refine sn (qs ?_)
   refine qb ?_
   refine sr ?_
   refine aw (r_idx underlying96 sizeOf104 rfl rfl (by decide) rfl) ?_
   refine aw (r_load_agg (l:=zl13) isAgg104 sizeOf104 rfl rfl (fun w1 hw=>cells_mid (pre:=zl8) (suf:=[]) (hw.ok (Upd.mem .z)) rfl rfl)) ?_
   refine al (cs:=zl21) zeroValue104 ?_
   intro b27
   refine sa 3 (zl13) .z rfl rfl sizeOf104 rfl rfl rfl ?_
   refine nwq [16,15,14,6,4,1] ?_
   refine qr (fa 2 underlying104 rfl sizeOf102 ?_)
   refine aw (r_load_cell isAgg102 rfl (fun w1 hw=>cells_get (hw.ok (Upd.mem .z)) 2 _ rfl)) ?_
   refine at_callee rfl ?_
   refine at_callI func132 rfl (by kernel_rfl) rfl rfl rfl rfl ?_
   refine dz (sr (am ?_))
   refine aw (r_nilCheck rfl) ?_
   refine fa 21 underlying33 rfl sizeOf4 ?_
   refine aw (r_load_cell isAgg4 rfl (lens_cell0 (c:=cBool) (y:=({ { x0 with f_From:=zv7 } with f_Bytes:=([]:List Int) }).f_Ok) (.s .z) (c_api_Item_f_Ok (zv6,(g0_.2.1,g0_.2.2)) ({ { x0 with f_From:=zv7 } with f_Bytes:=([]:List Int) })) rfl)) ?_
   refine nwq [5,0] ?_
   obtain ⟨h28,hF⟩|⟨h28,hF⟩:=oi hF
   ·refine ct h28 ?_
    refine qr (am (am ?_))
    refine aw (r_nilCheck rfl) ?_
    refine fa 21 underlying33 rfl sizeOf4 ?_
    refine at_store (c:=cBool) (z:=false) (.s .z) (c_api_Item_f_Ok (zv6,(g0_.2.1,g0_.2.2)) ({ { x0 with f_From:=zv7 } with f_Bytes:=([]:List Int) })) sizeOf4 rfl rfl rfl ?_
    refine aw (r_nilCheck rfl) ?_
    refine fa 20 underlying33 rfl sizeOf22 ?_
    refine at_store (c:=cSv Int) (z:=(zv6,([]:List Int))) (.s .z) (c_api_Item_f_Result_sv (zv6,(g0_.2.1,g0_.2.2)) ({ { { x0 with f_From:=zv7 } with f_Bytes:=([]:List Int) } with f_Ok:=false })) sizeOf22 rfl rfl rfl ?_
    refine qn ?_
    refine at_weak [] trivial ?_
    refine at_retI0 rfl ?_
    refine qn (wq [16,15,14,4,1] ?_)
    refine bm ?_
    refine qr (aw xa ?_)
    refine at_ov (t:=23) rfl (show Value.int .i64 (wr .i64 (2+1))=.int .i64 3 from by rfl) ?_
    refine am (nt (wq [16,15,14,4,1] ?_))
    refine at_round ?_
    refine sr (aw xl ?_)
    refine at_fix (g:=17) rfl (show (decide (3<3))=false from by decide) ?_
    refine nwq [17,16,15,14,4,1] ?_
    refine qs ?_
    refine cf rfl ?_
    refine at_exit ?_
    refine te (te ?_)
    refine at_blk_same ?_
    refine dz (tn (sr (am (am ?_))))
    refine gy ?_
    refine aw (r_load_aggc (c:=c_api_Item) (z:=(zv9,{ { { { x0 with f_From:=zv7 } with f_Bytes:=([]:List Int) } with f_Ok:=false } with f_Result:=([]:List Int) })) isAgg33 sizeOf33 rfl (lens_cell .z lw)) ?_
    refine gy ?_
    refine fa 0 underlying33 rfl sizeOf3 ?_
    refine gy ?_
    refine aw (r_load_cell isAgg3 rfl (lens_cell0 (c:=(cInt .i64)) (y:=({ { { { x0 with f_From:=zv7 } with f_Bytes:=([]:List Int) } with f_Ok:=false } with f_Result:=([]:List Int) }).f_Kind) .z (c_api_Item_f_Kind zv9 ({ { { { x0 with f_From:=zv7 } with f_Bytes:=([]:List Int) } with f_Ok:=false } with f_Result:=([]:List Int) })) rfl)) ?_
    refine gy ?_
    refine aw (r_build_struct (zs:=Cd.cs c_api_Item zv10) (cs:=Cd.cs c_api_Item (zv9,{ zv8 with f_Kind:=({ { { { x0 with f_From:=zv7 } with f_Bytes:=([]:List Int) } with f_Ok:=false } with f_Result:=([]:List Int) }).f_Kind })) underlying33 zeroValue33 rfl (places_api_Item_33) rfl (fill_step (c:=(cInt .i64)) (z:=({ { { { x0 with f_From:=zv7 } with f_Bytes:=([]:List Int) } with f_Ok:=false } with f_Result:=([]:List Int) }).f_Kind) rfl (c_api_Item_f_Kind zv9 zv8) rfl rfl)) ?_
    refine gy ?_
    obtain ⟨t29,ht29,hF⟩:=bM hF
    refine cB func12 rfl (fun w hw=>script_Same_ok _ _ _ _ _ ht29 w ⟨(Row.nil ..),(Row.nil ..)⟩ ⟨(Row.nil ..),(Row.nil ..)⟩) ?_
    refine aw xp (aa (qn (dz (wq [2] ?_))))
    refine tn (qt ?_)
    have K:=os hF
    subst K
    exact r1 wb
   refine cf h28 ?_
   refine at_skip ?_
   refine at_retI0 rfl ?_
   refine qn (wq [16,15,14,4,1] ?_)
   refine bm ?_
   refine qr (aw xa ?_)
   refine at_ov (t:=23) rfl (show Value.int .i64 (wr .i64 (2+1))=.int .i64 3 from by rfl) ?_
   refine am (nt (wq [16,15,14,4,1] ?_))
   refine at_round ?_
   refine sr (aw xl ?_)
   refine at_fix (g:=17) rfl (show (decide (3<3))=false from by decide) ?_
   refine nwq [17,16,15,14,4,1] ?_
   refine qs ?_
   refine cf rfl ?_
   refine at_exit ?_
   refine te (te ?_)
   refine at_blk_same ?_
   refine dz (tn (sr (am (am ?_))))
   refine gy ?_
   refine aw (r_load_aggc (c:=c_api_Item) (z:=((zv6,(g0_.2.1,g0_.2.2)),{ { x0 with f_From:=zv7 } with f_Bytes:=([]:List Int) })) isAgg33 sizeOf33 rfl (lens_cell .z lw)) ?_
   refine gy ?_
   refine fa 0 underlying33 rfl sizeOf3 ?_
   refine gy ?_
   refine aw (r_load_cell isAgg3 rfl (lens_cell0 (c:=(cInt .i64)) (y:=({ { x0 with f_From:=zv7 } with f_Bytes:=([]:List Int) }).f_Kind) .z (c_api_Item_f_Kind (zv6,(g0_.2.1,g0_.2.2)) ({ { x0 with f_From:=zv7 } with f_Bytes:=([]:List Int) })) rfl)) ?_
   refine gy ?_
   refine aw (r_build_struct (zs:=Cd.cs c_api_Item zv10) (cs:=Cd.cs c_api_Item (zv9,{ zv8 with f_Kind:=({ { x0 with f_From:=zv7 } with f_Bytes:=([]:List Int) }).f_Kind })) underlying33 zeroValue33 rfl (places_api_Item_33) rfl (fill_step (c:=(cInt .i64)) (z:=({ { x0 with f_From:=zv7 } with f_Bytes:=([]:List Int) }).f_Kind) rfl (c_api_Item_f_Kind zv9 zv8) rfl rfl)) ?_
   refine gy ?_
   obtain ⟨t30,ht30,hF⟩:=bM hF
   refine cB func12 rfl (fun w hw=>script_Same_ok _ _ _ _ _ ht30 w ⟨(Row.nil ..),(RowK.row (RowK.mono hz0.2 (frz_mono (.s .z) hw)))⟩ ⟨(Row.nil ..),(Row.nil ..)⟩) ?_
   refine aw xp (aa (qn (dz (wq [2] ?_))))
   refine tn (qt ?_)
   have K:=os hF
   subst K
   exact r1 wb
  refine cf h25 ?_
  refine qr (am ?_)
  refine aw (r_nilCheck rfl) ?_
  refine fa 2 underlying33 rfl sizeOf27 (fa 17 underlying27 rfl sizeOf3 ?_)
  refine at_store (c:=(cInt .i64)) (z:=(-1)) (.s .z) (Lens.comp (c_api_Item_f_From g0_ x0) (fun z=>{ x0.f_From with f_Port:=z }) (c_api_Endpoint_f_Port x0.f_From)) sizeOf3 rfl rfl rfl ?_
  refine qn ?_
  refine at_weak [] trivial ?_
  refine at_retI0 rfl ?_
  refine qn (wq [16,15,14,4,1] ?_)
  refine bm ?_
  refine qr (aw xa ?_)
  refine at_ov (t:=23) rfl (show Value.int .i64 (wr .i64 (0+1))=.int .i64 1 from by rfl) ?_
  refine am (nt (wq [16,15,14,4,1] ?_))
  refine at_round ?_
  refine sr (aw xl ?_)
  refine at_fix (g:=17) rfl (show (decide (1<3))=true from by decide) ?_
  refine nwq [17,16,15,14,4,1] ?_
  refine qs ?_
  refine ct rfl ?_
  refine sn (qs ?_)
  refine qb ?_
  refine sr ?_
  refine aw (r_idx underlying96 sizeOf104 rfl rfl (by decide) rfl) ?_
  refine aw (r_load_agg (l:=zl12) isAgg104 sizeOf104 rfl rfl (fun w1 hw=>cells_mid (pre:=zl14) (suf:=zl13) (hw.ok (Upd.mem .z)) rfl rfl)) ?_
  refine al (cs:=zl21) zeroValue104 ?_
  intro b31
  refine sa 3 (zl12) .z rfl rfl sizeOf104 rfl rfl rfl ?_
  refine nwq [16,15,14,6,4,1] ?_
  refine qr (fa 2 underlying104 rfl sizeOf102 ?_)
  refine aw (r_load_cell isAgg102 rfl (fun w1 hw=>cells_get (hw.ok (Upd.mem .z)) 2 _ rfl)) ?_
  refine at_callee rfl ?_
  refine at_callI func129 rfl (by kernel_rfl) rfl rfl rfl rfl ?_
  refine dz (qr (am ?_))
  refine aw (r_nilCheck rfl) ?_
  refine fa 1 underlying33 rfl sizeOf22 ?_
  refine at_store (c:=cSv Int) (z:=(zv6,([]:List Int))) (.s .z) (c_api_Item_f_Bytes_sv g0_ ({ x0 with f_From:={ x0.f_From with f_Port:=(-1) } })) sizeOf22 rfl rfl rfl ?_
  refine qn ?_
  refine at_weak [] trivial ?_
  refine at_retI0 rfl ?_
  refine qn (wq [16,15,14,4,1] ?_)
  refine bm ?_
  refine qr (aw xa ?_)
  refine at_ov (t:=23) rfl (show Value.int .i64 (wr .i64 (1+1))=.int .i64 2 from by rfl) ?_
  refine am (nt (wq [16,15,14,4,1] ?_))
  refine at_round ?_
  refine sr (aw xl ?_)
  refine at_fix (g:=17) rfl (show (decide (2<3))=true from by decide) ?_
  refine nwq [17,16,15,14,4,1] ?_
  refine qs ?_
  refine ct rfl ?_
  refine sn (qs ?_)
  refine qb ?_
  refine sr ?_
  refine aw (r_idx underlying96 sizeOf104 rfl rfl (by decide) rfl) ?_
  refine aw (r_load_agg (l:=zl13) isAgg104 sizeOf104 rfl rfl (fun w1 hw=>cells_mid (pre:=zl8) (suf:=[]) (hw.ok (Upd.mem .z)) rfl rfl)) ?_
  refine al (cs:=zl21) zeroValue104 ?_
  intro b32
  refine sa 3 (zl13) .z rfl rfl sizeOf104 rfl rfl rfl ?_
  refine nwq [16,15,14,6,4,1] ?_
  refine qr (fa 2 underlying104 rfl sizeOf102 ?_)
  refine aw (r_load_cell isAgg102 rfl (fun w1 hw=>cells_get (hw.ok (Upd.mem .z)) 2 _ rfl)) ?_
  refine at_callee rfl ?_
  refine at_callI func132 rfl (by kernel_rfl) rfl rfl rfl rfl ?_
  refine dz (sr (am ?_))
  refine aw (r_nilCheck rfl) ?_
  refine fa 21 underlying33 rfl sizeOf4 ?_
  refine aw (r_load_cell isAgg4 rfl (lens_cell0 (c:=cBool) (y:=({ { x0 with f_From:={ x0.f_From with f_Port:=(-1) } } with f_Bytes:=([]:List Int) }).f_Ok) (.s .z) (c_api_Item_f_Ok (zv6,(g0_.2.1,g0_.2.2)) ({ { x0 with f_From:={ x0.f_From with f_Port:=(-1) } } with f_Bytes:=([]:List Int) })) rfl)) ?_
  refine nwq [5,0] ?_
  obtain ⟨h33,hF⟩|⟨h33,hF⟩:=oi hF
  ·refine ct h33 ?_
   refine qr (am (am ?_))
   refine aw (r_nilCheck rfl) ?_
   refine fa 21 underlying33 rfl sizeOf4 ?_
   refine at_store (c:=cBool) (z:=false) (.s .z) (c_api_Item_f_Ok (zv6,(g0_.2.1,g0_.2.2)) ({ { x0 with f_From:={ x0.f_From with f_Port:=(-1) } } with f_Bytes:=([]:List Int) })) sizeOf4 rfl rfl rfl ?_
   refine aw (r_nilCheck rfl) ?_
   refine fa 20 underlying33 rfl sizeOf22 ?_
   refine at_store (c:=cSv Int) (z:=(zv6,([]:List Int))) (.s .z) (c_api_Item_f_Result_sv (zv6,(g0_.2.1,g0_.2.2)) ({ { { x0 with f_From:={ x0.f_From with f_Port:=(-1) } } with f_Bytes:=([]:List Int) } with f_Ok:=false })) sizeOf22 rfl rfl rfl ?_
   refine qn ?_
   refine at_weak [] trivial ?_
   refine at_retI0 rfl ?_
   refine qn (wq [16,15,14,4,1] ?_)
   refine bm ?_
   refine qr (aw xa ?_)
   refine at_ov (t:=23) rfl (show Value.int .i64 (wr .i64 (2+1))=.int .i64 3 from by rfl) ?_
   refine am (nt (wq [16,15,14,4,1] ?_))
   refine at_round ?_
   refine sr (aw xl ?_)
   refine at_fix (g:=17) rfl (show (decide (3<3))=false from by decide) ?_
   refine nwq [17,16,15,14,4,1] ?_
   refine qs ?_
   refine cf rfl ?_
   refine at_exit ?_
   refine te (te ?_)
   refine at_blk_same ?_
   refine dz (tn (sr (am (am ?_))))
   refine gy ?_
   refine aw (r_load_aggc (c:=c_api_Item) (z:=(zv9,{ { { { x0 with f_From:={ x0.f_From with f_Port:=(-1) } } with f_Bytes:=([]:List Int) } with f_Ok:=false } with f_Result:=([]:List Int) })) isAgg33 sizeOf33 rfl (lens_cell .z lw)) ?_
   refine gy ?_
   refine fa 0 underlying33 rfl sizeOf3 ?_
   refine gy ?_
   refine aw (r_load_cell isAgg3 rfl (lens_cell0 (c:=(cInt .i64)) (y:=({ { { { x0 with f_From:={ x0.f_From with f_Port:=(-1) } } with f_Bytes:=([]:List Int) } with f_Ok:=false } with f_Result:=([]:List Int) }).f_Kind) .z (c_api_Item_f_Kind zv9 ({ { { { x0 with f_From:={ x0.f_From with f_Port:=(-1) } } with f_Bytes:=([]:List Int) } with f_Ok:=false } with f_Result:=([]:List Int) })) rfl)) ?_
   refine gy ?_
   refine aw (r_build_struct (zs:=Cd.cs c_api_Item zv10) (cs:=Cd.cs c_api_Item (zv9,{ zv8 with f_Kind:=({ { { { x0 with f_From:={ x0.f_From with f_Port:=(-1) } } with f_Bytes:=([]:List Int) } with f_Ok:=false } with f_Result:=([]:List Int) }).f_Kind })) underlying33 zeroValue33 rfl (places_api_Item_33) rfl (fill_step (c:=(cInt .i64)) (z:=({ { { { x0 with f_From:={ x0.f_From with f_Port:=(-1) } } with f_Bytes:=([]:List Int) } with f_Ok:=false } with f_Result:=([]:List Int) }).f_Kind) rfl (c_api_Item_f_Kind zv9 zv8) rfl rfl)) ?_
   refine gy ?_
   obtain ⟨t34,ht34,hF⟩:=bM hF
   refine cB func12 rfl (fun w hw=>script_Same_ok _ _ _ _ _ ht34 w ⟨(Row.nil ..),(Row.nil ..)⟩ ⟨(Row.nil ..),(Row.nil ..)⟩) ?_
   refine aw xp (aa (qn (dz (wq [2] ?_))))
   refine tn (qt ?_)
   have K:=os hF
   subst K
   exact r1 wb
  refine cf h33 ?_
  refine at_skip ?_
  refine at_retI0 rfl ?_
  refine qn (wq [16,15,14,4,1] ?_)
  refine bm ?_
  refine qr (aw xa ?_)
  refine at_ov (t:=23) rfl (show Value.int .i64 (wr .i64 (2+1))=.int .i64 3 from by rfl) ?_
  refine am (nt (wq [16,15,14,4,1] ?_))
  refine at_round ?_
  refine sr (aw xl ?_)
  refine at_fix (g:=17) rfl (show (decide (3<3))=false from by decide) ?_
  refine nwq [17,16,15,14,4,1] ?_
  refine qs ?_
  refine cf rfl ?_
  refine at_exit ?_
  refine te (te ?_)
  refine at_blk_same ?_
  refine dz (tn (sr (am (am ?_))))
  refine gy ?_
  refine aw (r_load_aggc (c:=c_api_Item) (z:=((zv6,(g0_.2.1,g0_.2.2)),{ { x0 with f_From:={ x0.f_From with f_Port:=(-1) } } with f_Bytes:=([]:List Int) })) isAgg33 sizeOf33 rfl (lens_cell .z lw)) ?_
  refine gy ?_
  refine fa 0 underlying33 rfl sizeOf3 ?_
  refine gy ?_
  refine aw (r_load_cell isAgg3 rfl (lens_cell0 (c:=(cInt .i64)) (y:=({ { x0 with f_From:={ x0.f_From with f_Port:=(-1) } } with f_Bytes:=([]:List Int) }).f_Kind) .z (c_api_Item_f_Kind (zv6,(g0_.2.1,g0_.2.2)) ({ { x0 with f_From:={ x0.f_From with f_Port:=(-1) } } with f_Bytes:=([]:List Int) })) rfl)) ?_
  refine gy ?_
  refine aw (r_build_struct (zs:=Cd.cs c_api_Item zv10) (cs:=Cd.cs c_api_Item (zv9,{ zv8 with f_Kind:=({ { x0 with f_From:={ x0.f_From with f_Port:=(-1) } } with f_Bytes:=([]:List Int) }).f_Kind })) underlying33 zeroValue33 rfl (places_api_Item_33) rfl (fill_step (c:=(cInt .i64)) (z:=({ { x0 with f_From:={ x0.f_From with f_Port:=(-1) } } with f_Bytes:=([]:List Int) }).f_Kind) rfl (c_api_Item_f_Kind zv9 zv8) rfl rfl)) ?_
  refine gy ?_
  obtain ⟨t35,ht35,hF⟩:=bM hF
  refine cB func12 rfl (fun w hw=>script_Same_ok _ _ _ _ _ ht35 w ⟨(Row.nil ..),(RowK.row (RowK.mono hz0.2 (frz_mono (.s .z) hw)))⟩ ⟨(Row.nil ..),(Row.nil ..)⟩) ?_
  refine aw xp (aa (qn (dz (wq [2] ?_))))
  refine tn (qt ?_)
  have K:=os hF
  subst K
  exact r1 wb
 skip
 obtain ⟨h36,hF⟩|⟨h36,hF⟩:=oi hF
 ·skip
  refine script_shapeOf_in4 rfl rfl h2 h7 h12 h20 h36 ?_
  intro b37 b38 b39
  refine am ?_
  refine aw xe (aw xe ?_)
  refine al (cs:=zl20) zeroValue98 ?_
  intro b40
  refine sa 2 ((zl9 b39)) .z rfl rfl sizeOf98 rfl rfl rfl ?_
  refine aa (nt (qs (sr (fa 1 underlying98 rfl sizeOf96 ?_))))
  refine aw (r_load_cell isAgg96 rfl (fun w1 hw=>cells_get (hw.ok (Upd.mem .z)) 1 _ rfl)) ?_
  refine aw (r_len_sl underlying96 rfl) ?_
  refine am (qn (dz (wq [16,15,14,4,1] ?_)))
  refine tn ?_
  refine qb ?_
  refine wq [16,15,14,4,1] ?_
  refine at_loop ?_
  refine at_round ?_
  refine sr (aw xl ?_)
  refine at_fix (g:=17) rfl (show (decide (0<4))=true from by decide) ?_
  refine nwq [17,16,15,14,4,1] ?_
  refine qs ?_
  refine ct rfl ?_
  refine sn (qs ?_)
  refine qb ?_
  refine sr ?_
  refine aw (r_idx underlying96 sizeOf104 rfl rfl (by decide) rfl) ?_
  refine aw (r_load_agg (l:=zl10) isAgg104 sizeOf104 rfl rfl (fun w1 hw=>cells_mid (pre:=[]) (suf:=(zl1 b37 b38)) (hw.ok (Upd.mem .z)) rfl rfl)) ?_
  refine al (cs:=zl21) zeroValue104 ?_
  intro b41
  refine sa 3 (zl10) .z rfl rfl sizeOf104 rfl rfl rfl ?_
  refine nwq [16,15,14,6,4,1] ?_
  refine qr (fa 2 underlying104 rfl sizeOf102 ?_)
  refine aw (r_load_cell isAgg102 rfl (fun w1 hw=>cells_get (hw.ok (Upd.mem .z)) 2 _ rfl)) ?_
  refine at_callee rfl ?_
  refine at_callI func138 rfl (by kernel_rfl) rfl rfl rfl rfl ?_
  refine dz (qr (am ?_))
  refine aw (r_build_array (zs:=Cd.cs (cVec (cInt .u8) 32 (by decide)) zv3) (cs:=Cd.cs (cVec (cInt .u8) 32 (by decide)) zv3) underlying29 zeroValue29 rfl sizeOf5 rfl rfl) ?_
  refine aw (r_nilCheck rfl) ?_
  refine fa 22 underlying33 rfl sizeOf29 ?_
  refine at_store (c:=(cVec (cInt .u8) 32 (by decide))) (z:=zv3) (.s (.s (.s .z))) (c_api_Item_f_Key g0_ x0) sizeOf29 rfl rfl rfl ?_
  refine qn ?_
  refine at_weak [] trivial ?_
  refine at_retI0 rfl ?_
  refine qn (wq [16,15,14,4,1] ?_)
  refine bm ?_
  refine qr (aw xa ?_)
  refine at_ov (t:=23) rfl (show Value.int .i64 (wr .i64 (0+1))=.int .i64 1 from by rfl) ?_
  refine am (nt (wq [16,15,14,4,1] ?_))
  refine at_round ?_
  refine sr (aw xl ?_)
  refine at_fix (g:=17) rfl (show (decide (1<4))=true from by decide) ?_
  refine nwq [17,16,15,14,4,1] ?_
  refine qs ?_
  refine ct rfl ?_
  refine sn (qs ?_)
  refine qb ?_
  refine sr ?_
  refine aw (r_idx underlying96 sizeOf104 rfl rfl (by decide) rfl) ?_
  refine aw (r_load_agg (l:=(zl6 b37)) isAgg104 sizeOf104 rfl rfl (fun w1 hw=>cells_mid (pre:=zl10) (suf:=(zl3 b38)) (hw.ok (Upd.mem .z)) rfl rfl)) ?_
  refine al (cs:=zl21) zeroValue104 ?_
  intro b42
  refine sa 3 ((zl6 b37)) .z rfl rfl sizeOf104 rfl rfl rfl ?_
  refine nwq [16,15,14,6,4,1] ?_
  refine qr (fa 2 underlying104 rfl sizeOf102 ?_)
  refine aw (r_load_cell isAgg102 rfl (fun w1 hw=>cells_get (hw.ok (Upd.mem .z)) 2 _ rfl)) ?_
  refine at_calleeC (caps:=[.pointer (some ⟨b37,0,none⟩)]) rfl ?_
  refine at_callI func124 rfl (by kernel_rfl) rfl rfl rfl rfl ?_
  refine dz (wq [1,0] ?_)
  refine qr ?_
  refine aw (r_load_cell isAgg133 rfl (fun w1 hw=>cells_get (hw.ok (Upd.mem (.s (.s .z)))) 0 _ rfl)) ?_
  refine am ?_
  refine at_callee rfl ?_
  refine at_callI func76 rfl (by kernel_rfl) rfl rfl rfl rfl ?_
  refine sr (aa (ns (am ?_)))
  refine aw (r_nilCheck rfl) ?_
  refine fa 54 underlying33 rfl sizeOf30 (aa (nwq [2] ?_))
  refine qt ?_
  refine at_retI1 rfl rfl ?_
  refine aw (r_nilCheck rfl) ?_
  refine at_store (c:=(cInt .u32)) (z:=0) (.s (.s (.s .z))) (c_api_Item_f_Local g0_ ({ x0 with f_Key:=zv3 })) sizeOf30 rfl rfl rfl ?_
  refine qn ?_
  refine at_weak [] trivial ?_
  refine at_retI0 rfl ?_
  refine qn (wq [16,15,14,4,1] ?_)
  refine bm ?_
  refine qr (aw xa ?_)
  refine at_ov (t:=23) rfl (show Value.int .i64 (wr .i64 (1+1))=.int .i64 2 from by rfl) ?_
  refine am (nt (wq [16,15,14,4,1] ?_))
  refine at_round ?_
  refine sr (aw xl ?_)
  refine at_fix (g:=17) rfl (show (decide (2<4))=true from by decide) ?_
  refine nwq [17,16,15,14,4,1] ?_
  refine qs ?_
  refine ct rfl ?_
  refine sn (qs ?_)
  refine qb ?_
  refine sr ?_
  refine aw (r_idx underlying96 sizeOf104 rfl rfl (by decide) rfl) ?_
  refine aw (r_load_agg (l:=(zl6 b38)) isAgg104 sizeOf104 rfl rfl (fun w1 hw=>cells_mid (pre:=(zl4 b37)) (suf:=zl11) (hw.ok (Upd.mem .z)) rfl rfl)) ?_
  refine al (cs:=zl21) zeroValue104 ?_
  intro b43
  refine sa 3 ((zl6 b38)) .z rfl rfl sizeOf104 rfl rfl rfl ?_
  refine nwq [16,15,14,6,4,1] ?_
  refine qr (fa 2 underlying104 rfl sizeOf102 ?_)
  refine aw (r_load_cell isAgg102 rfl (fun w1 hw=>cells_get (hw.ok (Upd.mem .z)) 2 _ rfl)) ?_
  refine at_calleeC (caps:=[.pointer (some ⟨b38,0,none⟩)]) rfl ?_
  refine at_callI func124 rfl (by kernel_rfl) rfl rfl rfl rfl ?_
  refine dz (wq [1,0] ?_)
  refine qr ?_
  refine aw (r_load_cell isAgg133 rfl (fun w1 hw=>cells_get (hw.ok (Upd.mem (.s .z))) 0 _ rfl)) ?_
  refine am ?_
  refine at_callee rfl ?_
  refine at_callI func77 rfl (by kernel_rfl) rfl rfl rfl rfl ?_
  refine sr (aa (ns (am ?_)))
  refine aw (r_nilCheck rfl) ?_
  refine fa 55 underlying33 rfl sizeOf30 (aa (nwq [2] ?_))
  refine qt ?_
  refine at_retI1 rfl rfl ?_
  refine aw (r_nilCheck rfl) ?_
  refine at_store (c:=(cInt .u32)) (z:=0) (.s (.s (.s .z))) (c_api_Item_f_Remote g0_ ({ { x0 with f_Key:=zv3 } with f_Local:=0 })) sizeOf30 rfl rfl rfl ?_
  refine qn ?_
  refine at_weak [] trivial ?_
  refine at_retI0 rfl ?_
  refine qn (wq [16,15,14,4,1] ?_)
  refine bm ?_
  refine qr (aw xa ?_)
  refine at_ov (t:=23) rfl (show Value.int .i64 (wr .i64 (2+1))=.int .i64 3 from by rfl) ?_
  refine am (nt (wq [16,15,14,4,1] ?_))
  refine at_round ?_
  refine sr (aw xl ?_)
  refine at_fix (g:=17) rfl (show (decide (3<4))=true from by decide) ?_
  refine nwq [17,16,15,14,4,1] ?_
  refine qs ?_
  refine ct rfl ?_
  refine sn (qs ?_)
  refine qb ?_
  refine sr ?_
  refine aw (r_idx underlying96 sizeOf104 rfl rfl (by decide) rfl) ?_
  refine aw (r_load_agg (l:=zl11) isAgg104 sizeOf104 rfl rfl (fun w1 hw=>cells_mid (pre:=(zl2 b37 b38)) (suf:=[]) (hw.ok (Upd.mem .z)) rfl rfl)) ?_
  refine al (cs:=zl21) zeroValue104 ?_
  intro b44
  refine sa 3 (zl11) .z rfl rfl sizeOf104 rfl rfl rfl ?_
  refine nwq [16,15,14,6,4,1] ?_
  refine qr (fa 2 underlying104 rfl sizeOf102 ?_)
  refine aw (r_load_cell isAgg102 rfl (fun w1 hw=>cells_get (hw.ok (Upd.mem .z)) 2 _ rfl)) ?_
  refine at_callee rfl ?_
  refine at_callI func141 rfl (by kernel_rfl) rfl rfl rfl rfl ?_
  refine dz (qr (am ?_))
  refine aw (r_nilCheck rfl) ?_
  refine fa 56 underlying33 rfl sizeOf31 ?_
  refine at_store (c:=(cInt .u64)) (z:=0) (.s (.s (.s .z))) (c_api_Item_f_Next g0_ ({ { { x0 with f_Key:=zv3 } with f_Local:=0 } with f_Remote:=0 })) sizeOf31 rfl rfl rfl ?_
  refine qn ?_
  refine at_weak [] trivial ?_
  refine at_retI0 rfl ?_
  refine qn (wq [16,15,14,4,1] ?_)
  refine bm ?_
  refine qr (aw xa ?_)
  refine at_ov (t:=23) rfl (show Value.int .i64 (wr .i64 (3+1))=.int .i64 4 from by rfl) ?_
  refine am (nt (wq [16,15,14,4,1] ?_))
  refine at_round ?_
  refine sr (aw xl ?_)
  refine at_fix (g:=17) rfl (show (decide (4<4))=false from by decide) ?_
  refine nwq [17,16,15,14,4,1] ?_
  refine qs ?_
  refine cf rfl ?_
  refine at_exit ?_
  refine te (te ?_)
  refine at_blk_same ?_
  refine dz (dz (dz (tn (sr (am (am ?_))))))
  refine gy ?_
  refine aw (r_load_aggc (c:=c_api_Item) (z:=(g0_,{ { { { x0 with f_Key:=zv3 } with f_Local:=0 } with f_Remote:=0 } with f_Next:=0 })) isAgg33 sizeOf33 rfl (lens_cell .z lw)) ?_
  refine gy ?_
  refine fa 0 underlying33 rfl sizeOf3 ?_
  refine gy ?_
  refine aw (r_load_cell isAgg3 rfl (lens_cell0 (c:=(cInt .i64)) (y:=({ { { { x0 with f_Key:=zv3 } with f_Local:=0 } with f_Remote:=0 } with f_Next:=0 }).f_Kind) .z (c_api_Item_f_Kind g0_ ({ { { { x0 with f_Key:=zv3 } with f_Local:=0 } with f_Remote:=0 } with f_Next:=0 })) rfl)) ?_
  refine gy ?_
  refine aw (r_build_struct (zs:=Cd.cs c_api_Item zv10) (cs:=Cd.cs c_api_Item (zv9,{ zv8 with f_Kind:=({ { { { x0 with f_Key:=zv3 } with f_Local:=0 } with f_Remote:=0 } with f_Next:=0 }).f_Kind })) underlying33 zeroValue33 rfl (places_api_Item_33) rfl (fill_step (c:=(cInt .i64)) (z:=({ { { { x0 with f_Key:=zv3 } with f_Local:=0 } with f_Remote:=0 } with f_Next:=0 }).f_Kind) rfl (c_api_Item_f_Kind zv9 zv8) rfl rfl)) ?_
  refine gy ?_
  obtain ⟨t45,ht45,hF⟩:=bM hF
  refine cB func12 rfl (fun w hw=>script_Same_ok _ _ _ _ _ ht45 w (NK_api_Item.n (NK_api_Item.mono hz0 (frz_mono (.s .z) hw))) ⟨(Row.nil ..),(Row.nil ..)⟩) ?_
  refine aw xp (aa (qn (dz (wq [2] ?_))))
  refine tn (qt ?_)
  have K:=os hF
  subst K
  exact r1 wb
 skip
 obtain ⟨h46,hF⟩|⟨h46,hF⟩:=oi hF
 ·skip
  refine script_shapeOf_in5 rfl rfl h2 h7 h12 h20 h36 h46 ?_
  intro b47 b48
  refine am ?_
  refine aw xe (aw xe ?_)
  refine al (cs:=zl20) zeroValue98 ?_
  intro b49
  refine sa 2 ((zl15 b48)) .z rfl rfl sizeOf98 rfl rfl rfl ?_
  refine aa (nt (qs (sr (fa 1 underlying98 rfl sizeOf96 ?_))))
  refine aw (r_load_cell isAgg96 rfl (fun w1 hw=>cells_get (hw.ok (Upd.mem .z)) 1 _ rfl)) ?_
  refine aw (r_len_sl underlying96 rfl) ?_
  refine am (qn (dz (wq [16,15,14,4,1] ?_)))
  refine tn ?_
  refine qb ?_
  refine wq [16,15,14,4,1] ?_
  refine at_loop ?_
  refine at_round ?_
  refine sr (aw xl ?_)
  refine at_fix (g:=17) rfl (show (decide (0<1))=true from by decide) ?_
  refine nwq [17,16,15,14,4,1] ?_
  refine qs ?_
  refine ct rfl ?_
  refine sn (qs ?_)
  refine qb ?_
  refine sr ?_
  refine aw (r_idx underlying96 sizeOf104 rfl rfl (by decide) rfl) ?_
  refine aw (r_load_agg (l:=(zl6 b47)) isAgg104 sizeOf104 rfl rfl (fun w1 hw=>cells_mid (pre:=[]) (suf:=[]) (hw.ok (Upd.mem .z)) rfl rfl)) ?_
  refine al (cs:=zl21) zeroValue104 ?_
  intro b50
  refine sa 3 ((zl6 b47)) .z rfl rfl sizeOf104 rfl rfl rfl ?_
  refine nwq [16,15,14,6,4,1] ?_
  refine qr (fa 2 underlying104 rfl sizeOf102 ?_)
  refine aw (r_load_cell isAgg102 rfl (fun w1 hw=>cells_get (hw.ok (Upd.mem .z)) 2 _ rfl)) ?_
  refine at_calleeC (caps:=[.pointer (some ⟨b47,0,none⟩)]) rfl ?_
  refine at_callI func124 rfl (by kernel_rfl) rfl rfl rfl rfl ?_
  refine dz (wq [1,0] ?_)
  refine qr ?_
  refine aw (r_load_cell isAgg133 rfl (fun w1 hw=>cells_get (hw.ok (Upd.mem (.s .z))) 0 _ rfl)) ?_
  refine am ?_
  refine at_callee rfl ?_
  refine at_callI func76 rfl (by kernel_rfl) rfl rfl rfl rfl ?_
  refine sr (aa (ns (am ?_)))
  refine aw (r_nilCheck rfl) ?_
  refine fa 54 underlying33 rfl sizeOf30 (aa (nwq [2] ?_))
  refine qt ?_
  refine at_retI1 rfl rfl ?_
  refine aw (r_nilCheck rfl) ?_
  refine at_store (c:=(cInt .u32)) (z:=0) (.s (.s .z)) (c_api_Item_f_Local g0_ x0) sizeOf30 rfl rfl rfl ?_
  refine qn ?_
  refine at_weak [] trivial ?_
  refine at_retI0 rfl ?_
  refine qn (wq [16,15,14,4,1] ?_)
  refine bm ?_
  refine qr (aw xa ?_)
  refine at_ov (t:=23) rfl (show Value.int .i64 (wr .i64 (0+1))=.int .i64 1 from by rfl) ?_
  refine am (nt (wq [16,15,14,4,1] ?_))
  refine at_round ?_
  refine sr (aw xl ?_)
  refine at_fix (g:=17) rfl (show (decide (1<1))=false from by decide) ?_
  refine nwq [17,16,15,14,4,1] ?_
  refine qs ?_
  refine cf rfl ?_
  refine at_exit ?_
  refine te (te ?_)
  refine at_blk_same ?_
  refine dz (dz (tn (sr (am (am ?_)))))
  refine gy ?_
  refine aw (r_load_aggc (c:=c_api_Item) (z:=(g0_,{ x0 with f_Local:=0 })) isAgg33 sizeOf33 rfl (lens_cell .z lw)) ?_
  refine gy ?_
  refine fa 0 underlying33 rfl sizeOf3 ?_
  refine gy ?_
  refine aw (r_load_cell isAgg3 rfl (lens_cell0 (c:=(cInt .i64)) (y:=({ x0 with f_Local:=0 }).f_Kind) .z (c_api_Item_f_Kind g0_ ({ x0 with f_Local:=0 })) rfl)) ?_
  refine gy ?_
  refine aw (r_build_struct (zs:=Cd.cs c_api_Item zv10) (cs:=Cd.cs c_api_Item (zv9,{ zv8 with f_Kind:=({ x0 with f_Local:=0 }).f_Kind })) underlying33 zeroValue33 rfl (places_api_Item_33) rfl (fill_step (c:=(cInt .i64)) (z:=({ x0 with f_Local:=0 }).f_Kind) rfl (c_api_Item_f_Kind zv9 zv8) rfl rfl)) ?_
  refine gy ?_
  obtain ⟨t51,ht51,hF⟩:=bM hF
  refine cB func12 rfl (fun w hw=>script_Same_ok _ _ _ _ _ ht51 w (NK_api_Item.n (NK_api_Item.mono hz0 (frz_mono (.s .z) hw))) ⟨(Row.nil ..),(Row.nil ..)⟩) ?_
  refine aw xp (aa (qn (dz (wq [2] ?_))))
  refine tn (qt ?_)
  have K:=os hF
  subst K
  exact r1 wb
 skip
 refine script_shapeOf_in6 rfl rfl h2 h7 h12 h20 h36 h46 ?_
 intro _
 refine am ?_
 refine aw xe (aw xe ?_)
 refine al (cs:=zl20) zeroValue98 ?_
 intro b52
 refine sa 2 (zl20) .z rfl rfl sizeOf98 rfl rfl rfl ?_
 refine aa (nt (qs (sr (fa 1 underlying98 rfl sizeOf96 ?_))))
 refine aw (r_load_cell isAgg96 rfl (fun w1 hw=>cells_get (hw.ok (Upd.mem .z)) 1 _ rfl)) ?_
 refine aw (r_len_sl underlying96 rfl) ?_
 refine am (qn (dz (wq [16,15,14,4,1] ?_)))
 refine tn ?_
 refine qb ?_
 refine wq [16,15,14,4,1] ?_
 refine at_loop ?_
 refine at_round ?_
 refine sr (aw xl ?_)
 refine at_fix (g:=17) rfl (show (decide (0<0))=false from by decide) ?_
 refine nwq [17,16,15,14,4,1] ?_
 refine qs ?_
 refine cf rfl ?_
 refine at_exit ?_
 refine te (te ?_)
 refine at_blk_same ?_
 refine tn (sr (am (am ?_)))
 refine gn ?_
 refine gn ?_
 refine gn ?_
 refine gn ?_
 refine gn ?_
 refine aw xp (aa (qn (dz (wq [2] ?_))))
 refine tn (qt ?_)
 have K:=os hF
 subst K
 exact r1 wb
theorem infoSC9_is:(Tryz.prog.info? 9).isSome=true:=by kernel_rfl
noncomputable def infoSC9_v:TypeInfo:=(Tryz.prog.info? 9).get infoSC9_is
theorem infoSC9:Tryz.prog.info? 9=some infoSC9_v:=(Option.some_get _).symm
def script_Text(x0:S_api_Item):Option (ByteArray×Int) :=
 script_Right x0>>=fun t2=>if (!t2)=true then (some (⟨#[]⟩,1)) else (if (x0.f_Kind==1)=true then (script_word x0.f_Bytes>>=fun t10=>if (([⟨#[115,101,116]⟩]:List ByteArray).length+1)*16≤140737488355328 then if List.length (([⟨#[115,101,116]⟩]:List ByteArray)++[t10])≤140737488355328 then if (bjoin (([⟨#[115,101,116]⟩]:List ByteArray)++[t10]) (⟨#[32]⟩:ByteArray)).size≤140737488355328 then some (bjoin (([⟨#[115,101,116]⟩]:List ByteArray)++[t10]) (⟨#[32]⟩:ByteArray),0) else none else none else none) else (if (x0.f_Kind==2)=true then (script_word x0.f_Bytes>>=fun t23=>if (([⟨#[108,111,97,100]⟩]:List ByteArray).length+1)*16≤140737488355328 then if List.length (([⟨#[108,111,97,100]⟩]:List ByteArray)++[t23])≤140737488355328 then if (bjoin (([⟨#[108,111,97,100]⟩]:List ByteArray)++[t23]) (⟨#[32]⟩:ByteArray)).size≤140737488355328 then some (bjoin (([⟨#[108,111,97,100]⟩]:List ByteArray)++[t23]) (⟨#[32]⟩:ByteArray),0) else none else none else none) else (if (x0.f_Kind==3)=true then (script_word x0.f_Bytes>>=fun t36=>if (([⟨#[111,117,116]⟩]:List ByteArray).length+1)*16≤140737488355328 then if (!x0.f_Ok)=true then (if ((([⟨#[111,117,116]⟩]:List ByteArray)++[t36]).length+1)*16≤140737488355328 then if List.length ((([⟨#[111,117,116]⟩]:List ByteArray)++[t36])++[⟨#[33]⟩])≤140737488355328 then if (bjoin ((([⟨#[111,117,116]⟩]:List ByteArray)++[t36])++[⟨#[33]⟩]) (⟨#[32]⟩:ByteArray)).size≤140737488355328 then some (bjoin ((([⟨#[111,117,116]⟩]:List ByteArray)++[t36])++[⟨#[33]⟩]) (⟨#[32]⟩:ByteArray),0) else none else none else none) else (script_word x0.f_Result>>=fun t50=>if ((([⟨#[111,117,116]⟩]:List ByteArray)++[t36]).length+1)*16≤140737488355328 then if List.length ((([⟨#[111,117,116]⟩]:List ByteArray)++[t36])++[t50])≤140737488355328 then if (bjoin ((([⟨#[111,117,116]⟩]:List ByteArray)++[t36])++[t50]) (⟨#[32]⟩:ByteArray)).size≤140737488355328 then some (bjoin ((([⟨#[111,117,116]⟩]:List ByteArray)++[t36])++[t50]) (⟨#[32]⟩:ByteArray),0) else none else none else none) else none) else (if (x0.f_Kind==4)=true then (hostport_Text x0.f_From>>=fun t63=>if (([⟨#[105,110]⟩]:List ByteArray).length+1)*16≤140737488355328 then script_word x0.f_Bytes>>=fun t70=>if ((([⟨#[105,110]⟩]:List ByteArray)++[t63]).length+1)*16≤140737488355328 then if (!x0.f_Ok)=true then (if (((([⟨#[105,110]⟩]:List ByteArray)++[t63])++[t70]).length+1)*16≤140737488355328 then if List.length (((([⟨#[105,110]⟩]:List ByteArray)++[t63])++[t70])++[⟨#[33]⟩])≤140737488355328 then if (bjoin (((([⟨#[105,110]⟩]:List ByteArray)++[t63])++[t70])++[⟨#[33]⟩]) (⟨#[32]⟩:ByteArray)).size≤140737488355328 then some (bjoin (((([⟨#[105,110]⟩]:List ByteArray)++[t63])++[t70])++[⟨#[33]⟩]) (⟨#[32]⟩:ByteArray),0) else none else none else none) else (script_word x0.f_Result>>=fun t84=>if (((([⟨#[105,110]⟩]:List ByteArray)++[t63])++[t70]).length+1)*16≤140737488355328 then if List.length (((([⟨#[105,110]⟩]:List ByteArray)++[t63])++[t70])++[t84])≤140737488355328 then if (bjoin (((([⟨#[105,110]⟩]:List ByteArray)++[t63])++[t70])++[t84]) (⟨#[32]⟩:ByteArray)).size≤140737488355328 then some (bjoin (((([⟨#[105,110]⟩]:List ByteArray)++[t63])++[t70])++[t84]) (⟨#[32]⟩:ByteArray),0) else none else none else none) else none else none) else (if (x0.f_Kind==5)=true then (keys_Hex x0.f_Key>>=fun t99=>if (([⟨#[105,110,115,116,97,108,108]⟩]:List ByteArray).length+1)*16≤140737488355328 then decimal_Text (wr .u64 x0.f_Local)>>=fun t106=>if ((([⟨#[105,110,115,116,97,108,108]⟩]:List ByteArray)++[t99]).length+1)*16≤140737488355328 then decimal_Text (wr .u64 x0.f_Remote)>>=fun t113=>if (((([⟨#[105,110,115,116,97,108,108]⟩]:List ByteArray)++[t99])++[t106]).length+1)*16≤140737488355328 then decimal_Text x0.f_Next>>=fun t120=>if ((((([⟨#[105,110,115,116,97,108,108]⟩]:List ByteArray)++[t99])++[t106])++[t113]).length+1)*16≤140737488355328 then if List.length ((((([⟨#[105,110,115,116,97,108,108]⟩]:List ByteArray)++[t99])++[t106])++[t113])++[t120])≤140737488355328 then if (bjoin ((((([⟨#[105,110,115,116,97,108,108]⟩]:List ByteArray)++[t99])++[t106])++[t113])++[t120]) (⟨#[32]⟩:ByteArray)).size≤140737488355328 then some (bjoin ((((([⟨#[105,110,115,116,97,108,108]⟩]:List ByteArray)++[t99])++[t106])++[t113])++[t120]) (⟨#[32]⟩:ByteArray),0) else none else none else none else none else none else none) else (if (x0.f_Kind==6)=true then (decimal_Text (wr .u64 x0.f_Local)>>=fun t134=>if (([⟨#[102,111,114,103,101,116]⟩]:List ByteArray).length+1)*16≤140737488355328 then if List.length (([⟨#[102,111,114,103,101,116]⟩]:List ByteArray)++[t134])≤140737488355328 then if (bjoin (([⟨#[102,111,114,103,101,116]⟩]:List ByteArray)++[t134]) (⟨#[32]⟩:ByteArray)).size≤140737488355328 then some (bjoin (([⟨#[102,111,114,103,101,116]⟩]:List ByteArray)++[t134]) (⟨#[32]⟩:ByteArray),0) else none else none else none) else (if List.length ([⟨#[]⟩]:List ByteArray)≤140737488355328 then if (bjoin ([⟨#[]⟩]:List ByteArray) (⟨#[32]⟩:ByteArray)).size≤140737488355328 then some (bjoin ([⟨#[]⟩]:List ByteArray) (⟨#[32]⟩:ByteArray),0) else none else none)))))))
set_option maxRecDepth 20000 in
set_option maxHeartbeats 3200000 in
theorem script_Text_ok(g0_:G_api_Item)(x0:S_api_Item)(r:ByteArray×Int)(hF:script_Text x0=some r)(w:World)(hn0:N_api_Item w (g0_,x0))(hg_bytealg_MaxLen:GV_bytealg_MaxLen w)(hg_strconv_ErrRange:GV_strconv_ErrRange w)(hg_strconv_ErrSyntax:GV_strconv_ErrSyntax w)(hg_strconv_uint64pow10:GV_strconv_uint64pow10 w) :
    Calls Tryz.prog 23 #[.agg (Cd.cs c_api_Item (g0_,x0)).toArray] w (fun e w'=>e=.returned (.tuple #[.string r.1,.int .i64 r.2])∧Below w.heap.size w w'):=by
 unfold script_Text at hF
 refine ce (l:=[.agg (Cd.cs c_api_Item (g0_,x0)).toArray]) func23 rfl rfl ?_
 refine at_start ?_
 refine sr ?_
 refine at_box (cs:=Cd.cs c_api_Item (g0_,x0)) rfl rfl rfl ?_
 intro b1
 refine aa (aa (nt (qs (sr ?_))))
 refine aw (r_load_aggc (c:=c_api_Item) (z:=(g0_,x0)) isAgg33 sizeOf33 rfl (lens_cell .z lw)) ?_
 obtain ⟨t2,ht2,hF⟩:=bM hF
 refine cB func24 rfl (fun w hw=>script_Right_ok _ _ _ ht2 w (N_api_Item.below hn0 hw.below) (hg_bytealg_MaxLen.on hw.below) (hg_strconv_ErrRange.on hw.below) (hg_strconv_ErrSyntax.on hw.below) (hg_strconv_uint64pow10.on hw.below)) ?_
 refine aw (r_not rfl) ?_
 refine nwq [11,1] ?_
 obtain ⟨h3,hF⟩|⟨h3,hF⟩:=oi hF
 ·refine ct h3 ?_
  refine sr (aa (aa (qn (dz (wq [3,2] ?_)))))
  refine tn (rt ?_)
  have K:=os hF
  subst K
  exact at_return2 rfl rfl rfl wb
 refine cf h3 ?_
 refine sns (fa 0 underlying33 rfl sizeOf3 ?_)
 refine aw (r_load_cell isAgg3 rfl (lens_cell0 (c:=(cInt .i64)) (y:=x0.f_Kind) .z (c_api_Item_f_Kind g0_ x0) rfl)) ?_
 obtain ⟨h4,hF⟩|⟨h4,hF⟩:=oi hF
 ·skip
  refine script_shapeOf_in0 rfl rfl h4 ?_
  intro b5
  refine am ?_
  refine aw xe (aw xe ?_)
  refine al (cs:=zl20) zeroValue98 ?_
  intro b6
  refine sa 2 ((zl17 b5)) .z rfl rfl sizeOf98 rfl rfl rfl ?_
  refine aa (ns (fa 0 underlying98 rfl sizeOf9 ?_))
  refine aw (r_load_cell isAgg9 rfl (fun w1 hw=>cells_get (hw.ok (Upd.mem .z)) 0 _ rfl)) ?_
  refine at_lit (cs:=cStr.all ([⟨#[115,101,116]⟩]:List ByteArray)) underlying38 sizeOf9 zeroValue9 rfl rfl rfl (by kernel_rfl) rfl ?_
  intro b7
  refine aa (nt (qs (sr (fa 1 underlying98 rfl sizeOf96 ?_))))
  refine aw (r_load_cell isAgg96 rfl (fun w1 hw=>cells_get (hw.ok (Upd.mem (.s .z))) 1 _ rfl)) ?_
  refine aw (r_len_sl underlying96 rfl) ?_
  refine am (qn ?_)
  refine at_drop (H:=_) (.s .z) ?_
  refine wq [24,23,22,6,1] ?_
  refine tn ?_
  refine qb ?_
  refine wq [24,23,22,6,1] ?_
  refine at_loop ?_
  refine at_round ?_
  refine sr (aw xl ?_)
  refine at_fix (g:=25) rfl (show (decide (0<1))=true from by decide) ?_
  refine nwq [25,24,23,22,6,1] ?_
  refine qs ?_
  refine ct rfl ?_
  refine sn (qs ?_)
  refine qb ?_
  refine sr ?_
  refine aw (r_idx underlying96 sizeOf104 rfl rfl (by decide) rfl) ?_
  refine aw (r_load_agg (l:=zl12) isAgg104 sizeOf104 rfl rfl (fun w1 hw=>cells_mid (pre:=[]) (suf:=[]) (hw.ok (Upd.mem (.s .z))) rfl rfl)) ?_
  refine al (cs:=zl21) zeroValue104 ?_
  intro b8
  refine sa 3 (zl12) .z rfl rfl sizeOf104 rfl rfl rfl ?_
  refine nwq [24,23,22,8,6,1] ?_
  refine qr (am (fa 0 underlying104 rfl sizeOf62 ?_))
  refine aw (r_load_cell isAgg62 rfl (fun w1 hw=>cells_get (hw.ok (Upd.mem .z)) 0 _ rfl)) ?_
  refine aw (r_load_aggc (c:=c_api_Item) (z:=(g0_,x0)) isAgg33 sizeOf33 rfl (lens_cell (.s (.s (.s .z))) lw)) ?_
  refine at_callee rfl ?_
  refine at_callI func125 rfl (by kernel_rfl) rfl rfl rfl rfl ?_
  refine dz (sr ?_)
  refine at_box (cs:=Cd.cs c_api_Item (g0_,x0)) rfl rfl rfl ?_
  intro b9
  refine aa (ns (fa 1 underlying33 rfl sizeOf22 ?_))
  refine aw (r_load_cell isAgg22 rfl (lens_cell0 (c:=cHd) (y:=⟨g0_.1.1,List.length x0.f_Bytes,g0_.1.2⟩) .z (c_api_Item_f_Bytes g0_ x0) rfl)) ?_
  obtain ⟨t10,ht10,hF⟩:=bM hF
  refine cB func126 rfl (fun w hw=>script_word_ok _ _ _ _ ht10 w ((hn0).1.below hw.below)) ?_
  refine aa (qn (dz (wq [2] ?_)))
  refine tn (qt ?_)
  refine at_retI1 rfl rfl ?_
  refine at_lit (cs:=cStr.all ([t10]:List ByteArray)) underlying38 sizeOf9 zeroValue9 rfl rfl rfl (by kernel_rfl) rfl ?_
  intro b11
  refine at_lit_row (c:=cStr) (xs:=([⟨#[115,101,116]⟩]:List ByteArray)) (m:=1) (.s .z) rfl rfl ?_
  obtain ⟨h12,hF⟩:=gd hF
  refine at_append (z:=.string ⟨#[]⟩) (c:=cStr) (ys:=([t10]:List ByteArray)) (.s .z) underlying38 infoSC9 (by kernel_rfl) (by kernel_rfl) rfl rfl rfl rfl (fun _ hw=>cells_src (hw.ok (Upd.mem .z))) (by kernel_rfl) h12 (app_small h12) rfl ?_
  intro p13 c14
  refine aa (qn (dz (wq [24,23,22,6,1] ?_)))
  refine bm ?_
  refine qr (aw xa ?_)
  refine at_ov (t:=35) rfl (show Value.int .i64 (wr .i64 (0+1))=.int .i64 1 from by rfl) ?_
  refine am (nt (wq [24,23,22,6,1] ?_))
  refine at_round ?_
  refine sr (aw xl ?_)
  refine at_fix (g:=25) rfl (show (decide (1<1))=false from by decide) ?_
  refine nwq [25,24,23,22,6,1] ?_
  refine qs ?_
  refine cf rfl ?_
  refine at_exit ?_
  refine te (te ?_)
  refine at_blk_same ?_
  refine at_drop (H:=_) (.s .z) ?_
  refine at_drop (H:=_) (.s .z) ?_
  refine tn (sr (am ?_))
  obtain ⟨h15,hF⟩:=gd hF
  obtain ⟨h16,hF⟩:=gd hF
  refine cB func47 rfl (fun w1 hw=>join_ok _ _ h15 h16 _ _ w1 (hw.own .z).row) ?_
  refine aa (aa (qn (dz (wq [3,2] ?_))))
  refine tn (qt ?_)
  have K:=os hF
  subst K
  exact at_return2 rfl rfl rfl wb
 skip
 obtain ⟨h17,hF⟩|⟨h17,hF⟩:=oi hF
 ·skip
  refine script_shapeOf_in1 rfl rfl h4 h17 ?_
  intro b18
  refine am ?_
  refine aw xe (aw xe ?_)
  refine al (cs:=zl20) zeroValue98 ?_
  intro b19
  refine sa 2 ((zl16 b18)) .z rfl rfl sizeOf98 rfl rfl rfl ?_
  refine aa (ns (fa 0 underlying98 rfl sizeOf9 ?_))
  refine aw (r_load_cell isAgg9 rfl (fun w1 hw=>cells_get (hw.ok (Upd.mem .z)) 0 _ rfl)) ?_
  refine at_lit (cs:=cStr.all ([⟨#[108,111,97,100]⟩]:List ByteArray)) underlying38 sizeOf9 zeroValue9 rfl rfl rfl (by kernel_rfl) rfl ?_
  intro b20
  refine aa (nt (qs (sr (fa 1 underlying98 rfl sizeOf96 ?_))))
  refine aw (r_load_cell isAgg96 rfl (fun w1 hw=>cells_get (hw.ok (Upd.mem (.s .z))) 1 _ rfl)) ?_
  refine aw (r_len_sl underlying96 rfl) ?_
  refine am (qn ?_)
  refine at_drop (H:=_) (.s .z) ?_
  refine wq [24,23,22,6,1] ?_
  refine tn ?_
  refine qb ?_
  refine wq [24,23,22,6,1] ?_
  refine at_loop ?_
  refine at_round ?_
  refine sr (aw xl ?_)
  refine at_fix (g:=25) rfl (show (decide (0<1))=true from by decide) ?_
  refine nwq [25,24,23,22,6,1] ?_
  refine qs ?_
  refine ct rfl ?_
  refine sn (qs ?_)
  refine qb ?_
  refine sr ?_
  refine aw (r_idx underlying96 sizeOf104 rfl rfl (by decide) rfl) ?_
  refine aw (r_load_agg (l:=zl12) isAgg104 sizeOf104 rfl rfl (fun w1 hw=>cells_mid (pre:=[]) (suf:=[]) (hw.ok (Upd.mem (.s .z))) rfl rfl)) ?_
  refine al (cs:=zl21) zeroValue104 ?_
  intro b21
  refine sa 3 (zl12) .z rfl rfl sizeOf104 rfl rfl rfl ?_
  refine nwq [24,23,22,8,6,1] ?_
  refine qr (am (fa 0 underlying104 rfl sizeOf62 ?_))
  refine aw (r_load_cell isAgg62 rfl (fun w1 hw=>cells_get (hw.ok (Upd.mem .z)) 0 _ rfl)) ?_
  refine aw (r_load_aggc (c:=c_api_Item) (z:=(g0_,x0)) isAgg33 sizeOf33 rfl (lens_cell (.s (.s (.s .z))) lw)) ?_
  refine at_callee rfl ?_
  refine at_callI func125 rfl (by kernel_rfl) rfl rfl rfl rfl ?_
  refine dz (sr ?_)
  refine at_box (cs:=Cd.cs c_api_Item (g0_,x0)) rfl rfl rfl ?_
  intro b22
  refine aa (ns (fa 1 underlying33 rfl sizeOf22 ?_))
  refine aw (r_load_cell isAgg22 rfl (lens_cell0 (c:=cHd) (y:=⟨g0_.1.1,List.length x0.f_Bytes,g0_.1.2⟩) .z (c_api_Item_f_Bytes g0_ x0) rfl)) ?_
  obtain ⟨t23,ht23,hF⟩:=bM hF
  refine cB func126 rfl (fun w hw=>script_word_ok _ _ _ _ ht23 w ((hn0).1.below hw.below)) ?_
  refine aa (qn (dz (wq [2] ?_)))
  refine tn (qt ?_)
  refine at_retI1 rfl rfl ?_
  refine at_lit (cs:=cStr.all ([t23]:List ByteArray)) underlying38 sizeOf9 zeroValue9 rfl rfl rfl (by kernel_rfl) rfl ?_
  intro b24
  refine at_lit_row (c:=cStr) (xs:=([⟨#[108,111,97,100]⟩]:List ByteArray)) (m:=1) (.s .z) rfl rfl ?_
  obtain ⟨h25,hF⟩:=gd hF
  refine at_append (z:=.string ⟨#[]⟩) (c:=cStr) (ys:=([t23]:List ByteArray)) (.s .z) underlying38 infoSC9 (by kernel_rfl) (by kernel_rfl) rfl rfl rfl rfl (fun _ hw=>cells_src (hw.ok (Upd.mem .z))) (by kernel_rfl) h25 (app_small h25) rfl ?_
  intro p26 c27
  refine aa (qn (dz (wq [24,23,22,6,1] ?_)))
  refine bm ?_
  refine qr (aw xa ?_)
  refine at_ov (t:=35) rfl (show Value.int .i64 (wr .i64 (0+1))=.int .i64 1 from by rfl) ?_
  refine am (nt (wq [24,23,22,6,1] ?_))
  refine at_round ?_
  refine sr (aw xl ?_)
  refine at_fix (g:=25) rfl (show (decide (1<1))=false from by decide) ?_
  refine nwq [25,24,23,22,6,1] ?_
  refine qs ?_
  refine cf rfl ?_
  refine at_exit ?_
  refine te (te ?_)
  refine at_blk_same ?_
  refine at_drop (H:=_) (.s .z) ?_
  refine at_drop (H:=_) (.s .z) ?_
  refine tn (sr (am ?_))
  obtain ⟨h28,hF⟩:=gd hF
  obtain ⟨h29,hF⟩:=gd hF
  refine cB func47 rfl (fun w1 hw=>join_ok _ _ h28 h29 _ _ w1 (hw.own .z).row) ?_
  refine aa (aa (qn (dz (wq [3,2] ?_))))
  refine tn (qt ?_)
  have K:=os hF
  subst K
  exact at_return2 rfl rfl rfl wb
 skip
 obtain ⟨h30,hF⟩|⟨h30,hF⟩:=oi hF
 ·skip
  refine script_shapeOf_in2 rfl rfl h4 h17 h30 ?_
  intro b31
  refine am ?_
  refine aw xe (aw xe ?_)
  refine al (cs:=zl20) zeroValue98 ?_
  intro b32
  refine sa 2 ((zl18 b31)) .z rfl rfl sizeOf98 rfl rfl rfl ?_
  refine aa (ns (fa 0 underlying98 rfl sizeOf9 ?_))
  refine aw (r_load_cell isAgg9 rfl (fun w1 hw=>cells_get (hw.ok (Upd.mem .z)) 0 _ rfl)) ?_
  refine at_lit (cs:=cStr.all ([⟨#[111,117,116]⟩]:List ByteArray)) underlying38 sizeOf9 zeroValue9 rfl rfl rfl (by kernel_rfl) rfl ?_
  intro b33
  refine aa (nt (qs (sr (fa 1 underlying98 rfl sizeOf96 ?_))))
  refine aw (r_load_cell isAgg96 rfl (fun w1 hw=>cells_get (hw.ok (Upd.mem (.s .z))) 1 _ rfl)) ?_
  refine aw (r_len_sl underlying96 rfl) ?_
  refine am (qn ?_)
  refine at_drop (H:=_) (.s .z) ?_
  refine wq [24,23,22,6,1] ?_
  refine tn ?_
  refine qb ?_
  refine wq [24,23,22,6,1] ?_
  refine at_loop ?_
  refine at_round ?_
  refine sr (aw xl ?_)
  refine at_fix (g:=25) rfl (show (decide (0<2))=true from by decide) ?_
  refine nwq [25,24,23,22,6,1] ?_
  refine qs ?_
  refine ct rfl ?_
  refine sn (qs ?_)
  refine qb ?_
  refine sr ?_
  refine aw (r_idx underlying96 sizeOf104 rfl rfl (by decide) rfl) ?_
  refine aw (r_load_agg (l:=zl12) isAgg104 sizeOf104 rfl rfl (fun w1 hw=>cells_mid (pre:=[]) (suf:=zl13) (hw.ok (Upd.mem (.s .z))) rfl rfl)) ?_
  refine al (cs:=zl21) zeroValue104 ?_
  intro b34
  refine sa 3 (zl12) .z rfl rfl sizeOf104 rfl rfl rfl ?_
  refine nwq [24,23,22,8,6,1] ?_
  refine qr (am (fa 0 underlying104 rfl sizeOf62 ?_))
  refine aw (r_load_cell isAgg62 rfl (fun w1 hw=>cells_get (hw.ok (Upd.mem .z)) 0 _ rfl)) ?_
  refine aw (r_load_aggc (c:=c_api_Item) (z:=(g0_,x0)) isAgg33 sizeOf33 rfl (lens_cell (.s (.s (.s .z))) lw)) ?_
  refine at_callee rfl ?_
  refine at_callI func125 rfl (by kernel_rfl) rfl rfl rfl rfl ?_
  refine dz (sr ?_)
  refine at_box (cs:=Cd.cs c_api_Item (g0_,x0)) rfl rfl rfl ?_
  intro b35
  refine aa (ns (fa 1 underlying33 rfl sizeOf22 ?_))
  refine aw (r_load_cell isAgg22 rfl (lens_cell0 (c:=cHd) (y:=⟨g0_.1.1,List.length x0.f_Bytes,g0_.1.2⟩) .z (c_api_Item_f_Bytes g0_ x0) rfl)) ?_
  obtain ⟨t36,ht36,hF⟩:=bM hF
  refine cB func126 rfl (fun w hw=>script_word_ok _ _ _ _ ht36 w ((hn0).1.below hw.below)) ?_
  refine aa (qn (dz (wq [2] ?_)))
  refine tn (qt ?_)
  refine at_retI1 rfl rfl ?_
  refine at_lit (cs:=cStr.all ([t36]:List ByteArray)) underlying38 sizeOf9 zeroValue9 rfl rfl rfl (by kernel_rfl) rfl ?_
  intro b37
  refine at_lit_row (c:=cStr) (xs:=([⟨#[111,117,116]⟩]:List ByteArray)) (m:=1) (.s .z) rfl rfl ?_
  obtain ⟨h38,hF⟩:=gd hF
  refine at_append (z:=.string ⟨#[]⟩) (c:=cStr) (ys:=([t36]:List ByteArray)) (.s .z) underlying38 infoSC9 (by kernel_rfl) (by kernel_rfl) rfl rfl rfl rfl (fun _ hw=>cells_src (hw.ok (Upd.mem .z))) (by kernel_rfl) h38 (app_small h38) rfl ?_
  intro p39 c40
  refine aa (qn (dz (wq [24,23,22,6,1] ?_)))
  refine bm ?_
  refine qr (aw xa ?_)
  refine at_ov (t:=35) rfl (show Value.int .i64 (wr .i64 (0+1))=.int .i64 1 from by rfl) ?_
  refine am (nt (wq [24,23,22,6,1] ?_))
  refine at_round ?_
  refine sr (aw xl ?_)
  refine at_fix (g:=25) rfl (show (decide (1<2))=true from by decide) ?_
  refine nwq [25,24,23,22,6,1] ?_
  refine qs ?_
  refine ct rfl ?_
  refine sn (qs ?_)
  refine qb ?_
  refine sr ?_
  refine aw (r_idx underlying96 sizeOf104 rfl rfl (by decide) rfl) ?_
  refine aw (r_load_agg (l:=zl13) isAgg104 sizeOf104 rfl rfl (fun w1 hw=>cells_mid (pre:=zl12) (suf:=[]) (hw.ok (Upd.mem (.s .z))) rfl rfl)) ?_
  refine al (cs:=zl21) zeroValue104 ?_
  intro b41
  refine sa 3 (zl13) .z rfl rfl sizeOf104 rfl rfl rfl ?_
  refine nwq [24,23,22,8,6,1] ?_
  refine qr (am (fa 0 underlying104 rfl sizeOf62 ?_))
  refine aw (r_load_cell isAgg62 rfl (fun w1 hw=>cells_get (hw.ok (Upd.mem .z)) 0 _ rfl)) ?_
  refine aw (r_load_aggc (c:=c_api_Item) (z:=(g0_,x0)) isAgg33 sizeOf33 rfl (lens_cell (.s (.s (.s .z))) lw)) ?_
  refine at_callee rfl ?_
  refine at_callI func130 rfl (by kernel_rfl) rfl rfl rfl rfl ?_
  refine dz (sr ?_)
  refine at_box (cs:=Cd.cs c_api_Item (g0_,x0)) rfl rfl rfl ?_
  intro b42
  refine aa (nt (qs (sr (fa 21 underlying33 rfl sizeOf4 ?_))))
  refine aw (r_load_cell isAgg4 rfl (lens_cell0 (c:=cBool) (y:=x0.f_Ok) .z (c_api_Item_f_Ok g0_ x0) rfl)) ?_
  refine aw (r_not rfl) ?_
  refine nwq [5,1] ?_
  obtain ⟨h43,hF⟩|⟨h43,hF⟩:=oi hF
  ·refine ct h43 ?_
   refine sr (aa (qn (dz (wq [2] ?_))))
   refine tn (rt ?_)
   refine at_retI1 rfl rfl ?_
   refine at_lit (cs:=cStr.all ([⟨#[33]⟩]:List ByteArray)) underlying38 sizeOf9 zeroValue9 rfl rfl rfl (by kernel_rfl) rfl ?_
   intro b44
   obtain ⟨h45,hF⟩:=gd hF
   refine at_append (z:=.string ⟨#[]⟩) (c:=cStr) (ys:=([⟨#[33]⟩]:List ByteArray)) (.s .z) underlying38 infoSC9 (by kernel_rfl) (by kernel_rfl) rfl rfl rfl rfl (fun _ hw=>cells_src (hw.ok (Upd.mem .z))) (by kernel_rfl) h45 (app_small h45) rfl ?_
   intro p46 c47
   refine aa (qn (dz (wq [24,23,22,6,1] ?_)))
   refine bm ?_
   refine qr (aw xa ?_)
   refine at_ov (t:=35) rfl (show Value.int .i64 (wr .i64 (1+1))=.int .i64 2 from by rfl) ?_
   refine am (nt (wq [24,23,22,6,1] ?_))
   refine at_round ?_
   refine sr (aw xl ?_)
   refine at_fix (g:=25) rfl (show (decide (2<2))=false from by decide) ?_
   refine nwq [25,24,23,22,6,1] ?_
   refine qs ?_
   refine cf rfl ?_
   refine at_exit ?_
   refine te (te ?_)
   refine at_blk_same ?_
   refine at_drop (H:=_) (.s .z) ?_
   refine at_drop (H:=_) (.s .z) ?_
   refine tn (sr (am ?_))
   obtain ⟨h48,hF⟩:=gd hF
   obtain ⟨h49,hF⟩:=gd hF
   refine cB func47 rfl (fun w1 hw=>join_ok _ _ h48 h49 _ _ w1 (hw.own .z).row) ?_
   refine aa (aa (qn (dz (wq [3,2] ?_))))
   refine tn (qt ?_)
   have K:=os hF
   subst K
   exact at_return2 rfl rfl rfl wb
  refine cf h43 ?_
  refine sns (fa 20 underlying33 rfl sizeOf22 ?_)
  refine aw (r_load_cell isAgg22 rfl (lens_cell0 (c:=cHd) (y:=⟨g0_.2.1,List.length x0.f_Result,g0_.2.2⟩) .z (c_api_Item_f_Result g0_ x0) rfl)) ?_
  obtain ⟨t50,ht50,hF⟩:=bM hF
  refine cB func126 rfl (fun w hw=>script_word_ok _ _ _ _ ht50 w ((hn0).2.below hw.below)) ?_
  refine aa (qn (dz (wq [2] ?_)))
  refine tn (qt ?_)
  refine at_retI1 rfl rfl ?_
  refine at_lit (cs:=cStr.all ([t50]:List ByteArray)) underlying38 sizeOf9 zeroValue9 rfl rfl rfl (by kernel_rfl) rfl ?_
  intro b51
  obtain ⟨h52,hF⟩:=gd hF
  refine at_append (z:=.string ⟨#[]⟩) (c:=cStr) (ys:=([t50]:List ByteArray)) (.s .z) underlying38 infoSC9 (by kernel_rfl) (by kernel_rfl) rfl rfl rfl rfl (fun _ hw=>cells_src (hw.ok (Upd.mem .z))) (by kernel_rfl) h52 (app_small h52) rfl ?_
  intro p53 c54
  refine aa (qn (dz (wq [24,23,22,6,1] ?_)))
  refine bm ?_
  refine qr (aw xa ?_)
  refine at_ov (t:=35) rfl (show Value.int .i64 (wr .i64 (1+1))=.int .i64 2 from by rfl) ?_
  refine am (nt (wq [24,23,22,6,1] ?_))
  refine at_round ?_
  refine sr (aw xl ?_)
  refine at_fix (g:=25) rfl (show (decide (2<2))=false from by decide) ?_
  refine nwq [25,24,23,22,6,1] ?_
  refine qs ?_
  refine cf rfl ?_
  refine at_exit ?_
  refine te (te ?_)
  refine at_blk_same ?_
  refine at_drop (H:=_) (.s .z) ?_
  refine at_drop (H:=_) (.s .z) ?_
  refine tn (sr (am ?_))
  obtain ⟨h55,hF⟩:=gd hF
  obtain ⟨h56,hF⟩:=gd hF
  refine cB func47 rfl (fun w1 hw=>join_ok _ _ h55 h56 _ _ w1 (hw.own .z).row) ?_
  refine aa (aa (qn (dz (wq [3,2] ?_))))
  refine tn (qt ?_)
  have K:=os hF
  subst K
  exact at_return2 rfl rfl rfl wb
 skip
 obtain ⟨h57,hF⟩|⟨h57,hF⟩:=oi hF
 ·skip
  refine script_shapeOf_in3 rfl rfl h4 h17 h30 h57 ?_
  intro b58
  refine am ?_
  refine aw xe (aw xe ?_)
  refine al (cs:=zl20) zeroValue98 ?_
  intro b59
  refine sa 2 ((zl19 b58)) .z rfl rfl sizeOf98 rfl rfl rfl ?_
  refine aa (ns (fa 0 underlying98 rfl sizeOf9 ?_))
  refine aw (r_load_cell isAgg9 rfl (fun w1 hw=>cells_get (hw.ok (Upd.mem .z)) 0 _ rfl)) ?_
  refine at_lit (cs:=cStr.all ([⟨#[105,110]⟩]:List ByteArray)) underlying38 sizeOf9 zeroValue9 rfl rfl rfl (by kernel_rfl) rfl ?_
  intro b60
  refine aa (nt (qs (sr (fa 1 underlying98 rfl sizeOf96 ?_))))
  refine aw (r_load_cell isAgg96 rfl (fun w1 hw=>cells_get (hw.ok (Upd.mem (.s .z))) 1 _ rfl)) ?_
  refine aw (r_len_sl underlying96 rfl) ?_
  refine am (qn ?_)
  refine at_drop (H:=_) (.s .z) ?_
  refine wq [24,23,22,6,1] ?_
  refine tn ?_
  refine qb ?_
  refine wq [24,23,22,6,1] ?_
  refine at_loop ?_
  refine at_round ?_
  refine sr (aw xl ?_)
  refine at_fix (g:=25) rfl (show (decide (0<3))=true from by decide) ?_
  refine nwq [25,24,23,22,6,1] ?_
  refine qs ?_
  refine ct rfl ?_
  refine sn (qs ?_)
  refine qb ?_
  refine sr ?_
  refine aw (r_idx underlying96 sizeOf104 rfl rfl (by decide) rfl) ?_
  refine aw (r_load_agg (l:=zl14) isAgg104 sizeOf104 rfl rfl (fun w1 hw=>cells_mid (pre:=[]) (suf:=zl7) (hw.ok (Upd.mem (.s .z))) rfl rfl)) ?_
  refine al (cs:=zl21) zeroValue104 ?_
  intro b61
  refine sa 3 (zl14) .z rfl rfl sizeOf104 rfl rfl rfl ?_
  refine nwq [24,23,22,8,6,1] ?_
  refine qr (am (fa 0 underlying104 rfl sizeOf62 ?_))
  refine aw (r_load_cell isAgg62 rfl (fun w1 hw=>cells_get (hw.ok (Upd.mem .z)) 0 _ rfl)) ?_
  refine aw (r_load_aggc (c:=c_api_Item) (z:=(g0_,x0)) isAgg33 sizeOf33 rfl (lens_cell (.s (.s (.s .z))) lw)) ?_
  refine at_callee rfl ?_
  refine at_callI func133 rfl (by kernel_rfl) rfl rfl rfl rfl ?_
  refine dz (sr ?_)
  refine at_box (cs:=Cd.cs c_api_Item (g0_,x0)) rfl rfl rfl ?_
  intro b62
  refine aa (ns (fa 2 underlying33 rfl sizeOf27 ?_))
  refine aw (r_load_aggc (c:=c_api_Endpoint) (z:=x0.f_From) isAgg27 sizeOf27 rfl (lens_cell .z (c_api_Item_f_From g0_ x0))) ?_
  obtain ⟨t63,ht63,hF⟩:=bM hF
  refine cB func101 rfl (fun w hw=>hostport_Text_ok _ _ ht63 w (hg_strconv_uint64pow10.on hw.below)) ?_
  refine aa (qn (dz (wq [2] ?_)))
  refine tn (qt ?_)
  refine at_retI1 rfl rfl ?_
  refine at_lit (cs:=cStr.all ([t63]:List ByteArray)) underlying38 sizeOf9 zeroValue9 rfl rfl rfl (by kernel_rfl) rfl ?_
  intro b64
  refine at_lit_row (c:=cStr) (xs:=([⟨#[105,110]⟩]:List ByteArray)) (m:=1) (.s .z) rfl rfl ?_
  obtain ⟨h65,hF⟩:=gd hF
  refine at_append (z:=.string ⟨#[]⟩) (c:=cStr) (ys:=([t63]:List ByteArray)) (.s .z) underlying38 infoSC9 (by kernel_rfl) (by kernel_rfl) rfl rfl rfl rfl (fun _ hw=>cells_src (hw.ok (Upd.mem .z))) (by kernel_rfl) h65 (app_small h65) rfl ?_
  intro p66 c67
  refine aa (qn (dz (wq [24,23,22,6,1] ?_)))
  refine bm ?_
  refine qr (aw xa ?_)
  refine at_ov (t:=35) rfl (show Value.int .i64 (wr .i64 (0+1))=.int .i64 1 from by rfl) ?_
  refine am (nt (wq [24,23,22,6,1] ?_))
  refine at_round ?_
  refine sr (aw xl ?_)
  refine at_fix (g:=25) rfl (show (decide (1<3))=true from by decide) ?_
  refine nwq [25,24,23,22,6,1] ?_
  refine qs ?_
  refine ct rfl ?_
  refine sn (qs ?_)
  refine qb ?_
  refine sr ?_
  refine aw (r_idx underlying96 sizeOf104 rfl rfl (by decide) rfl) ?_
  refine aw (r_load_agg (l:=zl12) isAgg104 sizeOf104 rfl rfl (fun w1 hw=>cells_mid (pre:=zl14) (suf:=zl13) (hw.ok (Upd.mem (.s .z))) rfl rfl)) ?_
  refine al (cs:=zl21) zeroValue104 ?_
  intro b68
  refine sa 3 (zl12) .z rfl rfl sizeOf104 rfl rfl rfl ?_
  refine nwq [24,23,22,8,6,1] ?_
  refine qr (am (fa 0 underlying104 rfl sizeOf62 ?_))
  refine aw (r_load_cell isAgg62 rfl (fun w1 hw=>cells_get (hw.ok (Upd.mem .z)) 0 _ rfl)) ?_
  refine aw (r_load_aggc (c:=c_api_Item) (z:=(g0_,x0)) isAgg33 sizeOf33 rfl (lens_cell (.s (.s (.s .z))) lw)) ?_
  refine at_callee rfl ?_
  refine at_callI func125 rfl (by kernel_rfl) rfl rfl rfl rfl ?_
  refine dz (sr ?_)
  refine at_box (cs:=Cd.cs c_api_Item (g0_,x0)) rfl rfl rfl ?_
  intro b69
  refine aa (ns (fa 1 underlying33 rfl sizeOf22 ?_))
  refine aw (r_load_cell isAgg22 rfl (lens_cell0 (c:=cHd) (y:=⟨g0_.1.1,List.length x0.f_Bytes,g0_.1.2⟩) .z (c_api_Item_f_Bytes g0_ x0) rfl)) ?_
  obtain ⟨t70,ht70,hF⟩:=bM hF
  refine cB func126 rfl (fun w hw=>script_word_ok _ _ _ _ ht70 w ((hn0).1.below hw.below)) ?_
  refine aa (qn (dz (wq [2] ?_)))
  refine tn (qt ?_)
  refine at_retI1 rfl rfl ?_
  refine at_lit (cs:=cStr.all ([t70]:List ByteArray)) underlying38 sizeOf9 zeroValue9 rfl rfl rfl (by kernel_rfl) rfl ?_
  intro b71
  obtain ⟨h72,hF⟩:=gd hF
  refine at_append (z:=.string ⟨#[]⟩) (c:=cStr) (ys:=([t70]:List ByteArray)) (.s .z) underlying38 infoSC9 (by kernel_rfl) (by kernel_rfl) rfl rfl rfl rfl (fun _ hw=>cells_src (hw.ok (Upd.mem .z))) (by kernel_rfl) h72 (app_small h72) rfl ?_
  intro p73 c74
  refine aa (qn (dz (wq [24,23,22,6,1] ?_)))
  refine bm ?_
  refine qr (aw xa ?_)
  refine at_ov (t:=35) rfl (show Value.int .i64 (wr .i64 (1+1))=.int .i64 2 from by rfl) ?_
  refine am (nt (wq [24,23,22,6,1] ?_))
  refine at_round ?_
  refine sr (aw xl ?_)
  refine at_fix (g:=25) rfl (show (decide (2<3))=true from by decide) ?_
  refine nwq [25,24,23,22,6,1] ?_
  refine qs ?_
  refine ct rfl ?_
  refine sn (qs ?_)
  refine qb ?_
  refine sr ?_
  refine aw (r_idx underlying96 sizeOf104 rfl rfl (by decide) rfl) ?_
  refine aw (r_load_agg (l:=zl13) isAgg104 sizeOf104 rfl rfl (fun w1 hw=>cells_mid (pre:=zl8) (suf:=[]) (hw.ok (Upd.mem (.s .z))) rfl rfl)) ?_
  refine al (cs:=zl21) zeroValue104 ?_
  intro b75
  refine sa 3 (zl13) .z rfl rfl sizeOf104 rfl rfl rfl ?_
  refine nwq [24,23,22,8,6,1] ?_
  refine qr (am (fa 0 underlying104 rfl sizeOf62 ?_))
  refine aw (r_load_cell isAgg62 rfl (fun w1 hw=>cells_get (hw.ok (Upd.mem .z)) 0 _ rfl)) ?_
  refine aw (r_load_aggc (c:=c_api_Item) (z:=(g0_,x0)) isAgg33 sizeOf33 rfl (lens_cell (.s (.s (.s .z))) lw)) ?_
  refine at_callee rfl ?_
  refine at_callI func130 rfl (by kernel_rfl) rfl rfl rfl rfl ?_
  refine dz (sr ?_)
  refine at_box (cs:=Cd.cs c_api_Item (g0_,x0)) rfl rfl rfl ?_
  intro b76
  refine aa (nt (qs (sr (fa 21 underlying33 rfl sizeOf4 ?_))))
  refine aw (r_load_cell isAgg4 rfl (lens_cell0 (c:=cBool) (y:=x0.f_Ok) .z (c_api_Item_f_Ok g0_ x0) rfl)) ?_
  refine aw (r_not rfl) ?_
  refine nwq [5,1] ?_
  obtain ⟨h77,hF⟩|⟨h77,hF⟩:=oi hF
  ·refine ct h77 ?_
   refine sr (aa (qn (dz (wq [2] ?_))))
   refine tn (rt ?_)
   refine at_retI1 rfl rfl ?_
   refine at_lit (cs:=cStr.all ([⟨#[33]⟩]:List ByteArray)) underlying38 sizeOf9 zeroValue9 rfl rfl rfl (by kernel_rfl) rfl ?_
   intro b78
   obtain ⟨h79,hF⟩:=gd hF
   refine at_append (z:=.string ⟨#[]⟩) (c:=cStr) (ys:=([⟨#[33]⟩]:List ByteArray)) (.s .z) underlying38 infoSC9 (by kernel_rfl) (by kernel_rfl) rfl rfl rfl rfl (fun _ hw=>cells_src (hw.ok (Upd.mem .z))) (by kernel_rfl) h79 (app_small h79) rfl ?_
   intro p80 c81
   refine aa (qn (dz (wq [24,23,22,6,1] ?_)))
   refine bm ?_
   refine qr (aw xa ?_)
   refine at_ov (t:=35) rfl (show Value.int .i64 (wr .i64 (2+1))=.int .i64 3 from by rfl) ?_
   refine am (nt (wq [24,23,22,6,1] ?_))
   refine at_round ?_
   refine sr (aw xl ?_)
   refine at_fix (g:=25) rfl (show (decide (3<3))=false from by decide) ?_
   refine nwq [25,24,23,22,6,1] ?_
   refine qs ?_
   refine cf rfl ?_
   refine at_exit ?_
   refine te (te ?_)
   refine at_blk_same ?_
   refine at_drop (H:=_) (.s .z) ?_
   refine at_drop (H:=_) (.s .z) ?_
   refine tn (sr (am ?_))
   obtain ⟨h82,hF⟩:=gd hF
   obtain ⟨h83,hF⟩:=gd hF
   refine cB func47 rfl (fun w1 hw=>join_ok _ _ h82 h83 _ _ w1 (hw.own .z).row) ?_
   refine aa (aa (qn (dz (wq [3,2] ?_))))
   refine tn (qt ?_)
   have K:=os hF
   subst K
   exact at_return2 rfl rfl rfl wb
  refine cf h77 ?_
  refine sns (fa 20 underlying33 rfl sizeOf22 ?_)
  refine aw (r_load_cell isAgg22 rfl (lens_cell0 (c:=cHd) (y:=⟨g0_.2.1,List.length x0.f_Result,g0_.2.2⟩) .z (c_api_Item_f_Result g0_ x0) rfl)) ?_
  obtain ⟨t84,ht84,hF⟩:=bM hF
  refine cB func126 rfl (fun w hw=>script_word_ok _ _ _ _ ht84 w ((hn0).2.below hw.below)) ?_
  refine aa (qn (dz (wq [2] ?_)))
  refine tn (qt ?_)
  refine at_retI1 rfl rfl ?_
  refine at_lit (cs:=cStr.all ([t84]:List ByteArray)) underlying38 sizeOf9 zeroValue9 rfl rfl rfl (by kernel_rfl) rfl ?_
  intro b85
  obtain ⟨h86,hF⟩:=gd hF
  refine at_append (z:=.string ⟨#[]⟩) (c:=cStr) (ys:=([t84]:List ByteArray)) (.s .z) underlying38 infoSC9 (by kernel_rfl) (by kernel_rfl) rfl rfl rfl rfl (fun _ hw=>cells_src (hw.ok (Upd.mem .z))) (by kernel_rfl) h86 (app_small h86) rfl ?_
  intro p87 c88
  refine aa (qn (dz (wq [24,23,22,6,1] ?_)))
  refine bm ?_
  refine qr (aw xa ?_)
  refine at_ov (t:=35) rfl (show Value.int .i64 (wr .i64 (2+1))=.int .i64 3 from by rfl) ?_
  refine am (nt (wq [24,23,22,6,1] ?_))
  refine at_round ?_
  refine sr (aw xl ?_)
  refine at_fix (g:=25) rfl (show (decide (3<3))=false from by decide) ?_
  refine nwq [25,24,23,22,6,1] ?_
  refine qs ?_
  refine cf rfl ?_
  refine at_exit ?_
  refine te (te ?_)
  refine at_blk_same ?_
  refine at_drop (H:=_) (.s .z) ?_
  refine at_drop (H:=_) (.s .z) ?_
  refine tn (sr (am ?_))
  obtain ⟨h89,hF⟩:=gd hF
  obtain ⟨h90,hF⟩:=gd hF
  refine cB func47 rfl (fun w1 hw=>join_ok _ _ h89 h90 _ _ w1 (hw.own .z).row) ?_
  refine aa (aa (qn (dz (wq [3,2] ?_))))
  refine tn (qt ?_)
  have K:=os hF
  subst K
  exact at_return2 rfl rfl rfl wb
 skip
 obtain ⟨h91,hF⟩|⟨h91,hF⟩:=oi hF
 ·skip
  refine script_shapeOf_in4 rfl rfl h4 h17 h30 h57 h91 ?_
  intro b92 b93 b94
  refine am ?_
  refine aw xe (aw xe ?_)
  refine al (cs:=zl20) zeroValue98 ?_
  intro b95
  refine sa 2 ((zl9 b94)) .z rfl rfl sizeOf98 rfl rfl rfl ?_
  refine aa (ns (fa 0 underlying98 rfl sizeOf9 ?_))
  refine aw (r_load_cell isAgg9 rfl (fun w1 hw=>cells_get (hw.ok (Upd.mem .z)) 0 _ rfl)) ?_
  refine at_lit (cs:=cStr.all ([⟨#[105,110,115,116,97,108,108]⟩]:List ByteArray)) underlying38 sizeOf9 zeroValue9 rfl rfl rfl (by kernel_rfl) rfl ?_
  intro b96
  refine aa (nt (qs (sr (fa 1 underlying98 rfl sizeOf96 ?_))))
  refine aw (r_load_cell isAgg96 rfl (fun w1 hw=>cells_get (hw.ok (Upd.mem (.s .z))) 1 _ rfl)) ?_
  refine aw (r_len_sl underlying96 rfl) ?_
  refine am (qn ?_)
  refine at_drop (H:=_) (.s .z) ?_
  refine wq [24,23,22,6,1] ?_
  refine tn ?_
  refine qb ?_
  refine wq [24,23,22,6,1] ?_
  refine at_loop ?_
  refine at_round ?_
  refine sr (aw xl ?_)
  refine at_fix (g:=25) rfl (show (decide (0<4))=true from by decide) ?_
  refine nwq [25,24,23,22,6,1] ?_
  refine qs ?_
  refine ct rfl ?_
  refine sn (qs ?_)
  refine qb ?_
  refine sr ?_
  refine aw (r_idx underlying96 sizeOf104 rfl rfl (by decide) rfl) ?_
  refine aw (r_load_agg (l:=zl10) isAgg104 sizeOf104 rfl rfl (fun w1 hw=>cells_mid (pre:=[]) (suf:=(zl1 b92 b93)) (hw.ok (Upd.mem (.s .z))) rfl rfl)) ?_
  refine al (cs:=zl21) zeroValue104 ?_
  intro b97
  refine sa 3 (zl10) .z rfl rfl sizeOf104 rfl rfl rfl ?_
  refine nwq [24,23,22,8,6,1] ?_
  refine qr (am (fa 0 underlying104 rfl sizeOf62 ?_))
  refine aw (r_load_cell isAgg62 rfl (fun w1 hw=>cells_get (hw.ok (Upd.mem .z)) 0 _ rfl)) ?_
  refine aw (r_load_aggc (c:=c_api_Item) (z:=(g0_,x0)) isAgg33 sizeOf33 rfl (lens_cell (.s (.s (.s (.s (.s .z))))) lw)) ?_
  refine at_callee rfl ?_
  refine at_callI func136 rfl (by kernel_rfl) rfl rfl rfl rfl ?_
  refine dz (sr ?_)
  refine at_box (cs:=Cd.cs c_api_Item (g0_,x0)) rfl rfl rfl ?_
  intro b98
  refine aa (ns (fa 22 underlying33 rfl sizeOf29 ?_))
  refine aw (r_load_aggc (c:=(cVec (cInt .u8) 32 (by decide))) (z:=x0.f_Key) isAgg29 sizeOf29 rfl (lens_cell .z (c_api_Item_f_Key g0_ x0))) ?_
  obtain ⟨t99,ht99,hF⟩:=bM hF
  refine cB func96 rfl (fun w hw=>keys_Hex_ok _ _ ht99 w) ?_
  refine aa (qn (dz (wq [2] ?_)))
  refine tn (qt ?_)
  refine at_retI1 rfl rfl ?_
  refine at_lit (cs:=cStr.all ([t99]:List ByteArray)) underlying38 sizeOf9 zeroValue9 rfl rfl rfl (by kernel_rfl) rfl ?_
  intro b100
  refine at_lit_row (c:=cStr) (xs:=([⟨#[105,110,115,116,97,108,108]⟩]:List ByteArray)) (m:=1) (.s .z) rfl rfl ?_
  obtain ⟨h101,hF⟩:=gd hF
  refine at_append (z:=.string ⟨#[]⟩) (c:=cStr) (ys:=([t99]:List ByteArray)) (.s .z) underlying38 infoSC9 (by kernel_rfl) (by kernel_rfl) rfl rfl rfl rfl (fun _ hw=>cells_src (hw.ok (Upd.mem .z))) (by kernel_rfl) h101 (app_small h101) rfl ?_
  intro p102 c103
  refine aa (qn (dz (wq [24,23,22,6,1] ?_)))
  refine bm ?_
  refine qr (aw xa ?_)
  refine at_ov (t:=35) rfl (show Value.int .i64 (wr .i64 (0+1))=.int .i64 1 from by rfl) ?_
  refine am (nt (wq [24,23,22,6,1] ?_))
  refine at_round ?_
  refine sr (aw xl ?_)
  refine at_fix (g:=25) rfl (show (decide (1<4))=true from by decide) ?_
  refine nwq [25,24,23,22,6,1] ?_
  refine qs ?_
  refine ct rfl ?_
  refine sn (qs ?_)
  refine qb ?_
  refine sr ?_
  refine aw (r_idx underlying96 sizeOf104 rfl rfl (by decide) rfl) ?_
  refine aw (r_load_agg (l:=(zl6 b92)) isAgg104 sizeOf104 rfl rfl (fun w1 hw=>cells_mid (pre:=zl10) (suf:=(zl3 b93)) (hw.ok (Upd.mem (.s .z))) rfl rfl)) ?_
  refine al (cs:=zl21) zeroValue104 ?_
  intro b104
  refine sa 3 ((zl6 b92)) .z rfl rfl sizeOf104 rfl rfl rfl ?_
  refine nwq [24,23,22,8,6,1] ?_
  refine qr (am (fa 0 underlying104 rfl sizeOf62 ?_))
  refine aw (r_load_cell isAgg62 rfl (fun w1 hw=>cells_get (hw.ok (Upd.mem .z)) 0 _ rfl)) ?_
  refine aw (r_load_aggc (c:=c_api_Item) (z:=(g0_,x0)) isAgg33 sizeOf33 rfl (lens_cell (.s (.s (.s (.s (.s .z))))) lw)) ?_
  refine at_calleeC (caps:=[.pointer (some ⟨b92,0,none⟩)]) rfl ?_
  refine at_callI func122 rfl (by kernel_rfl) rfl rfl rfl rfl ?_
  refine dz (sr ?_)
  refine at_box (cs:=Cd.cs c_api_Item (g0_,x0)) rfl rfl rfl ?_
  intro b105
  refine aa (nwx [2,1] ?_)
  refine aw (r_load_cell isAgg133 rfl (fun w1 hw=>cells_get (hw.ok (Upd.mem (.s (.s (.s (.s .z)))))) 0 _ rfl)) ?_
  refine at_callee rfl ?_
  refine at_callI func76 rfl (by kernel_rfl) rfl rfl rfl rfl ?_
  refine sr (aa (ns (am ?_)))
  refine aw (r_nilCheck rfl) ?_
  refine fa 54 underlying33 rfl sizeOf30 (aa (nwq [2] ?_))
  refine qt ?_
  refine at_retI1 rfl rfl ?_
  refine aw (r_nilCheck rfl) ?_
  refine aw (r_load_cell isAgg30 rfl (lens_cell0 (c:=(cInt .u32)) (y:=x0.f_Local) .z (c_api_Item_f_Local g0_ x0) rfl)) ?_
  refine aw (r_conv underlying30 underlying31 rfl) ?_
  obtain ⟨t106,ht106,hF⟩:=bM hF
  refine cB func113 rfl (fun w hw=>decimal_Text_ok _ _ ht106 w (hg_strconv_uint64pow10.on hw.below)) ?_
  refine aa (qn (dz (wq [3] ?_)))
  refine tn (qt ?_)
  refine at_retI1 rfl rfl ?_
  refine at_lit (cs:=cStr.all ([t106]:List ByteArray)) underlying38 sizeOf9 zeroValue9 rfl rfl rfl (by kernel_rfl) rfl ?_
  intro b107
  obtain ⟨h108,hF⟩:=gd hF
  refine at_append (z:=.string ⟨#[]⟩) (c:=cStr) (ys:=([t106]:List ByteArray)) (.s .z) underlying38 infoSC9 (by kernel_rfl) (by kernel_rfl) rfl rfl rfl rfl (fun _ hw=>cells_src (hw.ok (Upd.mem .z))) (by kernel_rfl) h108 (app_small h108) rfl ?_
  intro p109 c110
  refine aa (qn (dz (wq [24,23,22,6,1] ?_)))
  refine bm ?_
  refine qr (aw xa ?_)
  refine at_ov (t:=35) rfl (show Value.int .i64 (wr .i64 (1+1))=.int .i64 2 from by rfl) ?_
  refine am (nt (wq [24,23,22,6,1] ?_))
  refine at_round ?_
  refine sr (aw xl ?_)
  refine at_fix (g:=25) rfl (show (decide (2<4))=true from by decide) ?_
  refine nwq [25,24,23,22,6,1] ?_
  refine qs ?_
  refine ct rfl ?_
  refine sn (qs ?_)
  refine qb ?_
  refine sr ?_
  refine aw (r_idx underlying96 sizeOf104 rfl rfl (by decide) rfl) ?_
  refine aw (r_load_agg (l:=(zl6 b93)) isAgg104 sizeOf104 rfl rfl (fun w1 hw=>cells_mid (pre:=(zl4 b92)) (suf:=zl11) (hw.ok (Upd.mem (.s .z))) rfl rfl)) ?_
  refine al (cs:=zl21) zeroValue104 ?_
  intro b111
  refine sa 3 ((zl6 b93)) .z rfl rfl sizeOf104 rfl rfl rfl ?_
  refine nwq [24,23,22,8,6,1] ?_
  refine qr (am (fa 0 underlying104 rfl sizeOf62 ?_))
  refine aw (r_load_cell isAgg62 rfl (fun w1 hw=>cells_get (hw.ok (Upd.mem .z)) 0 _ rfl)) ?_
  refine aw (r_load_aggc (c:=c_api_Item) (z:=(g0_,x0)) isAgg33 sizeOf33 rfl (lens_cell (.s (.s (.s (.s (.s .z))))) lw)) ?_
  refine at_calleeC (caps:=[.pointer (some ⟨b93,0,none⟩)]) rfl ?_
  refine at_callI func122 rfl (by kernel_rfl) rfl rfl rfl rfl ?_
  refine dz (sr ?_)
  refine at_box (cs:=Cd.cs c_api_Item (g0_,x0)) rfl rfl rfl ?_
  intro b112
  refine aa (nwx [2,1] ?_)
  refine aw (r_load_cell isAgg133 rfl (fun w1 hw=>cells_get (hw.ok (Upd.mem (.s (.s (.s .z))))) 0 _ rfl)) ?_
  refine at_callee rfl ?_
  refine at_callI func77 rfl (by kernel_rfl) rfl rfl rfl rfl ?_
  refine sr (aa (ns (am ?_)))
  refine aw (r_nilCheck rfl) ?_
  refine fa 55 underlying33 rfl sizeOf30 (aa (nwq [2] ?_))
  refine qt ?_
  refine at_retI1 rfl rfl ?_
  refine aw (r_nilCheck rfl) ?_
  refine aw (r_load_cell isAgg30 rfl (lens_cell0 (c:=(cInt .u32)) (y:=x0.f_Remote) .z (c_api_Item_f_Remote g0_ x0) rfl)) ?_
  refine aw (r_conv underlying30 underlying31 rfl) ?_
  obtain ⟨t113,ht113,hF⟩:=bM hF
  refine cB func113 rfl (fun w hw=>decimal_Text_ok _ _ ht113 w (hg_strconv_uint64pow10.on hw.below)) ?_
  refine aa (qn (dz (wq [3] ?_)))
  refine tn (qt ?_)
  refine at_retI1 rfl rfl ?_
  refine at_lit (cs:=cStr.all ([t113]:List ByteArray)) underlying38 sizeOf9 zeroValue9 rfl rfl rfl (by kernel_rfl) rfl ?_
  intro b114
  obtain ⟨h115,hF⟩:=gd hF
  refine at_append (z:=.string ⟨#[]⟩) (c:=cStr) (ys:=([t113]:List ByteArray)) (.s .z) underlying38 infoSC9 (by kernel_rfl) (by kernel_rfl) rfl rfl rfl rfl (fun _ hw=>cells_src (hw.ok (Upd.mem .z))) (by kernel_rfl) h115 (app_small h115) rfl ?_
  intro p116 c117
  refine aa (qn (dz (wq [24,23,22,6,1] ?_)))
  refine bm ?_
  refine qr (aw xa ?_)
  refine at_ov (t:=35) rfl (show Value.int .i64 (wr .i64 (2+1))=.int .i64 3 from by rfl) ?_
  refine am (nt (wq [24,23,22,6,1] ?_))
  refine at_round ?_
  refine sr (aw xl ?_)
  refine at_fix (g:=25) rfl (show (decide (3<4))=true from by decide) ?_
  refine nwq [25,24,23,22,6,1] ?_
  refine qs ?_
  refine ct rfl ?_
  refine sn (qs ?_)
  refine qb ?_
  refine sr ?_
  refine aw (r_idx underlying96 sizeOf104 rfl rfl (by decide) rfl) ?_
  refine aw (r_load_agg (l:=zl11) isAgg104 sizeOf104 rfl rfl (fun w1 hw=>cells_mid (pre:=(zl2 b92 b93)) (suf:=[]) (hw.ok (Upd.mem (.s .z))) rfl rfl)) ?_
  refine al (cs:=zl21) zeroValue104 ?_
  intro b118
  refine sa 3 (zl11) .z rfl rfl sizeOf104 rfl rfl rfl ?_
  refine nwq [24,23,22,8,6,1] ?_
  refine qr (am (fa 0 underlying104 rfl sizeOf62 ?_))
  refine aw (r_load_cell isAgg62 rfl (fun w1 hw=>cells_get (hw.ok (Upd.mem .z)) 0 _ rfl)) ?_
  refine aw (r_load_aggc (c:=c_api_Item) (z:=(g0_,x0)) isAgg33 sizeOf33 rfl (lens_cell (.s (.s (.s (.s (.s .z))))) lw)) ?_
  refine at_callee rfl ?_
  refine at_callI func139 rfl (by kernel_rfl) rfl rfl rfl rfl ?_
  refine dz (sr ?_)
  refine at_box (cs:=Cd.cs c_api_Item (g0_,x0)) rfl rfl rfl ?_
  intro b119
  refine aa (ns (fa 56 underlying33 rfl sizeOf31 ?_))
  refine aw (r_load_cell isAgg31 rfl (lens_cell0 (c:=(cInt .u64)) (y:=x0.f_Next) .z (c_api_Item_f_Next g0_ x0) rfl)) ?_
  obtain ⟨t120,ht120,hF⟩:=bM hF
  refine cB func113 rfl (fun w hw=>decimal_Text_ok _ _ ht120 w (hg_strconv_uint64pow10.on hw.below)) ?_
  refine aa (qn (dz (wq [2] ?_)))
  refine tn (qt ?_)
  refine at_retI1 rfl rfl ?_
  refine at_lit (cs:=cStr.all ([t120]:List ByteArray)) underlying38 sizeOf9 zeroValue9 rfl rfl rfl (by kernel_rfl) rfl ?_
  intro b121
  obtain ⟨h122,hF⟩:=gd hF
  refine at_append (z:=.string ⟨#[]⟩) (c:=cStr) (ys:=([t120]:List ByteArray)) (.s .z) underlying38 infoSC9 (by kernel_rfl) (by kernel_rfl) rfl rfl rfl rfl (fun _ hw=>cells_src (hw.ok (Upd.mem .z))) (by kernel_rfl) h122 (app_small h122) rfl ?_
  intro p123 c124
  refine aa (qn (dz (wq [24,23,22,6,1] ?_)))
  refine bm ?_
  refine qr (aw xa ?_)
  refine at_ov (t:=35) rfl (show Value.int .i64 (wr .i64 (3+1))=.int .i64 4 from by rfl) ?_
  refine am (nt (wq [24,23,22,6,1] ?_))
  refine at_round ?_
  refine sr (aw xl ?_)
  refine at_fix (g:=25) rfl (show (decide (4<4))=false from by decide) ?_
  refine nwq [25,24,23,22,6,1] ?_
  refine qs ?_
  refine cf rfl ?_
  refine at_exit ?_
  refine te (te ?_)
  refine at_blk_same ?_
  refine at_drop (H:=_) (.s .z) ?_
  refine at_drop (H:=_) (.s .z) ?_
  refine at_drop (H:=_) (.s .z) ?_
  refine at_drop (H:=_) (.s .z) ?_
  refine tn (sr (am ?_))
  obtain ⟨h125,hF⟩:=gd hF
  obtain ⟨h126,hF⟩:=gd hF
  refine cB func47 rfl (fun w1 hw=>join_ok _ _ h125 h126 _ _ w1 (hw.own .z).row) ?_
  refine aa (aa (qn (dz (wq [3,2] ?_))))
  refine tn (qt ?_)
  have K:=os hF
  subst K
  exact at_return2 rfl rfl rfl wb
 skip
 obtain ⟨h127,hF⟩|⟨h127,hF⟩:=oi hF
 ·skip
  refine script_shapeOf_in5 rfl rfl h4 h17 h30 h57 h91 h127 ?_
  intro b128 b129
  refine am ?_
  refine aw xe (aw xe ?_)
  refine al (cs:=zl20) zeroValue98 ?_
  intro b130
  refine sa 2 ((zl15 b129)) .z rfl rfl sizeOf98 rfl rfl rfl ?_
  refine aa (ns (fa 0 underlying98 rfl sizeOf9 ?_))
  refine aw (r_load_cell isAgg9 rfl (fun w1 hw=>cells_get (hw.ok (Upd.mem .z)) 0 _ rfl)) ?_
  refine at_lit (cs:=cStr.all ([⟨#[102,111,114,103,101,116]⟩]:List ByteArray)) underlying38 sizeOf9 zeroValue9 rfl rfl rfl (by kernel_rfl) rfl ?_
  intro b131
  refine aa (nt (qs (sr (fa 1 underlying98 rfl sizeOf96 ?_))))
  refine aw (r_load_cell isAgg96 rfl (fun w1 hw=>cells_get (hw.ok (Upd.mem (.s .z))) 1 _ rfl)) ?_
  refine aw (r_len_sl underlying96 rfl) ?_
  refine am (qn ?_)
  refine at_drop (H:=_) (.s .z) ?_
  refine wq [24,23,22,6,1] ?_
  refine tn ?_
  refine qb ?_
  refine wq [24,23,22,6,1] ?_
  refine at_loop ?_
  refine at_round ?_
  refine sr (aw xl ?_)
  refine at_fix (g:=25) rfl (show (decide (0<1))=true from by decide) ?_
  refine nwq [25,24,23,22,6,1] ?_
  refine qs ?_
  refine ct rfl ?_
  refine sn (qs ?_)
  refine qb ?_
  refine sr ?_
  refine aw (r_idx underlying96 sizeOf104 rfl rfl (by decide) rfl) ?_
  refine aw (r_load_agg (l:=(zl6 b128)) isAgg104 sizeOf104 rfl rfl (fun w1 hw=>cells_mid (pre:=[]) (suf:=[]) (hw.ok (Upd.mem (.s .z))) rfl rfl)) ?_
  refine al (cs:=zl21) zeroValue104 ?_
  intro b132
  refine sa 3 ((zl6 b128)) .z rfl rfl sizeOf104 rfl rfl rfl ?_
  refine nwq [24,23,22,8,6,1] ?_
  refine qr (am (fa 0 underlying104 rfl sizeOf62 ?_))
  refine aw (r_load_cell isAgg62 rfl (fun w1 hw=>cells_get (hw.ok (Upd.mem .z)) 0 _ rfl)) ?_
  refine aw (r_load_aggc (c:=c_api_Item) (z:=(g0_,x0)) isAgg33 sizeOf33 rfl (lens_cell (.s (.s (.s (.s .z)))) lw)) ?_
  refine at_calleeC (caps:=[.pointer (some ⟨b128,0,none⟩)]) rfl ?_
  refine at_callI func122 rfl (by kernel_rfl) rfl rfl rfl rfl ?_
  refine dz (sr ?_)
  refine at_box (cs:=Cd.cs c_api_Item (g0_,x0)) rfl rfl rfl ?_
  intro b133
  refine aa (nwx [2,1] ?_)
  refine aw (r_load_cell isAgg133 rfl (fun w1 hw=>cells_get (hw.ok (Upd.mem (.s (.s (.s .z))))) 0 _ rfl)) ?_
  refine at_callee rfl ?_
  refine at_callI func76 rfl (by kernel_rfl) rfl rfl rfl rfl ?_
  refine sr (aa (ns (am ?_)))
  refine aw (r_nilCheck rfl) ?_
  refine fa 54 underlying33 rfl sizeOf30 (aa (nwq [2] ?_))
  refine qt ?_
  refine at_retI1 rfl rfl ?_
  refine aw (r_nilCheck rfl) ?_
  refine aw (r_load_cell isAgg30 rfl (lens_cell0 (c:=(cInt .u32)) (y:=x0.f_Local) .z (c_api_Item_f_Local g0_ x0) rfl)) ?_
  refine aw (r_conv underlying30 underlying31 rfl) ?_
  obtain ⟨t134,ht134,hF⟩:=bM hF
  refine cB func113 rfl (fun w hw=>decimal_Text_ok _ _ ht134 w (hg_strconv_uint64pow10.on hw.below)) ?_
  refine aa (qn (dz (wq [3] ?_)))
  refine tn (qt ?_)
  refine at_retI1 rfl rfl ?_
  refine at_lit (cs:=cStr.all ([t134]:List ByteArray)) underlying38 sizeOf9 zeroValue9 rfl rfl rfl (by kernel_rfl) rfl ?_
  intro b135
  refine at_lit_row (c:=cStr) (xs:=([⟨#[102,111,114,103,101,116]⟩]:List ByteArray)) (m:=1) (.s .z) rfl rfl ?_
  obtain ⟨h136,hF⟩:=gd hF
  refine at_append (z:=.string ⟨#[]⟩) (c:=cStr) (ys:=([t134]:List ByteArray)) (.s .z) underlying38 infoSC9 (by kernel_rfl) (by kernel_rfl) rfl rfl rfl rfl (fun _ hw=>cells_src (hw.ok (Upd.mem .z))) (by kernel_rfl) h136 (app_small h136) rfl ?_
  intro p137 c138
  refine aa (qn (dz (wq [24,23,22,6,1] ?_)))
  refine bm ?_
  refine qr (aw xa ?_)
  refine at_ov (t:=35) rfl (show Value.int .i64 (wr .i64 (0+1))=.int .i64 1 from by rfl) ?_
  refine am (nt (wq [24,23,22,6,1] ?_))
  refine at_round ?_
  refine sr (aw xl ?_)
  refine at_fix (g:=25) rfl (show (decide (1<1))=false from by decide) ?_
  refine nwq [25,24,23,22,6,1] ?_
  refine qs ?_
  refine cf rfl ?_
  refine at_exit ?_
  refine te (te ?_)
  refine at_blk_same ?_
  refine at_drop (H:=_) (.s .z) ?_
  refine at_drop (H:=_) (.s .z) ?_
  refine at_drop (H:=_) (.s .z) ?_
  refine tn (sr (am ?_))
  obtain ⟨h139,hF⟩:=gd hF
  obtain ⟨h140,hF⟩:=gd hF
  refine cB func47 rfl (fun w1 hw=>join_ok _ _ h139 h140 _ _ w1 (hw.own .z).row) ?_
  refine aa (aa (qn (dz (wq [3,2] ?_))))
  refine tn (qt ?_)
  have K:=os hF
  subst K
  exact at_return2 rfl rfl rfl wb
 skip
 refine script_shapeOf_in6 rfl rfl h4 h17 h30 h57 h91 h127 ?_
 intro _
 refine am ?_
 refine aw xe (aw xe ?_)
 refine al (cs:=zl20) zeroValue98 ?_
 intro b141
 refine sa 2 (zl20) .z rfl rfl sizeOf98 rfl rfl rfl ?_
 refine aa (ns (fa 0 underlying98 rfl sizeOf9 ?_))
 refine aw (r_load_cell isAgg9 rfl (fun w1 hw=>cells_get (hw.ok (Upd.mem .z)) 0 _ rfl)) ?_
 refine at_lit (cs:=cStr.all ([⟨#[]⟩]:List ByteArray)) underlying38 sizeOf9 zeroValue9 rfl rfl rfl (by kernel_rfl) rfl ?_
 intro b142
 refine aa (nt (qs (sr (fa 1 underlying98 rfl sizeOf96 ?_))))
 refine aw (r_load_cell isAgg96 rfl (fun w1 hw=>cells_get (hw.ok (Upd.mem (.s .z))) 1 _ rfl)) ?_
 refine aw (r_len_sl underlying96 rfl) ?_
 refine am (qn ?_)
 refine at_drop (H:=_) (.s .z) ?_
 refine wq [24,23,22,6,1] ?_
 refine tn ?_
 refine qb ?_
 refine wq [24,23,22,6,1] ?_
 refine at_loop ?_
 refine at_round ?_
 refine sr (aw xl ?_)
 refine at_fix (g:=25) rfl (show (decide (0<0))=false from by decide) ?_
 refine nwq [25,24,23,22,6,1] ?_
 refine qs ?_
 refine cf rfl ?_
 refine at_exit ?_
 refine te (te ?_)
 refine at_blk_same ?_
 refine at_drop (H:=_) (.s .z) ?_
 refine tn (sr (am ?_))
 obtain ⟨h143,hF⟩:=gd hF
 obtain ⟨h144,hF⟩:=gd hF
 refine cB func47 rfl (fun w1 hw=>join_ok _ _ h143 h144 _ _ w1 (cells_row (hw.ok (Upd.mem .z)))) ?_
 refine aa (aa (qn (dz (wq [3,2] ?_))))
 refine tn (qt ?_)
 have K:=os hF
 subst K
 exact at_return2 rfl rfl rfl wb
def script_kind(x0:ByteArray):Option (Int) :=
 if (seq (⟨#[115,101,116]⟩:ByteArray) x0)=true then (some 1) else (if (seq (⟨#[108,111,97,100]⟩:ByteArray) x0)=true then (some 2) else (if (seq (⟨#[111,117,116]⟩:ByteArray) x0)=true then (some 3) else (if (seq (⟨#[105,110]⟩:ByteArray) x0)=true then (some 4) else (if (seq (⟨#[105,110,115,116,97,108,108]⟩:ByteArray) x0)=true then (some 5) else (if (seq (⟨#[102,111,114,103,101,116]⟩:ByteArray) x0)=true then (some 6) else (some 0))))))
theorem script_kind_ok(x0:ByteArray)(r:Int)(hF:script_kind x0=some r)(w:World)(hg_bytealg_MaxLen:GV_bytealg_MaxLen w)(hg_strconv_ErrRange:GV_strconv_ErrRange w)(hg_strconv_ErrSyntax:GV_strconv_ErrSyntax w)(hg_strconv_uint64pow10:GV_strconv_uint64pow10 w) :
    Calls Tryz.prog 49 #[.string x0] w (fun e w'=>e=.returned (.int .i64 r)∧Below w.heap.size w w'):=by
 unfold script_kind at hF
 refine ce (l:=[.string x0]) func49 rfl rfl ?_
 refine at_start ?_
 refine sr (aa (nt (qs (sr (aa (nwq [3,0] ?_))))))
 refine qb ?_
 refine wq [3,0] ?_
 refine at_loop ?_
 refine at_round ?_
 refine qs (sr (am ?_))
 refine aw (r_ileq rfl rfl) ?_
 refine at_fix (g:=7) rfl (show (decide (1≤6))=true from by decide) ?_
 refine nwq [7,3,0] ?_
 refine ct rfl ?_
 refine sn (qs ?_)
 refine qb ?_
 refine sr (am ?_)
 refine script_shapeOf_in0 rfl rfl (by decide) ?_
 intro b1
 refine am ?_
 refine aw xe (aw xe ?_)
 refine al (cs:=zl20) zeroValue98 ?_
 intro b2
 refine sa 2 ((zl17 b1)) .z rfl rfl sizeOf98 rfl rfl rfl ?_
 refine aa (ns (fa 0 underlying98 rfl sizeOf9 ?_))
 refine aw (r_load_cell isAgg9 rfl (fun w1 hw=>cells_get (hw.ok (Upd.mem .z)) 0 _ rfl)) ?_
 refine am ?_
 refine aw (r_seql rfl rfl) ?_
 refine qn (dz (dz (wq [18,3,0] ?_)))
 refine tn ?_
 obtain ⟨h3,hF⟩|⟨h3,hF⟩:=oi hF
 ·refine ct h3 ?_
  refine sr (am (aa (nwq [2] ?_)))
  refine qt ?_
  refine br (tr (tr (br (tr ?_))))
  have K:=os hF
  subst K
  exact r1 wb
 refine cf h3 ?_
 refine at_skip ?_
 refine bm ?_
 refine qr (am (aw xa ?_))
 refine at_ov (t:=9) rfl (show Value.int .i64 (wr .i64 (1+1))=.int .i64 2 from by rfl) ?_
 refine aa (nt (wq [3,0] ?_))
 refine at_round ?_
 refine qs (sr (am ?_))
 refine aw (r_ileq rfl rfl) ?_
 refine at_fix (g:=7) rfl (show (decide (2≤6))=true from by decide) ?_
 refine nwq [7,3,0] ?_
 refine ct rfl ?_
 refine sn (qs ?_)
 refine qb ?_
 refine sr (am ?_)
 refine script_shapeOf_in1 rfl rfl (by decide) (by decide) ?_
 intro b4
 refine am ?_
 refine aw xe (aw xe ?_)
 refine al (cs:=zl20) zeroValue98 ?_
 intro b5
 refine sa 2 ((zl16 b4)) .z rfl rfl sizeOf98 rfl rfl rfl ?_
 refine aa (ns (fa 0 underlying98 rfl sizeOf9 ?_))
 refine aw (r_load_cell isAgg9 rfl (fun w1 hw=>cells_get (hw.ok (Upd.mem .z)) 0 _ rfl)) ?_
 refine am ?_
 refine aw (r_seql rfl rfl) ?_
 refine qn (dz (dz (wq [18,3,0] ?_)))
 refine tn ?_
 obtain ⟨h6,hF⟩|⟨h6,hF⟩:=oi hF
 ·refine ct h6 ?_
  refine sr (am (aa (nwq [2] ?_)))
  refine qt ?_
  refine br (tr (tr (br (tr ?_))))
  have K:=os hF
  subst K
  exact r1 wb
 refine cf h6 ?_
 refine at_skip ?_
 refine bm ?_
 refine qr (am (aw xa ?_))
 refine at_ov (t:=9) rfl (show Value.int .i64 (wr .i64 (2+1))=.int .i64 3 from by rfl) ?_
 refine aa (nt (wq [3,0] ?_))
 refine at_round ?_
 refine qs (sr (am ?_))
 refine aw (r_ileq rfl rfl) ?_
 refine at_fix (g:=7) rfl (show (decide (3≤6))=true from by decide) ?_
 refine nwq [7,3,0] ?_
 refine ct rfl ?_
 refine sn (qs ?_)
 refine qb ?_
 refine sr (am ?_)
 refine script_shapeOf_in2 rfl rfl (by decide) (by decide) (by decide) ?_
 intro b7
 refine am ?_
 refine aw xe (aw xe ?_)
 refine al (cs:=zl20) zeroValue98 ?_
 intro b8
 refine sa 2 ((zl18 b7)) .z rfl rfl sizeOf98 rfl rfl rfl ?_
 refine aa (ns (fa 0 underlying98 rfl sizeOf9 ?_))
 refine aw (r_load_cell isAgg9 rfl (fun w1 hw=>cells_get (hw.ok (Upd.mem .z)) 0 _ rfl)) ?_
 refine am ?_
 refine aw (r_seql rfl rfl) ?_
 refine qn (dz (dz (wq [18,3,0] ?_)))
 refine tn ?_
 obtain ⟨h9,hF⟩|⟨h9,hF⟩:=oi hF
 ·refine ct h9 ?_
  refine sr (am (aa (nwq [2] ?_)))
  refine qt ?_
  refine br (tr (tr (br (tr ?_))))
  have K:=os hF
  subst K
  exact r1 wb
 refine cf h9 ?_
 refine at_skip ?_
 refine bm ?_
 refine qr (am (aw xa ?_))
 refine at_ov (t:=9) rfl (show Value.int .i64 (wr .i64 (3+1))=.int .i64 4 from by rfl) ?_
 refine aa (nt (wq [3,0] ?_))
 refine at_round ?_
 refine qs (sr (am ?_))
 refine aw (r_ileq rfl rfl) ?_
 refine at_fix (g:=7) rfl (show (decide (4≤6))=true from by decide) ?_
 refine nwq [7,3,0] ?_
 refine ct rfl ?_
 refine sn (qs ?_)
 refine qb ?_
 refine sr (am ?_)
 refine script_shapeOf_in3 rfl rfl (by decide) (by decide) (by decide) (by decide) ?_
 intro b10
 refine am ?_
 refine aw xe (aw xe ?_)
 refine al (cs:=zl20) zeroValue98 ?_
 intro b11
 refine sa 2 ((zl19 b10)) .z rfl rfl sizeOf98 rfl rfl rfl ?_
 refine aa (ns (fa 0 underlying98 rfl sizeOf9 ?_))
 refine aw (r_load_cell isAgg9 rfl (fun w1 hw=>cells_get (hw.ok (Upd.mem .z)) 0 _ rfl)) ?_
 refine am ?_
 refine aw (r_seql rfl rfl) ?_
 refine qn (dz (dz (wq [18,3,0] ?_)))
 refine tn ?_
 obtain ⟨h12,hF⟩|⟨h12,hF⟩:=oi hF
 ·refine ct h12 ?_
  refine sr (am (aa (nwq [2] ?_)))
  refine qt ?_
  refine br (tr (tr (br (tr ?_))))
  have K:=os hF
  subst K
  exact r1 wb
 refine cf h12 ?_
 refine at_skip ?_
 refine bm ?_
 refine qr (am (aw xa ?_))
 refine at_ov (t:=9) rfl (show Value.int .i64 (wr .i64 (4+1))=.int .i64 5 from by rfl) ?_
 refine aa (nt (wq [3,0] ?_))
 refine at_round ?_
 refine qs (sr (am ?_))
 refine aw (r_ileq rfl rfl) ?_
 refine at_fix (g:=7) rfl (show (decide (5≤6))=true from by decide) ?_
 refine nwq [7,3,0] ?_
 refine ct rfl ?_
 refine sn (qs ?_)
 refine qb ?_
 refine sr (am ?_)
 refine script_shapeOf_in4 rfl rfl (by decide) (by decide) (by decide) (by decide) (by decide) ?_
 intro b13 b14 b15
 refine am ?_
 refine aw xe (aw xe ?_)
 refine al (cs:=zl20) zeroValue98 ?_
 intro b16
 refine sa 2 ((zl9 b15)) .z rfl rfl sizeOf98 rfl rfl rfl ?_
 refine aa (ns (fa 0 underlying98 rfl sizeOf9 ?_))
 refine aw (r_load_cell isAgg9 rfl (fun w1 hw=>cells_get (hw.ok (Upd.mem .z)) 0 _ rfl)) ?_
 refine am ?_
 refine aw (r_seql rfl rfl) ?_
 refine qn (dz (dz (dz (dz (wq [18,3,0] ?_)))))
 refine tn ?_
 obtain ⟨h17,hF⟩|⟨h17,hF⟩:=oi hF
 ·refine ct h17 ?_
  refine sr (am (aa (nwq [2] ?_)))
  refine qt ?_
  refine br (tr (tr (br (tr ?_))))
  have K:=os hF
  subst K
  exact r1 wb
 refine cf h17 ?_
 refine at_skip ?_
 refine bm ?_
 refine qr (am (aw xa ?_))
 refine at_ov (t:=9) rfl (show Value.int .i64 (wr .i64 (5+1))=.int .i64 6 from by rfl) ?_
 refine aa (nt (wq [3,0] ?_))
 refine at_round ?_
 refine qs (sr (am ?_))
 refine aw (r_ileq rfl rfl) ?_
 refine at_fix (g:=7) rfl (show (decide (6≤6))=true from by decide) ?_
 refine nwq [7,3,0] ?_
 refine ct rfl ?_
 refine sn (qs ?_)
 refine qb ?_
 refine sr (am ?_)
 refine script_shapeOf_in5 rfl rfl (by decide) (by decide) (by decide) (by decide) (by decide) (by decide) ?_
 intro b18 b19
 refine am ?_
 refine aw xe (aw xe ?_)
 refine al (cs:=zl20) zeroValue98 ?_
 intro b20
 refine sa 2 ((zl15 b19)) .z rfl rfl sizeOf98 rfl rfl rfl ?_
 refine aa (ns (fa 0 underlying98 rfl sizeOf9 ?_))
 refine aw (r_load_cell isAgg9 rfl (fun w1 hw=>cells_get (hw.ok (Upd.mem .z)) 0 _ rfl)) ?_
 refine am ?_
 refine aw (r_seql rfl rfl) ?_
 refine qn (dz (dz (dz (wq [18,3,0] ?_))))
 refine tn ?_
 obtain ⟨h21,hF⟩|⟨h21,hF⟩:=oi hF
 ·refine ct h21 ?_
  refine sr (am (aa (nwq [2] ?_)))
  refine qt ?_
  refine br (tr (tr (br (tr ?_))))
  have K:=os hF
  subst K
  exact r1 wb
 refine cf h21 ?_
 refine at_skip ?_
 refine bm ?_
 refine qr (am (aw xa ?_))
 refine at_ov (t:=9) rfl (show Value.int .i64 (wr .i64 (6+1))=.int .i64 7 from by rfl) ?_
 refine aa (nt (wq [3,0] ?_))
 refine at_round ?_
 refine qs (sr (am ?_))
 refine aw (r_ileq rfl rfl) ?_
 refine at_fix (g:=7) rfl (show (decide (7≤6))=false from by decide) ?_
 refine nwq [7,3,0] ?_
 refine cf rfl ?_
 refine at_exit ?_
 refine te (te ?_)
 refine at_blk_same ?_
 refine at_weak [] trivial ?_
 refine tn (sr (aa (nwq [2] ?_)))
 refine qt ?_
 have K:=os hF
 subst K
 exact r1 wb
def crawlwaylaw50_alive:Option (Bool) :=
 script_Text ({ { ({ f_Kind:=(0:Int),f_Bytes:=([]:List Int),f_From:=({ f_A:=({ f_V:=(0:Int),f_B:=(Vector.replicate 16 (0:Int):(Vector Int 16)) }:S_api_Addr),f_Port:=(0:Int) }:S_api_Endpoint),f_Result:=([]:List Int),f_Ok:=false,f_Key:=(Vector.replicate 32 (0:Int):(Vector Int 32)),f_Local:=(0:Int),f_Remote:=(0:Int),f_Next:=(0:Int) }:S_api_Item) with f_Kind:=6 } with f_Local:=7 })>>=fun t1=>if (t1.2==0)=true then (some (seq t1.1 (⟨#[102,111,114,103,101,116,32,55]⟩:ByteArray))) else (some false)
theorem crawlwaylaw50_alive_ok(r:Bool)(hF:crawlwaylaw50_alive =some r)(w:World)(hg_bytealg_MaxLen:GV_bytealg_MaxLen w)(hg_strconv_ErrRange:GV_strconv_ErrRange w)(hg_strconv_ErrSyntax:GV_strconv_ErrSyntax w)(hg_strconv_uint64pow10:GV_strconv_uint64pow10 w) :
    Calls Tryz.prog 11 #[] w (fun e w'=>e=.returned (.bool r)∧Below w.heap.size w w'):=by
 unfold crawlwaylaw50_alive at hF
 refine ce (l:=[]) func11 rfl rfl ?_
 refine at_start ?_
 refine at_weak [] trivial ?_
 refine sr (aa ?_)
 refine nws [] trivial ?_
 refine aw (r_build_struct (zs:=Cd.cs c_api_Item zv10) (cs:=Cd.cs c_api_Item (zv9,{ { zv8 with f_Kind:=6 } with f_Local:=7 })) underlying33 zeroValue33 rfl (places_api_Item_33) rfl (fill_step (c:=(cInt .i64)) (z:=6) rfl (c_api_Item_f_Kind zv9 zv8) rfl (fill_step (c:=(cInt .u32)) (z:=7) rfl (c_api_Item_f_Local zv9 ({ zv8 with f_Kind:=6 })) rfl rfl))) ?_
 obtain ⟨t1,ht1,hF⟩:=bM hF
 refine cB func23 rfl (fun w hw=>script_Text_ok _ _ _ ht1 w ⟨(Row.nil ..),(Row.nil ..)⟩ (hg_bytealg_MaxLen.on hw.below) (hg_strconv_ErrRange.on hw.below) (hg_strconv_ErrSyntax.on hw.below) (hg_strconv_uint64pow10.on hw.below)) ?_
 refine am ?_
 refine aw xe (aw xe (aa (aa (nwx [2,1] ?_))))
 refine am (aw xq (am ?_))
 obtain ⟨h2,hF⟩|⟨h2,hF⟩:=oi hF
 ·refine fx 10 h2 ?_
  refine gy ?_
  refine am ?_
  refine gy ?_
  refine aw (r_seql rfl rfl) ?_
  refine aw xp (aa (nwq [0] ?_))
  refine qt ?_
  have K:=os hF
  subst K
  exact r1 wb
 refine fx 10 h2 ?_
 refine gn ?_
 refine gn ?_
 refine aw xp (aa (nwq [0] ?_))
 refine qt ?_
 have K:=os hF
 subst K
 exact r1 wb
end Go.Proofs.YtkkmmpofdcccmaaGreatDoor
namespace Go.Proofs.YtkkmmpofdcccmaaGreatDoor.Scr
open E Go.RowKit
theorem wr_i(i:Nat)(h:i<1000000):wr .i64 ((i:Int)+1)=((i+1:Nat):Int):=by rw [wr_i64 (by omega) (by omega)];omega
theorem lget_at{α:Type}[Inhabited α](l:List α)(i:Nat)(h:i<l.length):lget l (i:Int)=l[i]:=by
 unfold lget
 rw [Int.toNat_natCast,List.getD_eq_getElem?_getD,List.getElem?_eq_getElem h];rfl
theorem drop_at{α:Type}[Inhabited α](l:List α)(i:Nat)(h:i<l.length):l.drop i=lget l (i:Int)::l.drop (i+1):=by
 rw [lget_at l i h];exact List.drop_eq_getElem_cons h
theorem lget_mem{α:Type}[Inhabited α](l:List α)(i:Nat)(h:i<l.length):lget l (i:Int)∈l:=by
 rw [lget_at l i h];exact List.getElem_mem h
theorem same01_loop(l m:List Int)(hl:l.length<100000)(hlm:l.length=m.length):∀ (k i:Nat),i+k=l.length→crawlwayref01_Same.l0 l m (i:Int)=some (if l.drop i=m.drop i then .nx () else .ret false)
 | 0,i,h=>by
  rw [crawlwayref01_Same.l0.eq_def,decide_eq_false (by omega),if_neg Bool.false_ne_true,List.drop_eq_nil_of_le (by omega),List.drop_eq_nil_of_le (by omega),if_pos rfl]
 | k+1,i,h=>by
  rw [crawlwayref01_Same.l0.eq_def,decide_eq_true (by omega:(i:Int)<(l.length:Int)),if_pos rfl,if_pos (by omega),if_pos (by omega),wr_i i (by omega),same01_loop l m hl hlm k (i+1) (by omega),drop_at l i (by omega),drop_at m i (by omega)]
  by_cases e:lget l (i:Int)=lget m (i:Int)
  ·rw [if_neg (by simp [e]),e]
   by_cases e2:l.drop (i+1)=m.drop (i+1)
   ·rw [if_pos e2,e2,if_pos rfl]
   ·rw [if_neg e2,if_neg (by intro h;injection h with _ h;exact e2 h)]
  ·rw [if_pos (by simpa using e),if_neg (by intro h;injection h with h _;exact e h)]
theorem same01(l m:List Int)(hl:l.length<100000):crawlwayref01_Same l m=some (decide (l=m)):=by
 unfold crawlwayref01_Same
 by_cases hlm:l.length=m.length
 ·rw [if_neg (by simp [hlm]),show (0:Int)=((0:Nat):Int) from rfl,same01_loop l m hl hlm l.length 0 (by omega),bindM_some,List.drop_zero,List.drop_zero]
  by_cases e:l=m
  ·rw [if_pos e,decide_eq_true e]
  ·rw [if_neg e,decide_eq_false e]
 ·rw [if_pos (by simp;omega),decide_eq_false (fun e=>hlm (by rw [e]))]
theorem unb_ob(l:List UInt8):unb (ob l)=l:=by
 unfold unb ob
 rw [List.map_map]
 conv=>rhs;rw [←List.map_id l]
 apply List.map_congr_left
 intro x _
 simp
theorem equal_code(l m:List Int)(hl:∀ x∈l,(Lit.int .u8 x).wf=true)(hm:∀ x∈m,(Lit.int .u8 x).wf=true):bytes_Equal l m=some (decide (l=m)):=by
 obtain ⟨a,rfl⟩:=exists_ob l hl
 obtain ⟨b,rfl⟩:=exists_ob m hm
 unfold bytes_Equal
 rw [unb_ob,unb_ob]
 congr 1
 rw [Bool.eq_iff_iff,seq_iff,decide_eq_true_eq]
 constructor
 ·intro h
  have h2:=congrArg (fun x:ByteArray=>x.data.toList) h
  simp only [List.toList_toArray] at h2
  rw [h2]
 ·intro h
  rw [ob_inj h]
def itB(k b f r o y l m n:Bool):Bool:=k&&b&&f&&r&&o&&y&&l&&m&&n
def itemE(a b:S_api_Item):Bool:=itB (a.f_Kind==b.f_Kind) (decide (a.f_Bytes=b.f_Bytes)) (decide (a.f_From=b.f_From)) (decide (a.f_Result=b.f_Result)) (a.f_Ok==b.f_Ok) (decide (a.f_Key=b.f_Key)) (a.f_Local==b.f_Local) (a.f_Remote==b.f_Remote) (a.f_Next==b.f_Next)
theorem itemE_iff(a b:S_api_Item):itemE a b=true↔a=b:=by
 cases a;cases b
 simp [itemE,itB,and_assoc]
theorem itemE_eq(a b:S_api_Item):itemE a b=decide (a=b):=by rw [Bool.eq_iff_iff,itemE_iff,decide_eq_true_eq]
theorem same_code(a b:S_api_Item)(ha:ok_api_Item a)(hb:ok_api_Item b):script_Same a b=some (decide (a=b)):=by
 have e1:=equal_code a.f_Bytes b.f_Bytes ha.2.1 hb.2.1
 have e2:=equal_code a.f_Result b.f_Result ha.2.2.2.1 hb.2.2.2.1
 rw [←itemE_eq]
 unfold script_Same itemE
 rw [e1,e2]
 generalize (a.f_Kind==b.f_Kind)=k
 generalize (decide (a.f_Bytes=b.f_Bytes))=b1
 generalize (decide (a.f_From=b.f_From))=b2
 generalize (decide (a.f_Result=b.f_Result))=b3
 generalize (a.f_Ok==b.f_Ok)=b4
 generalize (decide (a.f_Key=b.f_Key))=b5
 generalize (a.f_Local==b.f_Local)=b6
 generalize (a.f_Remote==b.f_Remote)=b7
 generalize (a.f_Next==b.f_Next)=b8
 clear e1 e2
 revert k b1 b2 b3 b4 b5 b6 b7 b8
 decide +kernel
def smallI(a:S_api_Item):Prop:=a.f_Bytes.length≤6000∧a.f_Result.length≤7000
theorem same_ref(a b:S_api_Item)(ha:smallI a):crawlwayref50_Same a b=some (decide (a=b)):=by
 have e1:=same01 a.f_Bytes b.f_Bytes (by have:=ha.1;omega)
 have e2:=same01 a.f_Result b.f_Result (by have:=ha.2;omega)
 rw [←itemE_eq]
 unfold crawlwayref50_Same itemE
 rw [e1,e2]
 generalize (a.f_Kind==b.f_Kind)=k
 generalize (decide (a.f_Bytes=b.f_Bytes))=b1
 generalize (decide (a.f_From=b.f_From))=b2
 generalize (decide (a.f_Result=b.f_Result))=b3
 generalize (a.f_Ok==b.f_Ok)=b4
 generalize (decide (a.f_Key=b.f_Key))=b5
 generalize (a.f_Local==b.f_Local)=b6
 generalize (a.f_Remote==b.f_Remote)=b7
 generalize (a.f_Next==b.f_Next)=b8
 clear e1 e2
 revert k b1 b2 b3 b4 b5 b6 b7 b8
 decide +kernel
theorem large_loop(l:List S_api_Item)(hl:l.length≤40):∀ (k i:Nat),i+k=l.length→(crawlwayref49_Large.l0 l (i:Int)=some (.ret true))∨(crawlwayref49_Large.l0 l (i:Int)=some (.nx ())∧∀ x∈l.drop i,smallI x)
 | 0,i,h=>by
  right
  refine ⟨by rw [crawlwayref49_Large.l0.eq_def,decide_eq_false (by omega),if_neg Bool.false_ne_true],?_⟩
  rw [List.drop_eq_nil_of_le (by omega)];simp
 | k+1,i,h=>by
  rw [crawlwayref49_Large.l0.eq_def,decide_eq_true (by omega:(i:Int)<(l.length:Int)),if_pos rfl,if_pos (by omega)]
  by_cases h1:(lget l (i:Int)).f_Bytes.length≤6000
  ·rw [if_neg (by rw [decide_eq_true_eq];omega),if_pos (by omega),wr_i i (by omega)]
   by_cases h2:(lget l (i:Int)).f_Result.length≤7000
   ·rw [if_neg (by rw [decide_eq_true_eq];omega)]
    rcases large_loop l hl k (i+1) (by omega) with ih | ⟨ih,hx⟩
    ·exact .inl ih
    ·refine .inr ⟨ih,fun x hxm=>?_⟩
     rw [drop_at l i (by omega)] at hxm
     rcases List.mem_cons.1 hxm with rfl | hxm
     ·exact ⟨h1,h2⟩
     ·exact hx x hxm
   ·rw [if_pos (by rw [decide_eq_true_eq];omega)];exact .inl rfl
  ·rw [if_pos (by rw [decide_eq_true_eq];omega)];exact .inl rfl
theorem large(l:List S_api_Item):crawlwayref49_Large l=some true∨(crawlwayref49_Large l=some false∧l.length≤40∧∀ x∈l,smallI x):=by
 unfold crawlwayref49_Large
 by_cases h:l.length≤40
 ·rw [if_neg (by rw [decide_eq_true_eq];omega),show (0:Int)=((0:Nat):Int) from rfl]
  rcases large_loop l h l.length 0 (by omega) with e | ⟨e,hx⟩
  ·left;rw [e,bindM_some]
  ·right;rw [List.drop_zero] at hx;exact ⟨by rw [e,bindM_some],h,hx⟩
 ·left;rw [if_pos (by rw [decide_eq_true_eq];omega)]
def zA:S_api_Addr:={ f_V:=(0:Int),f_B:=(Vector.replicate 16 (0:Int):(Vector Int 16)) }
def zI:S_api_Item:={ f_Kind:=(0:Int),f_Bytes:=([]:List Int),f_From:=({ f_A:=zA,f_Port:=(0:Int) }:S_api_Endpoint),f_Result:=([]:List Int),f_Ok:=false,f_Key:=(Vector.replicate 32 (0:Int):(Vector Int 32)),f_Local:=(0:Int),f_Remote:=(0:Int),f_Next:=(0:Int) }
theorem ok_zI:ok_api_Item zI:=by
 refine ⟨by decide,(by intro x hx;cases hx),⟨⟨by decide,?_⟩,by decide⟩,(by intro x hx;cases hx),trivial,?_,by decide,by decide,by decide⟩
 ·show ∀ x∈(Vector.replicate 16 (0:Int)).toList,(fun n:Int=>(Lit.int .u8 n).wf=true) x
  decide
 ·show ∀ x∈(Vector.replicate 32 (0:Int)).toList,(fun n:Int=>(Lit.int .u8 n).wf=true) x
  decide
theorem ok_kind(k:Int)(h:(Lit.int .i64 k).wf=true):ok_api_Item { zI with f_Kind:=k }:=⟨h,ok_zI.2⟩
theorem alive50:crawlwaylaw50_alive=some true:=by
 have hr:script_Right { zI with f_Kind:=6,f_Local:=7 }=some true:=by
  unfold script_Right
  show (script_Same { zI with f_Kind:=6 } { zI with f_Kind:=6 }>>=fun t=>some t)=_
  rw [same_code _ _ (ok_kind 6 (by decide)) (ok_kind 6 (by decide)),bindM_some,decide_eq_true rfl]
 have ht:=text_code 7 (by omega)
 have hw:wr .u64 7=((7:Nat):Int):=by decide
 unfold crawlwaylaw50_alive
 show (script_Text { zI with f_Kind:=6,f_Local:=7 }>>=_)=_
 unfold script_Text
 rw [hr,bindM_some,if_neg (by simp)]
 show ((decimal_Text (wr .u64 7)>>=_)>>=_)=_
 rw [hw,ht,bindM_some]
 decide +kernel
end Go.Proofs.YtkkmmpofdcccmaaGreatDoor.Scr
namespace Go.Proofs.YtkkmmpofdcccmaaGreatDoor.Hex
open Go.Lib (indexByte)
def dgs:ByteArray:=ByteArray.mk #[48,49,50,51,52,53,54,55,56,57,97,98,99,100,101,102]
def dgl:List UInt8:=[48,49,50,51,52,53,54,55,56,57,97,98,99,100,101,102]
def dg(n:Nat):UInt8:=dgl.getD n 0
def dig(n:Nat):ByteArray:=ByteArray.mk #[dg n]
theorem dig_eq:∀ n:Fin 16,dgs.extract n.1 (n.1+1)=dig n.1:=by decide +kernel
theorem dig_extract(n:Nat)(h:n<16):dgs.extract n (n+1)=dig n:=dig_eq ⟨n,h⟩
def vf(c:Nat)(great:Bool):Nat→Nat→Int
 | 0,_=>-1
 | f+1,i=>if (dg i).toNat=c∨great=true∧i>9∧(dg i).toNat=(c+32)%256 then (i:Int) else vf c great f (i+1)
def val(c:Nat)(great:Bool):Int:=vf c great 16 0
def small(c:Nat):Nat:=if 65≤c∧c≤70 then c ||| 32 else c
def idx(c:Nat):Int:=indexByte dgl c.toUInt8
theorem idx_val:∀ c:Fin 256,idx c.1=val c.1 false:=by decide +kernel
theorem idx_small:∀ c:Fin 256,idx (small c.1)=val c.1 true:=by decide +kernel
theorem val_lt:∀ c:Fin 256,∀ g:Bool,-1≤val c.1 g∧val c.1 g<16:=by decide +kernel
theorem val_dg:∀ n:Fin 16,∀ g:Bool,val (dg n.1).toNat g=n.1:=by decide +kernel
theorem dg_val:∀ c:Fin 256,val c.1 false≥0→(dg (val c.1 false).toNat).toNat=c.1:=by decide +kernel
def grp(n:Nat):ByteArray:=if n<16 then dig n else grp (n/16)++dig (n%16)
def gl(n:Nat)(o:ByteArray):ByteArray:=if n<16 then dig n++o else gl (n/16) (dig (n%16)++o)
theorem gl_eq(n:Nat):∀ o,gl n o=grp n++o:=by
 induction n using Nat.strongRecOn with
 | _ n ih =>
  intro o
  unfold gl grp
  split
  ·rfl
  ·rw [ih _ (by omega),ByteArray.append_assoc]
def rd(l:List UInt8):Nat→Option Nat:=l.foldr (fun c k n=>if val c.toNat true<0 then none else k (16*n+(val c.toNat true).toNat)) some
theorem rd_nil(n:Nat):rd [] n=some n:=rfl
theorem rd_cons(c:UInt8)(l:List UInt8)(n:Nat):rd (c::l) n=if val c.toNat true<0 then none else rd l (16*n+(val c.toNat true).toNat):=rfl
def read(s:ByteArray):Option Nat:=if s.size<1∨s.size>4 then none else rd s.data.toList 0
theorem rd_lt(l:List UInt8):∀ n m,rd l n=some m→m<(n+1)*16 ^ l.length:=by
 induction l with
 | nil=>intro n m h;simp [rd_nil] at h;simp;omega
 | cons c l ih =>
  intro n m h
  rw [rd_cons] at h
  split at h
  ·cases h
  ·have hv:val c.toNat true<16:=(val_lt ⟨c.toNat,c.toNat_lt⟩ true).2
   have:=ih _ _ h
   simp only [List.length_cons,Nat.pow_succ]
   have h2:(val c.toNat true).toNat<16:=by omega
   calc m<(16*n+(val c.toNat true).toNat+1)*16 ^ l.length:=this
    _≤(16*n+16)*16 ^ l.length:=Nat.mul_le_mul_right _ (by omega)
    _=_:=by rw [show 16*n+16=(n+1)*16 by omega,Nat.mul_assoc,Nat.mul_comm 16]
theorem rd_append(l k:List UInt8)(n:Nat):rd (l++k) n=(rd l n).bind (rd k):=by
 induction l generalizing n with
 | nil=>simp [rd_nil]
 | cons c l ih =>
  simp only [List.cons_append,rd_cons]
  split
  ·rfl
  ·exact ih _
theorem rd_grp(n:Nat):rd (grp n).data.toList 0=some n:=by
 induction n using Nat.strongRecOn with
 | _ n ih =>
  unfold grp
  split
  ·next h =>
   have:=val_dg ⟨n,h⟩ true
   simp only at this
   simp only [dig,rd_cons,rd_nil,this]
   simp
  ·next h =>
   have hv:=val_dg ⟨n%16,by omega⟩ true
   simp only at hv
   simp only [ByteArray.data_append,Array.toList_append,rd_append,ih _ (show n/16<n by omega),dig,Option.bind_some,rd_cons,rd_nil,hv]
   rw [if_neg (by omega)]
   congr 1
   omega
theorem grp_size(n:Nat):1≤(grp n).size∧∀ k,n<16 ^ (k+1)→(grp n).size≤k+1:=by
 induction n using Nat.strongRecOn with
 | _ n ih =>
  unfold grp
  split
  ·exact ⟨by simp [dig,ByteArray.size],fun k _=>by simp [dig,ByteArray.size]⟩
  ·next h =>
   have ih':=ih _ (show n/16<n by omega)
   rw [ByteArray.size_append]
   have hd:(dig (n%16)).size=1:=rfl
   refine ⟨by omega,fun k hk=>?_⟩
   cases k with
   | zero=>simp at hk;omega
   | succ k =>
    have:=ih'.2 k (by rw [Nat.pow_succ] at hk;omega)
    omega
theorem read_grp(n:Nat)(h:n<65536):read (grp n)=some n:=by
 unfold read
 rw [if_neg (by have h1:=grp_size n;have:=h1.2 3 (by simpa using h);omega)]
 exact rd_grp n
end Go.Proofs.YtkkmmpofdcccmaaGreatDoor.Hex
namespace Go.Proofs.YtkkmmpofdcccmaaGreatDoor.Hex
open E Go.RowKit
theorem tab_size:(⟨#[48,49,50,51,52,53,54,55,56,57,97,98,99,100,101,102]⟩:ByteArray).size=16:=rfl
theorem tab_bt(n:Nat)(h:n<16):bt (⟨#[48,49,50,51,52,53,54,55,56,57,97,98,99,100,101,102]⟩:ByteArray) n=(dg n).toNat:=by
 have:∀ n:Fin 16,bt (⟨#[48,49,50,51,52,53,54,55,56,57,97,98,99,100,101,102]⟩:ByteArray) (n.1:Int)=(dg n.1).toNat:=by decide +kernel
 exact this ⟨n,h⟩
theorem value_eq(c:Nat):hexes_value c=some (wr .u16 (idx c),decide (idx c≥0)):=rfl
theorem small_value(c:Nat)(hc:c<256):idx (small c)=val c true:=idx_small ⟨c,hc⟩
theorem value_val(c:Nat)(hc:c<256):idx c=val c false:=idx_val ⟨c,hc⟩
theorem digit_eq(n:Nat)(h:n<16):crawlwayref05_digit n=some (dig n):=by
 unfold crawlwayref05_digit
 rw [wr_i64 (by omega) (by omega),if_pos (by rw [tab_size];omega)]
 rw [show ((n:Int)+1).toNat=n+1 by omega,Int.toNat_natCast]
 exact congrArg some (dig_extract n h)
theorem dig_bt(n:Nat):bt (dig n) 0=(dg n).toNat:=rfl
theorem value_l0(c:Nat)(g:Bool)(hc:c<256)(f:Nat):∀ i:Nat,i+f=16 →
  crawlwayref05_Value.l0 c g i=some (if vf c g f i = -1 then .nx () else .ret (vf c g f i)):=by
 induction f with
 | zero =>
  intro i hi
  obtain rfl:i=16:=by omega
  rw [crawlwayref05_Value.l0.eq_def]
  simp [vf]
 | succ f ih =>
  intro i hi
  rw [crawlwayref05_Value.l0.eq_def]
  have h1:decide ((i:Int)<16)=true:=by simp;omega
  have hs:((dig i).size:Int)=1:=rfl
  have ih':=ih (i+1) (by omega)
  have e1:wr .i64 ((i:Int)+1)=((i+1:Nat):Int):=by rw [wr_i64 (by omega) (by omega)];omega
  have e2:wr .u8 ((c:Int)+32)=(((c+32)%256:Nat):Int):=by rw [wr_u8_mod];omega
  rw [if_pos h1,digit_eq i (by omega)]
  simp only [bindM_some,dig_bt,hs,e1,e2,ih']
  rw [if_pos (by decide)]
  have hv:vf c g (f+1) i=if (dg i).toNat=c∨g=true∧i>9∧(dg i).toNat=(c+32)%256 then (i:Int) else vf c g f (i+1):=rfl
  by_cases hA:(dg i).toNat=c
  ·have hA':(((dg i).toNat:Int)==(c:Int))=true:=by simp;omega
   rw [if_pos (.inl hA)] at hv
   have:¬ (i:Int) = -1:=by omega
   simp only [hA',hv,this,↓reduceIte]
  ·have hA':(((dg i).toNat:Int)==(c:Int))=false:=by simp;omega
   cases g with
   | false=>
    rw [if_neg (by simp [hA])] at hv
    simp only [hA',hv,↓reduceIte,Bool.false_eq_true]
   | true =>
    by_cases h9:9<i
    ·have h9':decide ((i:Int)>9)=true:=by simp;omega
     by_cases hB:(dg i).toNat=(c+32)%256
     ·have hB':(((dg i).toNat:Int)==(((c+32)%256:Nat):Int))=true:=by simp;omega
      rw [if_pos (.inr ⟨rfl,h9,hB⟩)] at hv
      have:¬ (i:Int) = -1:=by omega
      simp only [hA',hB',h9',hv,this,↓reduceIte,Bool.false_eq_true,Int.le_refl,true_and,Int.zero_lt_one]
     ·have hB':(((dg i).toNat:Int)==(((c+32)%256:Nat):Int))=false:=by simp;omega
      rw [if_neg (by rintro (h | h);exact hA h;exact hB h.2.2)] at hv
      simp only [hA',hB',h9',hv,↓reduceIte,Bool.false_eq_true,Int.le_refl,true_and,Int.zero_lt_one]
    ·have h9':decide ((i:Int)>9)=false:=by simp;omega
     rw [if_neg (by rintro (h | h);exact hA h;exact h9 h.2.1)] at hv
     simp only [hA',h9',hv,↓reduceIte,Bool.false_eq_true]
theorem refValue_eq(c:Nat)(g:Bool)(hc:c<256):crawlwayref05_Value c g=some (val c g):=by
 unfold crawlwayref05_Value
 have:=value_l0 c g hc 16 0 rfl
 rw [show ((0:Nat):Int)=0 from rfl] at this
 rw [this]
 simp only [bindM_some]
 unfold val
 by_cases hv:vf c g 16 0 = -1
 ·simp only [hv,↓reduceIte]
 ·simp only [hv,↓reduceIte]
def encL(l:List UInt8):List UInt8:=l.flatMap fun b=>[dg (b.toNat/16),dg (b.toNat%16)]
theorem encL_cons(b:UInt8)(l:List UInt8):encL (b::l)=dg (b.toNat/16)::dg (b.toNat%16)::encL l:=rfl
theorem encL_length(l:List UInt8):(encL l).length=2*l.length:=by
 induction l with
 | nil=>rfl
 | cons b l ih=>rw [encL_cons];simp;omega
def str(l:List UInt8):ByteArray:=⟨l.toArray⟩
theorem str_size(l:List UInt8):(str l).size=l.length:=by simp [str,ByteArray.size]
theorem str_append(l k:List UInt8):str (l++k)=str l++str k:=by
 apply ByteArray.ext;simp [str,ByteArray.data_append]
theorem str_push(l:List UInt8)(b:UInt8):(str l).push b=str (l++[b]):=by
 apply ByteArray.ext;simp [str,ByteArray.push]
theorem str_toList(s:ByteArray):str s.data.toList=s:=by cases s;rfl
theorem str_inj{l k:List UInt8}(h:str l=str k):l=k:=by
 have:=congrArg (fun s:ByteArray=>s.data.toList) h;simpa [str] using this
theorem tab_push(n:Nat)(h:n<16):UInt8.ofNat (Int.toNat (bt (⟨#[48,49,50,51,52,53,54,55,56,57,97,98,99,100,101,102]⟩:ByteArray) n))=dg n:=by
 rw [tab_bt n h,Int.toNat_natCast,UInt8.ofNat_toNat]
theorem encode_l0(l:List UInt8)(hl:l.length<1000000)(f:Nat):∀ (i:Nat) (o:List UInt8),i+f=l.length→o.length≤2*i →
  hexes_Encode.l0 (ob l) i (str o)=some (str (o++encL (l.drop i))):=by
 induction f with
 | zero =>
  intro i o hi ho
  have c1:decide ((i:Int)<((ob l).length:Int))=false:=by rw [ob_length];simp;omega
  rw [hexes_Encode.l0.eq_def,List.drop_eq_nil_of_le (by omega)]
  simp only [c1,↓reduceIte,Bool.false_eq_true,encL,List.flatMap_nil,List.append_nil]
 | succ f ih =>
  intro i o hi ho
  obtain ⟨b,hb,hd⟩:=drop_get l i (by omega)
  have hbl:=b.toNat_lt
  have e1:=lget_ob l i b hb
  have c1:decide ((i:Int)<((ob l).length:Int))=true:=by rw [ob_length];simp;omega
  have c2:(0:Int)≤(i:Int)∧(i:Int)<((ob l).length:Int):=by rw [ob_length];omega
  have e2:ishr .u8 (b.toNat:Int) 4=((b.toNat/16:Nat):Int):=ishr_nat .u8 b.toNat 4 (by decide)
  have e3:iand .u8 (b.toNat:Int) 15=((b.toNat%16:Nat):Int):=by
   rw [show (15:Int)=((15:Nat):Int) from rfl,iand_nat .u8 rfl b.toNat 15 hbl (by decide),Nat.and_two_pow_sub_one_eq_mod b.toNat 4]
  have e4:wr .i64 ((i:Int)+1)=((i+1:Nat):Int):=by rw [wr_i64 (by omega) (by omega)];omega
  have t1:=tab_bt (b.toNat/16) (by omega)
  have t2:=tab_bt (b.toNat%16) (by omega)
  have p1:=tab_push (b.toNat/16) (by omega)
  have p2:=tab_push (b.toNat%16) (by omega)
  have d1:=(dg (b.toNat/16)).toNat_lt
  have d2:=(dg (b.toNat%16)).toNat_lt
  rw [hexes_Encode.l0.eq_def]
  simp only [c1,c2,e1,e2,e3,e4,p1,p2,↓reduceIte,and_self,tab_size,str_push,str_size]
  rw [if_pos,if_pos,if_pos,if_pos,if_pos,if_pos,ih (i+1) _ (by omega) (by simp;omega),hd,encL_cons]
  all_goals first | omega | (rw [t1];omega) | (rw [t2];omega) | (simp;omega) | simp
theorem encode_eq(l:List UInt8)(hl:l.length<1000000):hexes_Encode (ob l)=some (str (encL l)):=by
 unfold hexes_Encode
 have:=encode_l0 l hl l.length 0 [] (by omega) (by simp)
 rw [show ((0:Nat):Int)=0 from rfl,List.drop_zero,List.nil_append,show str []=ByteArray.empty from rfl] at this
 rw [this,bindM_some]
theorem dig_str(n:Nat):dig n=str [dg n]:=rfl
theorem refEncode_l0(l:List UInt8)(hl:l.length<1000000)(f:Nat):∀ (i:Nat) (o:List UInt8),i+f=l.length→o.length≤2*i →
  crawlwayref05_Encode.l0 (ob l) (str o) i=some (str (o++encL (l.drop i))):=by
 induction f with
 | zero =>
  intro i o hi ho
  have c1:decide ((i:Int)<((ob l).length:Int))=false:=by rw [ob_length];simp;omega
  rw [crawlwayref05_Encode.l0.eq_def,List.drop_eq_nil_of_le (by omega)]
  simp only [c1,↓reduceIte,Bool.false_eq_true,encL,List.flatMap_nil,List.append_nil]
 | succ f ih =>
  intro i o hi ho
  obtain ⟨b,hb,hd⟩:=drop_get l i (by omega)
  have hbl:=b.toNat_lt
  have e1:=lget_ob l i b hb
  have c1:decide ((i:Int)<((ob l).length:Int))=true:=by rw [ob_length];simp;omega
  have c2:(0:Int)≤(i:Int)∧(i:Int)<((ob l).length:Int):=by rw [ob_length];omega
  have e2:wr .i64 (b.toNat:Int)=(b.toNat:Int):=wr_i64 (by omega) (by omega)
  have e3:wr .i64 (Int.tdiv (b.toNat:Int) 16)=((b.toNat/16:Nat):Int):=by
   rw [Int.tdiv_eq_ediv_of_nonneg (by omega),wr_i64 (by omega) (by omega)];omega
  have e5:Int.tmod (b.toNat:Int) 16=((b.toNat%16:Nat):Int):=by rw [Int.tmod_eq_emod_of_nonneg (by omega)];omega
  have e4:wr .i64 ((i:Int)+1)=((i+1:Nat):Int):=by rw [wr_i64 (by omega) (by omega)];omega
  rw [crawlwayref05_Encode.l0.eq_def]
  simp only [c1,c2,e1,e2,e3,e4,e5,↓reduceIte,and_self,digit_eq (b.toNat/16) (by omega),digit_eq (b.toNat%16) (by omega),bindM_some,dig_str,←str_append,str_size]
  rw [if_pos,if_pos,ih (i+1) _ (by omega) (by simp;omega),hd,encL_cons]
  all_goals first | omega | (simp;omega) | simp
theorem refEncode_eq(l:List UInt8)(hl:l.length<1000000):crawlwayref05_Encode (ob l)=some (str (encL l)):=by
 unfold crawlwayref05_Encode
 have:=refEncode_l0 l hl l.length 0 [] (by omega) (by simp)
 rw [show ((0:Nat):Int)=0 from rfl,List.drop_zero,List.nil_append,show str []=(⟨#[]⟩:ByteArray) from rfl] at this
 rw [this,bindM_some]
def decL:List UInt8→Option (List UInt8)
 | a::b::l=>if val a.toNat false<0∨val b.toNat false<0 then none else (decL l).map fun k=>UInt8.ofNat (16*(val a.toNat false).toNat+(val b.toNat false).toNat)::k
 | _=>some []
theorem decL_nil:decL []=some []:=rfl
theorem decL_cons(a b:UInt8)(l:List UInt8):decL (a::b::l)=if val a.toNat false<0∨val b.toNat false<0 then none else (decL l).map fun k=>UInt8.ofNat (16*(val a.toNat false).toNat+(val b.toNat false).toNat)::k:=rfl
theorem decode_l0(s:ByteArray)(hs:s.size<1000000)(f:Nat):∀ (i:Nat) (o:List UInt8),i+2*f=s.size→o.length≤i →
  hexes_Decode.l0 s (ob o) i=some (match decL (s.data.toList.drop i) with | some k=>.nx (ob (o++k)) | none=>.ret ([],5)):=by
 induction f with
 | zero =>
  intro i o hi ho
  have c1:decide ((i:Int)<(s.size:Int))=false:=by simp;omega
  rw [hexes_Decode.l0.eq_def,List.drop_eq_nil_of_le (by simp;omega)]
  simp only [c1,↓reduceIte,Bool.false_eq_true,decL_nil,List.append_nil]
 | succ f ih =>
  intro i o hi ho
  obtain ⟨a,ha,hda⟩:=drop_get s.data.toList i (by simp;omega)
  obtain ⟨b,hb,hdb⟩:=drop_get s.data.toList (i+1) (by simp;omega)
  have hal:=a.toNat_lt
  have hbl:=b.toNat_lt
  have ea:bt s i=a.toNat:=by rw [bt_nat,ha];rfl
  have e4:wr .i64 ((i:Int)+1)=((i+1:Nat):Int):=by rw [wr_i64 (by omega) (by omega)];omega
  have e5:wr .i64 ((i:Int)+2)=((i+2:Nat):Int):=by rw [wr_i64 (by omega) (by omega)];omega
  have eb:bt s ((i+1:Nat):Int)=b.toNat:=by rw [bt_nat,hb];rfl
  have c1:decide ((i:Int)<(s.size:Int))=true:=by simp;omega
  have c2:(0:Int)≤(i:Int)∧(i:Int)<(s.size:Int):=by omega
  have c3:(0:Int)≤((i+1:Nat):Int)∧((i+1:Nat):Int)<(s.size:Int):=by omega
  have va1 : -1≤val a.toNat false:=(val_lt ⟨a.toNat,hal⟩ false).1
  have va2:val a.toNat false<16:=(val_lt ⟨a.toNat,hal⟩ false).2
  have vb1 : -1≤val b.toNat false:=(val_lt ⟨b.toNat,hbl⟩ false).1
  have vb2:val b.toNat false<16:=(val_lt ⟨b.toNat,hbl⟩ false).2
  rw [hexes_Decode.l0.eq_def,hda,hdb,decL_cons]
  simp only [c1,c2,c3,ea,e4,e5,eb,value_eq,value_val _ hal,value_val _ hbl,↓reduceIte,and_self,bindM_some,decide_true]
  by_cases h1:val a.toNat false<0
  ·have g1:(!decide (val a.toNat false≥0))=true:=by simp;omega
   simp only [g1,↓reduceIte,h1,true_or]
  ·by_cases h2:val b.toNat false<0
   ·have g1:(!decide (val a.toNat false≥0))=false:=by simp;omega
    have g2:(!decide (val b.toNat false≥0))=true:=by simp;omega
    simp only [g1,g2,↓reduceIte,h2,or_true,Bool.false_eq_true]
   ·have g1:(!decide (val a.toNat false≥0))=false:=by simp;omega
    have g2:(!decide (val b.toNat false≥0))=false:=by simp;omega
    obtain ⟨u,hu⟩:∃ u:Nat,val a.toNat false=u:=⟨(val a.toNat false).toNat,by omega⟩
    obtain ⟨v,hv⟩:∃ v:Nat,val b.toNat false=v:=⟨(val b.toNat false).toNat,by omega⟩
    rw [hu] at va2
    rw [hv] at vb2
    have m1:wr .u16 (u:Int)=u:=wr_u16 (by omega) (by omega)
    have m2:wr .u16 (v:Int)=v:=wr_u16 (by omega) (by omega)
    have m3:ishl .u16 (u:Int) 4=((u*16:Nat):Int):=by
     rw [show (4:Int)=((4:Nat):Int) from rfl,ishl_nat .u16 rfl u 4 (by decide),Nat.mod_eq_of_lt (by show u*2 ^ 4<2 ^ 16;omega)]
    have m4:ior .u16 ((u*16:Nat):Int) (v:Int)=((16*u+v:Nat):Int):=by
     rw [ior_nat .u16 rfl _ _ (by show u*16<2 ^ 16;omega) (by show v<2 ^ 16;omega)]
     rw [show u*16=u <<< 4 by rw [Nat.shiftLeft_eq],←Nat.shiftLeft_add_eq_or_of_lt (by omega:v<2 ^ 4),Nat.shiftLeft_eq]
     congr 1;omega
    have m5:wr .u8 ((16*u+v:Nat):Int)=((16*u+v:Nat):Int):=wr_u8 (by omega) (by omega)
    have hob:ob o++[((16*u+v:Nat):Int)]=ob (o++[UInt8.ofNat (16*u+v)]):=by
     rw [ob_append];congr 1
     simp only [ob,List.map_cons,List.map_nil,UInt8.toNat_ofNat']
     rw [Nat.mod_eq_of_lt (by omega)]
    have hg1:¬ ((u:Int)<0∨(v:Int)<0):=by omega
    simp only [g1,g2,hu,hv,m1,m2,m3,m4,m5,↓reduceIte,Bool.false_eq_true,ob_length,hob,hg1,Int.toNat_natCast]
    simp only [hu,hv] at g1 g2
    simp only [g1,g2,↓reduceIte,Bool.false_eq_true]
    rw [if_pos (by omega),ih (i+2) _ (by omega) (by simp;omega)]
    cases decL (s.data.toList.drop (i+1+1)) with
    | none=>rfl
    | some k=>simp
theorem refDecode_l0(s:ByteArray)(hs:s.size<1000000)(f:Nat):∀ (i:Nat) (o:List UInt8),i+2*f=s.size→o.length≤i →
  crawlwayref05_Decode.l0 s (ob o) i=some (match decL (s.data.toList.drop i) with | some k=>.nx (ob (o++k)) | none=>.ret ([],5)):=by
 induction f with
 | zero =>
  intro i o hi ho
  have c1:decide ((i:Int)<(s.size:Int))=false:=by simp;omega
  rw [crawlwayref05_Decode.l0.eq_def,List.drop_eq_nil_of_le (by simp;omega)]
  simp only [c1,↓reduceIte,Bool.false_eq_true,decL_nil,List.append_nil]
 | succ f ih =>
  intro i o hi ho
  obtain ⟨a,ha,hda⟩:=drop_get s.data.toList i (by simp;omega)
  obtain ⟨b,hb,hdb⟩:=drop_get s.data.toList (i+1) (by simp;omega)
  have hal:=a.toNat_lt
  have hbl:=b.toNat_lt
  have ea:bt s i=a.toNat:=by rw [bt_nat,ha];rfl
  have e4:wr .i64 ((i:Int)+1)=((i+1:Nat):Int):=by rw [wr_i64 (by omega) (by omega)];omega
  have e5:wr .i64 ((i:Int)+2)=((i+2:Nat):Int):=by rw [wr_i64 (by omega) (by omega)];omega
  have eb:bt s ((i+1:Nat):Int)=b.toNat:=by rw [bt_nat,hb];rfl
  have c1:decide ((i:Int)<(s.size:Int))=true:=by simp;omega
  have c2:(0:Int)≤(i:Int)∧(i:Int)<(s.size:Int):=by omega
  have c3:(0:Int)≤((i+1:Nat):Int)∧((i+1:Nat):Int)<(s.size:Int):=by omega
  have va1 : -1≤val a.toNat false:=(val_lt ⟨a.toNat,hal⟩ false).1
  have va2:val a.toNat false<16:=(val_lt ⟨a.toNat,hal⟩ false).2
  have vb1 : -1≤val b.toNat false:=(val_lt ⟨b.toNat,hbl⟩ false).1
  have vb2:val b.toNat false<16:=(val_lt ⟨b.toNat,hbl⟩ false).2
  rw [crawlwayref05_Decode.l0.eq_def,hda,hdb,decL_cons]
  simp only [c1,c2,c3,ea,e4,e5,eb,refValue_eq _ _ hal,refValue_eq _ _ hbl,↓reduceIte,and_self,bindM_some,decide_true]
  by_cases h1:val a.toNat false<0
  ·simp only [h1,↓reduceIte,true_or,decide_true]
  ·by_cases h2:val b.toNat false<0
   ·simp only [h1,h2,↓reduceIte,or_true,decide_true,decide_false,Bool.false_eq_true]
   ·obtain ⟨u,hu⟩:∃ u:Nat,val a.toNat false=u:=⟨(val a.toNat false).toNat,by omega⟩
    obtain ⟨v,hv⟩:∃ v:Nat,val b.toNat false=v:=⟨(val b.toNat false).toNat,by omega⟩
    rw [hu] at va2 h1
    rw [hv] at vb2 h2
    have m1:wr .i64 (16*(u:Int))=16*(u:Int):=wr_i64 (by omega) (by omega)
    have m2:wr .i64 (16*(u:Int)+(v:Int))=((16*u+v:Nat):Int):=by rw [wr_i64 (by omega) (by omega)];omega
    have m5:wr .u8 ((16*u+v:Nat):Int)=((16*u+v:Nat):Int):=wr_u8 (by omega) (by omega)
    have hob:ob o++[((16*u+v:Nat):Int)]=ob (o++[UInt8.ofNat (16*u+v)]):=by
     rw [ob_append];congr 1
     simp only [ob,List.map_cons,List.map_nil,UInt8.toNat_ofNat']
     rw [Nat.mod_eq_of_lt (by omega)]
    simp only [hu,hv,m1,m2,m5,h1,h2,↓reduceIte,Bool.false_eq_true,ob_length,hob,Int.toNat_natCast,decide_false,or_self]
    rw [if_pos (by omega),ih (i+2) _ (by omega) (by simp;omega)]
    cases decL (s.data.toList.drop (i+1+1)) with
    | none=>rfl
    | some k=>simp
def dec(s:ByteArray):Option (List UInt8):=if s.size%2≠0 then none else decL s.data.toList
theorem odd_c(n:Nat):(Int.tmod (n:Int) 2 != 0)=decide (n%2≠0):=by
 rw [Int.tmod_eq_emod_of_nonneg (by omega)]
 by_cases h:n%2=0
 ·have:((n:Int)%2)=0:=by omega
  simp [h,this]
 ·have:((n:Int)%2)=1:=by omega
  simp [this];omega
theorem decode_eq(s:ByteArray)(hs:s.size<1000000):hexes_Decode s=some (match dec s with | some k=>(ob k,0) | none=>([],5)):=by
 unfold hexes_Decode dec
 rw [odd_c]
 by_cases h:s.size%2=0
 ·have:=decode_l0 s hs (s.size/2) 0 [] (by omega) (by simp)
  rw [show ((0:Nat):Int)=0 from rfl,List.drop_zero,show ob []=([]:List Int) from rfl] at this
  simp only [h,ne_eq,not_true_eq_false,decide_false,↓reduceIte,Bool.false_eq_true,this,bindM_some,List.nil_append]
  cases decL s.data.toList<;>rfl
 ·simp [h]
theorem refDecode_eq(s:ByteArray)(hs:s.size<1000000):crawlwayref05_Decode s=some (match dec s with | some k=>(ob k,0) | none=>([],5)):=by
 unfold crawlwayref05_Decode dec
 rw [odd_c]
 by_cases h:s.size%2=0
 ·have:=refDecode_l0 s hs (s.size/2) 0 [] (by omega) (by simp)
  rw [show ((0:Nat):Int)=0 from rfl,List.drop_zero,show ob []=([]:List Int) from rfl] at this
  simp only [h,ne_eq,not_true_eq_false,decide_false,↓reduceIte,Bool.false_eq_true,this,bindM_some,List.nil_append]
  cases decL s.data.toList<;>rfl
 ·simp [h]
theorem decL_encL(l:List UInt8):decL (encL l)=some l:=by
 induction l with
 | nil=>rfl
 | cons b l ih =>
  have hb:=b.toNat_lt
  have h1:=val_dg ⟨b.toNat/16,by omega⟩ false
  have h2:=val_dg ⟨b.toNat%16,by omega⟩ false
  simp only at h1 h2
  rw [encL_cons,decL_cons,ih,h1,h2,if_neg (by omega)]
  simp only [Option.map_some,Int.toNat_natCast]
  rw [show 16*(b.toNat/16)+b.toNat%16=b.toNat by omega,UInt8.ofNat_toNat]
theorem encL_decL:∀ (l k:List UInt8),l.length%2=0→decL l=some k→encL k=l
 | [],k,_,h=>by simp [decL] at h;subst h;rfl
 | [a],k,hl,_=>by simp at hl
 | a::b::l,k,hl,h=>by
  rw [decL_cons] at h
  split at h
  ·cases h
  ·next hn =>
   cases hk:decL l with
   | none=>rw [hk] at h;cases h
   | some m =>
    rw [hk] at h
    cases h
    have ih:=encL_decL l m (by simp at hl;omega) hk
    have hal:=a.toNat_lt
    have hbl:=b.toNat_lt
    have va2:val a.toNat false<16:=(val_lt ⟨a.toNat,hal⟩ false).2
    have vb2:val b.toNat false<16:=(val_lt ⟨b.toNat,hbl⟩ false).2
    have h1:=dg_val ⟨a.toNat,hal⟩ (by simp only;omega)
    have h2:=dg_val ⟨b.toNat,hbl⟩ (by simp only;omega)
    simp only at h1 h2
    rw [encL_cons,ih,UInt8.toNat_ofNat',Nat.mod_eq_of_lt (by omega)]
    rw [show (16*(val a.toNat false).toNat+(val b.toNat false).toNat)/16=(val a.toNat false).toNat by omega]
    rw [show (16*(val a.toNat false).toNat+(val b.toNat false).toNat)%16=(val b.toNat false).toNat by omega]
    rw [UInt8.toNat_inj.1 h1,UInt8.toNat_inj.1 h2]
theorem dec_enc(l:List UInt8):dec (str (encL l))=some l:=by
 unfold dec
 rw [if_neg (by rw [str_size,encL_length];omega)]
 exact decL_encL l
theorem enc_dec(s:ByteArray)(k:List UInt8)(h:dec s=some k):str (encL k)=s:=by
 unfold dec at h
 split at h
 ·cases h
 ·rw [encL_decL _ _ (by simp;omega) h,str_toList]
end Go.Proofs.YtkkmmpofdcccmaaGreatDoor.Hex
namespace Go.Proofs.YtkkmmpofdcccmaaGreatDoor.Key
open E Go.RowKit
open Hex (str str_size str_append str_push str_toList str_inj)
theorem vget_nat{m:Nat}(v:Vector Int m)(i:Nat)(h:i<m):vget v (i:Int)=v[i]:=by
 unfold vget;rw [Int.toNat_natCast];simp [List.getD_eq_getElem?_getD,h]
theorem vget_set{m:Nat}(v:Vector Int m)(i j:Nat)(z:Int)(hi:i<m)(hj:j<m):vget (vset v (i:Int) z) (j:Int)=if i=j then z else vget v (j:Int):=by
 rw [vget_nat _ j hj,vget_nat _ j hj]
 unfold vset
 simp only [Int.toNat_natCast]
 rw [Vector.getElem_setIfInBounds]
theorem unb_ob(l:List UInt8):unb (ob l)=l:=by
 unfold unb ob
 rw [List.map_map]
 conv=>rhs;rw [←List.map_id l]
 apply List.map_congr_left
 intro b _
 simp [Function.comp]
abbrev zk:Vector Int 32:=(Vector.replicate 32 (0:Int):Vector Int 32)
theorem lvec_vec(v:Vector Int 32):lvec 32 v.toList=v:=by
 rw [←Vector.toList_inj,lvec_toList _ _ (by simp),List.take_of_length_le (by simp)]
def ofR(xs:List Int):Vector Int 32×Int:=if xs.length<32 then (zk,3) else if xs.length>32 then (zk,4) else (lvec 32 xs,0)
theorem keysOf_eq(xs:List Int):keys_Of xs=some (ofR xs):=by
 unfold keys_Of ofR
 by_cases h1:xs.length<32
 ·rw [if_pos (decide_eq_true (by omega)),if_pos h1]
 ·by_cases h2:xs.length>32
  ·rw [if_neg (by simp;omega),if_pos (decide_eq_true (by omega)),if_neg h1,if_pos h2]
  ·rw [if_neg (by simp;omega),if_neg (by simp;omega),if_pos (by omega),if_neg h1,if_neg h2]
theorem refOf_l0(xs:List Int)(hx:xs.length=32)(f:Nat):∀ (i:Nat) (v:Vector Int 32),i+f=32→(∀ j,j<i→vget v (j:Int)=lget xs j)→crawlwayref07_Of.l0 xs i v=some (lvec 32 xs):=by
 induction f with
 | zero =>
  intro i v hi hv
  obtain rfl:i=32:=by omega
  rw [crawlwayref07_Of.l0.eq_def,if_neg (by decide)]
  refine congrArg some (Vector.ext fun j hj=>?_)
  have:=hv j hj
  rw [vget_nat v j hj] at this
  rw [this]
  simp [lvec,lget]
 | succ f ih =>
  intro i v hi hv
  have e1:wr .i64 ((i:Int)+1)=((i+1:Nat):Int):=by rw [wr_i64 (by omega) (by omega)];omega
  rw [crawlwayref07_Of.l0.eq_def,if_pos (decide_eq_true (by omega)),if_pos (by omega),if_pos (by omega),e1]
  refine ih (i+1) _ (by omega) fun j hj=>?_
  rw [vget_set v i j _ (by omega) (by omega)]
  by_cases h:i=j
  ·subst h;rw [if_pos rfl]
  ·rw [if_neg h];exact hv j (by omega)
theorem refOf_eq(xs:List Int):crawlwayref07_Of xs=some (ofR xs):=by
 unfold crawlwayref07_Of ofR
 by_cases h1:xs.length<32
 ·rw [if_pos (decide_eq_true (by omega)),if_pos h1]
 ·by_cases h2:xs.length>32
  ·rw [if_neg (by simp;omega),if_pos (decide_eq_true (by omega)),if_neg h1,if_pos h2]
  ·have:=refOf_l0 xs (by omega) 32 0 zk rfl (fun j hj=>by omega)
   rw [show ((0:Nat):Int)=0 from rfl] at this
   rw [if_neg (by simp;omega),if_neg (by simp;omega),this,bindM_some,if_neg h1,if_neg h2]
theorem bytes_l0(v:Vector Int 32)(f:Nat):∀ i:Nat,i+f=32→crawlwayref07_Bytes.l0 v (v.toList.take i) i=some v.toList:=by
 induction f with
 | zero =>
  intro i hi
  obtain rfl:i=32:=by omega
  rw [crawlwayref07_Bytes.l0.eq_def,if_neg (by decide),List.take_of_length_le (by simp)]
 | succ f ih =>
  intro i hi
  have e1:wr .i64 ((i:Int)+1)=((i+1:Nat):Int):=by rw [wr_i64 (by omega) (by omega)];omega
  have e2:v.toList.take i++[vget v (i:Int)]=v.toList.take (i+1):=by
   rw [vget_nat v i (by omega),List.take_add_one]
   simp [show i<32 by omega]
  rw [crawlwayref07_Bytes.l0.eq_def,if_pos (decide_eq_true (by omega)),if_pos (by omega),if_pos (by simp;omega),e1,e2,ih (i+1) (by omega)]
theorem bytes_eq(v:Vector Int 32):crawlwayref07_Bytes v=some v.toList:=by
 unfold crawlwayref07_Bytes
 have:=bytes_l0 v 32 0 rfl
 rw [show ((0:Nat):Int)=0 from rfl,List.take_zero] at this
 rw [this,bindM_some]
def par(D:List Int×Int):Vector Int 32×Int:=if D.2≠0 then (zk,D.2) else ofR D.1
theorem parse_of(D:List Int×Int)(hO:∀ xs,keys_Of xs=some (ofR xs)):(if (D.2 != 0)=true then (some (zk,D.2)) else (keys_Of D.1>>=fun t6=>some (t6.1,t6.2)))=some (par D):=by
 unfold par
 by_cases h:D.2=0
 ·rw [if_neg (by simp [h]),if_neg (by simp [h]),keysOf_eq,bindM_some]
 ·rw [if_pos (by simpa using h),if_pos h]
theorem parse_ref(D:List Int×Int):(if (D.2 != 0)=true then (some (zk,D.2)) else (crawlwayref07_Of D.1>>=fun t6=>some (t6.1,t6.2)))=some (par D):=by
 unfold par
 by_cases h:D.2=0
 ·rw [if_neg (by simp [h]),if_neg (by simp [h]),refOf_eq,bindM_some]
 ·rw [if_pos (by simpa using h),if_pos h]
theorem ofR_vec(v:Vector Int 32):ofR v.toList=(v,0):=by
 unfold ofR
 rw [if_neg (by simp),if_neg (by simp),lvec_vec]
end Go.Proofs.YtkkmmpofdcccmaaGreatDoor.Key
namespace Go.Proofs.YtkkmmpofdcccmaaGreatDoor.Adr
open E Go.RowKit
def vb(l:List UInt8):Vector Int 16:=lvec 16 (ob l)
theorem vb_toList{l:List UInt8}(h:l.length=16):(vb l).toList=ob l:=by
 unfold vb
 rw [lvec_toList 16 (ob l) (by rw [ob_length];omega),List.take_of_length_le (by rw [ob_length];omega)]
theorem vb_of{v:Vector Int 16}{l:List UInt8}(h:v.toList=ob l):v=vb l:=by
 have hl:l.length=16:=by have:=congrArg List.length h;rw [ob_length] at this;simpa using this.symm
 apply Vector.toList_inj.1
 rw [vb_toList hl,h]
theorem vb_inj{l k:List UInt8}(hl:l.length=16)(hk:k.length=16):vb l=vb k↔l=k:=by
 constructor
 ·intro h
  have:=congrArg Vector.toList h
  rw [vb_toList hl,vb_toList hk] at this
  exact ob_inj this
 ·intro h;rw [h]
def mkA(V:Int)(l:List UInt8):S_api_Addr:={ f_V:=V,f_B:=vb l }
theorem exists_mkA(a:S_api_Addr)(h:ok_api_Addr a):∃ V l,a=mkA V l∧l.length=16∧(Lit.int .i64 V).wf=true:=by
 obtain ⟨l,hl⟩:=exists_ob a.f_B.toList h.2
 have hlen:l.length=16:=by have:=congrArg List.length hl;rw [ob_length] at this;simpa using this.symm
 refine ⟨a.f_V,l,?_,hlen,h.1⟩
 cases a with | mk V B =>
 show S_api_Addr.mk V B=S_api_Addr.mk V (vb l)
 have hB:B=vb l:=vb_of hl
 rw [hB]
theorem mkA_inj{V W:Int}{l k:List UInt8}(hl:l.length=16)(hk:k.length=16):mkA V l=mkA W k↔V=W∧l=k:=by
 unfold mkA
 rw [S_api_Addr.mk.injEq,vb_inj hl hk]
def bg(l:List UInt8)(i:Nat):Nat:=(l.getD i 0).toNat
theorem bg_get{l:List UInt8}{i:Nat}{c:UInt8}(h:l[i]? = some c):bg l i=c.toNat:=by
 unfold bg;rw [List.getD_eq_getElem?_getD,h];rfl
theorem vget_vb{l:List UInt8}(hl:l.length=16)(i:Nat)(hi:i<16):vget (vb l) (i:Int)=(bg l i:Int):=by
 unfold vget
 rw [vb_toList hl,Int.toNat_natCast]
 have hc:l[i]? = some l[i]:=List.getElem?_eq_getElem (by omega)
 rw [bg_get hc,List.getD_eq_getElem?_getD]
 unfold ob
 rw [List.getElem?_map,hc];rfl
theorem vset_vb{l:List UInt8}(hl:l.length=16)(i:Nat)(c:UInt8):vset (vb l) (i:Int) (c.toNat:Int)=vb (l.set i c):=by
 apply Vector.toList_inj.1
 rw [vset_toList,vb_toList hl,vb_toList (by simpa using hl),Int.toNat_natCast]
 unfold ob
 rw [List.map_set]
theorem zero_vb:(Vector.replicate 16 (0:Int):Vector Int 16)=vb (List.replicate 16 0):=by
 apply vb_of
 rfl
theorem zero_mkA:({ f_V:=(0:Int),f_B:=(Vector.replicate 16 (0:Int):(Vector Int 16)) }:S_api_Addr)=mkA 0 (List.replicate 16 0):=by
 unfold mkA;rw [zero_vb]
theorem ob_take(l:List UInt8)(n:Nat):(ob l).take n=ob (l.take n):=by unfold ob;rw [List.map_take]
theorem lsub_ob(l:List UInt8)(n:Nat):lsub (ob l) 0 (n:Int)=ob (l.take n):=by
 unfold lsub
 rw [Int.toNat_natCast,show (0:Int).toNat=0 from rfl,List.drop_zero,ob_take]
def fourL(m:List UInt8):List UInt8:=m++List.replicate 12 0
theorem fourL_len{m:List UInt8}(h:m.length=4):(fourL m).length=16:=by simp [fourL,h]
theorem four_eq(v:Vector Int 4)(m:List UInt8)(h:v.toList=ob m):addr_Four v=some (mkA 4 (fourL m)):=by
 have hm:m.length=4:=by have:=congrArg List.length h;rw [ob_length] at this;simpa using this.symm
 unfold addr_Four mkA
 refine congrArg some ?_
 show S_api_Addr.mk 4 _=S_api_Addr.mk 4 _
 congr 1
 apply vb_of
 show (vcopy (Vector.replicate 16 (0:Int)) (Int.toNat 0) (List.take (Int.toNat (16-0)) v.toList)).toList=_
 rw [h,show Int.toNat (16-0)=16 from rfl,List.take_of_length_le (by rw [ob_length];omega),show Int.toNat 0=0 from rfl,vcopy_toList _ _ _ (by rw [ob_length];omega)]
 rw [List.take_zero,List.nil_append,Nat.zero_add,ob_length,hm]
 unfold fourL
 rw [ob_append];rfl
theorem take4{l:List UInt8}(hl:l.length=16):(lvec 4 (lsub (vb l).toList 0 4)).toList=ob (l.take 4):=by
 have e:lsub (vb l).toList 0 4=ob (l.take 4):=by rw [vb_toList hl];exact lsub_ob l 4
 rw [e,lvec_toList 4 _ (by rw [ob_length];simp;omega),List.take_of_length_le (by rw [ob_length];simp;omega)]
theorem take4_len{l:List UInt8}(hl:l.length=16):4≤(lsub (vb l).toList 0 4).length:=by
 have e:lsub (vb l).toList 0 4=ob (l.take 4):=by rw [vb_toList hl];exact lsub_ob l 4
 rw [e,ob_length];simp;omega
def low(l:List UInt8):Bool:=(l.drop 4).all (·==0)
def rightL(V:Int)(l:List UInt8):Bool:=V==6||(V==4&&low l)
theorem all_zero:∀ (k:List UInt8),k.all (·==0)=true↔k=List.replicate k.length 0
 | []=>by simp
 | c::r=>by
  rw [List.all_cons,Bool.and_eq_true,all_zero r,List.length_cons,List.replicate_succ,List.cons.injEq,beq_iff_eq]
theorem low_iff{l:List UInt8}(hl:l.length=16):low l=true↔l=fourL (l.take 4):=by
 unfold low fourL
 rw [all_zero]
 have h12:(l.drop 4).length=12:=by simp;omega
 rw [h12]
 constructor
 ·intro h
  rw [←h];exact (List.take_append_drop 4 l).symm
 ·intro h
  have h1:l.drop 4=(l.take 4++List.replicate 12 0).drop 4:=congrArg (List.drop 4) h
  rw [h1]
  exact List.drop_left' (by simp;omega)
theorem right_code{V:Int}{l:List UInt8}(hl:l.length=16):addr_Right (mkA V l)=some (rightL V l):=by
 unfold addr_Right rightL
 show (if (V==6)=true then some true else (if (V==4)=true then (if 4≤(lsub (vb l).toList 0 4).length then addr_Four (lvec 4 (lsub (vb l).toList 0 4))>>=fun t8=>some (decide (mkA V l=t8)) else none) else some false))=_
 cases h6:(V==6)
 ·cases h4:(V==4)
  ·rfl
  ·have hV:V=4:=by simpa using h4
   rw [if_neg Bool.false_ne_true,if_pos rfl,if_pos (take4_len hl),four_eq _ _ (take4 hl),bindM_some]
   congr 1
   rw [Bool.false_or,Bool.true_and,Bool.eq_iff_iff,decide_eq_true_eq,mkA_inj hl (fourL_len (by simp;omega)),low_iff hl]
   exact ⟨fun h=>h.2,fun h=>⟨hV,h⟩⟩
 ·rfl
theorem right_loop{V:Int}{l:List UInt8}(hl:l.length=16):∀ (k i:Nat),i+k=16→crawlwayref10_Right.l0 (mkA V l) (i:Int)=some (if (l.drop i).all (·==0)=true then .nx () else .ret false):=by
 intro k
 induction k with
 | zero =>
  intro i hi
  have hz:decide ((i:Int)<16)=false:=decide_eq_false (by omega)
  rw [crawlwayref10_Right.l0.eq_def,hz,List.drop_eq_nil_of_le (by omega)];rfl
 | succ k ih =>
  intro i hi
  have hz:decide ((i:Int)<16)=true:=decide_eq_true (by omega)
  obtain ⟨c,hc,hd⟩:=drop_get l i (by omega)
  have hg:(0:Int)≤(i:Int)∧(i:Int)<16:=by omega
  rw [crawlwayref10_Right.l0.eq_def,hz,if_pos rfl,if_pos hg,hd,List.all_cons]
  show (if (vget (vb l) (i:Int) != 0)=true then _ else _)=_
  rw [vget_vb hl i (by omega),bg_get hc]
  by_cases h0:c=0
  ·subst h0
   have e1:(((0:UInt8).toNat:Int) != 0)=false:=rfl
   rw [e1,if_neg Bool.false_ne_true,wr_i64 (by omega) (by omega),show ((i:Int)+1)=((i+1:Nat):Int) by omega,ih (i+1) (by omega)]
   rw [show ((0:UInt8)==0)=true from rfl,Bool.true_and]
  ·have hne:c.toNat≠0:=fun e=>h0 (UInt8.toNat.inj e)
   have e1:((c.toNat:Int) != 0)=true:=by rw [bne_iff_ne];omega
   have e2:(c==0)=false:=by rw [beq_eq_false_iff_ne];exact h0
   rw [e1,if_pos rfl,e2,Bool.false_and];rfl
theorem right_ref{V:Int}{l:List UInt8}(hl:l.length=16):crawlwayref10_Right (mkA V l)=some (rightL V l):=by
 unfold crawlwayref10_Right rightL
 have h:=right_loop (V:=V) hl 12 4 rfl
 rw [show ((4:Nat):Int)=4 from rfl] at h
 rw [h]
 show (if (V==6)=true then some true else _)=_
 cases h6:(V==6)
 ·rw [if_neg Bool.false_ne_true,bindM_some]
  unfold low
  by_cases hz:(l.drop 4).all (·==0)=true
  ·rw [if_pos hz,hz]
   show some (V==4)=_
   rw [Bool.false_or,Bool.and_true]
  ·rw [if_neg hz]
   have:(l.drop 4).all (·==0)=false:=by simpa using hz
   rw [this,Bool.and_false];rfl
 ·rfl
def widthL(V:Int)(l:List UInt8):Nat:=if rightL V l=true then (if V=4 then 32 else 128) else 0
theorem width_code{V:Int}{l:List UInt8}(hl:l.length=16):addr_Width (mkA V l)=some ((widthL V l:Nat):Int):=by
 unfold addr_Width widthL
 rw [right_code hl,bindM_some]
 cases rightL V l
 ·rfl
 ·show (if (V==4)=true then some (32:Int) else some 128)=_
  by_cases h:V=4
  ·rw [if_pos (by simpa using h),if_pos rfl,if_pos h];rfl
  ·rw [if_neg (by simpa using h),if_pos rfl,if_neg h];rfl
theorem right_cases{V:Int}{l:List UInt8}(h:rightL V l=true):V=6∨(V=4∧low l=true):=by
 unfold rightL at h
 rw [Bool.or_eq_true,Bool.and_eq_true,beq_iff_eq,beq_iff_eq] at h
 exact h
end Go.Proofs.YtkkmmpofdcccmaaGreatDoor.Adr
namespace Go.Proofs.YtkkmmpofdcccmaaGreatDoor.Hex
open E Go.RowKit
theorem small_eq(c:Nat)(hc:c<256):hexes_small c=some ((small c:Nat):Int):=by
 unfold hexes_small small
 by_cases h1:65≤c
 ·by_cases h2:c≤70
  ·rw [if_pos (by simp;omega),if_pos (by simp;omega),if_pos ⟨h1,h2⟩]
   rw [show (32:Int)=((32:Nat):Int) from rfl,ior_nat .u8 rfl c 32 hc (by decide)]
  ·rw [if_pos (by simp;omega),if_neg (by simp;omega),if_neg (by omega)]
 ·rw [if_neg (by simp;omega),if_neg (by omega)]
theorem enc_digit:∀ n:Fin 16,Utf8.encode (bt (⟨#[48,49,50,51,52,53,54,55,56,57,97,98,99,100,101,102]⟩:ByteArray) (n.1:Int))=dig n.1:=by decide +kernel
theorem group_l0(n:Nat):∀ o:ByteArray,n<65536→o.size+n≤100000→hexes_Group.l0 n o=some (gl n o):=by
 induction n using Nat.strongRecOn with
 | _ n ih =>
  intro o hn ho
  rw [hexes_Group.l0.eq_def]
  have e1:iand .u16 (n:Int) 15=((n%16:Nat):Int):=by
   rw [show (15:Int)=((15:Nat):Int) from rfl,iand_nat .u16 rfl n 15 hn (by decide),Nat.and_two_pow_sub_one_eq_mod n 4]
  have e2:ishr .u16 (n:Int) 4=((n/16:Nat):Int):=ishr_nat .u16 n 4 (by decide)
  have e3:=enc_digit ⟨n%16,by omega⟩
  simp only at e3
  have hd:(dig (n%16)).size=1:=rfl
  simp only [e1,e2,e3,hd,tab_size]
  rw [if_pos (by omega),if_pos (by omega)]
  unfold gl
  by_cases h:n<16
  ·rw [if_pos (by simp;omega),if_pos h,Nat.mod_eq_of_lt h]
  ·rw [if_neg (by simp;omega),if_neg h]
   exact ih _ (by omega) _ (by omega) (by rw [ByteArray.size_append,hd];omega)
theorem group_eq(n:Nat)(h:n<65536):hexes_Group n=some (grp n):=by
 unfold hexes_Group
 have:=group_l0 n ⟨#[]⟩ h (by show 0+n≤_;omega)
 rw [this,bindM_some,gl_eq,show (⟨#[]⟩:ByteArray)=ByteArray.empty from rfl,ByteArray.append_empty]
theorem read_l0(s:ByteArray)(hs:s.size≤4)(f:Nat):∀ (i n:Nat),i+f=s.size→n<16 ^ i →
  hexes_ReadGroup.l0 s n i=some (match rd (s.data.toList.drop i) n with | some m=>.nx (m:Int) | none=>.ret (0,5)):=by
 induction f with
 | zero =>
  intro i n hi hn
  rw [hexes_ReadGroup.l0.eq_def,if_neg (by simp;omega),List.drop_eq_nil_of_le (by simp;omega),rd_nil]
 | succ f ih =>
  intro i n hi hn
  have hlt:i<s.size:=by omega
  obtain ⟨c,hc⟩:∃ c,s.data.toList[i]? = some c:=⟨_,ba_get s i hlt⟩
  have hdrop:s.data.toList.drop i=c::s.data.toList.drop (i+1):=by
   have hl:i<s.data.toList.length:=by simpa using hlt
   rw [List.drop_eq_getElem_cons hl]
   congr 1
   rw [List.getElem?_eq_getElem hl] at hc
   exact Option.some.inj hc
  have hb:bt s i=c.toNat:=by rw [bt_nat,hc];rfl
  have hcl:=c.toNat_lt
  have hv1 : -1≤val c.toNat true:=(val_lt ⟨c.toNat,hcl⟩ true).1
  have hv2:val c.toNat true<16:=(val_lt ⟨c.toNat,hcl⟩ true).2
  have hpow:(16:Nat) ^ i≤16 ^ 3:=Nat.pow_le_pow_right (by decide) (by omega)
  have e0:wr .i64 ((i:Int)+1)=((i+1:Nat):Int):=by rw [wr_i64 (by omega) (by omega)];omega
  rw [hexes_ReadGroup.l0.eq_def,if_pos (by simp;omega),if_pos (by omega),hb,small_eq _ hcl,hdrop,rd_cons]
  simp only [bindM_some,value_eq,small_value _ hcl,e0]
  by_cases hneg:val c.toNat true<0
  ·rw [if_pos (by simp;omega),if_pos hneg]
  ·rw [if_neg (by simp;omega),if_neg hneg]
   obtain ⟨v,hv⟩:∃ v:Nat,val c.toNat true=v:=⟨(val c.toNat true).toNat,by omega⟩
   have e1:wr .u16 (val c.toNat true)=(v:Int):=by rw [hv,wr_u16 (by omega) (by omega)]
   have e2:ishl .u16 (n:Int) 4=((n*16:Nat):Int):=by
    rw [show (4:Int)=((4:Nat):Int) from rfl,ishl_nat .u16 rfl n 4 (by decide)]
    rw [Nat.mod_eq_of_lt (by show n*2 ^ 4<2 ^ 16;omega)]
   have e3:ior .u16 ((n*16:Nat):Int) (v:Int)=((16*n+v:Nat):Int):=by
    rw [ior_nat .u16 rfl _ _ (by show n*16<2 ^ 16;omega) (by show v<2 ^ 16;omega)]
    rw [show n*16=n <<< 4 by rw [Nat.shiftLeft_eq],←Nat.shiftLeft_add_eq_or_of_lt (by omega:v<2 ^ 4),Nat.shiftLeft_eq]
    congr 1;omega
   rw [e1,e2,e3,ih (i+1) (16*n+v) (by omega) (by rw [Nat.pow_succ];omega),hv]
   simp
theorem read_eq(s:ByteArray):hexes_ReadGroup s=some (match read s with | some n=>((n:Int),0) | none=>(0,5)):=by
 unfold hexes_ReadGroup read
 by_cases h1:s.size<1
 ·rw [if_pos (by simp;omega),if_pos (.inl h1)]
 ·by_cases h2:s.size>4
  ·rw [if_neg (by simp;omega),if_pos (by simp;omega),if_pos (.inr h2)]
  ·rw [if_neg (by simp;omega),if_neg (by simp;omega),if_neg (by omega)]
   have:=read_l0 s (by omega) s.size 0 0 (by omega) (by simp)
   rw [show ((0:Nat):Int)=0 from rfl,List.drop_zero] at this
   rw [this]
   simp only [bindM_some]
   cases rd s.data.toList 0<;>rfl
theorem read_lt(s:ByteArray)(n:Nat)(h:read s=some n):n<65536:=by
 unfold read at h
 split at h
 ·cases h
 ·have:=rd_lt _ _ _ h
  have hl:s.data.toList.length≤4:=by simp;omega
  have:(16:Nat) ^ s.data.toList.length≤16 ^ 4:=Nat.pow_le_pow_right (by decide) hl
  omega
theorem refGroup_eq(n:Nat):n<65536→crawlwayref05_Group n=some (grp n):=by
 induction n using Nat.strongRecOn with
 | _ n ih =>
  intro h
  rw [crawlwayref05_Group.eq_def]
  unfold grp
  by_cases hn:n<16
  ·rw [if_pos (by simp;omega),if_pos hn,digit_eq n hn];rfl
  ·have e1:wr .i64 (Int.tdiv (n:Int) 16)=((n/16:Nat):Int):=by
    rw [Int.tdiv_eq_ediv_of_nonneg (by omega),wr_i64 (by omega) (by omega)];omega
   have e2:Int.tmod (n:Int) 16=((n%16:Nat):Int):=by rw [Int.tmod_eq_emod_of_nonneg (by omega)];omega
   have hd:(dig (n%16)).size=1:=rfl
   have hs:=(grp_size (n/16)).2 3 (by omega)
   rw [if_neg (by simp;omega),if_neg hn,e1,ih _ (by omega) (by omega),e2]
   simp only [bindM_some,digit_eq (n%16) (by omega),hd]
   rw [if_pos (by omega)]
theorem refRead_l0(s:ByteArray)(hs:s.size≤4)(f:Nat):∀ (i n:Nat),i+f=s.size→n<16 ^ i →
  crawlwayref05_ReadGroup.l0 s n i=some (match rd (s.data.toList.drop i) n with | some m=>.nx (m:Int) | none=>.ret (-1)):=by
 induction f with
 | zero =>
  intro i n hi hn
  rw [crawlwayref05_ReadGroup.l0.eq_def,if_neg (by simp;omega),List.drop_eq_nil_of_le (by simp;omega),rd_nil]
 | succ f ih =>
  intro i n hi hn
  have hlt:i<s.size:=by omega
  obtain ⟨c,hc⟩:∃ c,s.data.toList[i]? = some c:=⟨_,ba_get s i hlt⟩
  have hdrop:s.data.toList.drop i=c::s.data.toList.drop (i+1):=by
   have hl:i<s.data.toList.length:=by simpa using hlt
   rw [List.drop_eq_getElem_cons hl]
   congr 1
   rw [List.getElem?_eq_getElem hl] at hc
   exact Option.some.inj hc
  have hb:bt s i=c.toNat:=by rw [bt_nat,hc];rfl
  have hcl:=c.toNat_lt
  have hv1 : -1≤val c.toNat true:=(val_lt ⟨c.toNat,hcl⟩ true).1
  have hv2:val c.toNat true<16:=(val_lt ⟨c.toNat,hcl⟩ true).2
  have hpow:(16:Nat) ^ i≤16 ^ 3:=Nat.pow_le_pow_right (by decide) (by omega)
  have e0:wr .i64 ((i:Int)+1)=((i+1:Nat):Int):=by rw [wr_i64 (by omega) (by omega)];omega
  rw [crawlwayref05_ReadGroup.l0.eq_def,if_pos (by simp;omega),if_pos (by omega),hb,refValue_eq _ _ hcl,hdrop,rd_cons]
  simp only [bindM_some,e0]
  by_cases hneg:val c.toNat true<0
  ·rw [if_pos (by simp;omega),if_pos hneg]
  ·rw [if_neg (by simp;omega),if_neg hneg]
   obtain ⟨v,hv⟩:∃ v:Nat,val c.toNat true=v:=⟨(val c.toNat true).toNat,by omega⟩
   have e1:wr .i64 (wr .i64 (16*(n:Int))+(v:Int))=((16*n+v:Nat):Int):=by
    have e2:wr .i64 (16*(n:Int))=16*(n:Int):=wr_i64 (by omega) (by omega)
    rw [e2,wr_i64 (by omega) (by omega)];omega
   rw [hv,e1,ih (i+1) (16*n+v) (by omega) (by rw [Nat.pow_succ];omega)]
   simp
theorem refRead_eq(s:ByteArray):crawlwayref05_ReadGroup s=some (match read s with | some n=>(n:Int) | none=>-1):=by
 unfold crawlwayref05_ReadGroup read
 by_cases h1:s.size<1
 ·rw [if_pos (by simp;omega),if_pos (.inl h1)]
 ·by_cases h2:s.size>4
  ·rw [if_neg (by simp;omega),if_pos (by simp;omega),if_pos (.inr h2)]
  ·rw [if_neg (by simp;omega),if_neg (by simp;omega),if_neg (by omega)]
   have:=refRead_l0 s (by omega) s.size 0 0 (by omega) (by simp)
   rw [show ((0:Nat):Int)=0 from rfl,List.drop_zero] at this
   rw [this]
   simp only [bindM_some]
   cases rd s.data.toList 0<;>rfl
end Go.Proofs.YtkkmmpofdcccmaaGreatDoor.Hex
namespace Go.Proofs.YtkkmmpofdcccmaaGreatDoor
open E Go.RowKit
def bs(l:List UInt8):ByteArray:=⟨l.toArray⟩
theorem bs_list(l:List UInt8):(bs l).data.toList=l:=by simp [bs]
theorem bs_size(l:List UInt8):(bs l).size=l.length:=by
 show (bs l).data.size=_
 simp [bs]
theorem eq_bs(s:ByteArray):s=bs s.data.toList:=by apply mk_inj;rw [bs_list]
theorem bs_inj{l k:List UInt8}(h:bs l=bs k):l=k:=by rw [←bs_list l,h,bs_list]
theorem bs_extract(l:List UInt8)(i j:Nat):(bs l).extract i j=bs ((l.take j).drop i):=by
 apply mk_inj
 rw [bs_list]
 simp [bs,ByteArray.data_extract,List.drop_take]
def parts(c:UInt8):List UInt8→List (List UInt8)
 | []=>[[]]
 | x::r=>if x=c then []::parts c r else (x::(parts c r).headD [])::(parts c r).tail
theorem parts_ne(c:UInt8):∀ (l:List UInt8),parts c l≠[]
 | []=>by simp [parts]
 | x::r=>by unfold parts;split<;>simp
theorem parts_none(c:UInt8):∀ (l:List UInt8),(∀ x∈l,x≠c)→parts c l=[l]
 | [],_=>rfl
 | x::r,h=>by
  unfold parts
  rw [if_neg (h x (List.mem_cons_self ..)),parts_none c r fun y hy=>h y (List.mem_cons_of_mem _ hy)];rfl
theorem parts_cons(c:UInt8)(r:List UInt8):∀ (p:List UInt8),(∀ x∈p,x≠c)→parts c (p++c::r)=p::parts c r
 | [],_=>by
  show (if c=c then []::parts c r else (c::(parts c r).headD [])::(parts c r).tail)=_
  rw [if_pos rfl]
 | x::p,h=>by
  show parts c (x::(p++c::r))=_
  rw [parts,if_neg (h x (List.mem_cons_self ..)),parts_cons c r p fun y hy=>h y (List.mem_cons_of_mem _ hy)];rfl
theorem parts_len(c:UInt8):∀ (l:List UInt8),(parts c l).length≤l.length+1
 | []=>by simp [parts]
 | x::r=>by
  have h:=parts_len c r
  have hne:=parts_ne c r
  unfold parts
  split
  ·simp;omega
  ·cases hp:parts c r with
   | nil=>exact absurd hp hne
   | cons a b=>rw [hp] at h;simp at h ⊢;omega
theorem u8_back(c:UInt8):Nat.toUInt8 (Int.toNat (c.toNat:Int))=c:=by
 rw [Int.toNat_natCast];exact UInt8.ofNat_toNat
theorem cut_none(l:List UInt8)(c:UInt8)(h:∀ x∈l,x≠c):lines_Cut (bs l) (c.toNat:Int)=some (bs l,⟨#[]⟩,false):=by
 unfold lines_Cut
 rw [u8_back,bs_list]
 have hi:Lib.indexByte l c = -1:=by
  have h1:=Lib.indexByte_ge l c
  by_cases h2:Lib.indexByte l c = -1
  ·exact h2
  ·obtain ⟨o,ho⟩:=Int.eq_ofNat_of_zero_le (show 0≤Lib.indexByte l c by omega)
   have:=(Lib.indexByte_some ho).1
   exact absurd rfl (h c (List.mem_of_getElem? this))
 rw [hi,if_pos (by decide)]
theorem index_at(p r:List UInt8)(c:UInt8)(h:∀ x∈p,x≠c):Lib.indexByte (p++c::r) c=(p.length:Int):=by
 have h1:=Lib.indexByte_ge (p++c::r) c
 have hc:(p++c::r)[p.length]? = some c:=by rw [List.getElem?_append_right (Nat.le_refl _),Nat.sub_self];rfl
 by_cases h2:Lib.indexByte (p++c::r) c = -1
 ·exact absurd hc (Lib.indexByte_none h2 p.length)
 ·obtain ⟨o,ho⟩:=Int.eq_ofNat_of_zero_le (show 0≤Lib.indexByte (p++c::r) c by omega)
  obtain ⟨ha,hb⟩:=Lib.indexByte_some ho
  have h3:¬ p.length<o:=fun hlt=>hb p.length hlt hc
  have h4:¬ o<p.length:=fun hlt=>by
   rw [List.getElem?_append_left hlt] at ha
   exact h c (List.mem_of_getElem? ha) rfl
  rw [ho];omega
theorem cut_some(p r:List UInt8)(c:UInt8)(h:∀ x∈p,x≠c)(hl:p.length+r.length<1000000):lines_Cut (bs (p++c::r)) (c.toNat:Int)=some (bs p,bs r,true):=by
 unfold lines_Cut
 rw [u8_back,bs_list,index_at p r c h,bs_size]
 have hlen:(p++c::r).length=p.length+(r.length+1):=by simp
 have e1:wr .i64 ((p.length:Int)+1)=((p.length+1:Nat):Int):=by rw [wr_i64 (by omega) (by omega)];omega
 have g1:(0:Int)≤0∧(0:Int)≤(p.length:Int)∧(p.length:Int)≤((p++c::r).length:Int):=by omega
 have g2:(0:Int)≤((p.length+1:Nat):Int)∧((p.length+1:Nat):Int)≤((p++c::r).length:Int)∧((p++c::r).length:Int)≤((p++c::r).length:Int):=by omega
 rw [if_neg (by rw [decide_eq_true_eq];omega),e1,if_pos g1,if_pos g2]
 refine congrArg some ?_
 simp only [Int.toNat_natCast,bs_extract,show (0:Int).toNat=0 from rfl,List.drop_zero]
 have t1:(p++c::r).take p.length=p:=List.take_left' rfl
 have t2:((p++c::r).take (p++c::r).length).drop (p.length+1)=r:=by
  rw [List.take_of_length_le (Nat.le_refl _),List.drop_append,List.drop_eq_nil_of_le (by omega),show p.length+1-p.length=1 by omega];rfl
 rw [t1,t2]
theorem split_at(c:UInt8):∀ (l:List UInt8),(∀ x∈l,x≠c)∨∃ p r,l=p++c::r∧∀ x∈p,x≠c
 | []=>.inl fun x h=>by cases h
 | x::l=>by
  by_cases hx:x=c
  ·exact .inr ⟨[],l,by rw [hx];rfl,fun y h=>by cases h⟩
  ·rcases split_at c l with h | ⟨p,r,rfl,h⟩
   ·refine .inl fun y hy=>?_
    rcases List.mem_cons.1 hy with rfl | hy
    ·exact hx
    ·exact h y hy
   ·refine .inr ⟨x::p,r,rfl,fun y hy=>?_⟩
    rcases List.mem_cons.1 hy with rfl | hy
    ·exact hx
    ·exact h y hy
theorem parts_loop(c:UInt8):∀ (k:Nat) (l:List UInt8) (acc:List ByteArray),l.length≤k→acc.length+l.length<1000000 →
  lines_Parts.l0 (c.toNat:Int) (bs l) acc=some (acc++(parts c l).map bs):=by
 intro k
 induction k with
 | zero =>
  intro l acc hk hb
  obtain rfl:l=[]:=List.eq_nil_of_length_eq_zero (by omega)
  rw [lines_Parts.l0.eq_def,cut_none [] c (fun x h=>by cases h),bindM_some,if_pos (by simp at hb;omega)];rfl
 | succ k ih =>
  intro l acc hk hb
  rcases split_at c l with h | ⟨p,r,rfl,h⟩
  ·rw [lines_Parts.l0.eq_def,cut_none l c h,bindM_some,if_pos (by omega),parts_none c l h];rfl
  ·have hlen:(p++c::r).length=p.length+(r.length+1):=by simp
   rw [lines_Parts.l0.eq_def,cut_some p r c h (by omega),bindM_some,if_pos (by omega),parts_cons c r p h]
   show lines_Parts.l0 (c.toNat:Int) (bs r) (acc++[bs p])=_
   rw [ih r (acc++[bs p]) (by omega) (by simp;omega)]
   simp
theorem parts_code(c:UInt8)(l:List UInt8)(h:l.length<1000000):lines_Parts (bs l) (c.toNat:Int)=some ((parts c l).map bs):=by
 unfold lines_Parts
 rw [parts_loop c l.length l [] (Nat.le_refl _) (by simp;omega)];rfl
theorem refParts_loop(c:UInt8)(l:List UInt8)(hl:l.length<1000000):∀ (k fr i:Nat) (out:List ByteArray),l.length-i=k→fr≤i→i≤l.length→out.length≤i→(∀ x∈(l.take i).drop fr,x≠c) →
  ∃ (fr':Nat) (out':List ByteArray),crawlwayref06_Parts.l0 (bs l) (c.toNat:Int) (fr:Int) out (i:Int)=some (((fr':Nat):Int),out')∧fr'≤l.length∧out'.length≤l.length∧out'++[bs (l.drop fr')]=out++(parts c (l.drop fr)).map bs:=by
 intro k
 induction k with
 | zero =>
  intro fr i out hk hfi hi ho hx
  have hil:i=l.length:=by omega
  subst hil
  rw [List.take_of_length_le (Nat.le_refl _)] at hx
  refine ⟨fr,out,?_,by omega,by omega,by rw [parts_none c _ hx];rfl⟩
  rw [crawlwayref06_Parts.l0.eq_def,bs_size,if_neg (by rw [decide_eq_true_eq];omega)]
 | succ k ih =>
  intro fr i out hk hfi hi ho hx
  obtain ⟨b,hb,hd⟩:=drop_get l i (by omega)
  have hbt:bt (bs l) (i:Int)=(b.toNat:Int):=bt_at (by rw [bs_list];exact hb)
  have hi1:wr .i64 ((i:Int)+1)=((i+1:Nat):Int):=by rw [wr_i64 (by omega) (by omega)];omega
  have g0:(0:Int)≤(i:Int)∧(i:Int)<((l.length:Nat):Int):=by omega
  rw [crawlwayref06_Parts.l0.eq_def,bs_size,if_pos (decide_eq_true (by omega)),if_pos g0,hbt,hi1]
  by_cases hbc:b=c
  ·subst hbc
   have g1:(0:Int)≤(fr:Int)∧(fr:Int)≤(i:Int)∧(i:Int)≤((l.length:Nat):Int):=by omega
   rw [if_pos (beq_self_eq_true _),if_pos g1,if_pos (by omega)]
   simp only [Int.toNat_natCast,bs_extract]
   obtain ⟨fr',out',h1,h2,h3,h4⟩:=ih (i+1) (i+1) (out++[bs ((l.take i).drop fr)]) (by omega) (Nat.le_refl _) (by omega) (by simp;omega) (by
    intro x hx2
    rw [List.drop_eq_nil_of_le (by simp;omega)] at hx2
    cases hx2)
   refine ⟨fr',out',h1,h2,h3,?_⟩
   rw [h4]
   have hsplit:l.drop fr=(l.take i).drop fr++b::l.drop (i+1):=by
    rw [←hd]
    have:=List.take_append_drop (i-fr) (l.drop fr)
    rw [List.drop_drop,show fr+(i-fr)=i by omega] at this
    rw [List.drop_take]
    exact this.symm
   rw [hsplit,parts_cons b _ _ hx]
   simp
  ·have hne:((b.toNat:Int)==(c.toNat:Int))=false:=by
    rw [beq_eq_false_iff_ne]
    intro e
    exact hbc (UInt8.toNat.inj (by omega))
   rw [hne,if_neg Bool.false_ne_true]
   refine ih fr (i+1) out (by omega) (by omega) (by omega) (by omega) ?_
   intro x hx2
   have:(l.take (i+1)).drop fr=(l.take i).drop fr++[b]:=by
    rw [List.take_add_one,hb]
    rw [List.drop_append_of_le_length (by simp;omega)];rfl
   rw [this] at hx2
   rcases List.mem_append.1 hx2 with h | h
   ·exact hx x h
   ·have:x=b:=by simpa using h
    rw [this];exact hbc
theorem parts_ref(c:UInt8)(l:List UInt8)(h:l.length<1000000):crawlwayref06_Parts (bs l) (c.toNat:Int)=some ((parts c l).map bs):=by
 obtain ⟨fr',out',h1,h2,h3,h4⟩:=refParts_loop c l h l.length 0 0 [] rfl (Nat.le_refl _) (Nat.zero_le _) (Nat.zero_le _) (by
  intro x hx;rw [List.take_zero] at hx;cases hx)
 rw [show ((0:Nat):Int)=0 from rfl] at h1
 unfold crawlwayref06_Parts
 have g:(0:Int)≤(fr':Int)∧(fr':Int)≤((l.length:Nat):Int)∧((l.length:Nat):Int)≤((l.length:Nat):Int):=by omega
 rw [h1,bindM_some,bs_size,if_pos g,if_pos (by show (out'.length+1)*16≤_;omega)]
 simp only [Int.toNat_natCast,bs_extract]
 rw [List.take_of_length_le (Nat.le_refl _),h4,List.drop_zero];rfl
theorem set_step{α:Type}(A l:List α)(i:Nat)(x:α)(hA:A.length=l.length)(hx:A[i]? = some x):(A.take i++l.drop i).set i x=A.take (i+1)++l.drop (i+1):=by
 have hi:i<A.length:=(List.getElem?_eq_some_iff.1 hx).1
 apply List.ext_getElem?
 intro j
 have h1:(A.take i).length=i:=by simp;omega
 have h2:(A.take (i+1)).length=i+1:=by simp;omega
 rw [List.getElem?_set]
 by_cases hj:i=j
 ·subst hj
  have hl:i<(A.take i++l.drop i).length:=by simp;omega
  rw [if_pos rfl,if_pos hl,List.getElem?_append_left (by omega),List.getElem?_take,if_pos (by omega),hx]
 ·rw [if_neg hj]
  by_cases hlt:j<i
  ·rw [List.getElem?_append_left (by omega),List.getElem?_append_left (by omega),List.getElem?_take,List.getElem?_take,if_pos hlt,if_pos (by omega)]
  ·rw [List.getElem?_append_right (by omega),List.getElem?_append_right (by omega),List.getElem?_drop,List.getElem?_drop,h1,h2]
   congr 1;omega
theorem q_size(n:Nat)(h:n<256):(fmtU (n:Int)).size≤3:=by
 have key:∀ n:Nat,n<256→(Lib.decDigits n).length≤3:=by
  intro n hn
  by_cases h1:n<10
  ·rw [decDigits_small h1];simp
  ·rw [decDigits_big h1,List.length_append]
   by_cases h2:n/10<10
   ·rw [decDigits_small h2];simp
   ·rw [decDigits_big h2,decDigits_small (by omega),List.length_append];simp
 have:=key n h
 rw [←size_toList,fmtU_list]
 omega
def qT(m:List UInt8):List ByteArray:=m.map fun b=>fmtU (b.toNat:Int)
def v4(m:List UInt8):Vector Int 4:=lvec 4 (ob m)
theorem v4_toList{m:List UInt8}(hm:m.length=4):(v4 m).toList=ob m:=by
 unfold v4
 rw [lvec_toList 4 _ (by rw [ob_length];omega),List.take_of_length_le (by rw [ob_length];omega)]
theorem v4_of{v:Vector Int 4}{m:List UInt8}(h:v.toList=ob m):v=v4 m:=by
 have hl:m.length=4:=by have:=congrArg List.length h;rw [ob_length] at this;simpa using this.symm
 apply Vector.toList_inj.1
 rw [v4_toList hl,h]
theorem vget_v4{m:List UInt8}(hm:m.length=4)(i:Nat)(c:UInt8)(hc:m[i]? = some c):vget (v4 m) (i:Int)=(c.toNat:Int):=by
 unfold vget
 rw [v4_toList hm,Int.toNat_natCast,List.getD_eq_getElem?_getD]
 unfold ob
 rw [List.getElem?_map,hc];rfl
theorem vset_v4{m:List UInt8}(hm:m.length=4)(i:Nat)(c:UInt8):vset (v4 m) (i:Int) (c.toNat:Int)=v4 (m.set i c):=by
 apply Vector.toList_inj.1
 rw [vset_toList,v4_toList hm,v4_toList (by simpa using hm),Int.toNat_natCast]
 unfold ob
 rw [List.map_set]
def vs4(xs:List ByteArray):Vector ByteArray 4:=lvec 4 xs
theorem vs4_toList{xs:List ByteArray}(h:xs.length=4):(vs4 xs).toList=xs:=by
 unfold vs4
 rw [lvec_toList 4 _ (by omega),List.take_of_length_le (by omega)]
theorem vset_vs4{xs:List ByteArray}(h:xs.length=4)(i:Nat)(t:ByteArray):vset (vs4 xs) (i:Int) t=vs4 (xs.set i t):=by
 apply Vector.toList_inj.1
 rw [vset_toList,vs4_toList h,vs4_toList (by simpa using h),Int.toNat_natCast]
theorem quad_loop{m:List UInt8}(hm:m.length=4):∀ (k i:Nat),i+k=4 →
  quad_Text.l0 (v4 m) (i:Int) (vs4 ((qT m).take i++(List.replicate 4 (⟨#[]⟩:ByteArray)).drop i))=some (vs4 (qT m)):=by
 have hql:(qT m).length=4:=by simp [qT,hm]
 intro k
 induction k with
 | zero =>
  intro i hi
  have hz:decide ((i:Int)<4)=false:=decide_eq_false (by omega)
  rw [quad_Text.l0.eq_def,hz,if_neg Bool.false_ne_true,List.drop_eq_nil_of_le (by simp;omega),List.append_nil,List.take_of_length_le (by omega)]
 | succ k ih =>
  intro i hi
  have hz:decide ((i:Int)<4)=true:=decide_eq_true (by omega)
  have hc:m[i]? = some m[i]:=List.getElem?_eq_getElem (by omega)
  generalize m[i]=c at hc
  have hcl:=c.toNat_lt
  have hg:(0:Int)≤(i:Int)∧(i:Int)<4:=by omega
  have hA:((qT m).take i++(List.replicate 4 (⟨#[]⟩:ByteArray)).drop i).length=4:=by simp;omega
  have hstep:=set_step (qT m) (List.replicate 4 (⟨#[]⟩:ByteArray)) i (fmtU (c.toNat:Int)) (by simp;omega) (by unfold qT;rw [List.getElem?_map,hc];rfl)
  rw [quad_Text.l0.eq_def,hz,if_pos rfl,if_pos hg,vget_v4 hm i c hc,wr_u64 (by omega) (by omega),text_code _ (by omega),bindM_some,if_pos hg,vset_vs4 hA,hstep,wr_i64 (by omega) (by omega),show ((i:Int)+1)=((i+1:Nat):Int) by omega]
  exact ih (i+1) (by omega)
def qText(m:List UInt8):List UInt8:=match m with
 | [a,b,c,d]=>Lib.decDigits a.toNat++46::(Lib.decDigits b.toNat++46::(Lib.decDigits c.toNat++46::Lib.decDigits d.toNat))
 | _=>[]
theorem digits3(n:Nat)(h:n<256):(Lib.decDigits n).length≤3:=by
 have:=q_size n h
 rw [←size_toList,fmtU_list] at this
 exact this
theorem qText_len{m:List UInt8}(hm:m.length=4):(qText m).length≤15:=by
 match m,hm with
 | [a,b,c,d],_ =>
  have h1:=digits3 a.toNat a.toNat_lt
  have h2:=digits3 b.toNat b.toNat_lt
  have h3:=digits3 c.toNat c.toNat_lt
  have h4:=digits3 d.toNat d.toNat_lt
  simp only [qText,List.length_append,List.length_cons]
  omega
theorem bjoin_qT{m:List UInt8}(hm:m.length=4):bjoin (qT m) ⟨#[46]⟩=bs (qText m):=by
 match m,hm with
 | [a,b,c,d],_ =>
  apply mk_inj
  rw [bs_list]
  show (bjoin [fmtU (a.toNat:Int),fmtU (b.toNat:Int),fmtU (c.toNat:Int),fmtU (d.toNat:Int)] ⟨#[46]⟩).data.toList=_
  unfold bjoin Lib.join
  simp only [List.map_cons,List.map_nil,fmtU_list]
  simp [List.intercalate,List.intersperse,qText]
theorem quad_text{m:List UInt8}(hm:m.length=4):quad_Text (v4 m)=some (bs (qText m)):=by
 have hql:(qT m).length=4:=by simp [qT,hm]
 unfold quad_Text
 have h:=quad_loop hm 4 0 rfl
 rw [List.take_zero,List.nil_append,List.drop_zero,show ((0:Nat):Int)=0 from rfl] at h
 have hz:(Vector.replicate 4 (⟨#[]⟩:ByteArray):Vector ByteArray 4)=vs4 (List.replicate 4 (⟨#[]⟩:ByteArray)):=by
  apply Vector.toList_inj.1;rw [vs4_toList (by simp)];rfl
 have hsz:=qText_len hm
 rw [hz,h,bindM_some,vs4_toList hql,if_pos (by omega),bjoin_qT hm,if_pos (by rw [bs_size];omega)]
theorem refQuad_loop{m:List UInt8}(hm:m.length=4):crawlwayref08_Text (v4 m)=some (bs (qText m)):=by
 match m,hm with
 | [a,b,c,d],hm =>
  have ha:=a.toNat_lt
  have hb:=b.toNat_lt
  have hc:=c.toNat_lt
  have hd:=d.toNat_lt
  have g0:vget (v4 [a,b,c,d]) 0=(a.toNat:Int):=vget_v4 hm 0 a rfl
  have g1:vget (v4 [a,b,c,d]) 1=(b.toNat:Int):=vget_v4 hm 1 b rfl
  have g2:vget (v4 [a,b,c,d]) 2=(c.toNat:Int):=vget_v4 hm 2 c rfl
  have g3:vget (v4 [a,b,c,d]) 3=(d.toNat:Int):=vget_v4 hm 3 d rfl
  have s0:=q_size a.toNat ha
  have s1:=q_size b.toNat hb
  have s2:=q_size c.toNat hc
  have s3:=q_size d.toNat hd
  have hdot:(⟨#[46]⟩:ByteArray).size=1:=rfl
  have w1:wr .i64 ((1:Int)+1)=2:=by rw [wr_i64 (by omega) (by omega)];rfl
  have w2:wr .i64 ((2:Int)+1)=3:=by rw [wr_i64 (by omega) (by omega)];rfl
  have w3:wr .i64 ((3:Int)+1)=4:=by rw [wr_i64 (by omega) (by omega)];rfl
  have d1:decide ((1:Int)<4)=true:=rfl
  have d2:decide ((2:Int)<4)=true:=rfl
  have d3:decide ((3:Int)<4)=true:=rfl
  have d4:decide ((4:Int)<4)=false:=rfl
  have i1:(0:Int)≤1∧(1:Int)<4:=by omega
  have i2:(0:Int)≤2∧(2:Int)<4:=by omega
  have i3:(0:Int)≤3∧(3:Int)<4:=by omega
  unfold crawlwayref08_Text
  rw [g0,wr_u64 (by omega) (by omega),text_ref _ (by omega),bindM_some]
  rw [crawlwayref08_Text.l0.eq_def,d1,if_pos rfl,if_pos (by omega),if_pos i1,g1,wr_u64 (by omega) (by omega),text_ref _ (by omega),bindM_some,if_pos (by rw [ByteArray.size_append];omega),w1]
  rw [crawlwayref08_Text.l0.eq_def,d2,if_pos rfl,if_pos (by simp only [ByteArray.size_append];omega),if_pos i2,g2,wr_u64 (by omega) (by omega),text_ref _ (by omega),bindM_some,if_pos (by simp only [ByteArray.size_append];omega),w2]
  rw [crawlwayref08_Text.l0.eq_def,d3,if_pos rfl,if_pos (by simp only [ByteArray.size_append];omega),if_pos i3,g3,wr_u64 (by omega) (by omega),text_ref _ (by omega),bindM_some,if_pos (by simp only [ByteArray.size_append];omega),w3]
  rw [crawlwayref08_Text.l0.eq_def,d4,if_neg Bool.false_ne_true,bindM_some]
  refine congrArg some ?_
  apply mk_inj
  rw [bs_list]
  simp only [append_list,fmtU_list,qText]
  simp
def pqs:List (List UInt8)→List UInt8→Nat×List UInt8
 | [],acc=>(0,acc)
 | p::r,acc=>if (rdU p 255).2=0 then pqs r (acc++[UInt8.ofNat (rdU p 255).1]) else ((rdU p 255).2,acc)
theorem rdU_le(l:List UInt8)(most:Nat):(rdU l most).1≤most:=by
 unfold rdU;split
 ·exact Nat.zero_le _
 ·split
  ·assumption
  ·exact Nat.zero_le _
def quadP(l:List UInt8):Vector Int 4×Nat :=
 if (parts 46 l).length=4 then (if (pqs (parts 46 l) []).1=0 then (v4 (pqs (parts 46 l) []).2,0) else (Vector.replicate 4 0,(pqs (parts 46 l) []).1)) else (Vector.replicate 4 0,5)
def viOf(p:Vector Int 4×Nat):Vector Int 4×Int:=(p.1,(p.2:Int))
theorem pad_set(acc:List UInt8)(i:Nat)(c:UInt8)(hi:acc.length=i)(h4:i<4):(acc++List.replicate (4-i) 0).set i c=(acc++[c])++List.replicate (4-(i+1)) 0:=by
 subst hi
 rw [List.set_append_right _ _ (Nat.le_refl _),Nat.sub_self,show 4-acc.length=(4-(acc.length+1))+1 by omega,List.replicate_succ]
 simp
theorem quadParse_loop(ps:List (List UInt8))(hps:ps.length=4)(hsz:∀ p∈ps,p.length<1000000):∀ (k i:Nat) (acc:List UInt8),i+k=4→acc.length=i →
  quad_Parse.l0 (ps.map bs) (i:Int) (v4 (acc++List.replicate (4-i) 0)) =
   some (if (pqs (ps.drop i) acc).1=0 then .nx (v4 (pqs (ps.drop i) acc).2) else .ret (Vector.replicate 4 0,((pqs (ps.drop i) acc).1:Int))):=by
 intro k
 induction k with
 | zero =>
  intro i acc hi ha
  have:i=4:=by omega
  subst this
  rw [quad_Parse.l0.eq_def,if_neg (by rw [decide_eq_true_eq,List.length_map];omega),List.drop_eq_nil_of_le (by omega)]
  show _=some (if (0:Nat)=0 then _ else _)
  rw [if_pos rfl]
  show some (Ctl.nx (v4 (acc++[])))=_
  rw [List.append_nil];rfl
 | succ k ih =>
  intro i acc hi ha
  have hp:ps[i]? = some ps[i]:=List.getElem?_eq_getElem (by omega)
  have hdrop:ps.drop i=ps[i]::ps.drop (i+1):=List.drop_eq_getElem_cons (by omega)
  generalize ps[i]=p at hp hdrop
  have hmem:=List.mem_of_getElem? hp
  have hpl:=hsz p hmem
  have hl:lget (ps.map bs) (i:Int)=bs p:=by
   unfold lget
   rw [Int.toNat_natCast,List.getD_eq_getElem?_getD,List.getElem?_map,hp];rfl
  have g:(0:Int)≤(i:Int)∧(i:Int)<((ps.map bs).length:Int):=by rw [List.length_map];omega
  have hr:=read_code (bs p) 255 (by rw [bs_size];omega) (by omega)
  rw [bs_list,show ((255:Nat):Int)=255 from rfl] at hr
  rw [quad_Parse.l0.eq_def,if_pos (decide_eq_true g.2),if_pos g,hl,hr,bindM_some,hdrop]
  unfold pqs
  have hle:=rdU_le p 255
  by_cases h0:(rdU p 255).2=0
  ·have hb:((iiOf (rdU p 255)).2 != 0)=false:=by simp [iiOf,h0]
   have e8:wr .u8 (iiOf (rdU p 255)).1=((UInt8.ofNat (rdU p 255).1).toNat:Int):=by
    show wr .u8 ((rdU p 255).1:Int)=_
    rw [wr_u8 (by omega) (by omega),UInt8.toNat_ofNat',Nat.mod_eq_of_lt (by omega)]
   have g4:(0:Int)≤(i:Int)∧(i:Int)<4:=by omega
   rw [hb,if_neg Bool.false_ne_true,if_pos g4,e8,vset_v4 (by simp;omega),pad_set acc i _ ha (by omega),wr_i64 (by omega) (by omega),show ((i:Int)+1)=((i+1:Nat):Int) by omega,if_pos h0]
   exact ih (i+1) _ (by omega) (by simp;omega)
  ·have hb:((iiOf (rdU p 255)).2 != 0)=true:=by rw [bne_iff_ne];show ((rdU p 255).2:Int)≠0;omega
   rw [hb,if_pos rfl,if_neg h0,if_neg h0];rfl
theorem refQuadParse_loop(ps:List (List UInt8))(hps:ps.length=4)(hsz:∀ p∈ps,p.length<1000000):∀ (k i:Nat) (acc:List UInt8),i+k=4→acc.length=i →
  crawlwayref08_Parse.l0 (ps.map bs) (i:Int) (v4 (acc++List.replicate (4-i) 0)) =
   some (if (pqs (ps.drop i) acc).1=0 then .nx (v4 (pqs (ps.drop i) acc).2) else .ret (Vector.replicate 4 0,((pqs (ps.drop i) acc).1:Int))):=by
 intro k
 induction k with
 | zero =>
  intro i acc hi ha
  have:i=4:=by omega
  subst this
  rw [crawlwayref08_Parse.l0.eq_def,if_neg (by decide),List.drop_eq_nil_of_le (by omega)]
  show _=some (if (0:Nat)=0 then _ else _)
  rw [if_pos rfl]
  show some (Ctl.nx (v4 (acc++[])))=_
  rw [List.append_nil];rfl
 | succ k ih =>
  intro i acc hi ha
  have hp:ps[i]? = some ps[i]:=List.getElem?_eq_getElem (by omega)
  have hdrop:ps.drop i=ps[i]::ps.drop (i+1):=List.drop_eq_getElem_cons (by omega)
  generalize ps[i]=p at hp hdrop
  have hmem:=List.mem_of_getElem? hp
  have hpl:=hsz p hmem
  have hl:lget (ps.map bs) (i:Int)=bs p:=by
   unfold lget
   rw [Int.toNat_natCast,List.getD_eq_getElem?_getD,List.getElem?_map,hp];rfl
  have g:(0:Int)≤(i:Int)∧(i:Int)<((ps.map bs).length:Int):=by rw [List.length_map];omega
  have g4:(0:Int)≤(i:Int)∧(i:Int)<4:=by omega
  have hr:=read_ref (bs p) 255 (by rw [bs_size];omega) (by omega)
  rw [bs_list,show ((255:Nat):Int)=255 from rfl] at hr
  rw [crawlwayref08_Parse.l0.eq_def,if_pos (decide_eq_true g4.2),if_pos g,hl,hr,bindM_some,hdrop]
  unfold pqs
  have hle:=rdU_le p 255
  by_cases h0:(rdU p 255).2=0
  ·have hb:((iiOf (rdU p 255)).2 != 0)=false:=by simp [iiOf,h0]
   have e8:wr .u8 (iiOf (rdU p 255)).1=((UInt8.ofNat (rdU p 255).1).toNat:Int):=by
    show wr .u8 ((rdU p 255).1:Int)=_
    rw [wr_u8 (by omega) (by omega),UInt8.toNat_ofNat',Nat.mod_eq_of_lt (by omega)]
   rw [hb,if_neg Bool.false_ne_true,if_pos g4,e8,vset_v4 (by simp;omega),pad_set acc i _ ha (by omega),wr_i64 (by omega) (by omega),show ((i:Int)+1)=((i+1:Nat):Int) by omega,if_pos h0]
   exact ih (i+1) _ (by omega) (by simp;omega)
  ·have hb:((iiOf (rdU p 255)).2 != 0)=true:=by rw [bne_iff_ne];show ((rdU p 255).2:Int)≠0;omega
   rw [hb,if_pos rfl,if_neg h0,if_neg h0];rfl
theorem part_short(c:UInt8):∀ (l p:List UInt8),p∈parts c l→p.length≤l.length:=by
 intro l
 induction l with
 | nil=>intro p hp;simp [parts] at hp;subst hp;exact Nat.le_refl _
 | cons x r ih =>
  intro p hp
  have hne:=parts_ne c r
  unfold parts at hp
  split at hp
  ·rcases List.mem_cons.1 hp with rfl | hp
   ·exact Nat.zero_le _
   ·exact Nat.le_trans (ih p hp) (by simp)
  ·cases hq:parts c r with
   | nil=>exact absurd hq hne
   | cons a b =>
    rw [hq] at hp ih
    rcases List.mem_cons.1 hp with rfl | hp
    ·have:=ih a (List.mem_cons_self ..)
     simp;omega
    ·have:=ih p (List.mem_cons_of_mem _ hp)
     simp;omega
theorem zero_v4:(Vector.replicate 4 (0:Int):Vector Int 4)=v4 (List.replicate 4 0):=v4_of rfl
theorem quad_parse(l:List UInt8)(h:l.length<1000000):quad_Parse (bs l)=some (viOf (quadP l)):=by
 unfold quad_Parse quadP
 have hp:=parts_code 46 l h
 rw [show (((46:UInt8).toNat:Nat):Int)=46 from rfl] at hp
 rw [hp,bindM_some,List.length_map]
 by_cases h4:(parts 46 l).length=4
 ·have hne:(((parts 46 l).length:Int) != 4)=false:=by rw [h4];rfl
  have hl:=quadParse_loop (parts 46 l) h4 (fun p hp=>Nat.lt_of_le_of_lt (part_short 46 l p hp) h) 4 0 [] rfl rfl
  rw [List.nil_append,show 4-0=4 from rfl,←zero_v4,show ((0:Nat):Int)=0 from rfl,List.drop_zero] at hl
  rw [hne,if_neg Bool.false_ne_true,hl,bindM_some,if_pos h4]
  by_cases h0:(pqs (parts 46 l) []).1=0
  ·rw [if_pos h0,if_pos h0];rfl
  ·rw [if_neg h0,if_neg h0];rfl
 ·have hne:(((parts 46 l).length:Int) != 4)=true:=by rw [bne_iff_ne];omega
  rw [hne,if_pos rfl,if_neg h4];rfl
theorem quad_parse_ref(l:List UInt8)(h:l.length<1000000):crawlwayref08_Parse (bs l)=some (viOf (quadP l)):=by
 unfold crawlwayref08_Parse quadP
 have hp:=parts_ref 46 l h
 rw [show (((46:UInt8).toNat:Nat):Int)=46 from rfl] at hp
 rw [hp,bindM_some,List.length_map]
 by_cases h4:(parts 46 l).length=4
 ·have hne:(((parts 46 l).length:Int) != 4)=false:=by rw [h4];rfl
  have hl:=refQuadParse_loop (parts 46 l) h4 (fun p hp=>Nat.lt_of_le_of_lt (part_short 46 l p hp) h) 4 0 [] rfl rfl
  rw [List.nil_append,show 4-0=4 from rfl,←zero_v4,show ((0:Nat):Int)=0 from rfl,List.drop_zero] at hl
  rw [hne,if_neg Bool.false_ne_true,hl,bindM_some,if_pos h4]
  by_cases h0:(pqs (parts 46 l) []).1=0
  ·rw [if_pos h0,if_pos h0];rfl
  ·rw [if_neg h0,if_neg h0];rfl
 ·have hne:(((parts 46 l).length:Int) != 4)=true:=by rw [bne_iff_ne];omega
  rw [hne,if_pos rfl,if_neg h4];rfl
theorem parts_join(c:UInt8):∀ (l:List UInt8),[c].intercalate (parts c l)=l:=by
 have key:∀ (l:List UInt8),∃ p r,parts c l=p::r∧p++(r.map ([c]++·)).flatten=l:=by
  intro l
  induction l with
  | nil=>exact ⟨[],[],rfl,rfl⟩
  | cons x l ih =>
   obtain ⟨p,r,h1,h2⟩:=ih
   by_cases hx:x=c
   ·subst hx
    refine ⟨[],p::r,?_,?_⟩
    ·rw [parts,if_pos rfl,h1]
    ·rw [←h2];simp
   ·refine ⟨x::p,r,?_,?_⟩
    ·rw [parts,if_neg hx,h1];rfl
    ·rw [←h2];simp
 intro l
 obtain ⟨p,r,h1,h2⟩:=key l
 rw [h1]
 have:∀ (r:List (List UInt8)) (p:List UInt8),[c].intercalate (p::r)=p++(r.map ([c]++·)).flatten:=by
  intro r
  induction r with
  | nil=>intro p;simp [List.intercalate]
  | cons q r ih =>
   intro p
   have:=ih q
   simp only [List.intercalate,List.intersperse] at this ⊢
   simp [this]
 rw [this,h2]
theorem pqs_ok:∀ (ps:List (List UInt8)) (acc:List UInt8),(pqs ps acc).1=0→∃ m,(pqs ps acc).2=acc++m∧m.length=ps.length∧ps=m.map fun b=>Lib.decDigits b.toNat
 | [],acc,_=>⟨[],by simp [pqs],rfl,rfl⟩
 | p::r,acc,h=>by
  unfold pqs at h ⊢
  by_cases h0:(rdU p 255).2=0
  ·rw [if_pos h0] at h ⊢
   obtain ⟨m,h1,h2,h3⟩:=pqs_ok r _ h
   obtain ⟨b1,b2⟩:=rdU_back h0
   refine ⟨UInt8.ofNat (rdU p 255).1::m,by rw [h1];simp,by simp [h2],?_⟩
   rw [List.map_cons,←h3,UInt8.toNat_ofNat',Nat.mod_eq_of_lt (by omega),b1]
  ·rw [if_neg h0] at h
   exact absurd h h0
theorem pqs_digits:∀ (m:List UInt8) (acc:List UInt8),pqs (m.map fun b=>Lib.decDigits b.toNat) acc=(0,acc++m)
 | [],acc=>by simp [pqs]
 | b::m,acc=>by
  have hb:=b.toNat_lt
  have hr:rdU (Lib.decDigits b.toNat) 255=(b.toNat,0):=by rw [rdU_text,if_pos (by omega)]
  rw [List.map_cons,pqs,hr]
  show (if (0:Nat)=0 then _ else _)=_
  rw [if_pos rfl,show (b.toNat,0).1=b.toNat from rfl,UInt8.ofNat_toNat,pqs_digits m]
  simp
theorem dec_nodot(n:Nat):∀ x∈Lib.decDigits n,x≠46:=fun x hx=>by
 have:=dig_iff.1 (List.all_eq_true.1 (decDigits_dig n) x hx)
 intro e;subst e
 have:(46:UInt8).toNat=46:=rfl
 omega
theorem parts_qText{m:List UInt8}(hm:m.length=4):parts 46 (qText m)=m.map fun b=>Lib.decDigits b.toNat:=by
 match m,hm with
 | [a,b,c,d],_ =>
  show parts 46 (Lib.decDigits a.toNat++46::(Lib.decDigits b.toNat++46::(Lib.decDigits c.toNat++46::Lib.decDigits d.toNat)))=_
  rw [parts_cons _ _ _ (dec_nodot _),parts_cons _ _ _ (dec_nodot _),parts_cons _ _ _ (dec_nodot _),parts_none _ _ (dec_nodot _)];rfl
theorem quadP_text{m:List UInt8}(hm:m.length=4):quadP (qText m)=(v4 m,0):=by
 unfold quadP
 rw [parts_qText hm,pqs_digits,if_pos (by simp [hm])]
 show (if (0:Nat)=0 then _ else _)=_
 rw [if_pos rfl];rfl
theorem quadP_back{l:List UInt8}(h:(quadP l).2=0):∃ m,m.length=4∧quadP l=(v4 m,0)∧qText m=l:=by
 unfold quadP at h ⊢
 by_cases h4:(parts 46 l).length=4
 ·rw [if_pos h4] at h ⊢
  by_cases h0:(pqs (parts 46 l) []).1=0
  ·rw [if_pos h0]
   obtain ⟨m,h1,h2,h3⟩:=pqs_ok _ _ h0
   have hm:m.length=4:=by omega
   refine ⟨m,hm,by rw [h1];rfl,?_⟩
   rw [←parts_join 46 l,h3]
   match m,hm with
   | [a,b,c,d],_ =>
    simp [List.intercalate,List.intersperse,qText]
  ·rw [if_neg h0] at h;exact absurd h h0
 ·rw [if_neg h4] at h;cases h
end Go.Proofs.YtkkmmpofdcccmaaGreatDoor
namespace Go.Proofs.YtkkmmpofdcccmaaGreatDoor.Col
open E Go.RowKit
def un:List Nat→List UInt8
 | []=>[]
 | n::r=>UInt8.ofNat (n/256)::UInt8.ofNat (n%256)::un r
def gr:List UInt8→List Nat
 | a::b::r=>(256*a.toNat+b.toNat)::gr r
 | [_]=>[]
 | []=>[]
theorem u8_of(b:UInt8)(n:Nat)(h:n=b.toNat):UInt8.ofNat n=b:=by subst h;exact UInt8.ofNat_toNat
theorem un_gr:∀ (l:List UInt8),l.length%2=0→un (gr l)=l
 | [],_=>rfl
 | [_],h=>by simp at h
 | a::b::r,h=>by
  have ha:=a.toNat_lt
  have hb:=b.toNat_lt
  rw [gr,un,un_gr r (by simp at h;omega),u8_of a _ (by omega),u8_of b _ (by omega)]
theorem gr_un:∀ (G:List Nat),(∀ n∈G,n<65536)→gr (un G)=G
 | [],_=>rfl
 | n::G,h=>by
  have hn:=h n (List.mem_cons_self ..)
  rw [un,gr,gr_un G fun m hm=>h m (List.mem_cons_of_mem _ hm),UInt8.toNat_ofNat',UInt8.toNat_ofNat']
  congr 1
  have:2 ^ 8=256:=rfl
  omega
theorem gr_lt:∀ (l:List UInt8),∀ n∈gr l,n<65536
 | [],n,h=>by cases h
 | [_],n,h=>by cases h
 | a::b::r,n,h=>by
  rcases List.mem_cons.1 h with rfl | h
  ·have ha:=a.toNat_lt
   have hb:=b.toNat_lt
   omega
  ·exact gr_lt r n h
theorem gr_len:∀ (l:List UInt8),(gr l).length=l.length/2
 | []=>rfl
 | [_]=>by simp [gr]
 | a::b::r=>by simp only [gr,List.length_cons,gr_len r];omega
theorem un_len:∀ (G:List Nat),(un G).length=2*G.length
 | []=>rfl
 | n::G=>by simp only [un,List.length_cons,un_len G];omega
theorem un_app:∀ (A B:List Nat),un (A++B)=un A++un B
 | [],_=>rfl
 | n::A,B=>by simp [un,un_app A B]
def runz:List Bool→Nat
 | true::r=>runz r+1
 | _=>0
def lgC:List Bool→Nat→Nat→Nat→Nat→Nat×Nat
 | [],_,p,z,_=>(p,z)
 | b::r,i,p,z,now=>if b=false then lgC r (i+1) p z 0 else if now+1>z then lgC r (i+1) (i+1-(now+1)) (now+1) (now+1) else lgC r (i+1) p z (now+1)
def lgR:List Bool→Nat→Nat→Nat→Nat×Nat
 | [],_,p,z=>(p,z)
 | b::r,i,p,z=>if runz (b::r)>z then lgR r (i+1) i (runz (b::r)) else lgR r (i+1) p z
theorem lg_same8:∀ a b c d e f g h:Bool,lgC [a,b,c,d,e,f,g,h] 0 0 0 0=lgR [a,b,c,d,e,f,g,h] 0 0 0:=by decide +kernel
theorem lg_fits8:∀ a b c d e f g h:Bool,(lgR [a,b,c,d,e,f,g,h] 0 0 0).1+(lgR [a,b,c,d,e,f,g,h] 0 0 0).2≤8:=by decide +kernel
theorem lg_zero8:∀ a b c d e f g h:Bool,([a,b,c,d,e,f,g,h].drop (lgR [a,b,c,d,e,f,g,h] 0 0 0).1).take (lgR [a,b,c,d,e,f,g,h] 0 0 0).2=List.replicate (lgR [a,b,c,d,e,f,g,h] 0 0 0).2 true:=by decide +kernel
theorem eight{α:Type}{z:List α}(h:z.length=8):∃ a b c d e f g k,z=[a,b,c,d,e,f,g,k]:=by
 match z,h with
 | [a,b,c,d,e,f,g,k],_=>exact ⟨a,b,c,d,e,f,g,k,rfl⟩
def lg(z:List Bool):Nat×Nat:=lgR z 0 0 0
theorem lg_code{z:List Bool}(h:z.length=8):lgC z 0 0 0 0=lg z:=by
 obtain ⟨a,b,c,d,e,f,g,k,rfl⟩:=eight h;exact lg_same8 ..
theorem lg_fits{z:List Bool}(h:z.length=8):(lg z).1+(lg z).2≤8:=by
 obtain ⟨a,b,c,d,e,f,g,k,rfl⟩:=eight h;exact lg_fits8 ..
theorem lg_zero{z:List Bool}(h:z.length=8):(z.drop (lg z).1).take (lg z).2=List.replicate (lg z).2 true:=by
 obtain ⟨a,b,c,d,e,f,g,k,rfl⟩:=eight h;exact lg_zero8 ..
def g1(n:Nat):List UInt8:=(Hex.grp n).data.toList
def rowL:List Nat→List UInt8
 | []=>[]
 | [n]=>g1 n
 | n::m::r=>g1 n++58::rowL (m::r)
def zp(G:List Nat):List Bool:=G.map fun n=>n==0
def textL(G:List Nat):List UInt8:=if (lg (zp G)).2<2 then rowL G else rowL (G.take (lg (zp G)).1)++58::58::rowL (G.drop ((lg (zp G)).1+(lg (zp G)).2))
theorem zp_len(G:List Nat):(zp G).length=G.length:=by simp [zp]
theorem dg_hex:∀ n:Fin 16,48≤(Hex.dg n.1).toNat∧Hex.dg n.1≠58∧Hex.dg n.1≠46:=by decide +kernel
theorem g1_chars(n:Nat):∀ x∈g1 n,x≠58∧x≠46:=by
 induction n using Nat.strongRecOn with
 | _ n ih =>
  intro x hx
  unfold g1 Hex.grp at hx
  split at hx
  ·next h =>
   simp only [Hex.dig,List.mem_singleton] at hx
   subst hx
   exact (dg_hex ⟨n,h⟩).2
  ·next h =>
   rw [append_list] at hx
   rcases List.mem_append.1 hx with hx | hx
   ·exact ih _ (show n/16<n by omega) x hx
   ·simp only [Hex.dig,List.mem_singleton] at hx
    subst hx
    exact (dg_hex ⟨n%16,by omega⟩).2
theorem g1_len(n:Nat)(h:n<65536):1≤(g1 n).length∧(g1 n).length≤4:=by
 have:=Hex.grp_size n
 unfold g1
 rw [size_toList]
 exact ⟨this.1,this.2 3 (by simpa using h)⟩
theorem g1_ne(n:Nat):g1 n≠[]:=by
 have:=(Hex.grp_size n).1
 intro e
 have h2:(g1 n).length=0:=by rw [e];rfl
 unfold g1 at h2
 rw [size_toList] at h2
 omega
theorem rowL_len:∀ (G:List Nat),(∀ n∈G,n<65536)→(rowL G).length≤5*G.length
 | [],_=>Nat.zero_le _
 | [n],h=>by
  have:=(g1_len n (h n (List.mem_cons_self ..))).2
  simp only [rowL,List.length_cons,List.length_nil];omega
 | n::m::r,h=>by
  have h1:=(g1_len n (h n (List.mem_cons_self ..))).2
  have h2:=rowL_len (m::r) fun k hk=>h k (List.mem_cons_of_mem _ hk)
  simp only [rowL,List.length_append,List.length_cons] at h2 ⊢;omega
theorem textL_len(G:List Nat)(h:∀ n∈G,n<65536)(h8:G.length=8):(textL G).length≤42:=by
 unfold textL
 split
 ·have:=rowL_len G h;omega
 ·have h1:=rowL_len (G.take (lg (zp G)).1) fun n hn=>h n (List.mem_of_mem_take hn)
  have h2:=rowL_len (G.drop ((lg (zp G)).1+(lg (zp G)).2)) fun n hn=>h n (List.mem_of_mem_drop hn)
  have hf:=lg_fits (z:=zp G) (by rw [zp_len,h8])
  simp only [List.length_append,List.length_cons,List.length_take,List.length_drop] at h1 h2 ⊢;omega
def spl:List (List UInt8)→Option (List (List UInt8)×List (List UInt8))
 | []=>none
 | p::r=>if r.head? = some []∧2≤r.length then some ([p],r.tail) else (spl r).map fun q=>(p::q.1,q.2)
def q2(v:Vector Int 4):List Nat:=[256*(vget v 0).toNat+(vget v 1).toNat,256*(vget v 2).toNat+(vget v 3).toNat]
def lst(last:Bool):List (List UInt8)→Option (List Nat)
 | []=>some []
 | p::r=>match Hex.read (bs p) with
  | some n=>(lst last r).map (n::·)
  | none=>if (quadP p).2=0∧last=true∧r=[] then some (q2 (quadP p).1) else none
def lstE(last:Bool)(ps:List (List UInt8)):Option (List Nat):=if ps=[[]] then some [] else lst last ps
def parseL(l:List UInt8):Option (List Nat):=match spl (parts 58 l) with
 | none=>(lst true (parts 58 l)).bind fun x=>if x.length=8 then some x else none
 | some (a,b)=>(lstE false a).bind fun x=>(lstE true b).bind fun y=>if x.length+y.length≤7 then some (x++(List.replicate (8-x.length-y.length) 0++y)) else none
theorem parts_colon(r:List UInt8):parts 58 (58::r)=[]::parts 58 r:=by rw [parts,if_pos rfl]
theorem parts_head(r:List UInt8):((parts 58 r).head? = some []∧2≤(parts 58 r).length)↔∃ r2,r=58::r2:=by
 cases r with
 | nil=>simp [parts]
 | cons x r =>
  by_cases hx:x=58
  ·subst hx
   rw [parts_colon]
   have:=parts_ne 58 r
   cases hp:parts 58 r with
   | nil=>exact absurd hp this
   | cons a b=>simp
  ·rw [parts,if_neg hx]
   simp [hx]
theorem read_nil:Hex.read (bs [])=none:=rfl
theorem quad_nil:(quadP []).2=5:=rfl
theorem lst_nil(last:Bool)(r:List (List UInt8))(h:r≠[]∨True):lst last ([]::r)=none:=by
 unfold lst
 rw [read_nil,quad_nil]
 simp
theorem parts_nil_iff(l:List UInt8):parts 58 l=[[]]↔l=[]:=by
 constructor
 ·intro h
  cases l with
  | nil=>rfl
  | cons x r =>
   have hne:=parts_ne 58 r
   by_cases hx:x=58
   ·subst hx
    rw [parts_colon] at h
    cases h2:parts 58 r with
    | nil=>exact absurd h2 hne
    | cons a b=>rw [h2] at h;simp at h
   ·rw [parts,if_neg hx] at h;simp at h
 ·intro h;subst h;rfl
theorem lst_grp(last:Bool):∀ (G:List Nat),(∀ n∈G,n<65536)→lst last (G.map g1)=some G
 | [],_=>rfl
 | n::G,h=>by
  rw [List.map_cons,lst]
  have hb:bs (g1 n)=Hex.grp n:=(eq_bs _).symm
  rw [hb,Hex.read_grp n (h n (List.mem_cons_self ..))]
  show (lst last (G.map g1)).map _=_
  rw [lst_grp last G fun m hm=>h m (List.mem_cons_of_mem _ hm)];rfl
theorem parts_row:∀ (G:List Nat),G≠[]→parts 58 (rowL G)=G.map g1
 | [],h=>absurd rfl h
 | [n],_=>parts_none _ _ fun x hx=>(g1_chars n x hx).1
 | n::m::r,_=>by
  rw [rowL,parts_cons _ _ _ fun x hx=>(g1_chars n x hx).1,parts_row (m::r) (by simp)];rfl
theorem parts_row_app:∀ (G:List Nat) (r:List UInt8),parts 58 (rowL G++58::r)=(if G=[] then [[]] else G.map g1)++parts 58 r
 | [],r=>parts_colon r
 | [n],r=>by rw [rowL,parts_cons _ _ _ fun x hx=>(g1_chars n x hx).1];rfl
 | n::m::s,r=>by
  rw [rowL,List.append_assoc]
  show parts 58 (g1 n++58::(rowL (m::s)++58::r))=_
  rw [parts_cons _ _ _ fun x hx=>(g1_chars n x hx).1,parts_row_app (m::s) r];rfl
theorem spl_full:∀ (G:List Nat),spl (G.map g1)=none
 | []=>rfl
 | n::G=>by
  rw [List.map_cons,spl,if_neg,spl_full G];rfl
  rintro ⟨h,_⟩
  cases G with
  | nil=>cases h
  | cons m r=>simp at h;exact g1_ne m h
theorem spl_app:∀ (A:List (List UInt8)) (B:List (List UInt8)),A≠[]→(∀ p∈A.tail,p≠[])→B≠[]→spl (A++[]::B)=some (A,B)
 | [],_,h,_,_=>absurd rfl h
 | [p],B,_,_,hB=>by
  show spl (p::[]::B)=_
  rw [spl,if_pos];rfl
  refine ⟨rfl,?_⟩
  cases B with
  | nil=>exact absurd rfl hB
  | cons x y=>simp
 | p::q::A,B,_,h,hB=>by
  show spl (p::((q::A)++[]::B))=_
  rw [spl,if_neg,spl_app (q::A) B (by simp) (fun x hx=>h x (List.mem_cons_of_mem _ hx)) hB];rfl
  rintro ⟨h1,_⟩
  simp at h1
  exact h q (List.mem_cons_self ..) h1
theorem zeros_of{G:List Nat}{p z:Nat}(h:((zp G).drop p).take z=List.replicate z true):(G.drop p).take z=List.replicate z 0:=by
 unfold zp at h
 rw [←List.map_drop,←List.map_take] at h
 generalize (G.drop p).take z=D at h
 have hl:D.length=z:=by have:=congrArg List.length h;simpa using this
 apply List.eq_replicate_iff.2
 refine ⟨hl,fun n hn=>?_⟩
 have:(n==0)∈List.replicate z true:=by rw [←h];exact List.mem_map.2 ⟨n,hn,rfl⟩
 have:=List.eq_of_mem_replicate this
 simpa using this
theorem split3{α:Type}(G:List α)(p z:Nat):G=G.take p++((G.drop p).take z++G.drop (p+z)):=by
 rw [←List.drop_drop,List.take_append_drop,List.take_append_drop]
theorem lstE_row(last:Bool)(G:List Nat)(h:∀ n∈G,n<65536):lstE last (if G=[] then [[]] else G.map g1)=some G:=by
 unfold lstE
 cases G with
 | nil=>rfl
 | cons n r =>
  have e1:(if n::r=[] then ([[]]:List (List UInt8)) else (n::r).map g1)=(n::r).map g1:=if_neg (by simp)
  rw [e1,if_neg,lst_grp last _ h]
  intro e
  rw [List.map_cons] at e
  exact g1_ne n (List.cons.inj e).1
theorem parse_text(G:List Nat)(h:∀ n∈G,n<65536)(h8:G.length=8):parseL (textL G)=some G:=by
 unfold textL
 split
 ·unfold parseL
  have hne:G≠[]:=by intro e;subst e;simp at h8
  rw [parts_row G hne,spl_full,lst_grp true G h]
  show (if G.length=8 then some G else none)=_
  rw [if_pos h8]
 ·next h2 =>
  have hz:=lg_zero (z:=zp G) (by rw [zp_len,h8])
  have hf:=lg_fits (z:=zp G) (by rw [zp_len,h8])
  generalize hq:lg (zp G)=q at h2 hz hf
  obtain ⟨p,z⟩:=q
  simp only at h2 hz hf ⊢
  have hzz:=zeros_of hz
  have hG:=split3 G p z
  have hA:∀ n∈G.take p,n<65536:=fun n hn=>h n (List.mem_of_mem_take hn)
  have hB:∀ n∈G.drop (p+z),n<65536:=fun n hn=>h n (List.mem_of_mem_drop hn)
  have hAl:(G.take p).length=p:=by rw [List.length_take];omega
  have hBl:(G.drop (p+z)).length=8-(p+z):=by rw [List.length_drop,h8]
  rw [hzz] at hG
  generalize G.take p=A at *
  generalize G.drop (p+z)=B at *
  unfold parseL
  rw [parts_row_app A,parts_colon]
  have e2:parts 58 (rowL B)=if B=[] then [[]] else B.map g1:=by
   cases B with
   | nil=>rfl
   | cons n r=>rw [if_neg (by simp),parts_row _ (by simp)]
  rw [e2,spl_app _ _ (by split<;>simp_all) (by
   intro x hx
   split at hx
   ·cases hx
   ·rw [←List.map_tail] at hx
    obtain ⟨n,_,rfl⟩:=List.mem_map.1 hx
    exact g1_ne n) (by split<;>simp_all)]
  show (lstE false (if A=[] then [[]] else A.map g1)).bind _=_
  rw [lstE_row false A hA]
  show (lstE true (if B=[] then [[]] else B.map g1)).bind _=_
  rw [lstE_row true B hB]
  show (if A.length+B.length≤7 then _ else none)=_
  rw [if_pos (by omega),show 8-A.length-B.length=z by omega,←hG]
def ns(G:List Nat):List Int:=G.map fun n:Nat=>(n:Int)
theorem ns_len(G:List Nat):(ns G).length=G.length:=by simp [ns]
def gv(G:List Nat):Vector Int 8:=lvec 8 (ns (G++List.replicate (8-G.length) 0))
theorem gv_toList{G:List Nat}(h:G.length≤8):(gv G).toList=ns (G++List.replicate (8-G.length) 0):=by
 have hl:(ns (G++List.replicate (8-G.length) 0)).length=8:=by rw [ns_len];simp;omega
 unfold gv
 rw [lvec_toList 8 _ (by omega),List.take_of_length_le (by omega)]
theorem gv_of{v:Vector Int 8}{G:List Nat}(h:v.toList=ns G):v=gv G:=by
 have hl:G.length=8:=by have:=congrArg List.length h;rw [ns_len] at this;simpa using this.symm
 apply Vector.toList_inj.1
 rw [gv_toList (by omega),h,hl];simp
theorem gv_set{G:List Nat}(h:G.length<8)(n:Nat):vset (gv G) (G.length:Int) (n:Int)=gv (G++[n]):=by
 apply Vector.toList_inj.1
 rw [vset_toList,gv_toList (by omega),gv_toList (by simp;omega),Int.toNat_natCast]
 unfold ns
 rw [←List.map_set,List.set_append_right _ _ (Nat.le_refl _),Nat.sub_self,show 8-G.length=(8-(G.length+1))+1 by omega,List.replicate_succ]
 simp
theorem gv_zero:(Vector.replicate 8 (0:Int):Vector Int 8)=gv []:=by
 apply Vector.toList_inj.1;rw [gv_toList (by simp)];rfl
theorem ns_get(G:List Nat)(i:Nat)(n:Nat)(h:G[i]? = some n):(ns G).getD i default=(n:Int):=by
 unfold ns;rw [List.getD_eq_getElem?_getD,List.getElem?_map,h];rfl
theorem gv_get{G:List Nat}(h8:G.length=8)(i:Nat)(n:Nat)(h:G[i]? = some n):vget (gv G) (i:Int)=(n:Int):=by
 unfold vget
 rw [gv_toList (by omega),h8,Int.toNat_natCast,show 8-8=0 from rfl,List.replicate_zero,List.append_nil]
 exact ns_get G i n h
def rd(acc:List Nat)(gp:Int):S_colon_reader:={ f_g:=gv acc,f_n:=(acc.length:Int),f_gap:=gp }
def Res(r:Option (Bool×S_colon_reader))(o:Option (List Nat×Int)):Prop:=match o with
 | some (G,gp)=>r=some (true,rd G gp)
 | none=>∃ s',r=some (false,s')
def addG(acc l:List Nat)(gp:Int):Option (List Nat×Int):=if acc.length+l.length≤8 then some (acc++l,gp) else none
theorem put_full{acc:List Nat}(h:acc.length=8)(gp:Int)(x:Int):colon_reader_put (rd acc gp) x=some (false,rd acc gp):=by
 unfold colon_reader_put
 have e:((rd acc gp).f_n==8)=true:=by show ((acc.length:Int)==8)=true;rw [h];rfl
 rw [e,if_pos rfl]
theorem put_ok{acc:List Nat}(h:acc.length<8)(gp:Int)(n:Nat):colon_reader_put (rd acc gp) (n:Int)=some (true,rd (acc++[n]) gp):=by
 unfold colon_reader_put
 have e:((rd acc gp).f_n==8)=false:=by
  show ((acc.length:Int)==8)=false
  rw [beq_eq_false_iff_ne];omega
 have hb:(0:Int)≤(rd acc gp).f_n∧(rd acc gp).f_n<8:=by show (0:Int)≤(acc.length:Int)∧(acc.length:Int)<8;omega
 rw [e,if_neg Bool.false_ne_true,if_pos hb]
 refine congrArg some (congrArg (Prod.mk true) ?_)
 show S_colon_reader.mk (vset (gv acc) (acc.length:Int) (n:Int)) (wr .i64 ((acc.length:Int)+1)) gp=S_colon_reader.mk (gv (acc++[n])) ((acc++[n]).length:Int) gp
 rw [gv_set h,wr_i64 (by omega) (by omega)]
 congr 1
 simp
theorem or16(a b:Nat)(ha:a<256)(hb:b<256):ior .u16 (ishl .u16 (wr .u16 (a:Int)) 8) (wr .u16 (b:Int))=((256*a+b:Nat):Int):=by
 rw [wr_u16 (by omega) (by omega),wr_u16 (by omega) (by omega),show (8:Int)=((8:Nat):Int) from rfl,ishl_nat .u16 rfl a 8 (by decide)]
 have e:(a*2 ^ 8)%2 ^ IntKind.u16.bits=a*256:=by show (a*256)%65536=_;omega
 rw [e,ior_nat .u16 rfl _ _ (by show _<65536;omega) (by show _<65536;omega)]
 have h2:=Nat.two_pow_add_eq_or_of_lt (i:=8) (b:=b) (by simpa using hb) a
 have e3:2 ^ 8*a=a*256:=by omega
 rw [e3] at h2
 rw [←h2,Nat.mul_comm a 256]
theorem tail_ok{acc:List Nat}(h:acc.length≤8)(gp:Int)(p:List UInt8)(hp:p.length<1000000):Res (colon_reader_tail (rd acc gp) (bs p)) ((lst true [p]).bind fun x=>addG acc x gp):=by
 unfold colon_reader_tail
 rw [Hex.read_eq,bindM_some]
 unfold lst
 cases hr:Hex.read (bs p) with
 | some n =>
  show Res (if ((0:Int)==0)=true then _ else _) (((lst true []).map (n::·)).bind _)
  rw [if_pos (by rfl)]
  show Res _ (addG acc [n] gp)
  unfold addG
  by_cases h8:acc.length=8
  ·rw [put_full h8,if_neg (by simp;omega)]
   exact ⟨_,rfl⟩
  ·rw [put_ok (by omega),if_pos (by simp;omega)]
   rfl
 | none =>
  show Res (if ((5:Int)==0)=true then _ else _) _
  rw [if_neg (by decide),quad_parse p hp,bindM_some]
  by_cases h0:(quadP p).2=0
  ·obtain ⟨m,hm,hq,_⟩:=quadP_back h0
   simp only [h0,and_self,if_pos,Option.bind_some]
   match m,hm with
   | [a,b,c,d],hm =>
    have ha:=a.toNat_lt
    have hb:=b.toNat_lt
    have hc:=c.toNat_lt
    have hd:=d.toNat_lt
    rw [hq]
    have e0:vget (v4 [a,b,c,d]) 0=(a.toNat:Int):=vget_v4 hm 0 a rfl
    have e1:vget (v4 [a,b,c,d]) 1=(b.toNat:Int):=vget_v4 hm 1 b rfl
    have e2:vget (v4 [a,b,c,d]) 2=(c.toNat:Int):=vget_v4 hm 2 c rfl
    have e3:vget (v4 [a,b,c,d]) 3=(d.toNat:Int):=vget_v4 hm 3 d rfl
    have eq:q2 (v4 [a,b,c,d])=[256*a.toNat+b.toNat,256*c.toNat+d.toNat]:=by unfold q2;rw [e0,e1,e2,e3];rfl
    show Res (if ((0:Int)==0)=true then (colon_reader_put (rd acc gp) (ior .u16 (ishl .u16 (wr .u16 (vget (v4 [a,b,c,d]) 0)) 8) (wr .u16 (vget (v4 [a,b,c,d]) 1)))>>=fun t7=>if t7.1=true then (colon_reader_put t7.2 (ior .u16 (ishl .u16 (wr .u16 (vget (v4 [a,b,c,d]) 2)) 8) (wr .u16 (vget (v4 [a,b,c,d]) 3)))>>=fun t9=>some (t9.1,t9.2)) else (some (false,t7.2))) else _) (addG acc (q2 (v4 [a,b,c,d])) gp)
    rw [if_pos (by rfl),e0,e1,e2,e3,or16 _ _ ha hb,or16 _ _ hc hd,eq]
    unfold addG
    by_cases h8:acc.length=8
    ·rw [put_full h8,bindM_some,if_neg Bool.false_ne_true,if_neg (by simp;omega)]
     exact ⟨_,rfl⟩
    ·rw [put_ok (by omega),bindM_some,if_pos rfl]
     by_cases h7:acc.length=7
     ·rw [put_full (by simp;omega),bindM_some,if_neg (by simp;omega)]
      exact ⟨_,rfl⟩
     ·rw [put_ok (by simp;omega),bindM_some,if_pos (by simp;omega)]
      show _=some (true,rd (acc++[_,_]) gp)
      rw [List.append_assoc];rfl
  ·have hb:((viOf (quadP p)).2==0)=false:=by rw [beq_eq_false_iff_ne];show (((quadP p).2:Nat):Int)≠0;omega
   rw [hb,if_neg Bool.false_ne_true]
   simp only [h0,false_and,if_false,Option.bind_none]
   exact ⟨_,rfl⟩
def isC:List UInt8→Bool
 | x::_=>x==58
 | []=>false
def isCC:List UInt8→Bool
 | x::y::_=>x==58&&y==58
 | _=>false
theorem isC_iff(r:List UInt8):isC r=true↔∃ r2,r=58::r2:=by
 cases r with
 | nil=>simp [isC]
 | cons x r=>simp [isC]
theorem isCC_iff(r:List UInt8):isCC r=true↔∃ r2,r=58::58::r2:=by
 match r with
 | []=>simp [isCC]
 | [x]=>simp [isCC]
 | x::y::r=>simp [isCC]
theorem pre1(r:List UInt8):strings_HasPrefix (bs r) (⟨#[58]⟩:ByteArray)=some (isC r):=by
 unfold strings_HasPrefix stringslite_HasPrefix
 cases r with
 | nil=>rw [if_neg (by decide)];rfl
 | cons x r =>
  have hsz:(bs (x::r)).size=r.length+1:=bs_size _
  have h1:((⟨#[58]⟩:ByteArray).size:Int)=1:=rfl
  rw [h1,hsz,if_pos (decide_eq_true (by omega)),if_pos (by omega),bindM_some]
  refine congrArg some ?_
  show seq ((bs (x::r)).extract 0 1) (bs [58])=_
  rw [bs_extract]
  by_cases hx:x=58
  ·subst hx
   exact seq_self _
  ·have hf:isC (x::r)=false:=by simp [isC,hx]
   rw [hf]
   cases hc:seq (bs ((List.take 1 (x::r)).drop 0)) (bs [58]) with
   | false=>rfl
   | true =>
    have:=bs_inj ((seq_iff _ _).1 hc)
    simp at this
    exact absurd this hx
theorem pre2(r:List UInt8):strings_HasPrefix (bs r) (⟨#[58,58]⟩:ByteArray)=some (isCC r):=by
 unfold strings_HasPrefix stringslite_HasPrefix
 match r with
 | []=>rw [if_neg (by decide)];rfl
 | [x] =>
  have hsz:(bs [x]).size=1:=bs_size _
  have h1:((⟨#[58,58]⟩:ByteArray).size:Int)=2:=rfl
  rw [h1,hsz,if_neg (by decide)];rfl
 | x::y::r =>
  have hsz:(bs (x::y::r)).size=r.length+2:=bs_size _
  have h1:((⟨#[58,58]⟩:ByteArray).size:Int)=2:=rfl
  rw [h1,hsz,if_pos (decide_eq_true (by omega)),if_pos (by omega),bindM_some]
  refine congrArg some ?_
  show seq ((bs (x::y::r)).extract 0 2) (bs [58,58])=_
  rw [bs_extract]
  by_cases hx:x=58∧y=58
  ·obtain ⟨rfl,rfl⟩:=hx
   exact seq_self _
  ·have hf:isCC (x::y::r)=false:=by
    cases hc:isCC (x::y::r) with
    | false=>rfl
    | true=>simp [isCC] at hc;exact absurd hc hx
   rw [hf]
   cases hc:seq (bs ((List.take 2 (x::y::r)).drop 0)) (bs [58,58]) with
   | false=>rfl
   | true =>
    have:=bs_inj ((seq_iff _ _).1 hc)
    simp at this
    exact absurd this hx
def Loop(R:ByteArray→S_colon_reader→Option (Bool×S_colon_reader)):Prop:=∀ s st,R s st=(lines_Cut s 58>>=fun t8=>if (!t8.2.2)=true then (colon_reader_tail st t8.1>>=fun t10=>some (t10.1,t10.2)) else (hexes_ReadGroup t8.1>>=fun t11=>if (t11.2 != 0)=true then (some (false,st)) else (colon_reader_put st t11.1>>=fun t13=>if (!t13.1)=true then (some (false,t13.2)) else (strings_HasPrefix t8.2.1 (⟨#[58]⟩:ByteArray)>>=fun t15=>if (!t15)=true then (R t8.2.1 t13.2) else (if (decide (t13.2.f_gap≥0))=true then (some (false,t13.2)) else (if (0:Int)≤1∧1≤(t8.2.1.size:Int)∧(t8.2.1.size:Int)≤(t8.2.1.size:Int) then if (seq (t8.2.1.extract (Int.toNat 1) (Int.toNat (t8.2.1.size:Int))) (⟨#[]⟩:ByteArray))=true then (some (true,{ t13.2 with f_gap:=t13.2.f_n })) else (R (t8.2.1.extract (Int.toNat 1) (Int.toNat (t8.2.1.size:Int))) ({ t13.2 with f_gap:=t13.2.f_n })) else none))))))
theorem loop0:Loop colon_reader_read.l0:=fun s st=>colon_reader_read.l0.eq_def s st
theorem loop1:Loop colon_reader_read.l1:=fun s st=>colon_reader_read.l1.eq_def s st
theorem seq_nil(l:List UInt8):seq (bs l) (⟨#[]⟩:ByteArray)=true↔l=[]:=by
 rw [seq_iff]
 exact ⟨fun h=>bs_inj (k:=[]) h,fun h=>by rw [h];rfl⟩
theorem res_pair{r:Option (Bool×S_colon_reader)}{o:Option (List Nat×Int)}(h:Res r o):Res (r>>=fun t=>some (t.1,t.2)) o:=by
 unfold Res at *
 cases o with
 | none=>obtain ⟨s',h⟩:=h;rw [h];exact ⟨s',rfl⟩
 | some q=>obtain ⟨G,gp⟩:=q;simp only at h ⊢;rw [h];rfl
theorem res_id{r:Option (Bool×S_colon_reader)}{o:Option (List Nat×Int)}(h:Res r o):Res (r>>=fun t=>some t) o:=by
 cases r<;>exact h
theorem round{R:ByteArray→S_colon_reader→Option (Bool×S_colon_reader)}(hR:Loop R){acc:List Nat}(gp:Int)(p r:List UInt8)(hp:∀ x∈p,x≠58)(hl:p.length+r.length<1000000) :
  (Hex.read (bs p)=none∨acc.length=8→∃ s',R (bs (p++58::r)) (rd acc gp)=some (false,s')) ∧
  (∀ n,Hex.read (bs p)=some n→acc.length<8→(∀ r2,r≠58::r2)→R (bs (p++58::r)) (rd acc gp)=R (bs r) (rd (acc++[n]) gp)) ∧
  (∀ n r2,Hex.read (bs p)=some n→acc.length<8→r=58::r2→0≤gp→∃ s',R (bs (p++58::r)) (rd acc gp)=some (false,s')) ∧
  (∀ n r2,Hex.read (bs p)=some n→acc.length<8→r=58::r2→gp<0→R (bs (p++58::r)) (rd acc gp)=if r2=[] then some (true,rd (acc++[n]) ((acc++[n]).length:Int)) else R (bs r2) (rd (acc++[n]) ((acc++[n]).length:Int))):=by
 have h58:((58:UInt8).toNat:Int)=58:=rfl
 have hcut:=cut_some p r 58 hp hl
 rw [h58] at hcut
 have h1:∀ (r2:List UInt8),r=58::r2→(bs r).extract (Int.toNat 1) (Int.toNat ((bs r).size:Int))=bs r2:=by
  intro r2 e
  rw [Int.toNat_natCast,bs_extract,bs_size,List.take_of_length_le (Nat.le_refl _),e];rfl
 have h2:∀ (r2:List UInt8),r=58::r2→(0:Int)≤1∧1≤((bs r).size:Int)∧((bs r).size:Int)≤((bs r).size:Int):=by
  intro r2 e
  rw [bs_size,e,List.length_cons];omega
 refine ⟨fun h=>?_,fun n hn h8 hr=>?_,fun n r2 hn h8 hr hg=>?_,fun n r2 hn h8 hr hg=>?_⟩
 ·rw [hR,hcut,bindM_some]
  show ∃ s',(if (!true)=true then _ else _)=_
  rw [if_neg (by decide),Hex.read_eq,bindM_some]
  cases hq:Hex.read (bs p) with
  | none =>
   show ∃ s',(if ((5:Int) != 0)=true then _ else _)=_
   rw [if_pos (by decide)]
   exact ⟨_,rfl⟩
  | some n =>
   show ∃ s',(if ((0:Int) != 0)=true then _ else _)=_
   have h8:acc.length=8:=by rcases h with h | h;rw [h] at hq;cases hq;exact h
   rw [if_neg (by decide),put_full h8,bindM_some]
   exact ⟨_,rfl⟩
 ·rw [hR,hcut,bindM_some]
  show (if (!true)=true then _ else _)=_
  rw [if_neg (by decide),Hex.read_eq,bindM_some,hn]
  show (if ((0:Int) != 0)=true then _ else _)=_
  rw [if_neg (by decide),put_ok h8,bindM_some]
  show (if (!true)=true then _ else _)=_
  have hf:isC r=false:=by
   cases hc:isC r with
   | false=>rfl
   | true=>obtain ⟨r2,h⟩:=(isC_iff r).1 hc;exact absurd h (hr r2)
  rw [if_neg (by decide),pre1,bindM_some,hf]
  rfl
 ·rw [hR,hcut,bindM_some]
  show ∃ s',(if (!true)=true then _ else _)=_
  rw [if_neg (by decide),Hex.read_eq,bindM_some,hn]
  show ∃ s',(if ((0:Int) != 0)=true then _ else _)=_
  rw [if_neg (by decide),put_ok h8,bindM_some]
  show ∃ s',(if (!true)=true then _ else _)=_
  rw [if_neg (by decide),pre1,bindM_some,(isC_iff r).2 ⟨r2,hr⟩]
  show ∃ s',(if (!true)=true then _ else (if decide (gp≥0)=true then _ else _))=_
  rw [if_neg (by decide),if_pos (decide_eq_true hg)]
  exact ⟨_,rfl⟩
 ·rw [hR,hcut,bindM_some]
  show (if (!true)=true then _ else _)=_
  rw [if_neg (by decide),Hex.read_eq,bindM_some,hn]
  show (if ((0:Int) != 0)=true then _ else _)=_
  rw [if_neg (by decide),put_ok h8,bindM_some]
  show (if (!true)=true then _ else _)=_
  rw [if_neg (by decide),pre1,bindM_some,(isC_iff r).2 ⟨r2,hr⟩]
  show (if (!true)=true then _ else (if decide (gp≥0)=true then _ else (if _ then (if seq ((bs r).extract (Int.toNat 1) (Int.toNat ((bs r).size:Int))) _=true then _ else _) else _)))=_
  rw [if_neg (by decide),if_neg (by rw [decide_eq_true_eq];omega),if_pos (h2 r2 hr),h1 r2 hr]
  by_cases h0:r2=[]
  ·subst h0
   rw [if_pos rfl,if_pos ((seq_nil []).2 rfl)];rfl
  ·rw [if_neg h0,if_neg];rfl
   intro e
   exact h0 ((seq_nil r2).1 e)
theorem run_gap{R:ByteArray→S_colon_reader→Option (Bool×S_colon_reader)}(hR:Loop R)(gp:Int)(hg:0≤gp):∀ (k:Nat) (l:List UInt8) (acc:List Nat),l.length≤k→l.length<1000000→acc.length≤8 →
  Res (R (bs l) (rd acc gp)) ((lst true (parts 58 l)).bind fun x=>addG acc x gp):=by
 intro k
 induction k with
 | zero =>
  intro l acc hk hb h8
  obtain rfl:l=[]:=List.eq_nil_of_length_eq_zero (by omega)
  have hc:=cut_none [] 58 (fun x h=>by cases h)
  rw [show ((58:UInt8).toNat:Int)=58 from rfl] at hc
  rw [hR,hc,bindM_some]
  exact res_pair (tail_ok h8 gp [] (by simp))
 | succ k ih =>
  intro l acc hk hb h8
  rcases split_at 58 l with h | ⟨p,r,rfl,h⟩
  ·have hc:=cut_none l 58 h
   rw [show ((58:UInt8).toNat:Int)=58 from rfl] at hc
   rw [hR,hc,bindM_some,parts_none _ _ h]
   exact res_pair (tail_ok h8 gp l hb)
  ·have hlen:(p++58::r).length=p.length+(r.length+1):=by simp
   obtain ⟨c1,c2,c3,_⟩:=round hR (acc:=acc) gp p r h (by omega)
   have hne:=parts_ne 58 r
   rw [parts_cons 58 r p h]
   cases hr:Hex.read (bs p) with
   | none =>
    have e:lst true (p::parts 58 r)=none:=by
     unfold lst
     rw [hr]
     simp [hne]
    rw [e];exact c1 (.inl hr)
   | some n =>
    have e:lst true (p::parts 58 r)=(lst true (parts 58 r)).map (n::·):=by
     rw [lst,hr]
    rw [e]
    have hk2:∀ (o:Option (List Nat)),((o.map (n::·)).bind fun x=>addG acc x gp)=if acc.length=8 then none else o.bind fun x=>addG (acc++[n]) x gp:=by
     intro o
     cases o with
     | none=>simp
     | some x =>
      simp only [Option.map_some,Option.bind_some]
      unfold addG
      by_cases ha:acc.length=8
      ·rw [if_pos ha,if_neg (by simp;omega)]
      ·rw [if_neg ha]
       by_cases hb:acc.length+(n::x).length≤8
       ·rw [if_pos hb,if_pos (by simp at hb ⊢;omega)];simp
       ·rw [if_neg hb,if_neg (by simp at hb ⊢;omega)]
    rw [hk2]
    by_cases ha:acc.length=8
    ·rw [if_pos ha];exact c1 (.inr ha)
    ·rw [if_neg ha]
     by_cases hrc:∃ r2,r=58::r2
     ·obtain ⟨r2,hr2⟩:=hrc
      have e3:lst true (parts 58 r)=none:=by rw [hr2,parts_colon];exact lst_nil _ _ (.inr trivial)
      rw [e3]
      exact c3 n r2 hr (by omega) hr2 hg
     ·rw [c2 n hr (by omega) fun r2 e=>hrc ⟨r2,e⟩]
      exact ih r (acc++[n]) (by omega) (by omega) (by simp;omega)
def after(acc:List Nat)(ps:List (List UInt8)):Option (List Nat×Int):=match spl ps with
 | none=>(lst true ps).bind fun x=>addG acc x (-1)
 | some (a,b)=>(lst false a).bind fun x=>(lstE true b).bind fun y=>if acc.length+x.length+y.length≤8 then some (acc++x++y,((acc.length+x.length:Nat):Int)) else none
theorem spl_head{p:List UInt8}{ps:List (List UInt8)}{a b:List (List UInt8)}(h:spl (p::ps)=some (a,b)):∃ r,a=p::r:=by
 rw [spl] at h
 split at h
 ·cases h;exact ⟨[],rfl⟩
 ·cases hs:spl ps with
  | none=>rw [hs] at h;cases h
  | some q=>rw [hs] at h;cases h;exact ⟨q.1,rfl⟩
theorem after_none{acc:List Nat}{p:List UInt8}{ps:List (List UInt8)}(hne:ps≠[])(h:Hex.read (bs p)=none):after acc (p::ps)=none:=by
 unfold after
 cases hs:spl (p::ps) with
 | none =>
  have e:lst true (p::ps)=none:=by
   unfold lst
   rw [h];simp [hne]
  simp only [e];rfl
 | some q =>
  obtain ⟨a,b⟩:=q
  obtain ⟨r,rfl⟩:=spl_head hs
  have e:lst false (p::r)=none:=by
   unfold lst
   rw [h];simp
  simp only [e];rfl
theorem after_some{acc:List Nat}{p:List UInt8}{ps:List (List UInt8)}{n:Nat}(h:Hex.read (bs p)=some n)(hc:¬ (ps.head? = some []∧2≤ps.length)):after acc (p::ps)=if acc.length=8 then none else after (acc++[n]) ps:=by
 have e0:spl (p::ps)=(spl ps).map fun q=>(p::q.1,q.2):=by rw [spl,if_neg hc]
 have el:∀ b t,lst b (p::t)=(lst b t).map (n::·):=fun b t=>by rw [lst,h]
 unfold after
 rw [e0]
 cases hs:spl ps with
 | none =>
  simp only [Option.map_none,el]
  cases hl:lst true ps with
  | none=>simp
  | some x =>
   simp only [Option.map_some,Option.bind_some]
   unfold addG
   by_cases ha:acc.length=8
   ·rw [if_pos ha,if_neg (by simp;omega)]
   ·rw [if_neg ha]
    by_cases hb:acc.length+(n::x).length≤8
    ·rw [if_pos hb,if_pos (by simp at hb ⊢;omega)];simp
    ·rw [if_neg hb,if_neg (by simp at hb ⊢;omega)]
 | some q =>
  obtain ⟨a,b⟩:=q
  simp only [Option.map_some,el]
  cases hl:lst false a with
  | none=>simp
  | some x =>
   simp only [Option.map_some,Option.bind_some]
   cases hl2:lstE true b with
   | none=>simp
   | some y =>
    simp only [Option.bind_some]
    by_cases ha:acc.length=8
    ·rw [if_pos ha,if_neg (by simp;omega)]
    ·rw [if_neg ha]
     by_cases hb:acc.length+(n::x).length+y.length≤8
     ·rw [if_pos hb,if_pos (by simp at hb ⊢;omega)]
      simp only [List.append_assoc,List.cons_append,List.nil_append,List.length_cons,List.length_append,List.length_nil]
      refine congrArg some (congrArg (Prod.mk _) ?_)
      omega
     ·rw [if_neg hb,if_neg (by simp at hb ⊢;omega)]
theorem after_gap{acc:List Nat}(h8:acc.length≤8){p:List UInt8}{r2:List UInt8}{n:Nat}(h:Hex.read (bs p)=some n):after acc (p::[]::parts 58 r2)=if acc.length=8 then none else if r2=[] then some (acc++[n],((acc++[n]).length:Int)) else (lst true (parts 58 r2)).bind fun y=>addG (acc++[n]) y ((acc++[n]).length:Int):=by
 have hne:=parts_ne 58 r2
 have e0:spl (p::[]::parts 58 r2)=some ([p],parts 58 r2):=by
  rw [spl,if_pos];rfl
  refine ⟨rfl,?_⟩
  cases hp:parts 58 r2 with
  | nil=>exact absurd hp hne
  | cons a b=>simp
 have el:lst false [p]=some [n]:=by rw [lst,h];rfl
 unfold after
 simp only [e0,el,Option.bind_some]
 unfold lstE
 by_cases h0:r2=[]
 ·subst h0
  have e:parts 58 []=[[]]:=rfl
  simp only [e,if_true,Option.bind_some]
  by_cases ha:acc.length=8
  ·rw [if_pos ha,if_neg (by simp;omega)]
  ·rw [if_neg ha]
   rw [if_pos (by simp;omega)];simp
 ·rw [if_neg (fun e=>h0 ((parts_nil_iff r2).1 e)),if_neg h0]
  cases hl:lst true (parts 58 r2) with
  | none=>simp
  | some y =>
   simp only [Option.bind_some]
   unfold addG
   by_cases ha:acc.length=8
   ·rw [if_pos ha,if_neg (by simp;omega)]
   ·rw [if_neg ha]
    by_cases hb:acc.length+[n].length+y.length≤8
    ·rw [if_pos hb,if_pos (by simp at hb ⊢;omega)];simp
    ·rw [if_neg hb,if_neg (by simp at hb ⊢;omega)]
theorem run_all{R:ByteArray→S_colon_reader→Option (Bool×S_colon_reader)}(hR:Loop R):∀ (k:Nat) (l:List UInt8) (acc:List Nat),l.length≤k→l.length<1000000→acc.length≤8 →
  Res (R (bs l) (rd acc (-1))) (after acc (parts 58 l)):=by
 intro k
 induction k with
 | zero =>
  intro l acc hk hb h8
  obtain rfl:l=[]:=List.eq_nil_of_length_eq_zero (by omega)
  have hc:=cut_none [] 58 (fun x h=>by cases h)
  rw [show ((58:UInt8).toNat:Int)=58 from rfl] at hc
  rw [hR,hc,bindM_some]
  exact res_pair (tail_ok h8 (-1) [] (by simp))
 | succ k ih =>
  intro l acc hk hb h8
  rcases split_at 58 l with h | ⟨p,r,rfl,h⟩
  ·have hc:=cut_none l 58 h
   rw [show ((58:UInt8).toNat:Int)=58 from rfl] at hc
   rw [hR,hc,bindM_some,parts_none _ _ h]
   exact res_pair (tail_ok h8 (-1) l hb)
  ·have hlen:(p++58::r).length=p.length+(r.length+1):=by simp
   obtain ⟨c1,c2,_,c4⟩:=round hR (acc:=acc) (-1) p r h (by omega)
   have hne:=parts_ne 58 r
   rw [parts_cons 58 r p h]
   cases hr:Hex.read (bs p) with
   | none=>rw [after_none hne hr];exact c1 (.inl hr)
   | some n =>
    by_cases hrc:∃ r2,r=58::r2
    ·obtain ⟨r2,hr2⟩:=hrc
     subst hr2
     rw [parts_colon,after_gap h8 hr]
     by_cases ha:acc.length=8
     ·rw [if_pos ha];exact c1 (.inr ha)
     ·rw [if_neg ha,c4 n r2 hr (by omega) rfl (by omega)]
      by_cases h0:r2=[]
      ·rw [if_pos h0,if_pos h0];rfl
      ·rw [if_neg h0,if_neg h0]
       exact run_gap hR _ (by omega) r2.length r2 (acc++[n]) (Nat.le_refl _) (by simp only [List.length_append,List.length_cons] at hb;omega) (by simp;omega)
    ·rw [after_some hr (fun hc=>hrc ((parts_head r).1 hc))]
     by_cases ha:acc.length=8
     ·rw [if_pos ha];exact c1 (.inr ha)
     ·rw [if_neg ha,c2 n hr (by omega) fun r2 e=>hrc ⟨r2,e⟩]
      exact ih r (acc++[n]) (by omega) (by omega) (by simp;omega)
def readL(l:List UInt8):Option (List Nat×Int):=if isCC l=true then (if l.drop 2=[] then some ([],0) else (lst true (parts 58 (l.drop 2))).bind fun x=>addG [] x 0) else after [] (parts 58 l)
theorem read_ok(l:List UInt8)(hb:l.length<1000000):Res (colon_reader_read (rd [] (-1)) (bs l)) (readL l):=by
 unfold colon_reader_read readL
 rw [pre2,bindM_some]
 by_cases hc:isCC l=true
 ·obtain ⟨r,rfl⟩:=(isCC_iff l).1 hc
  have hg:(0:Int)≤2∧2≤((bs (58::58::r)).size:Int)∧((bs (58::58::r)).size:Int)≤((bs (58::58::r)).size:Int):=by
   rw [bs_size,List.length_cons,List.length_cons];omega
  have hx:(bs (58::58::r)).extract (Int.toNat 2) (Int.toNat ((bs (58::58::r)).size:Int))=bs r:=by
   rw [Int.toNat_natCast,bs_extract,bs_size,List.take_of_length_le (Nat.le_refl _)];rfl
  rw [if_pos hc,if_pos hc,if_pos hg,hx]
  show Res (if seq (bs r) (⟨#[]⟩:ByteArray)=true then _ else _) (if r=[] then _ else _)
  by_cases h0:r=[]
  ·subst h0
   rw [if_pos rfl,if_pos ((seq_nil []).2 rfl)];rfl
  ·rw [if_neg h0,if_neg (fun e=>h0 ((seq_nil r).1 e))]
   exact res_id (run_gap loop0 0 (by omega) r.length r [] (Nat.le_refl _) (by simp only [List.length_cons] at hb;omega) (by simp))
 ·rw [if_neg hc,if_neg hc]
  exact res_id (run_all loop1 l.length l [] (Nat.le_refl _) hb (by simp))
def fin(q:List Nat×Int):Option (List Nat):=if q.2<0 then (if q.1.length=8 then some q.1 else none) else if q.1.length=8 then none else some (q.1.take q.2.toNat++(List.replicate (8-q.1.length) 0++q.1.drop q.2.toNat))
theorem addG_some{acc l:List Nat}{gp:Int}{q:List Nat×Int}(h:addG acc l gp=some q):q.1.length≤8∧q.2=gp:=by
 unfold addG at h
 split at h
 ·cases h;simp;omega
 ·cases h
theorem readL_ok{l:List UInt8}{q:List Nat×Int}(h:readL l=some q):q.1.length≤8∧q.2≤q.1.length:=by
 unfold readL at h
 split at h
 ·split at h
  ·cases h;simp
  ·obtain ⟨x,_,h⟩:=Option.bind_eq_some_iff.1 h
   have:=addG_some h
   omega
 ·unfold after at h
  split at h
  ·obtain ⟨x,_,h⟩:=Option.bind_eq_some_iff.1 h
   have:=addG_some h
   omega
  ·obtain ⟨x,_,h⟩:=Option.bind_eq_some_iff.1 h
   obtain ⟨y,_,h⟩:=Option.bind_eq_some_iff.1 h
   split at h
   ·cases h;simp at *;omega
   ·cases h
theorem spl_ne:∀ {ps:List (List UInt8)} {a b:List (List UInt8)},spl ps=some (a,b)→a≠[]
 | [],_,_,h=>by cases h
 | p::r,a,b,h=>by
  obtain ⟨t,rfl⟩:=spl_head h
  simp
theorem spl_colons{l:List UInt8}{b:List (List UInt8)}(h:spl (parts 58 l)=some ([[]],b)):isCC l=true:=by
 have hne:=parts_ne 58 l
 cases hp:parts 58 l with
 | nil=>exact absurd hp hne
 | cons p r =>
  rw [hp,spl] at h
  split at h
  ·next hc =>
   simp only [Option.some.injEq,Prod.mk.injEq,List.cons.injEq,and_true] at h
   obtain ⟨rfl,_⟩:=h
   obtain ⟨l2,rfl⟩:=(parts_head l).1 ⟨by rw [hp];rfl,by rw [hp];simp;omega⟩
   rw [parts_colon] at hp
   obtain rfl:=(List.cons.inj hp).2
   obtain ⟨l3,rfl⟩:=(parts_head l2).1 hc
   rfl
  ·cases hs:spl r with
   | none=>rw [hs] at h;cases h
   | some q =>
    rw [hs] at h
    simp only [Option.map_some,Option.some.injEq,Prod.mk.injEq,List.cons.injEq] at h
    obtain ⟨a,b'⟩:=q
    exact absurd h.1.2 (spl_ne hs)
theorem parse_read(l:List UInt8):parseL l=(readL l).bind fin:=by
 unfold readL
 by_cases hc:isCC l=true
 ·obtain ⟨r,rfl⟩:=(isCC_iff l).1 hc
  rw [if_pos hc]
  have hne:=parts_ne 58 r
  have e0:spl (parts 58 (58::58::r))=some ([[]],parts 58 r):=by
   rw [parts_colon,parts_colon,spl,if_pos];rfl
   refine ⟨rfl,?_⟩
   cases hp:parts 58 r with
   | nil=>exact absurd hp hne
   | cons a b=>simp
  have e1:lstE false [[]]=some []:=rfl
  unfold parseL
  simp only [e0,e1,Option.bind_some]
  show _=(if r=[] then _ else (lst true (parts 58 r)).bind _:Option (List Nat×Int)).bind fin
  by_cases h0:r=[]
  ·subst h0;rfl
  ·rw [if_neg h0]
   unfold lstE
   rw [if_neg (fun e=>h0 ((parts_nil_iff r).1 e))]
   cases hl:lst true (parts 58 r) with
   | none=>rfl
   | some y =>
    simp only [Option.bind_some]
    unfold addG
    by_cases h7:y.length≤7
    ·rw [if_pos (by simp;omega),if_pos (by simp;omega)]
     show _=fin (y,0)
     unfold fin
     simp only [Int.lt_irrefl,if_false]
     rw [if_neg (by omega)]
     simp
    ·rw [if_neg (by simp;omega)]
     by_cases h8:y.length=8
     ·rw [if_pos (by simp;omega)]
      show _=fin (y,0)
      unfold fin
      simp only [Int.lt_irrefl,if_false]
      rw [if_pos h8]
     ·rw [if_neg (by simp;omega)];rfl
 ·rw [if_neg hc]
  unfold parseL after
  cases hs:spl (parts 58 l) with
  | none =>
   simp only
   cases hl:lst true (parts 58 l) with
   | none=>rfl
   | some x =>
    simp only [Option.bind_some]
    unfold addG
    by_cases h8:x.length=8
    ·rw [if_pos h8,if_pos (by simp;omega)]
     show _=fin (x,-1)
     unfold fin
     rw [if_pos (by show (-1:Int)<0;omega),if_pos h8]
    ·rw [if_neg h8]
     by_cases h9:x.length≤8
     ·rw [if_pos (by simp;omega)]
      show _=fin (x,-1)
      unfold fin
      rw [if_pos (by show (-1:Int)<0;omega),if_neg h8]
     ·rw [if_neg (by simp;omega)];rfl
  | some q =>
   obtain ⟨a,b⟩:=q
   simp only
   have ea:lstE false a=lst false a:=by
    unfold lstE
    rw [if_neg]
    intro e;subst e
    exact hc (spl_colons hs)
   rw [ea]
   cases hl:lst false a with
   | none=>rfl
   | some x =>
    simp only [Option.bind_some]
    cases hl2:lstE true b with
    | none=>rfl
    | some y =>
     simp only [Option.bind_some,List.nil_append,List.length_nil,Nat.zero_add]
     by_cases h8:x.length+y.length≤8
     ·rw [if_pos h8]
      show _=fin (x++y,((x.length:Nat):Int))
      unfold fin
      simp only [Int.toNat_natCast,List.take_left',List.drop_left',List.length_append]
      rw [if_neg (show ¬ ((x.length:Nat):Int)<0 by omega)]
      by_cases h7:x.length+y.length≤7
      ·rw [if_pos h7,if_neg (by omega),Nat.sub_sub]
      ·rw [if_neg h7,if_pos (by omega)]
     ·rw [if_neg h8,if_neg (by omega)];rfl
theorem ns_take(G:List Nat)(k:Nat):(ns G).take k=ns (G.take k):=by unfold ns;rw [List.map_take]
theorem ns_drop(G:List Nat)(k:Nat):(ns G).drop k=ns (G.drop k):=by unfold ns;rw [List.map_drop]
theorem ns_app(G H:List Nat):ns (G++H)=ns G++ns H:=by unfold ns;rw [List.map_append]
theorem spread_ok{G:List Nat}{gp:Int}(h8:G.length≤8)(hg:gp≤G.length)(hg1 : -1≤gp):∃ v,colon_reader_spread (rd G gp)=some (v,(fin (G,gp)).isSome,rd G gp)∧∀ K,fin (G,gp)=some K→v=gv K∧K.length=8:=by
 unfold colon_reader_spread fin
 show ∃ v,(if decide (gp<0)=true then some (gv G,((G.length:Int)==8),rd G gp) else if ((G.length:Int)==8)=true then some (gv G,false,rd G gp) else _)=_∧_
 by_cases hn:gp<0
 ·rw [if_pos (decide_eq_true hn)]
  simp only [hn,if_true]
  by_cases h:G.length=8
  ·rw [if_pos h]
   exact ⟨gv G,by rw [h];rfl,fun K hK=>by cases hK;exact ⟨rfl,h⟩⟩
  ·rw [if_neg h]
   have e:((G.length:Int)==8)=false:=by rw [beq_eq_false_iff_ne];omega
   exact ⟨gv G,by rw [e];rfl,fun K hK=>by cases hK⟩
 ·rw [if_neg (by rw [decide_eq_true_eq];exact hn)]
  simp only [hn,if_false]
  by_cases h:G.length=8
  ·rw [if_pos h]
   have e:((G.length:Int)==8)=true:=by rw [h];rfl
   exact ⟨gv G,by rw [e];rfl,fun K hK=>by cases hK⟩
  ·rw [if_neg h]
   have e:((G.length:Int)==8)=false:=by rw [beq_eq_false_iff_ne];omega
   rw [e,if_neg Bool.false_ne_true]
   obtain ⟨g,rfl⟩:=Int.eq_ofNat_of_zero_le (show 0≤gp by omega)
   have hgl:g≤G.length:=by omega
   have w1:wr .i64 (8-(G.length:Int))=((8-G.length:Nat):Int):=by rw [wr_i64 (by omega) (by omega)];omega
   have w2:wr .i64 (((8-G.length:Nat):Int)+(g:Int))=((8-G.length+g:Nat):Int):=by rw [wr_i64 (by omega) (by omega)];omega
   show ∃ v,(if (0:Int)≤0∧(0:Int)≤(g:Int)∧(g:Int)≤8 then if (0:Int)≤wr .i64 (wr .i64 (8-(G.length:Int))+(g:Int))∧wr .i64 (wr .i64 (8-(G.length:Int))+(g:Int))≤8∧(8:Int)≤8 then if (0:Int)≤(g:Int)∧(g:Int)≤(G.length:Int)∧(G.length:Int)≤8 then some (vcopy (vcopy (Vector.replicate 8 (0:Int):Vector Int 8) (Int.toNat 0) (List.take (Int.toNat (8-0)) (lsub (Vector.toList (gv G)) 0 (g:Int)))) (Int.toNat (wr .i64 (wr .i64 (8-(G.length:Int))+(g:Int)))) (List.take (Int.toNat (8-wr .i64 (wr .i64 (8-(G.length:Int))+(g:Int)))) (lsub (Vector.toList (gv G)) (g:Int) (G.length:Int))),true,rd G (g:Int)) else none else none else none)=_∧_
   rw [w1,w2,if_pos (by omega),if_pos (by omega),if_pos (by omega)]
   have t1:List.take (Int.toNat (8-0)) (lsub (Vector.toList (gv G)) 0 (g:Int))=ns (G.take g):=by
    unfold lsub
    rw [gv_toList h8,Int.toNat_natCast,ns_take,List.take_append_of_le_length hgl]
    show List.take 8 (ns (G.take g))=_
    exact List.take_of_length_le (by rw [ns_len,List.length_take];omega)
   have t2:List.take (Int.toNat (8-((8-G.length+g:Nat):Int))) (lsub (Vector.toList (gv G)) (g:Int) (G.length:Int))=ns (G.drop g):=by
    unfold lsub
    rw [gv_toList h8,Int.toNat_natCast,Int.toNat_natCast,ns_take,List.take_left' rfl,ns_drop]
    exact List.take_of_length_le (by rw [ns_len,List.length_drop];omega)
   rw [t1,t2,Int.toNat_natCast]
   refine ⟨_,rfl,fun K hK=>?_⟩
   cases hK
   have hz:(Vector.replicate 8 (0:Int):Vector Int 8).toList=ns (List.replicate 8 0):=by simp [ns]
   have c1:(vcopy (Vector.replicate 8 (0:Int):Vector Int 8) (Int.toNat 0) (ns (G.take g))).toList=ns (G.take g++List.replicate (8-g) 0):=by
    rw [vcopy_toList _ _ _ (by rw [ns_len,List.length_take];show 0+_≤8;omega),hz,ns_len,List.length_take,Nat.min_eq_left hgl,ns_drop,ns_app]
    show []++ns (G.take g)++ns ((List.replicate 8 0).drop (0+g))=_
    rw [List.nil_append,List.drop_replicate,Nat.zero_add]
   constructor
   ·apply gv_of
    rw [vcopy_toList _ _ _ (by rw [ns_len,List.length_drop];omega),c1,ns_len,List.length_drop,ns_take,ns_drop,←ns_app,←ns_app]
    congr 1
    have hA:(G.take g).length=g:=by rw [List.length_take];omega
    have e5:(G.take g++List.replicate (8-g) 0).drop (8-G.length+g+(G.length-g))=[]:=List.drop_eq_nil_of_le (by simp;omega)
    rw [e5,List.append_nil,List.take_append,List.take_of_length_le (by omega),hA,List.take_replicate]
    rw [show min (8-G.length+g-g) (8-g)=8-G.length by omega,Int.toNat_natCast,List.append_assoc]
   ·simp;omega
def v16(m:List UInt8):Vector Int 16:=lvec 16 (ob m)
theorem v16_toList{m:List UInt8}(h:m.length=16):(v16 m).toList=ob m:=by
 unfold v16
 rw [lvec_toList 16 _ (by rw [ob_length];omega),List.take_of_length_le (by rw [ob_length];omega)]
theorem v16_of{v:Vector Int 16}{m:List UInt8}(h:v.toList=ob m):v=v16 m:=by
 have hl:m.length=16:=by have:=congrArg List.length h;rw [ob_length] at this;simpa using this.symm
 apply Vector.toList_inj.1
 rw [v16_toList hl,h]
theorem v16_zero:(Vector.replicate 16 (0:Int):Vector Int 16)=v16 (List.replicate 16 0):=v16_of rfl
theorem v16_set{m:List UInt8}(h:m.length=16)(i:Nat)(c:UInt8):vset (v16 m) (i:Int) (c.toNat:Int)=v16 (m.set i c):=by
 apply Vector.toList_inj.1
 rw [vset_toList,v16_toList h,v16_toList (by simpa using h),Int.toNat_natCast]
 unfold ob
 rw [List.map_set]
theorem v16_get{m:List UInt8}(h:m.length=16)(i:Nat)(c:UInt8)(hc:m[i]? = some c):vget (v16 m) (i:Int)=(c.toNat:Int):=by
 unfold vget
 rw [v16_toList h,Int.toNat_natCast,List.getD_eq_getElem?_getD]
 unfold ob
 rw [List.getElem?_map,hc];rfl
theorem set2(A:List UInt8)(k:Nat)(x y:UInt8):((A++List.replicate (k+2) 0).set A.length x).set (A.length+1) y=A++(x::y::List.replicate k 0):=by
 rw [List.set_append_right _ _ (Nat.le_refl _),Nat.sub_self,List.replicate_succ,List.replicate_succ,List.set_cons_zero,List.set_append_right _ _ (by omega),show A.length+1-A.length=1 by omega]
 rfl
theorem un_step(G:List Nat)(i n:Nat)(h:G[i]? = some n):un (G.take (i+1))=un (G.take i)++[UInt8.ofNat (n/256),UInt8.ofNat (n%256)]:=by
 rw [List.take_add_one,h,un_app];rfl
theorem put2(G:List Nat)(h8:G.length=8)(i n:Nat)(hi:i<8)(h:G[i]? = some n)(hn:n<65536)(x y:Int)(hx:x=((n/256:Nat):Int))(hy:y=((n%256:Nat):Int)) :
  vset (vset (v16 (un (G.take i)++List.replicate (16-2*i) 0)) ((2*i:Nat):Int) x) ((2*i+1:Nat):Int) y=v16 (un (G.take (i+1))++List.replicate (16-2*(i+1)) 0):=by
 have hA:(un (G.take i)).length=2*i:=by rw [un_len,List.length_take];omega
 have e1:((UInt8.ofNat (n/256)).toNat:Int)=((n/256:Nat):Int):=by rw [UInt8.toNat_ofNat',Nat.mod_eq_of_lt (by omega)]
 have e2:((UInt8.ofNat (n%256)).toNat:Int)=((n%256:Nat):Int):=by rw [UInt8.toNat_ofNat',Nat.mod_eq_of_lt (by omega)]
 subst hx hy
 rw [←e1,←e2,v16_set (by simp [hA];omega),v16_set (by simp [hA];omega),un_step G i n h,show 16-2*i=(16-2*(i+1))+2 by omega]
 have:=set2 (un (G.take i)) (16-2*(i+1)) (UInt8.ofNat (n/256)) (UInt8.ofNat (n%256))
 rw [hA] at this
 rw [this,List.append_assoc];rfl
theorem bytes_loop{G:List Nat}(h8:G.length=8)(hG:∀ n∈G,n<65536)(b:Bool)(st:S_colon_reader):∀ (k i:Nat),i+k=8→colon_Parse.l0 (gv G,b,st) (i:Int) (v16 (un (G.take i)++List.replicate (16-2*i) 0))=some (v16 (un G)):=by
 intro k
 induction k with
 | zero =>
  intro i hi
  obtain rfl:i=8:=by omega
  rw [colon_Parse.l0.eq_def,if_neg (by decide),List.take_of_length_le (by omega)]
  simp
 | succ k ih =>
  intro i hi
  have hlt:i<8:=by omega
  obtain ⟨n,hn⟩:∃ n,G[i]? = some n:=⟨_,List.getElem?_eq_getElem (by omega)⟩
  have hn6:=hG n (List.mem_of_getElem? hn)
  have w1:wr .i64 (2*(i:Int))=((2*i:Nat):Int):=by rw [wr_i64 (by omega) (by omega)];omega
  have w2:wr .i64 (((2*i:Nat):Int)+1)=((2*i+1:Nat):Int):=by rw [wr_i64 (by omega) (by omega)];omega
  have w3:wr .i64 ((i:Int)+1)=((i+1:Nat):Int):=by rw [wr_i64 (by omega) (by omega)];omega
  have hv:vget (gv G) (i:Int)=(n:Int):=gv_get h8 i n hn
  rw [colon_Parse.l0.eq_def,if_pos (decide_eq_true (by omega)),if_pos (by omega),w1,w2,if_pos (by omega),if_pos (by omega),w3]
  show colon_Parse.l0 (gv G,b,st) _ (vset (vset _ _ (wr .u8 (ishr .u16 (vget (gv G) (i:Int)) 8))) _ (wr .u8 (vget (gv G) (i:Int))))=_
  rw [hv,put2 G h8 i n hlt hn hn6]
  ·exact ih (i+1) (by omega)
  ·rw [show (8:Int)=((8:Nat):Int) from rfl,ishr_nat .u16 n 8 (by decide),wr_u8 (by omega) (by show ((n/256:Nat):Int)<256;omega)]
  ·rw [wr_u8_mod];omega
theorem lst_lt(last:Bool):∀ (ps:List (List UInt8)) (x:List Nat),lst last ps=some x→∀ n∈x,n<65536
 | [],x,h,n,hn=>by cases h;cases hn
 | p::r,x,h,n,hn=>by
  rw [lst] at h
  cases hr:Hex.read (bs p) with
  | some m =>
   rw [hr] at h
   obtain ⟨y,hy,rfl⟩:=Option.map_eq_some_iff.1 h
   rcases List.mem_cons.1 hn with rfl | hn
   ·exact Hex.read_lt _ _ hr
   ·exact lst_lt last r y hy n hn
  | none =>
   rw [hr] at h
   simp only at h
   split at h
   ·next hq =>
    cases h
    obtain ⟨m,hm,hq2,_⟩:=quadP_back hq.1
    match m,hm with
    | [a,b,c,d],hm =>
     have ha:=a.toNat_lt
     have hb:=b.toNat_lt
     have hc:=c.toNat_lt
     have hd:=d.toNat_lt
     have e0:vget (v4 [a,b,c,d]) 0=(a.toNat:Int):=vget_v4 hm 0 a rfl
     have e1:vget (v4 [a,b,c,d]) 1=(b.toNat:Int):=vget_v4 hm 1 b rfl
     have e2:vget (v4 [a,b,c,d]) 2=(c.toNat:Int):=vget_v4 hm 2 c rfl
     have e3:vget (v4 [a,b,c,d]) 3=(d.toNat:Int):=vget_v4 hm 3 d rfl
     rw [hq2] at hn
     unfold q2 at hn
     simp only [e0,e1,e2,e3,Int.toNat_natCast,List.mem_cons,List.not_mem_nil,or_false] at hn
     omega
   ·cases h
theorem lstE_lt{last:Bool}{ps:List (List UInt8)}{x:List Nat}(h:lstE last ps=some x):∀ n∈x,n<65536:=by
 unfold lstE at h
 split at h
 ·cases h;intro n hn;cases hn
 ·exact lst_lt last ps x h
theorem parseL_ok{l:List UInt8}{G:List Nat}(h:parseL l=some G):G.length=8∧∀ n∈G,n<65536:=by
 unfold parseL at h
 split at h
 ·obtain ⟨x,hx,h⟩:=Option.bind_eq_some_iff.1 h
  split at h
  ·next h8=>cases h;exact ⟨h8,lst_lt _ _ _ hx⟩
  ·cases h
 ·obtain ⟨x,hx,h⟩:=Option.bind_eq_some_iff.1 h
  obtain ⟨y,hy,h⟩:=Option.bind_eq_some_iff.1 h
  split at h
  ·cases h
   refine ⟨by simp;omega,fun n hn=>?_⟩
   rcases List.mem_append.1 hn with hn | hn
   ·exact lstE_lt hx n hn
   ·rcases List.mem_append.1 hn with hn | hn
    ·have:=List.eq_of_mem_replicate hn;omega
    ·exact lstE_lt hy n hn
  ·cases h
def parseV(l:List UInt8):Vector Int 16:=v16 (match parseL l with | some G=>un G | none=>List.replicate 16 0)
theorem colon_parse(l:List UInt8)(hb:l.length<1000000):colon_Parse (bs l)=some (parseV l,if (parseL l).isSome then 0 else 5):=by
 unfold colon_Parse parseV
 have h0:({ ({ f_g:=(Vector.replicate 8 (0:Int):(Vector Int 8)),f_n:=(0:Int),f_gap:=(0:Int) }:S_colon_reader) with f_gap:=(-1) }:S_colon_reader)=rd [] (-1):=by
  show S_colon_reader.mk _ _ _=S_colon_reader.mk _ _ _
  rw [gv_zero];rfl
 rw [h0,parse_read]
 have hr:=read_ok l hb
 cases hq:readL l with
 | none =>
  rw [hq] at hr
  obtain ⟨s',hr⟩:=hr
  rw [hr,bindM_some]
  show (if (!false)=true then _ else _)=_
  rw [if_pos (show (!false)=true from rfl),v16_zero];rfl
 | some q =>
  obtain ⟨G,gp⟩:=q
  rw [hq] at hr
  have hr':colon_reader_read (rd [] (-1)) (bs l)=some (true,rd G gp):=hr
  rw [hr',bindM_some]
  show (if (!true)=true then _ else _)=_
  obtain ⟨h8,hg⟩:=readL_ok hq
  have hg1 : -1≤gp:=by
   unfold readL at hq
   split at hq
   ·split at hq
    ·cases hq;omega
    ·obtain ⟨x,_,hq⟩:=Option.bind_eq_some_iff.1 hq
     have:=(addG_some hq).2
     simp only at this;omega
   ·unfold after at hq
    split at hq
    ·obtain ⟨x,_,hq⟩:=Option.bind_eq_some_iff.1 hq
     have:=(addG_some hq).2
     simp only at this;omega
    ·obtain ⟨x,_,hq⟩:=Option.bind_eq_some_iff.1 hq
     obtain ⟨y,_,hq⟩:=Option.bind_eq_some_iff.1 hq
     split at hq
     ·cases hq;omega
     ·cases hq
  obtain ⟨v,hv,hK⟩:=spread_ok h8 hg hg1
  rw [if_neg (by decide)]
  show (colon_reader_spread (rd G gp)>>=fun t5=>_)=_
  rw [hv,bindM_some]
  show (if (!(fin (G,gp)).isSome)=true then _ else _)=some (v16 (match fin (G,gp) with | some K=>un K | none=>List.replicate 16 0),if (fin (G,gp)).isSome=true then 0 else 5)
  cases hf:fin (G,gp) with
  | none =>
   rw [if_pos (show (!(none:Option (List Nat)).isSome)=true from rfl),v16_zero];rfl
  | some K =>
   obtain ⟨hv2,hK8⟩:=hK K hf
   have hlt:∀ n∈K,n<65536:=(parseL_ok (l:=l) (G:=K) (by rw [parse_read,hq];exact hf)).2
   rw [if_neg (show ¬ (!(some K).isSome)=true from Bool.false_ne_true),v16_zero,hv2]
   have:=bytes_loop hK8 hlt true (rd G gp) 8 0 rfl
   rw [show 16-2*0=16 from rfl,List.take_zero,show un []=[] from rfl,List.nil_append,show ((0:Nat):Int)=0 from rfl] at this
   show (colon_Parse.l0 (gv K,true,rd G gp) 0 (v16 (List.replicate 16 0))>>=fun q9=>_)=_
   rw [this];rfl
end Go.Proofs.YtkkmmpofdcccmaaGreatDoor.Col
