/- Texts of this claim, those in one that belong together; printed by a program of this project. -/
import Derived.Test.YtkkmmpofdcccmaaGreatDoorProg
import Derived.Test.YtkkmmpofdcccmaaGreatDoorKScriptReads1
set_option linter.unusedVariables false
set_option linter.unusedSimpArgs false
namespace Go.Proofs.YtkkmmpofdcccmaaGreatDoor
open E Go.RowKit _root_.Go.Proofs.Tryz
theorem infoG43_is:(Tryz.prog.info? 3).isSome=true:=by kernel_rfl
noncomputable def infoG43_v:TypeInfo:=(Tryz.prog.info? 3).get infoG43_is
theorem infoG43:Tryz.prog.info? 3=some infoG43_v:=(Option.some_get _).symm
def crawlwayref09_gap.l0(x0:ByteArray)(i2:Int):Option (Ctl (Int) (Unit)) :=
 if (decide (wr .i64 (i2+1)<(x0.size:Int)))=true then (if (0:Int)≤i2∧i2<(x0.size:Int) then if (bt x0 i2==58)=true then (if (0:Int)≤wr .i64 (i2+1)∧wr .i64 (i2+1)<(x0.size:Int) then if (bt x0 (wr .i64 (i2+1))==58)=true then (some (.ret i2)) else (crawlwayref09_gap.l0 x0 (wr .i64 (i2+1))) else none) else (crawlwayref09_gap.l0 x0 (wr .i64 (i2+1))) else none) else (some (.nx ()))
 partial_fixpoint
def crawlwayref09_gap(x0:ByteArray):Option (Int) :=
 crawlwayref09_gap.l0 x0 0>>=fun q1=>match q1 with | .ret r'=>some r' | .nx sq1=>(some (-1))
theorem crawlwayref09_gap_ok(x0:ByteArray)(r:Int)(hF:crawlwayref09_gap x0=some r)(w:World) :
    Calls Tryz.prog 164 #[.string x0] w (fun e w'=>e=.returned (.int .i64 r)∧w'=w):=by
 unfold crawlwayref09_gap at hF
 refine ce (l:=[.string x0]) func164 rfl rfl ?_
 refine sr (aa (nt (qs (sr (aa (nwq [3,0] ?_))))))
 refine qb ?_
 obtain ⟨q1,hq1,hF⟩:=bM hF
 refine wq [3,0] ?_
 refine at_loop_r (B:=0) (r:=r) (q:=q1) (A:=fun (_:Unit) Y=>At 23 [] (fun w'=>w'=w) Y) ?_ ?_
 ·intro K
  refine crawlwayref09_gap.l0.partial_correctness x0 (motive:=fun i2 x=>KR (fun (_:Unit) Y=>At 23 [] (fun w'=>w'=w) Y) _ 0 r x→Round (fun Y=>At 23 [(0,.string x0),(3,.int .i64 i2)] (fun w'=>w'=w) Y) _ _ _) ?_ _ _ hq1 K
  ·clear K hF
   intro g ih i2 x hF K
   refine at_round ?_
   refine qs (sr (am (aw xa (am ?_))))
   refine aw (r_len_str underlying9 rfl) ?_
   refine aw xl (nwq [8,3,0] ?_)
   obtain ⟨h3,hF⟩|⟨h3,hF⟩:=oi hF
   ·refine ct h3 ?_
    refine sn (qs ?_)
    refine qb ?_
    refine sr (am (am ?_))
    obtain ⟨h4,hF⟩:=gd hF
    refine aw (r_index_str underlying9 rfl rfl h4) ?_
    refine aw xq (am ?_)
    obtain ⟨h5,hF⟩|⟨h5,hF⟩:=oi hF
    ·refine fx 15 h5 ?_
     refine gy ?_
     refine am ?_
     refine gy ?_
     refine am ?_
     refine gy ?_
     refine aw xa ?_
     refine gy ?_
     obtain ⟨h6,hF⟩:=gd hF
     refine aw (r_index_str underlying9 rfl rfl h6) ?_
     refine gy ?_
     refine aw xq (aw xp (nwq [21,3,0] ?_))
     obtain ⟨h7,hF⟩|⟨h7,hF⟩:=oi hF
     ·refine ct h7 ?_
      refine sr (am (aa (nwq [2] ?_)))
      refine qt ?_
      refine br (tr (tr (br (tr ?_))))
      obtain rfl:=os hF
      subst K
      exact r1 (fun w1 hw=>⟨rfl,hw⟩)
     refine cf h7 ?_
     refine at_skip ?_
     refine bm ?_
     refine qr (am (aw xa (aa (nwq [3,0] ?_))))
     exact at_weak_k (ih _ _ hF K) ⟨rfl,rfl,trivial⟩
    refine fx 15 h5 ?_
    refine gn ?_
    refine gn ?_
    refine gn ?_
    refine gn ?_
    refine gn ?_
    refine aw xp (nwq [21,3,0] ?_)
    refine cf rfl ?_
    refine at_skip ?_
    refine bm ?_
    refine qr (am (aw xa (aa (nwq [3,0] ?_))))
    exact at_weak_k (ih _ _ hF K) ⟨rfl,rfl,trivial⟩
   refine cf h3 ?_
   refine at_exit ?_
   refine te (te ?_)
   obtain rfl:=os hF
   exact at_weak_k K trivial
 cases q1 with
 | ret r'=>exact os hF
 | nx sq1 =>
  skip
  refine at_blk_same ?_
  refine tn (sr (aa (nwq [2] ?_)))
  refine qt ?_
  have K:=os hF
  subst K
  exact r1 (fun w1 hw=>⟨rfl,hw⟩)
def crawlwayref05_digit(x0:Int):Option (ByteArray) :=
 if (0:Int)≤x0∧x0≤wr .i64 (x0+1)∧wr .i64 (x0+1)≤((⟨#[48,49,50,51,52,53,54,55,56,57,97,98,99,100,101,102]⟩:ByteArray).size:Int) then some ((⟨#[48,49,50,51,52,53,54,55,56,57,97,98,99,100,101,102]⟩:ByteArray).extract (Int.toNat x0) (Int.toNat (wr .i64 (x0+1)))) else none
theorem crawlwayref05_digit_ok(x0:Int)(r:ByteArray)(hF:crawlwayref05_digit x0=some r)(w:World) :
    Calls Tryz.prog 88 #[.int .i64 x0] w (fun e w'=>e=.returned (.string r)∧w'=w):=by
 unfold crawlwayref05_digit at hF
 refine ce (l:=[.int .i64 x0]) func88 rfl rfl ?_
 refine sr (aa (ns (am (am (aw xa ?_)))))
 obtain ⟨h1,hF⟩:=gd hF
 refine aw (r_slice_str underlying9 rfl ⟨_,rfl⟩ ⟨_,rfl⟩ h1) ?_
 refine aa (nwq [2] ?_)
 refine qt ?_
 have K:=os hF
 subst K
 exact r1 (fun w1 hw=>⟨rfl,hw⟩)
def crawlwayref05_Value.l0(x0:Int)(x1:Bool)(i2:Int):Option (Ctl (Int) (Unit)) :=
 if (decide (i2<16))=true then (crawlwayref05_digit i2>>=fun t4=>if (0:Int)≤0∧0<(t4.size:Int) then if (bt t4 0==x0)=true then (some (.ret i2)) else (if x1=true then (if (decide (i2>9))=true then (crawlwayref05_digit i2>>=fun t9=>if (0:Int)≤0∧0<(t9.size:Int) then if (bt t9 0==wr .u8 (x0+32))=true then (some (.ret i2)) else (crawlwayref05_Value.l0 x0 x1 (wr .i64 (i2+1))) else none) else (crawlwayref05_Value.l0 x0 x1 (wr .i64 (i2+1)))) else (crawlwayref05_Value.l0 x0 x1 (wr .i64 (i2+1)))) else none) else (some (.nx ()))
 partial_fixpoint
def crawlwayref05_Value(x0:Int)(x1:Bool):Option (Int) :=
 crawlwayref05_Value.l0 x0 x1 0>>=fun q1=>match q1 with | .ret r'=>some r' | .nx sq1=>(some (-1))
theorem crawlwayref05_Value_ok(x0:Int)(x1:Bool)(r:Int)(hF:crawlwayref05_Value x0 x1=some r)(w:World) :
    Calls Tryz.prog 118 #[.int .u8 x0,.bool x1] w (fun e w'=>e=.returned (.int .i64 r)∧w'=w):=by
 unfold crawlwayref05_Value at hF
 refine ce (l:=[.int .u8 x0,.bool x1]) func118 rfl rfl ?_
 refine sr (aa (nt (qs (sr (aa (nwq [5,1,0] ?_))))))
 refine qb ?_
 obtain ⟨q1,hq1,hF⟩:=bM hF
 refine wq [5,1,0] ?_
 refine at_loop_r (B:=0) (r:=r) (q:=q1) (A:=fun (_:Unit) Y=>At 31 [] (fun w'=>w'=w) Y) ?_ ?_
 ·intro K
  refine crawlwayref05_Value.l0.partial_correctness x0 x1 (motive:=fun i2 x=>KR (fun (_:Unit) Y=>At 31 [] (fun w'=>w'=w) Y) _ 0 r x→Round (fun Y=>At 31 [(0,.int .u8 x0),(1,.bool x1),(5,.int .i64 i2)] (fun w'=>w'=w) Y) _ _ _) ?_ _ _ hq1 K
  ·clear K hF
   intro g ih i2 x hF K
   refine at_round ?_
   refine qs (sr (am (aw xl (nwq [7,5,1,0] ?_))))
   obtain ⟨h3,hF⟩|⟨h3,hF⟩:=oi hF
   ·refine ct h3 ?_
    refine sn (qs ?_)
    refine qb ?_
    refine sr (am ?_)
    obtain ⟨t4,ht4,hF⟩:=bM hF
    refine at_call0 func88 rfl (by kernel_rfl) rfl rfl (fun w=>crawlwayref05_digit_ok _ _ ht4 w) ?_
    obtain ⟨h5,hF⟩:=gd hF
    refine aw (r_index_str underlying9 rfl rfl h5) ?_
    refine am (aw xq (am ?_))
    obtain ⟨h6,hF⟩|⟨h6,hF⟩:=oi hF
    ·refine fx 15 h6 ?_
     refine gn ?_
     refine gn ?_
     refine at_guard_undef rfl rfl rfl rfl ?_
     refine at_guard_undef rfl rfl rfl rfl ?_
     refine gn ?_
     refine gn ?_
     refine at_guard_undef rfl rfl rfl rfl ?_
     refine at_guard_undef rfl rfl rfl rfl ?_
     refine at_guard_undef rfl rfl rfl rfl ?_
     refine at_guard_undef rfl rfl rfl rfl ?_
     refine at_guard_undef rfl rfl rfl rfl ?_
     refine at_guard_undef rfl rfl rfl rfl ?_
     refine gn ?_
     refine aw xp (nwq [29,5,1,0] ?_)
     refine ct rfl ?_
     refine sr (am (aa (nwq [4] ?_)))
     refine qt ?_
     refine br (tr (tr (br (tr ?_))))
     obtain rfl:=os hF
     subst K
     exact r1 (fun w1 hw=>⟨rfl,hw⟩)
    refine fx 15 h6 ?_
    refine gy ?_
    refine am ?_
    refine gy ?_
    refine am ?_
    obtain ⟨h7,hF⟩|⟨h7,hF⟩:=oi hF
    ·refine fx 17 h7 ?_
     refine gy ?_
     refine am ?_
     refine gy ?_
     refine aw (r_igtr rfl rfl) ?_
     refine gy ?_
     refine aw xp ?_
     refine gy ?_
     refine am ?_
     obtain ⟨h8,hF⟩|⟨h8,hF⟩:=oi hF
     ·refine fx 21 h8 ?_
      refine gy ?_
      refine am ?_
      refine gy ?_
      obtain ⟨t9,ht9,hF⟩:=bM hF
      refine at_call0 func88 rfl (by kernel_rfl) rfl rfl (fun w=>crawlwayref05_digit_ok _ _ ht9 w) ?_
      refine gy ?_
      obtain ⟨h10,hF⟩:=gd hF
      refine aw (r_index_str underlying9 rfl rfl h10) ?_
      refine gy ?_
      refine am ?_
      refine gy ?_
      refine aw xa ?_
      refine gy ?_
      refine aw xq ?_
      refine gy ?_
      refine aw xp (aw xp (nwq [29,5,1,0] ?_))
      obtain ⟨h11,hF⟩|⟨h11,hF⟩:=oi hF
      ·refine ct h11 ?_
       refine sr (am (aa (nwq [4] ?_)))
       refine qt ?_
       refine br (tr (tr (br (tr ?_))))
       obtain rfl:=os hF
       subst K
       exact r1 (fun w1 hw=>⟨rfl,hw⟩)
      refine cf h11 ?_
      refine at_skip ?_
      refine bm ?_
      refine qr (am (aw xa (aa (nwq [5,1,0] ?_))))
      exact at_weak_k (ih _ _ hF K) ⟨rfl,rfl,rfl,trivial⟩
     refine fx 21 h8 ?_
     refine gn ?_
     refine gn ?_
     refine gn ?_
     refine gn ?_
     refine gn ?_
     refine gn ?_
     refine gy ?_
     refine aw xp (aw xp (nwq [29,5,1,0] ?_))
     refine cf rfl ?_
     refine at_skip ?_
     refine bm ?_
     refine qr (am (aw xa (aa (nwq [5,1,0] ?_))))
     exact at_weak_k (ih _ _ hF K) ⟨rfl,rfl,rfl,trivial⟩
    refine fx 17 h7 ?_
    refine gn ?_
    refine gn ?_
    refine gy ?_
    refine aw xp ?_
    refine gy ?_
    refine am ?_
    refine gn ?_
    refine gn ?_
    refine gn ?_
    refine gn ?_
    refine gn ?_
    refine gn ?_
    refine gy ?_
    refine aw xp (aw xp (nwq [29,5,1,0] ?_))
    refine cf rfl ?_
    refine at_skip ?_
    refine bm ?_
    refine qr (am (aw xa (aa (nwq [5,1,0] ?_))))
    exact at_weak_k (ih _ _ hF K) ⟨rfl,rfl,rfl,trivial⟩
   refine cf h3 ?_
   refine at_exit ?_
   refine te (te ?_)
   obtain rfl:=os hF
   exact at_weak_k K trivial
 cases q1 with
 | ret r'=>exact os hF
 | nx sq1 =>
  skip
  refine at_blk_same ?_
  refine tn (sr (aa (nwq [4] ?_)))
  refine qt ?_
  have K:=os hF
  subst K
  exact r1 (fun w1 hw=>⟨rfl,hw⟩)
def crawlwayref05_ReadGroup.l0(x0:ByteArray)(i4:Int)(i5:Int):Option (Ctl (Int) (Int)) :=
 if (decide (i5<(x0.size:Int)))=true then (if (0:Int)≤i5∧i5<(x0.size:Int) then crawlwayref05_Value (bt x0 i5) true>>=fun t8=>if (decide (t8<0))=true then (some (.ret (-1))) else (crawlwayref05_ReadGroup.l0 x0 (wr .i64 ((wr .i64 (16*i4))+t8)) (wr .i64 (i5+1))) else none) else (some (.nx i4))
 partial_fixpoint
def crawlwayref05_ReadGroup(x0:ByteArray):Option (Int) :=
 if (decide ((x0.size:Int)<1))=true then (some (-1)) else (if (decide ((x0.size:Int)>4))=true then (some (-1)) else (crawlwayref05_ReadGroup.l0 x0 0 0>>=fun q3=>match q3 with | .ret r'=>some r' | .nx sq3=>(some sq3)))
theorem crawlwayref05_ReadGroup_ok(x0:ByteArray)(r:Int)(hF:crawlwayref05_ReadGroup x0=some r)(w:World) :
    Calls Tryz.prog 189 #[.string x0] w (fun e w'=>e=.returned (.int .i64 r)∧w'=w):=by
 unfold crawlwayref05_ReadGroup at hF
 refine ce (l:=[.string x0]) func189 rfl rfl ?_
 refine sr (aa (nwq [0] ?_))
 refine qs (sr (am ?_))
 refine aw (r_len_str underlying9 rfl) ?_
 refine aw xl (am ?_)
 obtain ⟨h1,hF⟩|⟨h1,hF⟩:=oi hF
 ·refine fx 9 h1 ?_
  refine gn ?_
  refine gn ?_
  refine gn ?_
  refine aw xp (nwq [13,0] ?_)
  refine ct rfl ?_
  refine sr (aa (nwq [2] ?_))
  refine rt ?_
  have K:=os hF
  subst K
  exact r1 (fun w1 hw=>⟨rfl,hw⟩)
 refine fx 9 h1 ?_
 refine gy ?_
 refine am ?_
 refine gy ?_
 refine aw (r_len_str underlying9 rfl) ?_
 refine gy ?_
 refine aw (r_igtr rfl rfl) ?_
 refine aw xp (nwq [13,0] ?_)
 obtain ⟨h2,hF⟩|⟨h2,hF⟩:=oi hF
 ·refine ct h2 ?_
  refine sr (aa (nwq [2] ?_))
  refine rt ?_
  have K:=os hF
  subst K
  exact r1 (fun w1 hw=>⟨rfl,hw⟩)
 refine cf h2 ?_
 refine sns (aa (nt (qs (sr (aa (nwq [4,3,0] ?_))))))
 refine qb ?_
 obtain ⟨q3,hq3,hF⟩:=bM hF
 refine wq [4,3,0] ?_
 refine at_loop_r (B:=0) (r:=r) (q:=q3) (A:=fun sq3 Y=>At 31 [(3,.int .i64 sq3)] (fun w'=>w'=w) Y) ?_ ?_
 ·intro K
  refine crawlwayref05_ReadGroup.l0.partial_correctness x0 (motive:=fun i4 i5 x=>KR (fun sq3 Y=>At 31 [(3,.int .i64 sq3)] (fun w'=>w'=w) Y) _ 0 r x→Round (fun Y=>At 31 [(0,.string x0),(3,.int .i64 i4),(4,.int .i64 i5)] (fun w'=>w'=w) Y) _ _ _) ?_ _ _ _ hq3 K
  ·clear K hF
   intro g ih i4 i5 x hF K
   refine at_round ?_
   refine qs (sr (am (am ?_)))
   refine aw (r_len_str underlying9 rfl) ?_
   refine aw xl (nwq [17,4,3,0] ?_)
   obtain ⟨h6,hF⟩|⟨h6,hF⟩:=oi hF
   ·refine ct h6 ?_
    refine sn (qs ?_)
    refine qb ?_
    refine sr (am (am ?_))
    obtain ⟨h7,hF⟩:=gd hF
    refine aw (r_index_str underlying9 rfl rfl h7) ?_
    obtain ⟨t8,ht8,hF⟩:=bM hF
    refine at_call0 func118 rfl (by kernel_rfl) rfl rfl (fun w=>crawlwayref05_Value_ok _ _ _ ht8 w) ?_
    refine aa (nt (qs (sr (am (aw xl (nwq [25,5,4,3,0] ?_))))))
    obtain ⟨h9,hF⟩|⟨h9,hF⟩:=oi hF
    ·refine ct h9 ?_
     refine sr (aa (nwq [2] ?_))
     refine qt ?_
     refine tr (br (tr (tr (br (tr ?_)))))
     obtain rfl:=os hF
     subst K
     exact r1 (fun w1 hw=>⟨rfl,hw⟩)
    refine cf h9 ?_
    refine sn (qr (am ?_))
    refine aw (r_imul rfl rfl) ?_
    refine am (aw xa (aa (qn (wq [4,3,0] ?_))))
    refine bm ?_
    refine qr (am (aw xa (aa (nwq [4,3,0] ?_))))
    exact at_weak_k (ih _ _ _ hF K) ⟨rfl,rfl,rfl,trivial⟩
   refine cf h6 ?_
   refine at_exit ?_
   refine te (te ?_)
   obtain rfl:=os hF
   exact at_weak_k K ⟨rfl,trivial⟩
 cases q3 with
 | ret r'=>exact os hF
 | nx sq3 =>
  skip
  refine at_blk_same ?_
  refine tn (sr (am (aa (nwq [2] ?_))))
  refine qt ?_
  have K:=os hF
  subst K
  exact r1 (fun w1 hw=>⟨rfl,hw⟩)
def crawlwayref09_list.l0(x1:Bool)(t2:List ByteArray)(i9:List Int)(i10:Int):Option (Ctl (List Int×Bool) (List Int)) :=
 if (decide (i10<(t2.length:Int)))=true then (if (0:Int)≤i10∧i10<(t2.length:Int) then crawlwayref05_ReadGroup (lget t2 i10)>>=fun t20=>if (decide (t20≥0))=true then (if (i9.length+1)*8≤140737488355328 then crawlwayref09_list.l0 x1 t2 (i9++[t20]) (wr .i64 (i10+1)) else none) else (if (0:Int)≤i10∧i10<(t2.length:Int) then crawlwayref08_Parse (lget t2 i10)>>=fun t30=>if (t30.2 != 0)=true then (some (.ret ([],false))) else (if (!x1)=true then (some (.ret ([],false))) else (if (decide (i10<wr .i64 ((t2.length:Int)-1)))=true then (some (.ret ([],false))) else (if (i9.length+2)*8≤140737488355328 then crawlwayref09_list.l0 x1 t2 (i9++[wr .i64 ((wr .i64 (256*(wr .i64 (vget t30.1 0))))+(wr .i64 (vget t30.1 1))),wr .i64 ((wr .i64 (256*(wr .i64 (vget t30.1 2))))+(wr .i64 (vget t30.1 3)))]) (wr .i64 (i10+1)) else none))) else none) else none) else (some (.nx i9))
 partial_fixpoint
def crawlwayref09_list(x0:ByteArray)(x1:Bool):Option (List Int×Bool) :=
 if (seq x0 (⟨#[]⟩:ByteArray))=true then (some ([],true)) else (crawlwayref06_Parts x0 58>>=fun t2=>crawlwayref09_list.l0 x1 t2 ([]:List Int) 0>>=fun q7=>match q7 with | .ret r'=>some r' | .nx sq7=>(some (sq7,true)))
theorem crawlwayref09_list_ok(x0:ByteArray)(x1:Bool)(r:List Int×Bool)(hF:crawlwayref09_list x0 x1=some r)(w:World) :
    Calls Tryz.prog 165 #[.string x0,.bool x1] w (fun e w'=>∃ p cap,e=.returned (.tuple #[.slice p r.1.length cap,.bool r.2])∧Own (cInt .i64) 3 w.heap.size w' p cap r.1∧Below w.heap.size w w'):=by
 unfold crawlwayref09_list at hF
 refine ce (l:=[.string x0,.bool x1]) func165 rfl rfl ?_
 refine at_start ?_
 refine sr (aa (aa (nt (qs (sr (am ?_))))))
 refine aw (r_seql rfl rfl) ?_
 refine nwq [13,1,0] ?_
 obtain ⟨h1,hF⟩|⟨h1,hF⟩:=oi hF
 ·refine ct h1 ?_
  refine sr (aa (aa (nwq [5,4] ?_)))
  refine rt ?_
  have K:=os hF
  subst K
  exact at_return2 rfl rfl rfl (fun w1 hw=>⟨none,0,rfl,Own.nil _ _ _ _,hw.below⟩)
 refine cf h1 ?_
 refine sns (aa (ns (am ?_)))
 obtain ⟨t2,ht2,hF⟩:=bM hF
 refine at_callO (c:=cStr) (e:=9) (ys:=t2) (V:=fun p cap=>.slice p t2.length cap) func56 rfl (by kernel_rfl) rfl rfl (fun w hw=>crawlwayref06_Parts_ok _ _ _ ht2 w) ?_
 intro p3 c4
 refine aa (nt (qs (sr (aa (nwq [8,7,6,1] ?_)))))
 refine qb ?_
 refine at_own_nil (cInt .i64) 3 ?_
 obtain ⟨q7,hq7,hF⟩:=bM hF
 refine wq [8,7,6,1] ?_
 refine at_loop_r (B:=0) (r:=r) (q:=q7) (A:=fun sq7 Y=>∀ (p13:Option Addr) (c14:Nat),At 74 [(6,.slice p13 sq7.length c14)] (Wd w [rowE (cInt .i64) 3 p13 c14 sq7]) Y) ?_ ?_
 ·intro K
  refine crawlwayref09_list.l0.partial_correctness x1 t2 (motive:=fun i9 i10 x=>KR (fun sq7 Y=>∀ (p13:Option Addr) (c14:Nat),At 74 [(6,.slice p13 sq7.length c14)] (Wd w [rowE (cInt .i64) 3 p13 c14 sq7]) Y) _ 0 r x→Round (fun Y=>∀ (p11:Option Addr) (c12:Nat),At 74 [(1,.bool x1),(6,.slice p11 i9.length c12),(7,.slice p3 t2.length c4),(8,.int .i64 i10)] (Wd w [rowE (cInt .i64) 3 p11 c12 i9,rowE cStr 9 p3 c4 t2]) Y) _ _ _) ?_ _ _ _ hq7 K none 0
  ·clear K hF
   intro g ih i9 i10 x hF K p11 c12
   refine at_round ?_
   refine qs (sr (am (am ?_)))
   refine aw (r_len_sl underlying38 rfl) ?_
   refine aw xl (nwq [19,8,7,6,1] ?_)
   obtain ⟨h15,hF⟩|⟨h15,hF⟩:=oi hF
   ·refine ct h15 ?_
    refine sn (qs ?_)
    refine qb ?_
    refine sr (am (am ?_))
    obtain ⟨h16,hF⟩:=gd hF
    refine at_pure (φ:=∃ b o,p3=some ⟨b,o,none⟩) (fun _ hw=>row_ptr (hw.own (.s .z)).row h16) ?_
    rintro ⟨b18,o19,hp17⟩
    refine aw (r_idx underlying38 sizeOf9 rfl rfl h16 hp17) ?_
    refine aw (r_load_cell isAgg9 rfl (fun _ hw=>row_cell0 (W:=fun w1=>w1=_) (fun w1 h=>by subst h;exact Below.refl _ _) (hw.own (.s .z)).row h16 hp17 rfl _ rfl)) ?_
    obtain ⟨t20,ht20,hF⟩:=bM hF
    refine at_call0 func189 rfl (by kernel_rfl) rfl rfl (fun w=>crawlwayref05_ReadGroup_ok _ _ ht20 w) ?_
    refine aa (nt (qs (sr (am ?_))))
    refine aw (r_igeq rfl rfl) ?_
    refine nwq [28,9,8,7,6,1] ?_
    obtain ⟨h21,hF⟩|⟨h21,hF⟩:=oi hF
    ·refine ct h21 ?_
     refine sr (am (am ?_))
     refine at_lit (cs:=(cInt .i64).all ([t20]:List Int)) underlying112 sizeOf3 zeroValue3 rfl rfl rfl (by kernel_rfl) rfl ?_
     intro b22
     obtain ⟨h23,hF⟩:=gd hF
     refine at_append (z:=.int .i64 0) (c:=(cInt .i64)) (ys:=([t20]:List Int)) (.s .z) underlying112 infoG43 (by kernel_rfl) (by kernel_rfl) rfl rfl rfl rfl (fun _ hw=>cells_src (hw.ok (Upd.mem .z))) (by kernel_rfl) h23 (app_small h23) rfl ?_
     intro p24 c25
     refine aa (qn (dz (wq [8,7,6,1] ?_)))
     refine tn ?_
     refine at_exit ?_
     refine te (at_blk_same (tn ?_))
     refine qr (am (aw xa (aa (nwq [8,7,6,1] ?_))))
     exact at_weak_k (ih _ _ _ hF K p24 c25) ⟨rfl,rfl,rfl,rfl,trivial⟩
    refine cf h21 ?_
    refine sns (am (am ?_))
    obtain ⟨h26,hF⟩:=gd hF
    refine at_pure (φ:=∃ b o,p3=some ⟨b,o,none⟩) (fun _ hw=>row_ptr (hw.own (.s .z)).row h26) ?_
    rintro ⟨b28,o29,hp27⟩
    refine aw (r_idx underlying38 sizeOf9 rfl rfl h26 hp27) ?_
    refine aw (r_load_cell isAgg9 rfl (fun _ hw=>row_cell0 (W:=fun w1=>w1=_) (fun w1 h=>by subst h;exact Below.refl _ _) (hw.own (.s .z)).row h26 hp27 rfl _ rfl)) ?_
    obtain ⟨t30,ht30,hF⟩:=bM hF
    refine cB func120 rfl (fun w hw=>crawlwayref08_Parse_ok _ _ ht30 w) ?_
    refine am ?_
    refine aw xe (aw xe ?_)
    refine al (cs:=Cd.cs (cVec (cInt .u8) 4 (by decide)) zv4) zeroValue159 ?_
    intro b31
    refine at_store (c:=(cVec (cInt .u8) 4 (by decide))) (z:=t30.1) .z lw sizeOf159 rfl rfl rfl ?_
    refine aa (nwq [11,10,8,7,6,1] ?_)
    refine qs (sr (am (aw xn (am ?_))))
    obtain ⟨h32,hF⟩|⟨h32,hF⟩:=oi hF
    ·refine fx 43 h32 ?_
     refine gn ?_
     refine gn ?_
     refine aw xp (am ?_)
     refine gn ?_
     refine gn ?_
     refine gn ?_
     refine gn ?_
     refine gn ?_
     refine aw xp (nwq [53,10,8,7,6,1] ?_)
     refine ct rfl ?_
     refine sr (aa (aa (qn (dz (dz (dz (wq [5,4] ?_)))))))
     refine tn (qt ?_)
     refine tr (br (tr (tr (br (tr ?_)))))
     obtain rfl:=os hF
     subst K
     exact at_return2 rfl rfl rfl (fun w1 hw=>⟨none,0,rfl,Own.nil _ _ _ _,hw.below⟩)
    refine fx 43 h32 ?_
    refine gy ?_
    refine am ?_
    refine gy ?_
    refine aw (r_not rfl) ?_
    refine aw xp (am ?_)
    obtain ⟨h33,hF⟩|⟨h33,hF⟩:=oi hF
    ·refine fx 47 h33 ?_
     refine gn ?_
     refine gn ?_
     refine gn ?_
     refine gn ?_
     refine gn ?_
     refine aw xp (nwq [53,10,8,7,6,1] ?_)
     refine ct rfl ?_
     refine sr (aa (aa (qn (dz (dz (dz (wq [5,4] ?_)))))))
     refine tn (qt ?_)
     refine tr (br (tr (tr (br (tr ?_)))))
     obtain rfl:=os hF
     subst K
     exact at_return2 rfl rfl rfl (fun w1 hw=>⟨none,0,rfl,Own.nil _ _ _ _,hw.below⟩)
    refine fx 47 h33 ?_
    refine gy ?_
    refine am ?_
    refine gy ?_
    refine am ?_
    refine gy ?_
    refine aw (r_len_sl underlying38 rfl) ?_
    refine gy ?_
    refine aw (r_isub rfl rfl) ?_
    refine gy ?_
    refine aw xl (aw xp (nwq [53,10,8,7,6,1] ?_))
    obtain ⟨h34,hF⟩|⟨h34,hF⟩:=oi hF
    ·refine ct h34 ?_
     refine sr (aa (aa (qn (dz (dz (dz (wq [5,4] ?_)))))))
     refine tn (qt ?_)
     refine tr (br (tr (tr (br (tr ?_)))))
     obtain rfl:=os hF
     subst K
     exact at_return2 rfl rfl rfl (fun w1 hw=>⟨none,0,rfl,Own.nil _ _ _ _,hw.below⟩)
    refine cf h34 ?_
    refine sn (qr (am ?_))
    refine aw (r_idxArr underlying159 sizeOf5 rfl rfl (by decide)) ?_
    refine aw (r_load_cell isAgg5 rfl (lens_cell0 (c:=(cInt .u8)) (y:=vget t30.1 0) .z (Lens.comp lw (fun z=>vset t30.1 0 z) (Lens.vec (cInt .u8) (by decide) t30.1 0 (by decide))) rfl)) ?_
    refine aw (r_conv underlying5 underlying3 rfl) ?_
    refine aw (r_imul rfl rfl) ?_
    refine aw (r_idxArr underlying159 sizeOf5 rfl rfl (by decide)) ?_
    refine aw (r_load_cell isAgg5 rfl (lens_cell0 (c:=(cInt .u8)) (y:=vget t30.1 1) .z (Lens.comp lw (fun z=>vset t30.1 1 z) (Lens.vec (cInt .u8) (by decide) t30.1 1 (by decide))) rfl)) ?_
    refine aw (r_conv underlying5 underlying3 rfl) ?_
    refine aw xa ?_
    refine aw (r_idxArr underlying159 sizeOf5 rfl rfl (by decide)) ?_
    refine aw (r_load_cell isAgg5 rfl (lens_cell0 (c:=(cInt .u8)) (y:=vget t30.1 2) .z (Lens.comp lw (fun z=>vset t30.1 2 z) (Lens.vec (cInt .u8) (by decide) t30.1 2 (by decide))) rfl)) ?_
    refine aw (r_conv underlying5 underlying3 rfl) ?_
    refine aw (r_imul rfl rfl) ?_
    refine aw (r_idxArr underlying159 sizeOf5 rfl rfl (by decide)) ?_
    refine aw (r_load_cell isAgg5 rfl (lens_cell0 (c:=(cInt .u8)) (y:=vget t30.1 3) .z (Lens.comp lw (fun z=>vset t30.1 3 z) (Lens.vec (cInt .u8) (by decide) t30.1 3 (by decide))) rfl)) ?_
    refine aw (r_conv underlying5 underlying3 rfl) ?_
    refine aw xa ?_
    refine at_lit (cs:=(cInt .i64).all ([wr .i64 ((wr .i64 (256*(wr .i64 (vget t30.1 0))))+(wr .i64 (vget t30.1 1))),wr .i64 ((wr .i64 (256*(wr .i64 (vget t30.1 2))))+(wr .i64 (vget t30.1 3)))]:List Int)) underlying112 sizeOf3 zeroValue3 rfl rfl rfl (by kernel_rfl) rfl ?_
    intro b35
    obtain ⟨h36,hF⟩:=gd hF
    refine at_append (z:=.int .i64 0) (c:=(cInt .i64)) (ys:=([wr .i64 ((wr .i64 (256*(wr .i64 (vget t30.1 0))))+(wr .i64 (vget t30.1 1))),wr .i64 ((wr .i64 (256*(wr .i64 (vget t30.1 2))))+(wr .i64 (vget t30.1 3)))]:List Int)) (.s (.s .z)) underlying112 infoG43 (by kernel_rfl) (by kernel_rfl) rfl rfl rfl rfl (fun _ hw=>cells_src (hw.ok (Upd.mem .z))) (by kernel_rfl) h36 (app_small h36) rfl ?_
    intro p37 c38
    refine aa (qn (dz (dz (wq [8,7,6,1] ?_))))
    refine bm ?_
    refine qr (am (aw xa (aa (nwq [8,7,6,1] ?_))))
    exact at_weak_k (ih _ _ _ hF K p37 c38) ⟨rfl,rfl,rfl,rfl,trivial⟩
   refine cf h15 ?_
   refine at_exit ?_
   refine te (te ?_)
   refine at_drop (H:=_) (.s .z) ?_
   obtain rfl:=os hF
   exact at_weak_k (K p11 c12) ⟨rfl,trivial⟩
 cases q7 with
 | ret r'=>exact os hF
 | nx sq7 =>
  intro p13 c14
  refine at_blk_same ?_
  refine tn (sr (am (aa (aa (nwq [5,4] ?_)))))
  refine qt ?_
  have K:=os hF
  subst K
  exact at_return2 rfl rfl rfl (fun w1 hw=>⟨p13,c14,rfl,hw.own .z,hw.below⟩)
def crawlwayref09_Parse.l0(t5:List Int×Bool)(i11:Int)(i12:(Vector Int 16)):Option ((Vector Int 16)) :=
 if (decide (i11<8))=true then (if (0:Int)≤i11∧i11<(t5.1.length:Int) then if (0:Int)≤wr .i64 (2*i11)∧wr .i64 (2*i11)<16 then if (0:Int)≤i11∧i11<(t5.1.length:Int) then if (0:Int)≤wr .i64 ((wr .i64 (2*i11))+1)∧wr .i64 ((wr .i64 (2*i11))+1)<16 then crawlwayref09_Parse.l0 t5 (wr .i64 (i11+1)) (vset (vset i12 (wr .i64 (2*i11)) (wr .u8 (wr .i64 (Int.tdiv (lget t5.1 i11) 256)))) (wr .i64 ((wr .i64 (2*i11))+1)) (wr .u8 (Int.tmod (lget t5.1 i11) 256))) else none else none else none else none) else (some i12)
 partial_fixpoint
def crawlwayref09_Parse.l1(t25:List Int×Bool)(i38:List Int)(i39:Int):Option (List Int) :=
 if (decide (i39<(t25.1.length:Int)))=true then (if (0:Int)≤i39∧i39<(t25.1.length:Int) then if (i38.length+1)*8≤140737488355328 then crawlwayref09_Parse.l1 t25 (i38++[lget t25.1 i39]) (wr .i64 (i39+1)) else none else none) else (some i38)
 partial_fixpoint
def crawlwayref09_Parse.l2(t29:List Int×Bool)(i56:List Int):Option (List Int) :=
 if (decide (wr .i64 ((i56.length:Int)+(t29.1.length:Int))<8))=true then (if (i56.length+1)*8≤140737488355328 then crawlwayref09_Parse.l2 t29 (i56++[0]) else none) else (some i56)
 partial_fixpoint
def crawlwayref09_Parse.l3(t29:List Int×Bool)(q55:List Int)(i70:Int)(i71:(Vector Int 16)):Option ((Vector Int 16)) :=
 if (decide (i70<8))=true then (if (0:Int)≤i70∧i70<((q55++t29.1).length:Int) then if (0:Int)≤wr .i64 (2*i70)∧wr .i64 (2*i70)<16 then if (0:Int)≤i70∧i70<((q55++t29.1).length:Int) then if (0:Int)≤wr .i64 ((wr .i64 (2*i70))+1)∧wr .i64 ((wr .i64 (2*i70))+1)<16 then crawlwayref09_Parse.l3 t29 q55 (wr .i64 (i70+1)) (vset (vset i71 (wr .i64 (2*i70)) (wr .u8 (wr .i64 (Int.tdiv (lget (q55++t29.1) i70) 256)))) (wr .i64 ((wr .i64 (2*i70))+1)) (wr .u8 (Int.tmod (lget (q55++t29.1) i70) 256))) else none else none else none else none) else (some i71)
 partial_fixpoint
def crawlwayref09_Parse(x0:ByteArray):Option ((Vector Int 16)×Bool) :=
 crawlwayref09_gap x0>>=fun t3=>if (decide (t3<0))=true then (crawlwayref09_list x0 true>>=fun t5=>if (!t5.2)=true then (some ((Vector.replicate 16 (0:Int):(Vector Int 16)),false)) else (if ((t5.1.length:Int) != 8)=true then (some ((Vector.replicate 16 (0:Int):(Vector Int 16)),false)) else (crawlwayref09_Parse.l0 t5 0 (Vector.replicate 16 (0:Int):(Vector Int 16))>>=fun q10=>some (q10,true)))) else (if (0:Int)≤0∧0≤t3∧t3≤(x0.size:Int) then crawlwayref09_list (x0.extract (Int.toNat 0) (Int.toNat t3)) false>>=fun t25=>if (0:Int)≤wr .i64 (t3+2)∧wr .i64 (t3+2)≤(x0.size:Int)∧(x0.size:Int)≤(x0.size:Int) then crawlwayref09_list (x0.extract (Int.toNat (wr .i64 (t3+2))) (Int.toNat (x0.size:Int))) true>>=fun t29=>if (!t25.2)=true then (some ((Vector.replicate 16 (0:Int):(Vector Int 16)),false)) else (if (!t29.2)=true then (some ((Vector.replicate 16 (0:Int):(Vector Int 16)),false)) else (if (decide (wr .i64 ((t25.1.length:Int)+(t29.1.length:Int))>7))=true then (some ((Vector.replicate 16 (0:Int):(Vector Int 16)),false)) else (crawlwayref09_Parse.l1 t25 ([]:List Int) 0>>=fun q37=>crawlwayref09_Parse.l2 t29 q37>>=fun q55=>if (q55.length+t29.1.length)*8≤140737488355328 then crawlwayref09_Parse.l3 t29 q55 0 (Vector.replicate 16 (0:Int):(Vector Int 16))>>=fun q69=>some (q69,true) else none))) else none else none)
theorem crawlwayref09_Parse_ok(x0:ByteArray)(r:(Vector Int 16)×Bool)(hF:crawlwayref09_Parse x0=some r)(w:World) :
    Calls Tryz.prog 119 #[.string x0] w (fun e w'=>e=.returned (.tuple #[.agg (Cd.cs (cVec (cInt .u8) 16 (by decide)) r.1).toArray,.bool r.2])∧Below w.heap.size w w'):=by
 unfold crawlwayref09_Parse at hF
 refine ce (l:=[.string x0]) func119 rfl rfl ?_
 refine at_start ?_
 refine sr ?_
 refine al (cs:=Cd.cs (cVec (cInt .u8) 16 (by decide)) zv2) zeroValue23 ?_
 intro b1
 refine aa (ns ?_)
 refine al (cs:=Cd.cs (cVec (cInt .u8) 16 (by decide)) zv2) zeroValue23 ?_
 intro b2
 refine ns (aa (ns (am ?_)))
 obtain ⟨t3,ht3,hF⟩:=bM hF
 refine at_call0 func164 rfl (by kernel_rfl) rfl rfl (fun w=>crawlwayref09_gap_ok _ _ ht3 w) ?_
 refine aa (nt (qs (sr (am (aw xl (nwq [18,6,5,4,2,0] ?_))))))
 obtain ⟨h4,hF⟩|⟨h4,hF⟩:=oi hF
 ·refine ct h4 ?_
  refine sr (am ?_)
  obtain ⟨t5,ht5,hF⟩:=bM hF
  refine at_callO (c:=(cInt .i64)) (e:=3) (ys:=t5.1) (V:=fun p cap=>.tuple #[.slice p t5.1.length cap,.bool t5.2]) func165 rfl (by kernel_rfl) rfl rfl (fun w hw=>crawlwayref09_list_ok _ _ _ ht5 w) ?_
  intro p6 c7
  refine am ?_
  refine aw xe (aw xe (aa (aa (nwq [8,7,4,2] ?_))))
  refine qs (sr (am ?_))
  refine aw (r_not rfl) ?_
  refine am ?_
  obtain ⟨h8,hF⟩|⟨h8,hF⟩:=oi hF
  ·refine fx 26 h8 ?_
   refine gn ?_
   refine gn ?_
   refine gn ?_
   refine aw xp (nwq [30,7,4,2] ?_)
   refine ct rfl ?_
   refine sr ?_
   refine aw (r_load_aggc (c:=(cVec (cInt .u8) 16 (by decide))) (z:=zv2) isAgg23 sizeOf23 rfl (lens_cell (.s .z) lw)) ?_
   refine at_store (c:=(cVec (cInt .u8) 16 (by decide))) (z:=zv2) (.s (.s .z)) lw sizeOf23 rfl rfl rfl ?_
   refine aa (qn (dz (dz (wq [3,2] ?_))))
   refine tn (qt ?_)
   refine tr (tr ?_)
   have K:=os hF
   subst K
   exact at_res2 rfl (res_cell (c:=(cVec (cInt .u8) 16 (by decide))) (y:=zv2) rfl .z lw isAgg23 sizeOf23 (.inl rfl)) (res_tmp rfl) wb
  refine fx 26 h8 ?_
  refine gy ?_
  refine am ?_
  refine gy ?_
  refine aw (r_len_sl underlying112 rfl) ?_
  refine gy ?_
  refine aw xn (aw xp (nwq [30,7,4,2] ?_))
  obtain ⟨h9,hF⟩|⟨h9,hF⟩:=oi hF
  ·refine ct h9 ?_
   refine sr ?_
   refine aw (r_load_aggc (c:=(cVec (cInt .u8) 16 (by decide))) (z:=zv2) isAgg23 sizeOf23 rfl (lens_cell (.s .z) lw)) ?_
   refine at_store (c:=(cVec (cInt .u8) 16 (by decide))) (z:=zv2) (.s (.s .z)) lw sizeOf23 rfl rfl rfl ?_
   refine aa (qn (dz (dz (wq [3,2] ?_))))
   refine tn (qt ?_)
   refine tr (tr ?_)
   have K:=os hF
   subst K
   exact at_res2 rfl (res_cell (c:=(cVec (cInt .u8) 16 (by decide))) (y:=zv2) rfl .z lw isAgg23 sizeOf23 (.inl rfl)) (res_tmp rfl) wb
  refine cf h9 ?_
  refine sn (qr (am (aa (nt (qs (sr (aa (nwq [14,5,4,2] ?_))))))))
  refine qb ?_
  obtain ⟨q10,hq10,hF⟩:=bM hF
  refine wq [14,5,4,2] ?_
  refine at_loop_n (B:=4) (A:=fun Y=>At 112 [(2,.pointer (some ⟨b1,0,none⟩)),(4,.pointer (some ⟨b2,0,none⟩))] (Wd w [cellsE b2 (Cd.cs (cVec (cInt .u8) 16 (by decide)) q10) 23,cellsE b1 (Cd.cs (cVec (cInt .u8) 16 (by decide)) zv2) 23]) Y) ?_ ?_
  ·intro K
   refine crawlwayref09_Parse.l0.partial_correctness t5 (motive:=fun i11 i12 x=>KN (fun Y=>At 112 [(2,.pointer (some ⟨b1,0,none⟩)),(4,.pointer (some ⟨b2,0,none⟩))] (Wd w [cellsE b2 (Cd.cs (cVec (cInt .u8) 16 (by decide)) x) 23,cellsE b1 (Cd.cs (cVec (cInt .u8) 16 (by decide)) zv2) 23]) Y) _ 4→Round (fun Y=>At 112 [(2,.pointer (some ⟨b1,0,none⟩)),(4,.pointer (some ⟨b2,0,none⟩)),(5,.slice p6 t5.1.length c7),(14,.int .i64 i11)] (Wd w [rowE (cInt .i64) 3 p6 c7 t5.1,cellsE b2 (Cd.cs (cVec (cInt .u8) 16 (by decide)) i12) 23,cellsE b1 (Cd.cs (cVec (cInt .u8) 16 (by decide)) zv2) 23]) Y) _ _ _) ?_ _ _ _ hq10 K
   ·clear K hF
    intro g ih i11 i12 x hF K
    refine at_round ?_
    refine qs (sr (am (aw xl (nwq [89,14,5,4,2] ?_))))
    obtain ⟨h13,hF⟩|⟨h13,hF⟩:=oi hF
    ·refine ct h13 ?_
     refine sn (qs ?_)
     refine qb ?_
     refine sr (am ?_)
     refine aw (r_imul rfl rfl) ?_
     refine am (am ?_)
     obtain ⟨h14,hF⟩:=gd hF
     refine at_pure (φ:=∃ b o,p6=some ⟨b,o,none⟩) (fun _ hw=>row_ptr (hw.own .z).row h14) ?_
     rintro ⟨b16,o17,hp15⟩
     refine aw (r_idx underlying112 sizeOf3 rfl rfl h14 hp15) ?_
     refine aw (r_load_cell isAgg3 rfl (fun _ hw=>row_cell0 (W:=fun w1=>w1=_) (fun w1 h=>by subst h;exact Below.refl _ _) (hw.own .z).row h14 hp15 rfl _ rfl)) ?_
     refine aw (r_iquo rfl rfl (by decide)) ?_
     refine aw (r_conv underlying3 underlying5 rfl) ?_
     obtain ⟨h18,hF⟩:=gd hF
     refine aw (r_idxArr underlying23 sizeOf5 rfl rfl h18) ?_
     refine at_store (c:=(cInt .u8)) (z:=wr .u8 (wr .i64 (Int.tdiv (lget t5.1 i11) 256))) (.s .z) (Lens.comp lw (fun z=>vset i12 (wr .i64 (2*i11)) z) (Lens.vec (cInt .u8) (by decide) i12 (wr .i64 (2*i11)) h18)) sizeOf5 rfl rfl rfl ?_
     refine nt (qr (am ?_))
     refine aw (r_imul rfl rfl) ?_
     refine aw xa (am (am ?_))
     obtain ⟨h19,hF⟩:=gd hF
     refine at_pure (φ:=∃ b o,p6=some ⟨b,o,none⟩) (fun _ hw=>row_ptr (hw.own .z).row h19) ?_
     rintro ⟨b21,o22,hp20⟩
     refine aw (r_idx underlying112 sizeOf3 rfl rfl h19 hp20) ?_
     refine aw (r_load_cell isAgg3 rfl (fun _ hw=>row_cell0 (W:=fun w1=>w1=_) (fun w1 h=>by subst h;exact Below.refl _ _) (hw.own .z).row h19 hp20 rfl _ rfl)) ?_
     refine aw (r_irem rfl rfl (by decide)) ?_
     refine aw (r_conv underlying3 underlying5 rfl) ?_
     obtain ⟨h23,hF⟩:=gd hF
     refine aw (r_idxArr underlying23 sizeOf5 rfl rfl h23) ?_
     refine at_store (c:=(cInt .u8)) (z:=wr .u8 (Int.tmod (lget t5.1 i11) 256)) (.s .z) (Lens.comp lw (fun z=>vset (vset i12 (wr .i64 (2*i11)) (wr .u8 (wr .i64 (Int.tdiv (lget t5.1 i11) 256)))) (wr .i64 ((wr .i64 (2*i11))+1)) z) (Lens.vec (cInt .u8) (by decide) (vset i12 (wr .i64 (2*i11)) (wr .u8 (wr .i64 (Int.tdiv (lget t5.1 i11) 256)))) (wr .i64 ((wr .i64 (2*i11))+1)) h23)) sizeOf5 rfl rfl rfl ?_
     refine qn (wq [14,5,4,2] ?_)
     refine bm ?_
     refine qr (am (aw xa (aa (nwq [14,5,4,2] ?_))))
     exact at_weak_k (ih _ _ _ hF K) ⟨rfl,rfl,rfl,rfl,trivial⟩
    refine cf h13 ?_
    refine at_exit ?_
    refine te (te ?_)
    refine dz ?_
    obtain rfl:=os hF
    exact at_weak_k K ⟨rfl,rfl,trivial⟩
  skip
  skip
  refine at_blk_same ?_
  refine tn (sr ?_)
  refine aw (r_load_aggc (c:=(cVec (cInt .u8) 16 (by decide))) (z:=q10) isAgg23 sizeOf23 rfl (lens_cell .z lw)) ?_
  refine at_store (c:=(cVec (cInt .u8) 16 (by decide))) (z:=q10) (.s .z) lw sizeOf23 rfl rfl rfl ?_
  refine aa (qn (dz (wq [3,2] ?_)))
  refine tn (qt ?_)
  have K:=os hF
  subst K
  exact at_res2 rfl (res_cell (c:=(cVec (cInt .u8) 16 (by decide))) (y:=q10) rfl .z lw isAgg23 sizeOf23 (.inl rfl)) (res_tmp rfl) wb
 refine cf h4 ?_
 refine sr (am (am ?_))
 obtain ⟨h24,hF⟩:=gd hF
 refine aw (r_slice_str underlying9 rfl rfl ⟨_,rfl⟩ h24) ?_
 obtain ⟨t25,ht25,hF⟩:=bM hF
 refine at_callO (c:=(cInt .i64)) (e:=3) (ys:=t25.1) (V:=fun p cap=>.tuple #[.slice p t25.1.length cap,.bool t25.2]) func165 rfl (by kernel_rfl) rfl rfl (fun w hw=>crawlwayref09_list_ok _ _ _ ht25 w) ?_
 intro p26 c27
 refine am ?_
 refine aw xe (aw xe (aa (aa (ns (am (am (aw xa ?_)))))))
 obtain ⟨h28,hF⟩:=gd hF
 refine aw (r_slice_str underlying9 rfl ⟨_,rfl⟩ rfl h28) ?_
 obtain ⟨t29,ht29,hF⟩:=bM hF
 refine at_callO (c:=(cInt .i64)) (e:=3) (ys:=t29.1) (V:=fun p cap=>.tuple #[.slice p t29.1.length cap,.bool t29.2]) func165 rfl (by kernel_rfl) rfl rfl (fun w hw=>crawlwayref09_list_ok _ _ _ ht29 w) ?_
 intro p30 c31
 refine am ?_
 refine aw xe (aw xe (aa (aa (nwq [12,11,10,9,5,4,2] ?_))))
 refine qs (sr (am ?_))
 refine aw (r_not rfl) ?_
 refine am ?_
 obtain ⟨h32,hF⟩|⟨h32,hF⟩:=oi hF
 ·refine fx 50 h32 ?_
  refine gn ?_
  refine gn ?_
  refine aw xp (am ?_)
  refine gn ?_
  refine gn ?_
  refine gn ?_
  refine gn ?_
  refine gn ?_
  refine gn ?_
  refine aw xp (nwq [61,11,9,5,4,2] ?_)
  refine ct rfl ?_
  refine sr ?_
  refine aw (r_load_aggc (c:=(cVec (cInt .u8) 16 (by decide))) (z:=zv2) isAgg23 sizeOf23 rfl (lens_cell (.s (.s .z)) lw)) ?_
  refine at_store (c:=(cVec (cInt .u8) 16 (by decide))) (z:=zv2) (.s (.s (.s .z))) lw sizeOf23 rfl rfl rfl ?_
  refine aa (qn (dz (dz (dz (wq [3,2] ?_)))))
  refine tn (qt ?_)
  refine tr (tr ?_)
  have K:=os hF
  subst K
  exact at_res2 rfl (res_cell (c:=(cVec (cInt .u8) 16 (by decide))) (y:=zv2) rfl .z lw isAgg23 sizeOf23 (.inl rfl)) (res_tmp rfl) wb
 refine fx 50 h32 ?_
 refine gy ?_
 refine am ?_
 refine gy ?_
 refine aw (r_not rfl) ?_
 refine aw xp (am ?_)
 obtain ⟨h33,hF⟩|⟨h33,hF⟩:=oi hF
 ·refine fx 54 h33 ?_
  refine gn ?_
  refine gn ?_
  refine gn ?_
  refine gn ?_
  refine gn ?_
  refine gn ?_
  refine aw xp (nwq [61,11,9,5,4,2] ?_)
  refine ct rfl ?_
  refine sr ?_
  refine aw (r_load_aggc (c:=(cVec (cInt .u8) 16 (by decide))) (z:=zv2) isAgg23 sizeOf23 rfl (lens_cell (.s (.s .z)) lw)) ?_
  refine at_store (c:=(cVec (cInt .u8) 16 (by decide))) (z:=zv2) (.s (.s (.s .z))) lw sizeOf23 rfl rfl rfl ?_
  refine aa (qn (dz (dz (dz (wq [3,2] ?_)))))
  refine tn (qt ?_)
  refine tr (tr ?_)
  have K:=os hF
  subst K
  exact at_res2 rfl (res_cell (c:=(cVec (cInt .u8) 16 (by decide))) (y:=zv2) rfl .z lw isAgg23 sizeOf23 (.inl rfl)) (res_tmp rfl) wb
 refine fx 54 h33 ?_
 refine gy ?_
 refine am ?_
 refine gy ?_
 refine aw (r_len_sl underlying112 rfl) ?_
 refine gy ?_
 refine am ?_
 refine gy ?_
 refine aw (r_len_sl underlying112 rfl) ?_
 refine gy ?_
 refine aw xa ?_
 refine gy ?_
 refine aw (r_igtr rfl rfl) ?_
 refine aw xp (nwq [61,11,9,5,4,2] ?_)
 obtain ⟨h34,hF⟩|⟨h34,hF⟩:=oi hF
 ·refine ct h34 ?_
  refine sr ?_
  refine aw (r_load_aggc (c:=(cVec (cInt .u8) 16 (by decide))) (z:=zv2) isAgg23 sizeOf23 rfl (lens_cell (.s (.s .z)) lw)) ?_
  refine at_store (c:=(cVec (cInt .u8) 16 (by decide))) (z:=zv2) (.s (.s (.s .z))) lw sizeOf23 rfl rfl rfl ?_
  refine aa (qn (dz (dz (dz (wq [3,2] ?_)))))
  refine tn (qt ?_)
  refine tr (tr ?_)
  have K:=os hF
  subst K
  exact at_res2 rfl (res_cell (c:=(cVec (cInt .u8) 16 (by decide))) (y:=zv2) rfl .z lw isAgg23 sizeOf23 (.inl rfl)) (res_tmp rfl) wb
 refine cf h34 ?_
 refine sn (qs (sr (aa (nwq [13,11,9,5,4,2] ?_))))
 refine qb ?_
 refine at_own_nil (cInt .i64) 3 ?_
 obtain ⟨q37,hq37,hF⟩:=bM hF
 refine wq [13,11,9,5,4,2] ?_
 refine at_loop_n (B:=0) (A:=fun Y=>∀ (p42:Option Addr) (c43:Nat),At 112 [(2,.pointer (some ⟨b1,0,none⟩)),(4,.pointer (some ⟨b2,0,none⟩)),(5,.slice p42 q37.length c43),(11,.slice p30 t29.1.length c31)] (Wd w [rowE (cInt .i64) 3 p42 c43 q37,rowE (cInt .i64) 3 p30 c31 t29.1,cellsE b2 (Cd.cs (cVec (cInt .u8) 16 (by decide)) zv2) 23,cellsE b1 (Cd.cs (cVec (cInt .u8) 16 (by decide)) zv2) 23]) Y) ?_ ?_
 ·intro K
  refine crawlwayref09_Parse.l1.partial_correctness t25 (motive:=fun i38 i39 x=>KN (fun Y=>∀ (p42:Option Addr) (c43:Nat),At 112 [(2,.pointer (some ⟨b1,0,none⟩)),(4,.pointer (some ⟨b2,0,none⟩)),(5,.slice p42 x.length c43),(11,.slice p30 t29.1.length c31)] (Wd w [rowE (cInt .i64) 3 p42 c43 x,rowE (cInt .i64) 3 p30 c31 t29.1,cellsE b2 (Cd.cs (cVec (cInt .u8) 16 (by decide)) zv2) 23,cellsE b1 (Cd.cs (cVec (cInt .u8) 16 (by decide)) zv2) 23]) Y) _ 0→Round (fun Y=>∀ (p40:Option Addr) (c41:Nat),At 112 [(2,.pointer (some ⟨b1,0,none⟩)),(4,.pointer (some ⟨b2,0,none⟩)),(5,.slice p40 i38.length c41),(9,.slice p26 t25.1.length c27),(11,.slice p30 t29.1.length c31),(13,.int .i64 i39)] (Wd w [rowE (cInt .i64) 3 p40 c41 i38,rowE (cInt .i64) 3 p30 c31 t29.1,rowE (cInt .i64) 3 p26 c27 t25.1,cellsE b2 (Cd.cs (cVec (cInt .u8) 16 (by decide)) zv2) 23,cellsE b1 (Cd.cs (cVec (cInt .u8) 16 (by decide)) zv2) 23]) Y) _ _ _) ?_ _ _ _ hq37 K none 0
  ·clear K hF
   intro g ih i38 i39 x hF K p40 c41
   refine at_round ?_
   refine qs (sr (am (am ?_)))
   refine aw (r_len_sl underlying112 rfl) ?_
   refine aw xl (nwq [66,13,11,9,5,4,2] ?_)
   obtain ⟨h44,hF⟩|⟨h44,hF⟩:=oi hF
   ·refine ct h44 ?_
    refine sn (qs ?_)
    refine qb ?_
    refine qr (am (am (am ?_)))
    obtain ⟨h45,hF⟩:=gd hF
    refine at_pure (φ:=∃ b o,p26=some ⟨b,o,none⟩) (fun _ hw=>row_ptr (hw.own (.s (.s .z))).row h45) ?_
    rintro ⟨b47,o48,hp46⟩
    refine aw (r_idx underlying112 sizeOf3 rfl rfl h45 hp46) ?_
    refine aw (r_load_cell isAgg3 rfl (fun _ hw=>row_cell0 (W:=fun w1=>w1=_) (fun w1 h=>by subst h;exact Below.refl _ _) (hw.own (.s (.s .z))).row h45 hp46 rfl _ rfl)) ?_
    refine at_lit (cs:=(cInt .i64).all ([lget t25.1 i39]:List Int)) underlying112 sizeOf3 zeroValue3 rfl rfl rfl (by kernel_rfl) rfl ?_
    intro b49
    obtain ⟨h50,hF⟩:=gd hF
    refine at_append (z:=.int .i64 0) (c:=(cInt .i64)) (ys:=([lget t25.1 i39]:List Int)) (.s .z) underlying112 infoG43 (by kernel_rfl) (by kernel_rfl) rfl rfl rfl rfl (fun _ hw=>cells_src (hw.ok (Upd.mem .z))) (by kernel_rfl) h50 (app_small h50) rfl ?_
    intro p51 c52
    refine aa (qn (dz (wq [13,11,9,5,4,2] ?_)))
    refine bm ?_
    refine qr (am (aw xa (aa (nwq [13,11,9,5,4,2] ?_))))
    exact at_weak_k (ih _ _ _ hF K p51 c52) ⟨rfl,rfl,rfl,rfl,rfl,rfl,trivial⟩
   refine cf h44 ?_
   refine at_exit ?_
   refine te (te ?_)
   refine at_drop (H:=_) (.s (.s .z)) ?_
   obtain rfl:=os hF
   exact at_weak_k (K p40 c41) ⟨rfl,rfl,rfl,rfl,trivial⟩
 skip
 intro p42 c43
 refine at_blk_same ?_
 refine tn (qs ?_)
 refine qb ?_
 obtain ⟨q55,hq55,hF⟩:=bM hF
 refine wq [11,5,4,2] ?_
 refine at_loop_n (B:=2) (A:=fun Y=>∀ (p59:Option Addr) (c60:Nat),At 112 [(2,.pointer (some ⟨b1,0,none⟩)),(4,.pointer (some ⟨b2,0,none⟩)),(5,.slice p59 q55.length c60),(11,.slice p30 t29.1.length c31)] (Wd w [rowE (cInt .i64) 3 p59 c60 q55,rowE (cInt .i64) 3 p30 c31 t29.1,cellsE b2 (Cd.cs (cVec (cInt .u8) 16 (by decide)) zv2) 23,cellsE b1 (Cd.cs (cVec (cInt .u8) 16 (by decide)) zv2) 23]) Y) ?_ ?_
 ·intro K
  refine crawlwayref09_Parse.l2.partial_correctness t29 (motive:=fun i56 x=>KN (fun Y=>∀ (p59:Option Addr) (c60:Nat),At 112 [(2,.pointer (some ⟨b1,0,none⟩)),(4,.pointer (some ⟨b2,0,none⟩)),(5,.slice p59 x.length c60),(11,.slice p30 t29.1.length c31)] (Wd w [rowE (cInt .i64) 3 p59 c60 x,rowE (cInt .i64) 3 p30 c31 t29.1,cellsE b2 (Cd.cs (cVec (cInt .u8) 16 (by decide)) zv2) 23,cellsE b1 (Cd.cs (cVec (cInt .u8) 16 (by decide)) zv2) 23]) Y) _ 2→Round (fun Y=>∀ (p57:Option Addr) (c58:Nat),At 112 [(2,.pointer (some ⟨b1,0,none⟩)),(4,.pointer (some ⟨b2,0,none⟩)),(5,.slice p57 i56.length c58),(11,.slice p30 t29.1.length c31)] (Wd w [rowE (cInt .i64) 3 p57 c58 i56,rowE (cInt .i64) 3 p30 c31 t29.1,cellsE b2 (Cd.cs (cVec (cInt .u8) 16 (by decide)) zv2) 23,cellsE b1 (Cd.cs (cVec (cInt .u8) 16 (by decide)) zv2) 23]) Y) _ _ _) ?_ _ _ hq55 K p42 c43
  ·clear K hF
   intro g ih i56 x hF K p57 c58
   refine at_round ?_
   refine qs (sr (am ?_))
   refine aw (r_len_sl underlying112 rfl) ?_
   refine am ?_
   refine aw (r_len_sl underlying112 rfl) ?_
   refine aw xa (aw xl (nwq [81,11,5,4,2] ?_))
   obtain ⟨h61,hF⟩|⟨h61,hF⟩:=oi hF
   ·refine ct h61 ?_
    refine sn ?_
    refine qb ?_
    refine qr (am ?_)
    refine at_lit (cs:=(cInt .i64).all ([0]:List Int)) underlying112 sizeOf3 zeroValue3 rfl rfl rfl (by kernel_rfl) rfl ?_
    intro b62
    obtain ⟨h63,hF⟩:=gd hF
    refine at_append (z:=.int .i64 0) (c:=(cInt .i64)) (ys:=([0]:List Int)) (.s .z) underlying112 infoG43 (by kernel_rfl) (by kernel_rfl) rfl rfl rfl rfl (fun _ hw=>cells_src (hw.ok (Upd.mem .z))) (by kernel_rfl) h63 (app_small h63) rfl ?_
    intro p64 c65
    refine aa (qn (dz (wq [11,5,4,2] ?_)))
    refine bm ?_
    exact at_weak_k (ih _ _ hF K p64 c65) ⟨rfl,rfl,rfl,rfl,trivial⟩
   refine cf h61 ?_
   refine at_exit ?_
   refine te (te ?_)
   obtain rfl:=os hF
   exact at_weak_k (K p57 c58) ⟨rfl,rfl,rfl,rfl,trivial⟩
 skip
 intro p59 c60
 refine at_blk_same ?_
 refine tn (qr (am (am ?_)))
 obtain ⟨h66,hF⟩:=gd hF
 refine at_append_row (z:=.int .i64 0) (c:=(cInt .i64)) (ys:=t29.1) .z underlying112 infoG43 (by kernel_rfl) (by kernel_rfl) rfl rfl rfl (fun w1 hw=>(hw.own (.s .z)).row) (by kernel_rfl) h66 (app_small h66) rfl ?_
 intro p67 c68
 refine aa (qn ?_)
 refine at_drop (H:=_) (.s .z) ?_
 refine tn (qs (sr (aa (nwq [14,5,4,2] ?_))))
 refine qb ?_
 obtain ⟨q69,hq69,hF⟩:=bM hF
 refine wq [14,5,4,2] ?_
 refine at_loop_n (B:=4) (A:=fun Y=>At 112 [(2,.pointer (some ⟨b1,0,none⟩)),(4,.pointer (some ⟨b2,0,none⟩))] (Wd w [cellsE b2 (Cd.cs (cVec (cInt .u8) 16 (by decide)) q69) 23,cellsE b1 (Cd.cs (cVec (cInt .u8) 16 (by decide)) zv2) 23]) Y) ?_ ?_
 ·intro K
  refine crawlwayref09_Parse.l3.partial_correctness t29 q55 (motive:=fun i70 i71 x=>KN (fun Y=>At 112 [(2,.pointer (some ⟨b1,0,none⟩)),(4,.pointer (some ⟨b2,0,none⟩))] (Wd w [cellsE b2 (Cd.cs (cVec (cInt .u8) 16 (by decide)) x) 23,cellsE b1 (Cd.cs (cVec (cInt .u8) 16 (by decide)) zv2) 23]) Y) _ 4→Round (fun Y=>At 112 [(2,.pointer (some ⟨b1,0,none⟩)),(4,.pointer (some ⟨b2,0,none⟩)),(5,.slice p67 (q55++t29.1).length c68),(14,.int .i64 i70)] (Wd w [rowE (cInt .i64) 3 p67 c68 (q55++t29.1),cellsE b2 (Cd.cs (cVec (cInt .u8) 16 (by decide)) i71) 23,cellsE b1 (Cd.cs (cVec (cInt .u8) 16 (by decide)) zv2) 23]) Y) _ _ _) ?_ _ _ _ hq69 K
  ·clear K hF
   intro g ih i70 i71 x hF K
   refine at_round ?_
   refine qs (sr (am (aw xl (nwq [89,14,5,4,2] ?_))))
   obtain ⟨h72,hF⟩|⟨h72,hF⟩:=oi hF
   ·refine ct h72 ?_
    refine sn (qs ?_)
    refine qb ?_
    refine sr (am ?_)
    refine aw (r_imul rfl rfl) ?_
    refine am (am ?_)
    obtain ⟨h73,hF⟩:=gd hF
    refine at_pure (φ:=∃ b o,p67=some ⟨b,o,none⟩) (fun _ hw=>row_ptr (hw.own .z).row h73) ?_
    rintro ⟨b75,o76,hp74⟩
    refine aw (r_idx underlying112 sizeOf3 rfl rfl h73 hp74) ?_
    refine aw (r_load_cell isAgg3 rfl (fun _ hw=>row_cell0 (W:=fun w1=>w1=_) (fun w1 h=>by subst h;exact Below.refl _ _) (hw.own .z).row h73 hp74 rfl _ rfl)) ?_
    refine aw (r_iquo rfl rfl (by decide)) ?_
    refine aw (r_conv underlying3 underlying5 rfl) ?_
    obtain ⟨h77,hF⟩:=gd hF
    refine aw (r_idxArr underlying23 sizeOf5 rfl rfl h77) ?_
    refine at_store (c:=(cInt .u8)) (z:=wr .u8 (wr .i64 (Int.tdiv (lget (q55++t29.1) i70) 256))) (.s .z) (Lens.comp lw (fun z=>vset i71 (wr .i64 (2*i70)) z) (Lens.vec (cInt .u8) (by decide) i71 (wr .i64 (2*i70)) h77)) sizeOf5 rfl rfl rfl ?_
    refine nt (qr (am ?_))
    refine aw (r_imul rfl rfl) ?_
    refine aw xa (am (am ?_))
    obtain ⟨h78,hF⟩:=gd hF
    refine at_pure (φ:=∃ b o,p67=some ⟨b,o,none⟩) (fun _ hw=>row_ptr (hw.own .z).row h78) ?_
    rintro ⟨b80,o81,hp79⟩
    refine aw (r_idx underlying112 sizeOf3 rfl rfl h78 hp79) ?_
    refine aw (r_load_cell isAgg3 rfl (fun _ hw=>row_cell0 (W:=fun w1=>w1=_) (fun w1 h=>by subst h;exact Below.refl _ _) (hw.own .z).row h78 hp79 rfl _ rfl)) ?_
    refine aw (r_irem rfl rfl (by decide)) ?_
    refine aw (r_conv underlying3 underlying5 rfl) ?_
    obtain ⟨h82,hF⟩:=gd hF
    refine aw (r_idxArr underlying23 sizeOf5 rfl rfl h82) ?_
    refine at_store (c:=(cInt .u8)) (z:=wr .u8 (Int.tmod (lget (q55++t29.1) i70) 256)) (.s .z) (Lens.comp lw (fun z=>vset (vset i71 (wr .i64 (2*i70)) (wr .u8 (wr .i64 (Int.tdiv (lget (q55++t29.1) i70) 256)))) (wr .i64 ((wr .i64 (2*i70))+1)) z) (Lens.vec (cInt .u8) (by decide) (vset i71 (wr .i64 (2*i70)) (wr .u8 (wr .i64 (Int.tdiv (lget (q55++t29.1) i70) 256)))) (wr .i64 ((wr .i64 (2*i70))+1)) h82)) sizeOf5 rfl rfl rfl ?_
    refine qn (wq [14,5,4,2] ?_)
    refine bm ?_
    refine qr (am (aw xa (aa (nwq [14,5,4,2] ?_))))
    exact at_weak_k (ih _ _ _ hF K) ⟨rfl,rfl,rfl,rfl,trivial⟩
   refine cf h72 ?_
   refine at_exit ?_
   refine te (te ?_)
   refine dz ?_
   obtain rfl:=os hF
   exact at_weak_k K ⟨rfl,rfl,trivial⟩
 skip
 skip
 refine at_blk_same ?_
 refine tn (sr ?_)
 refine aw (r_load_aggc (c:=(cVec (cInt .u8) 16 (by decide))) (z:=q69) isAgg23 sizeOf23 rfl (lens_cell .z lw)) ?_
 refine at_store (c:=(cVec (cInt .u8) 16 (by decide))) (z:=q69) (.s .z) lw sizeOf23 rfl rfl rfl ?_
 refine aa (qn (dz (wq [3,2] ?_)))
 refine tn (qt ?_)
 have K:=os hF
 subst K
 exact at_res2 rfl (res_cell (c:=(cVec (cInt .u8) 16 (by decide))) (y:=q69) rfl .z lw isAgg23 sizeOf23 (.inl rfl)) (res_tmp rfl) wb
def crawlwayref09_groups.l0(x0:(Vector Int 16))(i5:Int)(i6:(Vector Int 8)):Option ((Vector Int 8)) :=
 if (decide (i5<8))=true then (if (0:Int)≤wr .i64 (2*i5)∧wr .i64 (2*i5)<16 then if (0:Int)≤wr .i64 ((wr .i64 (2*i5))+1)∧wr .i64 ((wr .i64 (2*i5))+1)<16 then if (0:Int)≤i5∧i5<8 then crawlwayref09_groups.l0 x0 (wr .i64 (i5+1)) (vset i6 i5 (wr .i64 ((wr .i64 (256*(wr .i64 (vget x0 (wr .i64 (2*i5))))))+(wr .i64 (vget x0 (wr .i64 ((wr .i64 (2*i5))+1))))))) else none else none else none) else (some i6)
 partial_fixpoint
def crawlwayref09_groups(x0:(Vector Int 16)):Option ((Vector Int 8)) :=
 crawlwayref09_groups.l0 x0 0 (Vector.replicate 8 (0:Int):(Vector Int 8))>>=fun q4=>some q4
set_option maxRecDepth 20000 in
theorem crawlwayref09_groups_ok(x0:(Vector Int 16))(r:(Vector Int 8))(hF:crawlwayref09_groups x0=some r)(w:World) :
    Calls Tryz.prog 169 #[.agg (Cd.cs (cVec (cInt .u8) 16 (by decide)) x0).toArray] w (fun e w'=>e=.returned (.agg (Cd.cs (cVec (cInt .i64) 8 (by decide)) r).toArray)∧Below w.heap.size w w'):=by
 unfold crawlwayref09_groups at hF
 refine ce (l:=[.agg (Cd.cs (cVec (cInt .u8) 16 (by decide)) x0).toArray]) func169 rfl rfl ?_
 refine at_start ?_
 refine sr ?_
 refine at_box (cs:=Cd.cs (cVec (cInt .u8) 16 (by decide)) x0) rfl rfl rfl ?_
 intro b1
 refine al (cs:=Cd.cs (cVec (cInt .i64) 8 (by decide)) zv5) zeroValue186 ?_
 intro b2
 refine ns ?_
 refine al (cs:=Cd.cs (cVec (cInt .i64) 8 (by decide)) zv5) zeroValue186 ?_
 intro b3
 refine nt (qs (sr (aa (nwq [4,3,2,1] ?_))))
 refine qb ?_
 obtain ⟨q4,hq4,hF⟩:=bM hF
 refine wq [4,3,2,1] ?_
 refine at_loop_n (B:=0) (A:=fun Y=>At 25 [(2,.pointer (some ⟨b2,0,none⟩)),(3,.pointer (some ⟨b3,0,none⟩))] (Wd w [cellsE b3 (Cd.cs (cVec (cInt .i64) 8 (by decide)) q4) 186,cellsE b2 (Cd.cs (cVec (cInt .i64) 8 (by decide)) zv5) 186]) Y) ?_ ?_
 ·intro K
  refine crawlwayref09_groups.l0.partial_correctness x0 (motive:=fun i5 i6 x=>KN (fun Y=>At 25 [(2,.pointer (some ⟨b2,0,none⟩)),(3,.pointer (some ⟨b3,0,none⟩))] (Wd w [cellsE b3 (Cd.cs (cVec (cInt .i64) 8 (by decide)) x) 186,cellsE b2 (Cd.cs (cVec (cInt .i64) 8 (by decide)) zv5) 186]) Y) _ 0→Round (fun Y=>At 25 [(1,.pointer (some ⟨b1,0,none⟩)),(2,.pointer (some ⟨b2,0,none⟩)),(3,.pointer (some ⟨b3,0,none⟩)),(4,.int .i64 i5)] (Wd w [cellsE b3 (Cd.cs (cVec (cInt .i64) 8 (by decide)) i6) 186,cellsE b2 (Cd.cs (cVec (cInt .i64) 8 (by decide)) zv5) 186,cellsE b1 (Cd.cs (cVec (cInt .u8) 16 (by decide)) x0) 23]) Y) _ _ _) ?_ _ _ _ hq4 K
  ·clear K hF
   intro g ih i5 i6 x hF K
   refine at_round ?_
   refine qs (sr (am (aw xl (nwq [6,4,3,2,1] ?_))))
   obtain ⟨h7,hF⟩|⟨h7,hF⟩:=oi hF
   ·refine ct h7 ?_
    refine sn (qs ?_)
    refine qb ?_
    refine at_draw_tail 15 (by kernel_rfl) (by kernel_rfl) (fun _ h=>h.drew) ?_
    simp only [List.take_succ_cons,List.take_zero,List.drop_succ_cons,List.drop_zero]
    refine ats_val rfl rfl rfl (r_move rfl) ?_
    refine ats_val rfl rfl rfl (r_move rfl) ?_
    refine ats_val rfl rfl rfl (r_imul rfl rfl) ?_
    obtain ⟨h8,hF⟩:=gd hF
    refine ats_val rfl rfl rfl (r_idxArr underlying23 sizeOf5 rfl rfl h8) ?_
    refine ats_val rfl rfl rfl (r_load_cell isAgg5 rfl (lens_cell0 (c:=(cInt .u8)) (y:=vget x0 (wr .i64 (2*i5))) (.s (.s .z)) (Lens.comp lw (fun z=>vset x0 (wr .i64 (2*i5)) z) (Lens.vec (cInt .u8) (by decide) x0 (wr .i64 (2*i5)) h8)) rfl)) ?_
    refine ats_val rfl rfl rfl (r_conv underlying5 underlying3 rfl) ?_
    refine ats_val rfl rfl rfl (r_imul rfl rfl) ?_
    refine ats_val rfl rfl rfl (r_move rfl) ?_
    refine ats_val rfl rfl rfl (r_imul rfl rfl) ?_
    refine ats_val rfl rfl rfl (r_iadd rfl rfl) ?_
    obtain ⟨h9,hF⟩:=gd hF
    refine ats_val rfl rfl rfl (r_idxArr underlying23 sizeOf5 rfl rfl h9) ?_
    refine ats_val rfl rfl rfl (r_load_cell isAgg5 rfl (lens_cell0 (c:=(cInt .u8)) (y:=vget x0 (wr .i64 ((wr .i64 (2*i5))+1))) (.s (.s .z)) (Lens.comp lw (fun z=>vset x0 (wr .i64 ((wr .i64 (2*i5))+1)) z) (Lens.vec (cInt .u8) (by decide) x0 (wr .i64 ((wr .i64 (2*i5))+1)) h9)) rfl)) ?_
    refine ats_val rfl rfl rfl (r_conv underlying5 underlying3 rfl) ?_
    refine ats_val rfl rfl rfl (r_iadd rfl rfl) ?_
    obtain ⟨h10,hF⟩:=gd hF
    refine ats_val rfl rfl rfl (r_idxArr underlying186 sizeOf3 rfl rfl h10) ?_
    refine ats_nil ?_
    refine at_store (c:=(cInt .i64)) (z:=wr .i64 ((wr .i64 (256*(wr .i64 (vget x0 (wr .i64 (2*i5))))))+(wr .i64 (vget x0 (wr .i64 ((wr .i64 (2*i5))+1)))))) .z (Lens.comp lw (fun z=>vset i6 i5 z) (Lens.vec (cInt .i64) (by decide) i6 i5 h10)) sizeOf3 rfl rfl rfl ?_
    refine qn (wq [4,3,2,1] ?_)
    refine bm ?_
    refine qr (am (aw xa (aa (nwq [4,3,2,1] ?_))))
    exact at_weak_k (ih _ _ _ hF K) ⟨rfl,rfl,rfl,rfl,trivial⟩
   refine cf h7 ?_
   refine at_exit ?_
   refine te (te ?_)
   refine at_drop (H:=_) (.s (.s .z)) ?_
   obtain rfl:=os hF
   exact at_weak_k K ⟨rfl,rfl,trivial⟩
 skip
 skip
 refine at_blk_same ?_
 refine tn (sr ?_)
 refine aw (r_load_aggc (c:=(cVec (cInt .i64) 8 (by decide))) (z:=q4) isAgg186 sizeOf186 rfl (lens_cell .z lw)) ?_
 refine at_store (c:=(cVec (cInt .i64) 8 (by decide))) (z:=q4) (.s .z) lw sizeOf186 rfl rfl rfl ?_
 refine qn (dz (wq [2] ?_))
 refine tn (qt ?_)
 have K:=os hF
 subst K
 exact at_res1 rfl (res_cell (c:=(cVec (cInt .i64) 8 (by decide))) (y:=q4) rfl .z lw isAgg186 sizeOf186 (.inl rfl)) wb
def crawlwayref09_run.l0(x0:(Vector Int 8))(x1:Int)(i3:Int):Option (Int) :=
 if (decide (wr .i64 (x1+i3)<8))=true then (if (0:Int)≤wr .i64 (x1+i3)∧wr .i64 (x1+i3)<8 then if (vget x0 (wr .i64 (x1+i3))==0)=true then (crawlwayref09_run.l0 x0 x1 (wr .i64 (i3+1))) else (some i3) else none) else (some i3)
 partial_fixpoint
def crawlwayref09_run(x0:(Vector Int 8))(x1:Int):Option (Int) :=
 crawlwayref09_run.l0 x0 x1 0>>=fun q2=>some q2
theorem crawlwayref09_run_ok(x0:(Vector Int 8))(x1:Int)(r:Int)(hF:crawlwayref09_run x0 x1=some r)(w:World) :
    Calls Tryz.prog 170 #[.agg (Cd.cs (cVec (cInt .i64) 8 (by decide)) x0).toArray,.int .i64 x1] w (fun e w'=>e=.returned (.int .i64 r)∧Below w.heap.size w w'):=by
 unfold crawlwayref09_run at hF
 refine ce (l:=[.agg (Cd.cs (cVec (cInt .i64) 8 (by decide)) x0).toArray,.int .i64 x1]) func170 rfl rfl ?_
 refine at_start ?_
 refine sr ?_
 refine at_box (cs:=Cd.cs (cVec (cInt .i64) 8 (by decide)) x0) rfl rfl rfl ?_
 intro b1
 refine aa (ns (aa (nwq [5,2,1] ?_)))
 refine qs ?_
 refine qb ?_
 obtain ⟨q2,hq2,hF⟩:=bM hF
 refine wq [5,2,1] ?_
 refine at_loop_n (B:=0) (A:=fun Y=>At 21 [(5,.int .i64 q2)] (Wd w []) Y) ?_ ?_
 ·intro K
  refine crawlwayref09_run.l0.partial_correctness x0 x1 (motive:=fun i3 x=>KN (fun Y=>At 21 [(5,.int .i64 x)] (Wd w []) Y) _ 0→Round (fun Y=>At 21 [(1,.int .i64 x1),(2,.pointer (some ⟨b1,0,none⟩)),(5,.int .i64 i3)] (Wd w [cellsE b1 (Cd.cs (cVec (cInt .i64) 8 (by decide)) x0) 186]) Y) _ _ _) ?_ _ _ hq2 K
  ·clear K hF
   intro g ih i3 x hF K
   refine at_round ?_
   refine qs (sr (am (am (aw xa (aw xl (am ?_))))))
   obtain ⟨h4,hF⟩|⟨h4,hF⟩:=oi hF
   ·refine fx 10 h4 ?_
    refine gy ?_
    refine am ?_
    refine gy ?_
    refine am ?_
    refine gy ?_
    refine aw xa ?_
    refine gy ?_
    obtain ⟨h5,hF⟩:=gd hF
    refine aw (r_idxArr underlying186 sizeOf3 rfl rfl h5) ?_
    refine gy ?_
    refine aw (r_load_cell isAgg3 rfl (lens_cell0 (c:=(cInt .i64)) (y:=vget x0 (wr .i64 (x1+i3))) .z (Lens.comp lw (fun z=>vset x0 (wr .i64 (x1+i3)) z) (Lens.vec (cInt .i64) (by decide) x0 (wr .i64 (x1+i3)) h5)) rfl)) ?_
    refine gy ?_
    refine aw xq (aw xp (nwq [17,5,2,1] ?_))
    obtain ⟨h6,hF⟩|⟨h6,hF⟩:=oi hF
    ·refine ct h6 ?_
     refine sn ?_
     refine qb ?_
     refine qr (am (aw xa (aa (qn (wq [5,2,1] ?_)))))
     refine bm ?_
     exact at_weak_k (ih _ _ hF K) ⟨rfl,rfl,rfl,trivial⟩
    refine cf h6 ?_
    refine at_exit ?_
    refine te (te ?_)
    refine dz ?_
    obtain rfl:=os hF
    exact at_weak_k K ⟨rfl,trivial⟩
   refine fx 10 h4 ?_
   refine gn ?_
   refine gn ?_
   refine gn ?_
   refine gn ?_
   refine gn ?_
   refine gn ?_
   refine aw xp (nwq [17,5,2,1] ?_)
   refine cf rfl ?_
   refine at_exit ?_
   refine te (te ?_)
   refine dz ?_
   obtain rfl:=os hF
   exact at_weak_k K ⟨rfl,trivial⟩
 skip
 skip
 refine at_blk_same ?_
 refine tn (sr (am (aa (nwq [4] ?_))))
 refine qt ?_
 have K:=os hF
 subst K
 exact r1 wb
def crawlwayref05_Group(x0:Int):Option (ByteArray) :=
 if (decide (x0<16))=true then (crawlwayref05_digit x0>>=fun t2=>some t2) else (crawlwayref05_Group (wr .i64 (Int.tdiv x0 16))>>=fun t3=>crawlwayref05_digit (Int.tmod x0 16)>>=fun t4=>if t3.size+t4.size≤140737488355328 then some (t3++t4) else none)
 partial_fixpoint
theorem crawlwayref05_Group_ok(x0:Int)(r:ByteArray)(hF:crawlwayref05_Group x0=some r)(w:World) :
    Calls Tryz.prog 191 #[.int .i64 x0] w (fun e w'=>e=.returned (.string r)∧w'=w):=by
 refine crawlwayref05_Group.partial_correctness (motive:=fun x0 r=>∀ (w:World),Calls Tryz.prog 191 #[.int .i64 x0] w (fun e w'=>e=.returned (.string r)∧w'=w)) ?_ _ _ hF w
 clear hF
 intro g ihf0 x0 r hF w
 have ihf:∀ (x0:Int) (r:ByteArray) (hF:g x0=some r) (w:World),Calls Tryz.prog 191 #[.int .i64 x0] w (fun e w'=>e=.returned (.string r)∧w'=w):=fun x0 r hF w=>ihf0 x0 r hF w
 refine ce (l:=[.int .i64 x0]) func191 rfl rfl ?_
 refine sr (aa (nt (qs (sr (am (aw xl (nwq [4,0] ?_)))))))
 obtain ⟨h1,hF⟩|⟨h1,hF⟩:=oi hF
 ·refine ct h1 ?_
  refine sr (am ?_)
  obtain ⟨t2,ht2,hF⟩:=bM hF
  refine at_call0 func88 rfl (by kernel_rfl) rfl rfl (fun w=>crawlwayref05_digit_ok _ _ ht2 w) ?_
  refine aa (nwq [2] ?_)
  refine rt ?_
  have K:=os hF
  subst K
  exact r1 (fun w1 hw=>⟨rfl,hw⟩)
 refine cf h1 ?_
 refine sns (am ?_)
 refine aw (r_iquo rfl rfl (by decide)) ?_
 obtain ⟨t3,ht3,hF⟩:=bM hF
 refine at_call0 func191 rfl (by kernel_rfl) rfl rfl (fun w=>ihf _ _ ht3 w) ?_
 refine am ?_
 refine aw (r_irem rfl rfl (by decide)) ?_
 obtain ⟨t4,ht4,hF⟩:=bM hF
 refine at_call0 func88 rfl (by kernel_rfl) rfl rfl (fun w=>crawlwayref05_digit_ok _ _ ht4 w) ?_
 obtain ⟨h5,hF⟩:=gd hF
 refine aw (r_concat rfl rfl h5) ?_
 refine aa (nwq [2] ?_)
 refine qt ?_
 have K:=os hF
 subst K
 exact r1 (fun w1 hw=>⟨rfl,hw⟩)
def crawlwayref09_row.l0(x0:(Vector Int 8))(x1:Int)(x2:Int)(i3:ByteArray)(i4:Int):Option (ByteArray) :=
 if (decide (i4<x2))=true then (if (decide (i4>x1))=true then (if i3.size+(⟨#[58]⟩:ByteArray).size≤140737488355328 then if (0:Int)≤i4∧i4<8 then crawlwayref05_Group (vget x0 i4)>>=fun t9=>if (i3++(⟨#[58]⟩:ByteArray)).size+t9.size≤140737488355328 then crawlwayref09_row.l0 x0 x1 x2 ((i3++(⟨#[58]⟩:ByteArray))++t9) (wr .i64 (i4+1)) else none else none else none) else (if (0:Int)≤i4∧i4<8 then crawlwayref05_Group (vget x0 i4)>>=fun t12=>if i3.size+t12.size≤140737488355328 then crawlwayref09_row.l0 x0 x1 x2 (i3++t12) (wr .i64 (i4+1)) else none else none)) else (some i3)
 partial_fixpoint
def crawlwayref09_row(x0:(Vector Int 8))(x1:Int)(x2:Int):Option (ByteArray) :=
 crawlwayref09_row.l0 x0 x1 x2 (⟨#[]⟩) x1>>=fun q2=>some q2
theorem crawlwayref09_row_ok(x0:(Vector Int 8))(x1:Int)(x2:Int)(r:ByteArray)(hF:crawlwayref09_row x0 x1 x2=some r)(w:World) :
    Calls Tryz.prog 171 #[.agg (Cd.cs (cVec (cInt .i64) 8 (by decide)) x0).toArray,.int .i64 x1,.int .i64 x2] w (fun e w'=>e=.returned (.string r)∧Below w.heap.size w w'):=by
 unfold crawlwayref09_row at hF
 refine ce (l:=[.agg (Cd.cs (cVec (cInt .i64) 8 (by decide)) x0).toArray,.int .i64 x1,.int .i64 x2]) func171 rfl rfl ?_
 refine at_start ?_
 refine sr ?_
 refine at_box (cs:=Cd.cs (cVec (cInt .i64) 8 (by decide)) x0) rfl rfl rfl ?_
 intro b1
 refine aa (ns (aa (nt (qs (sr (am (aa (nwq [8,7,3,2,1] ?_))))))))
 refine qb ?_
 obtain ⟨q2,hq2,hF⟩:=bM hF
 refine wq [8,7,3,2,1] ?_
 refine at_loop_n (B:=0) (A:=fun Y=>At 27 [(7,.string q2)] (Wd w []) Y) ?_ ?_
 ·intro K
  refine crawlwayref09_row.l0.partial_correctness x0 x1 x2 (motive:=fun i3 i4 x=>KN (fun Y=>At 27 [(7,.string x)] (Wd w []) Y) _ 0→Round (fun Y=>At 27 [(1,.int .i64 x1),(2,.int .i64 x2),(3,.pointer (some ⟨b1,0,none⟩)),(7,.string i3),(8,.int .i64 i4)] (Wd w [cellsE b1 (Cd.cs (cVec (cInt .i64) 8 (by decide)) x0) 186]) Y) _ _ _) ?_ _ _ _ hq2 K
  ·clear K hF
   intro g ih i3 i4 x hF K
   refine at_round ?_
   refine qs (sr (am (am (aw xl (nwq [12,8,7,3,2,1] ?_)))))
   obtain ⟨h5,hF⟩|⟨h5,hF⟩:=oi hF
   ·refine ct h5 ?_
    refine sn (qs ?_)
    refine qb ?_
    refine qs (sr (am (am ?_)))
    refine aw (r_igtr rfl rfl) ?_
    refine nwq [17,8,7,3,2,1] ?_
    obtain ⟨h6,hF⟩|⟨h6,hF⟩:=oi hF
    ·refine ct h6 ?_
     refine qr (am ?_)
     obtain ⟨h7,hF⟩:=gd hF
     refine aw (r_concat rfl rfl h7) ?_
     refine aa (nt (qr (am (am ?_))))
     obtain ⟨h8,hF⟩:=gd hF
     refine aw (r_idxArr underlying186 sizeOf3 rfl rfl h8) ?_
     refine aw (r_load_cell isAgg3 rfl (lens_cell0 (c:=(cInt .i64)) (y:=vget x0 i4) .z (Lens.comp lw (fun z=>vset x0 i4 z) (Lens.vec (cInt .i64) (by decide) x0 i4 h8)) rfl)) ?_
     obtain ⟨t9,ht9,hF⟩:=bM hF
     refine at_call0 func191 rfl (by kernel_rfl) rfl rfl (fun w=>crawlwayref05_Group_ok _ _ ht9 w) ?_
     obtain ⟨h10,hF⟩:=gd hF
     refine aw (r_concat rfl rfl h10) ?_
     refine aa (qn (wq [8,7,3,2,1] ?_))
     refine bm ?_
     refine qr (am (aw xa (aa (nwq [8,7,3,2,1] ?_))))
     exact at_weak_k (ih _ _ _ hF K) ⟨rfl,rfl,rfl,rfl,rfl,trivial⟩
    refine cf h6 ?_
    refine sn (qr (am (am ?_)))
    obtain ⟨h11,hF⟩:=gd hF
    refine aw (r_idxArr underlying186 sizeOf3 rfl rfl h11) ?_
    refine aw (r_load_cell isAgg3 rfl (lens_cell0 (c:=(cInt .i64)) (y:=vget x0 i4) .z (Lens.comp lw (fun z=>vset x0 i4 z) (Lens.vec (cInt .i64) (by decide) x0 i4 h11)) rfl)) ?_
    obtain ⟨t12,ht12,hF⟩:=bM hF
    refine at_call0 func191 rfl (by kernel_rfl) rfl rfl (fun w=>crawlwayref05_Group_ok _ _ ht12 w) ?_
    obtain ⟨h13,hF⟩:=gd hF
    refine aw (r_concat rfl rfl h13) ?_
    refine aa (qn (wq [8,7,3,2,1] ?_))
    refine bm ?_
    refine qr (am (aw xa (aa (nwq [8,7,3,2,1] ?_))))
    exact at_weak_k (ih _ _ _ hF K) ⟨rfl,rfl,rfl,rfl,rfl,trivial⟩
   refine cf h5 ?_
   refine at_exit ?_
   refine te (te ?_)
   refine dz ?_
   obtain rfl:=os hF
   exact at_weak_k K ⟨rfl,trivial⟩
 skip
 skip
 refine at_blk_same ?_
 refine tn (sr (am (aa (nwq [6] ?_))))
 refine qt ?_
 have K:=os hF
 subst K
 exact r1 wb
def crawlwayref09_Text.l0(t2:(Vector Int 8))(i5:Int)(i6:Int)(i7:Int):Option (Int×Int) :=
 if (decide (i7<8))=true then (crawlwayref09_run t2 i7>>=fun t9=>if (decide (t9>i6))=true then (crawlwayref09_run t2 i7>>=fun t11=>crawlwayref09_Text.l0 t2 i7 t11 (wr .i64 (i7+1))) else (crawlwayref09_Text.l0 t2 i5 i6 (wr .i64 (i7+1)))) else (some (i5,i6))
 partial_fixpoint
def crawlwayref09_Text(x0:(Vector Int 16)):Option (ByteArray) :=
 crawlwayref09_groups x0>>=fun t2=>crawlwayref09_Text.l0 t2 0 0 0>>=fun q4=>if (decide (q4.2<2))=true then (crawlwayref09_row t2 0 8>>=fun t13=>some t13) else (crawlwayref09_row t2 0 q4.1>>=fun t14=>if t14.size+(⟨#[58,58]⟩:ByteArray).size≤140737488355328 then crawlwayref09_row t2 (wr .i64 (q4.1+q4.2)) 8>>=fun t16=>if (t14++(⟨#[58,58]⟩:ByteArray)).size+t16.size≤140737488355328 then some ((t14++(⟨#[58,58]⟩:ByteArray))++t16) else none else none)
theorem crawlwayref09_Text_ok(x0:(Vector Int 16))(r:ByteArray)(hF:crawlwayref09_Text x0=some r)(w:World) :
    Calls Tryz.prog 145 #[.agg (Cd.cs (cVec (cInt .u8) 16 (by decide)) x0).toArray] w (fun e w'=>e=.returned (.string r)∧Below w.heap.size w w'):=by
 unfold crawlwayref09_Text at hF
 refine ce (l:=[.agg (Cd.cs (cVec (cInt .u8) 16 (by decide)) x0).toArray]) func145 rfl rfl ?_
 refine at_start ?_
 refine sr ?_
 refine at_box (cs:=Cd.cs (cVec (cInt .u8) 16 (by decide)) x0) rfl rfl rfl ?_
 intro b1
 refine aa (ns ?_)
 refine aw (r_load_aggc (c:=(cVec (cInt .u8) 16 (by decide))) (z:=x0) isAgg23 sizeOf23 rfl (lens_cell .z lw)) ?_
 obtain ⟨t2,ht2,hF⟩:=bM hF
 refine cB func169 rfl (fun w hw=>crawlwayref09_groups_ok _ _ ht2 w) ?_
 refine al (cs:=Cd.cs (cVec (cInt .i64) 8 (by decide)) zv5) zeroValue186 ?_
 intro b3
 refine at_store (c:=(cVec (cInt .i64) 8 (by decide))) (z:=t2) .z lw sizeOf186 rfl rfl rfl ?_
 refine qn ?_
 refine at_drop (H:=_) (.s .z) ?_
 refine tn (sr (aa (ns (aa (nt (qs (sr (aa ?_))))))))
 refine nwq [6,5,4,3] ?_
 refine qb ?_
 obtain ⟨q4,hq4,hF⟩:=bM hF
 refine wq [6,5,4,3] ?_
 refine at_loop_n (B:=0) (A:=fun Y=>At 36 [(3,.pointer (some ⟨b3,0,none⟩)),(4,.int .i64 q4.1),(5,.int .i64 q4.2)] (Wd w [cellsE b3 (Cd.cs (cVec (cInt .i64) 8 (by decide)) t2) 186]) Y) ?_ ?_
 ·intro K
  refine crawlwayref09_Text.l0.partial_correctness t2 (motive:=fun i5 i6 i7 x=>KN (fun Y=>At 36 [(3,.pointer (some ⟨b3,0,none⟩)),(4,.int .i64 x.1),(5,.int .i64 x.2)] (Wd w [cellsE b3 (Cd.cs (cVec (cInt .i64) 8 (by decide)) t2) 186]) Y) _ 0→Round (fun Y=>At 36 [(3,.pointer (some ⟨b3,0,none⟩)),(4,.int .i64 i5),(5,.int .i64 i6),(6,.int .i64 i7)] (Wd w [cellsE b3 (Cd.cs (cVec (cInt .i64) 8 (by decide)) t2) 186]) Y) _ _ _) ?_ _ _ _ _ hq4 K
  ·clear K hF
   intro g ih i5 i6 i7 x hF K
   refine at_round ?_
   refine qs (sr (am (aw xl (nwq [10,6,5,4,3] ?_))))
   obtain ⟨h8,hF⟩|⟨h8,hF⟩:=oi hF
   ·refine ct h8 ?_
    refine sn (qs ?_)
    refine qb ?_
    refine sr ?_
    refine aw (r_load_aggc (c:=(cVec (cInt .i64) 8 (by decide))) (z:=t2) isAgg186 sizeOf186 rfl (lens_cell .z lw)) ?_
    refine am ?_
    obtain ⟨t9,ht9,hF⟩:=bM hF
    refine cB func170 rfl (fun w hw=>crawlwayref09_run_ok _ _ _ ht9 w) ?_
    refine am ?_
    refine aw (r_igtr rfl rfl) ?_
    refine nwq [17,6,5,4,3] ?_
    obtain ⟨h10,hF⟩|⟨h10,hF⟩:=oi hF
    ·refine ct h10 ?_
     refine sr (am (aa (nt (qr ?_))))
     refine aw (r_load_aggc (c:=(cVec (cInt .i64) 8 (by decide))) (z:=t2) isAgg186 sizeOf186 rfl (lens_cell .z lw)) ?_
     refine am ?_
     obtain ⟨t11,ht11,hF⟩:=bM hF
     refine cB func170 rfl (fun w hw=>crawlwayref09_run_ok _ _ _ ht11 w) ?_
     refine aa (qn (wq [6,5,4,3] ?_))
     refine bm ?_
     refine qr (am (aw xa (aa (nwq [6,5,4,3] ?_))))
     exact at_weak_k (ih _ _ _ _ hF K) ⟨rfl,rfl,rfl,rfl,trivial⟩
    refine cf h10 ?_
    refine at_skip ?_
    refine bm ?_
    refine qr (am (aw xa (aa (nwq [6,5,4,3] ?_))))
    exact at_weak_k (ih _ _ _ _ hF K) ⟨rfl,rfl,rfl,rfl,trivial⟩
   refine cf h8 ?_
   refine at_exit ?_
   refine te (te ?_)
   obtain rfl:=os hF
   exact at_weak_k K ⟨rfl,rfl,rfl,trivial⟩
 skip
 skip
 refine at_blk_same ?_
 refine tn (qs (sr (am (aw xl (nwq [23,5,4,3] ?_)))))
 obtain ⟨h12,hF⟩|⟨h12,hF⟩:=oi hF
 ·refine ct h12 ?_
  refine sr ?_
  refine aw (r_load_aggc (c:=(cVec (cInt .i64) 8 (by decide))) (z:=t2) isAgg186 sizeOf186 rfl (lens_cell .z lw)) ?_
  obtain ⟨t13,ht13,hF⟩:=bM hF
  refine cB func171 rfl (fun w hw=>crawlwayref09_row_ok _ _ _ _ ht13 w) ?_
  refine aa (qn (dz (wq [2] ?_)))
  refine tn (rt ?_)
  have K:=os hF
  subst K
  exact r1 wb
 refine cf h12 ?_
 refine sn (qs ?_)
 refine at_draw (by kernel_rfl) (by kernel_rfl) (fun _ h=>h.drew) ?_
 refine atq_val rfl rfl rfl (r_load_aggc (c:=(cVec (cInt .i64) 8 (by decide))) (z:=t2) isAgg186 sizeOf186 rfl (lens_cell .z lw)) ?_
 refine atq_val rfl rfl rfl (r_move rfl) ?_
 obtain ⟨t14,ht14,hF⟩:=bM hF
 refine atq_call func171 rfl (by kernel_rfl) rfl rfl (fun w hw=>(crawlwayref09_row_ok _ _ _ _ ht14 w).mono fun _ _ h=>⟨h.1,hw.call h.2⟩) ?_
 obtain ⟨h15,hF⟩:=gd hF
 refine atq_val rfl rfl rfl (r_concat rfl rfl h15) ?_
 refine atq_val rfl rfl rfl (r_load_aggc (c:=(cVec (cInt .i64) 8 (by decide))) (z:=t2) isAgg186 sizeOf186 rfl (lens_cell .z lw)) ?_
 refine atq_val rfl rfl rfl (r_move rfl) ?_
 refine atq_val rfl rfl rfl (r_move rfl) ?_
 refine atq_val rfl rfl rfl (r_iadd rfl rfl) ?_
 obtain ⟨t16,ht16,hF⟩:=bM hF
 refine atq_call func171 rfl (by kernel_rfl) rfl rfl (fun w hw=>(crawlwayref09_row_ok _ _ _ _ ht16 w).mono fun _ _ h=>⟨h.1,hw.call h.2⟩) ?_
 obtain ⟨h17,hF⟩:=gd hF
 refine atq_val rfl rfl rfl (r_concat rfl rfl h17) ?_
 refine atq_val rfl rfl rfl (r_assign rfl) ?_
 refine atq_nil ?_
 refine dz (wq [2] ?_)
 refine tn (qt ?_)
 have K:=os hF
 subst K
 exact r1 wb
theorem infoG85_is:(Tryz.prog.info? 5).isSome=true:=by kernel_rfl
noncomputable def infoG85_v:TypeInfo:=(Tryz.prog.info? 5).get infoG85_is
theorem infoG85:Tryz.prog.info? 5=some infoG85_v:=(Option.some_get _).symm
def crawlwayref05_Encode.l0(x0:List Int)(i2:ByteArray)(i3:Int):Option (ByteArray) :=
 if (decide (i3<(x0.length:Int)))=true then (if (0:Int)≤i3∧i3<(x0.length:Int) then crawlwayref05_digit (wr .i64 (Int.tdiv (wr .i64 (lget x0 i3)) 16))>>=fun t9=>if i2.size+t9.size≤140737488355328 then if (0:Int)≤i3∧i3<(x0.length:Int) then crawlwayref05_digit (Int.tmod (wr .i64 (lget x0 i3)) 16)>>=fun t15=>if (i2++t9).size+t15.size≤140737488355328 then crawlwayref05_Encode.l0 x0 ((i2++t9)++t15) (wr .i64 (i3+1)) else none else none else none else none) else (some i2)
 partial_fixpoint
def crawlwayref05_Encode(x0:List Int):Option (ByteArray) :=
 crawlwayref05_Encode.l0 x0 (⟨#[]⟩) 0>>=fun q1=>some q1
theorem crawlwayref05_Encode_ok(x0:List Int)(p0_:Option Addr)(c0_:Nat)(r:ByteArray)(hF:crawlwayref05_Encode x0=some r)(w:World)(hr0:Row (cInt .u8) w p0_ c0_ x0) :
    Calls Tryz.prog 53 #[.slice p0_ x0.length c0_] w (fun e w'=>e=.returned (.string r)∧Below w.heap.size w w'):=by
 unfold crawlwayref05_Encode at hF
 refine ce (l:=[.slice p0_ x0.length c0_]) func53 rfl rfl ?_
 refine at_start ?_
 refine sr (aa (ns (aa (nt (qs (sr (aa (nwq [4,3,0] ?_))))))))
 refine qb ?_
 obtain ⟨q1,hq1,hF⟩:=bM hF
 refine wq [4,3,0] ?_
 refine at_loop_n (B:=0) (A:=fun Y=>At 29 [(3,.string q1)] (Wd w []) Y) ?_ ?_
 ·intro K
  refine crawlwayref05_Encode.l0.partial_correctness x0 (motive:=fun i2 i3 x=>KN (fun Y=>At 29 [(3,.string x)] (Wd w []) Y) _ 0→Round (fun Y=>At 29 [(0,.slice p0_ x0.length c0_),(3,.string i2),(4,.int .i64 i3)] (Wd w []) Y) _ _ _) ?_ _ _ _ hq1 K
  ·clear K hF
   intro g ih i2 i3 x hF K
   refine at_round ?_
   refine qs (sr (am (am ?_)))
   refine aw (r_len_sl underlying22 rfl) ?_
   refine aw xl (nwq [8,4,3,0] ?_)
   obtain ⟨h4,hF⟩|⟨h4,hF⟩:=oi hF
   ·refine ct h4 ?_
    refine sn (qs ?_)
    refine qb ?_
    refine at_draw (by kernel_rfl) (by kernel_rfl) (fun _ h=>h.drew) ?_
    refine atq_val rfl rfl rfl (r_move rfl) ?_
    refine atq_val rfl rfl rfl (r_move rfl) ?_
    refine atq_val rfl rfl rfl (r_move rfl) ?_
    obtain ⟨h5,hF⟩:=gd hF
    obtain ⟨b7,o8,hp6⟩:=row_ptr hr0 h5
    refine atq_val rfl rfl rfl (r_idx underlying22 sizeOf5 rfl rfl h5 hp6) ?_
    refine atq_val rfl rfl rfl (r_load_cell isAgg5 rfl (row_cell0 (fun _ h=>h.below) hr0 h5 hp6 rfl)) ?_
    refine atq_val rfl rfl rfl (r_conv underlying5 underlying3 rfl) ?_
    refine atq_val rfl rfl rfl (r_iquo rfl rfl (by decide)) ?_
    obtain ⟨t9,ht9,hF⟩:=bM hF
    refine atq_call func88 rfl (by kernel_rfl) rfl rfl (fun w hw=>(crawlwayref05_digit_ok _ _ ht9 w).mono fun _ _ h=>⟨h.1,h.2▸hw⟩) ?_
    obtain ⟨h10,hF⟩:=gd hF
    refine atq_val rfl rfl rfl (r_concat rfl rfl h10) ?_
    refine atq_val rfl rfl rfl (r_move rfl) ?_
    refine atq_val rfl rfl rfl (r_move rfl) ?_
    obtain ⟨h11,hF⟩:=gd hF
    obtain ⟨b13,o14,hp12⟩:=row_ptr hr0 h11
    refine atq_val rfl rfl rfl (r_idx underlying22 sizeOf5 rfl rfl h11 hp12) ?_
    refine atq_val rfl rfl rfl (r_load_cell isAgg5 rfl (row_cell0 (fun _ h=>h.below) hr0 h11 hp12 rfl)) ?_
    refine atq_val rfl rfl rfl (r_conv underlying5 underlying3 rfl) ?_
    refine atq_val rfl rfl rfl (r_irem rfl rfl (by decide)) ?_
    obtain ⟨t15,ht15,hF⟩:=bM hF
    refine atq_call func88 rfl (by kernel_rfl) rfl rfl (fun w hw=>(crawlwayref05_digit_ok _ _ ht15 w).mono fun _ _ h=>⟨h.1,h.2▸hw⟩) ?_
    obtain ⟨h16,hF⟩:=gd hF
    refine atq_val rfl rfl rfl (r_concat rfl rfl h16) ?_
    refine atq_val rfl rfl rfl (r_assign rfl) ?_
    refine atq_nil ?_
    refine wq [4,3,0] ?_
    refine bm ?_
    refine qr (am (aw xa (aa (nwq [4,3,0] ?_))))
    exact at_weak_k (ih _ _ _ hF K) ⟨rfl,rfl,rfl,trivial⟩
   refine cf h4 ?_
   refine at_exit ?_
   refine te (te ?_)
   obtain rfl:=os hF
   exact at_weak_k K ⟨rfl,trivial⟩
 skip
 skip
 refine at_blk_same ?_
 refine tn (sr (am (aa (nwq [2] ?_))))
 refine qt ?_
 have K:=os hF
 subst K
 exact r1 wb
def crawlwayref05_Decode.l0(x0:ByteArray)(i5:List Int)(i6:Int):Option (Ctl (List Int×Int) (List Int)) :=
 if (decide (i6<(x0.size:Int)))=true then (if (0:Int)≤i6∧i6<(x0.size:Int) then crawlwayref05_Value (bt x0 i6) false>>=fun t13=>if (0:Int)≤wr .i64 (i6+1)∧wr .i64 (i6+1)<(x0.size:Int) then crawlwayref05_Value (bt x0 (wr .i64 (i6+1))) false>>=fun t15=>if (decide (t13<0))=true then (some (.ret ([],5))) else (if (decide (t15<0))=true then (some (.ret ([],5))) else (if (i5.length+1)*1≤140737488355328 then crawlwayref05_Decode.l0 x0 (i5++[wr .u8 (wr .i64 ((wr .i64 (16*t13))+t15))]) (wr .i64 (i6+2)) else none)) else none else none) else (some (.nx i5))
 partial_fixpoint
def crawlwayref05_Decode(x0:ByteArray):Option (List Int×Int) :=
 if (Int.tmod (x0.size:Int) 2 != 0)=true then (some ([],5)) else (crawlwayref05_Decode.l0 x0 ([]:List Int) 0>>=fun q4=>match q4 with | .ret r'=>some r' | .nx sq4=>(some (sq4,0)))
theorem crawlwayref05_Decode_ok(x0:ByteArray)(r:List Int×Int)(hF:crawlwayref05_Decode x0=some r)(w:World) :
    Calls Tryz.prog 67 #[.string x0] w (fun e w'=>∃ p cap,e=.returned (.tuple #[.slice p r.1.length cap,.int .i64 r.2])∧Own (cInt .u8) 5 w.heap.size w' p cap r.1∧Below w.heap.size w w'):=by
 unfold crawlwayref05_Decode at hF
 refine ce (l:=[.string x0]) func67 rfl rfl ?_
 refine at_start ?_
 refine sr (aa (aa (nt (qs (sr (am ?_))))))
 refine aw (r_len_str underlying9 rfl) ?_
 refine aw (r_irem rfl rfl (by decide)) ?_
 refine aw xn (nwq [11,0] ?_)
 obtain ⟨h1,hF⟩|⟨h1,hF⟩:=oi hF
 ·refine ct h1 ?_
  refine sr (aa (aa (nwq [3,2] ?_)))
  refine rt ?_
  have K:=os hF
  subst K
  exact at_return2 rfl rfl rfl (fun w1 hw=>⟨none,0,rfl,Own.nil _ _ _ _,hw.below⟩)
 refine cf h1 ?_
 refine sns (aa (nt (qs (sr (aa (nwq [5,4,0] ?_))))))
 refine qb ?_
 refine at_own_nil (cInt .u8) 5 ?_
 obtain ⟨q4,hq4,hF⟩:=bM hF
 refine wq [5,4,0] ?_
 refine at_loop_r (B:=0) (r:=r) (q:=q4) (A:=fun sq4 Y=>∀ (p9:Option Addr) (c10:Nat),At 42 [(4,.slice p9 sq4.length c10)] (Wd w [rowE (cInt .u8) 5 p9 c10 sq4]) Y) ?_ ?_
 ·intro K
  refine crawlwayref05_Decode.l0.partial_correctness x0 (motive:=fun i5 i6 x=>KR (fun sq4 Y=>∀ (p9:Option Addr) (c10:Nat),At 42 [(4,.slice p9 sq4.length c10)] (Wd w [rowE (cInt .u8) 5 p9 c10 sq4]) Y) _ 0 r x→Round (fun Y=>∀ (p7:Option Addr) (c8:Nat),At 42 [(0,.string x0),(4,.slice p7 i5.length c8),(5,.int .i64 i6)] (Wd w [rowE (cInt .u8) 5 p7 c8 i5]) Y) _ _ _) ?_ _ _ _ hq4 K none 0
  ·clear K hF
   intro g ih i5 i6 x hF K p7 c8
   refine at_round ?_
   refine qs (sr (am (am ?_)))
   refine aw (r_len_str underlying9 rfl) ?_
   refine aw xl (nwq [15,5,4,0] ?_)
   obtain ⟨h11,hF⟩|⟨h11,hF⟩:=oi hF
   ·refine ct h11 ?_
    refine sn (qs ?_)
    refine qb ?_
    refine qs ?_
    refine at_draw (by kernel_rfl) (by kernel_rfl) (fun _ h=>h.drew) ?_
    refine atq_val rfl rfl rfl (r_move rfl) ?_
    refine atq_val rfl rfl rfl (r_move rfl) ?_
    obtain ⟨h12,hF⟩:=gd hF
    refine atq_val rfl rfl rfl (r_index_str underlying9 rfl rfl h12) ?_
    obtain ⟨t13,ht13,hF⟩:=bM hF
    refine atq_call func118 rfl (by kernel_rfl) rfl rfl (fun w hw=>(crawlwayref05_Value_ok _ _ _ ht13 w).mono fun _ _ h=>⟨h.1,h.2▸hw⟩) ?_
    refine atq_val rfl rfl rfl (r_move rfl) ?_
    refine atq_val rfl rfl rfl (r_move rfl) ?_
    refine atq_val rfl rfl rfl (r_iadd rfl rfl) ?_
    obtain ⟨h14,hF⟩:=gd hF
    refine atq_val rfl rfl rfl (r_index_str underlying9 rfl rfl h14) ?_
    obtain ⟨t15,ht15,hF⟩:=bM hF
    refine atq_call func118 rfl (by kernel_rfl) rfl rfl (fun w hw=>(crawlwayref05_Value_ok _ _ _ ht15 w).mono fun _ _ h=>⟨h.1,h.2▸hw⟩) ?_
    refine atq_val rfl rfl rfl (r_assign rfl) ?_
    refine atq_val rfl rfl rfl (r_assign rfl) ?_
    refine atq_nil ?_
    refine wq [7,6,5,4,0] ?_
    refine tn (qs (sr (am (aw xl (am ?_)))))
    obtain ⟨h16,hF⟩|⟨h16,hF⟩:=oi hF
    ·refine fx 29 h16 ?_
     refine gn ?_
     refine gn ?_
     refine aw xp (nwq [32,7,6,5,4,0] ?_)
     refine ct rfl ?_
     refine sr (aa (aa (qn (dz (wq [3,2] ?_)))))
     refine tn (qt ?_)
     refine tr (br (tr (tr (br (tr ?_)))))
     obtain rfl:=os hF
     subst K
     exact at_return2 rfl rfl rfl (fun w1 hw=>⟨none,0,rfl,Own.nil _ _ _ _,hw.below⟩)
    refine fx 29 h16 ?_
    refine gy ?_
    refine am ?_
    refine gy ?_
    refine aw xl (aw xp (nwq [32,7,6,5,4,0] ?_))
    obtain ⟨h17,hF⟩|⟨h17,hF⟩:=oi hF
    ·refine ct h17 ?_
     refine sr (aa (aa (qn (dz (wq [3,2] ?_)))))
     refine tn (qt ?_)
     refine tr (br (tr (tr (br (tr ?_)))))
     obtain rfl:=os hF
     subst K
     exact at_return2 rfl rfl rfl (fun w1 hw=>⟨none,0,rfl,Own.nil _ _ _ _,hw.below⟩)
    refine cf h17 ?_
    refine sn (qr (am (am ?_)))
    refine aw (r_imul rfl rfl) ?_
    refine am (aw xa ?_)
    refine aw (r_conv underlying3 underlying5 rfl) ?_
    refine at_lit (cs:=(cInt .u8).all ([wr .u8 (wr .i64 ((wr .i64 (16*t13))+t15))]:List Int)) underlying22 sizeOf5 zeroValue5 rfl rfl rfl (by kernel_rfl) rfl ?_
    intro b18
    obtain ⟨h19,hF⟩:=gd hF
    refine at_append (z:=.int .u8 0) (c:=(cInt .u8)) (ys:=([wr .u8 (wr .i64 ((wr .i64 (16*t13))+t15))]:List Int)) (.s .z) underlying22 infoG85 (by kernel_rfl) (by kernel_rfl) rfl rfl rfl rfl (fun _ hw=>cells_src (hw.ok (Upd.mem .z))) (by kernel_rfl) h19 (app_small h19) rfl ?_
    intro p20 c21
    refine aa (qn (dz (wq [5,4,0] ?_)))
    refine bm ?_
    refine qr (am (aw xa (aa (nwq [5,4,0] ?_))))
    exact at_weak_k (ih _ _ _ hF K p20 c21) ⟨rfl,rfl,rfl,trivial⟩
   refine cf h11 ?_
   refine at_exit ?_
   refine te (te ?_)
   obtain rfl:=os hF
   exact at_weak_k (K p7 c8) ⟨rfl,trivial⟩
 cases q4 with
 | ret r'=>exact os hF
 | nx sq4 =>
  intro p9 c10
  refine at_blk_same ?_
  refine tn (sr (am (aa (aa (nwq [3,2] ?_)))))
  refine qt ?_
  have K:=os hF
  subst K
  exact at_return2 rfl rfl rfl (fun w1 hw=>⟨p9,c10,rfl,hw.own .z,hw.below⟩)
def hexes_Decode.l0(x0:ByteArray)(i5:List Int)(i6:Int):Option (Ctl (List Int×Int) (List Int)) :=
 if (decide (i6<(x0.size:Int)))=true then (if (0:Int)≤i6∧i6<(x0.size:Int) then hexes_value (bt x0 i6)>>=fun t13=>if (0:Int)≤wr .i64 (i6+1)∧wr .i64 (i6+1)<(x0.size:Int) then hexes_value (bt x0 (wr .i64 (i6+1)))>>=fun t15=>if (!t13.2)=true then (some (.ret ([],5))) else (if (!t15.2)=true then (some (.ret ([],5))) else (if (i5.length+1)*1≤140737488355328 then hexes_Decode.l0 x0 (i5++[wr .u8 (ior .u16 (ishl .u16 t13.1 4) t15.1)]) (wr .i64 (i6+2)) else none)) else none else none) else (some (.nx i5))
 partial_fixpoint
def hexes_Decode(x0:ByteArray):Option (List Int×Int) :=
 if (Int.tmod (x0.size:Int) 2 != 0)=true then (some ([],5)) else (hexes_Decode.l0 x0 ([]:List Int) 0>>=fun q4=>match q4 with | .ret r'=>some r' | .nx sq4=>(some (sq4,0)))
theorem hexes_Decode_ok(x0:ByteArray)(r:List Int×Int)(hF:hexes_Decode x0=some r)(w:World) :
    Calls Tryz.prog 151 #[.string x0] w (fun e w'=>∃ p cap,e=.returned (.tuple #[.slice p r.1.length cap,.int .i64 r.2])∧Own (cInt .u8) 5 w.heap.size w' p cap r.1∧Below w.heap.size w w'):=by
 unfold hexes_Decode at hF
 refine ce (l:=[.string x0]) func151 rfl rfl ?_
 refine at_start ?_
 refine sr (aa (aa (nt (qs (sr (am ?_))))))
 refine aw (r_len_str underlying9 rfl) ?_
 refine aw (r_irem rfl rfl (by decide)) ?_
 refine aw xn (nwq [13,0] ?_)
 obtain ⟨h1,hF⟩|⟨h1,hF⟩:=oi hF
 ·refine ct h1 ?_
  refine sr (aa (aa (nwq [3,2] ?_)))
  refine rt ?_
  have K:=os hF
  subst K
  exact at_return2 rfl rfl rfl (fun w1 hw=>⟨none,0,rfl,Own.nil _ _ _ _,hw.below⟩)
 refine cf h1 ?_
 refine sns (aa (nt (qs (sr (aa (nwq [5,4,0] ?_))))))
 refine qb ?_
 refine at_own_nil (cInt .u8) 5 ?_
 obtain ⟨q4,hq4,hF⟩:=bM hF
 refine wq [5,4,0] ?_
 refine at_loop_r (B:=0) (r:=r) (q:=q4) (A:=fun sq4 Y=>∀ (p9:Option Addr) (c10:Nat),At 50 [(4,.slice p9 sq4.length c10)] (Wd w [rowE (cInt .u8) 5 p9 c10 sq4]) Y) ?_ ?_
 ·intro K
  refine hexes_Decode.l0.partial_correctness x0 (motive:=fun i5 i6 x=>KR (fun sq4 Y=>∀ (p9:Option Addr) (c10:Nat),At 50 [(4,.slice p9 sq4.length c10)] (Wd w [rowE (cInt .u8) 5 p9 c10 sq4]) Y) _ 0 r x→Round (fun Y=>∀ (p7:Option Addr) (c8:Nat),At 50 [(0,.string x0),(4,.slice p7 i5.length c8),(5,.int .i64 i6)] (Wd w [rowE (cInt .u8) 5 p7 c8 i5]) Y) _ _ _) ?_ _ _ _ hq4 K none 0
  ·clear K hF
   intro g ih i5 i6 x hF K p7 c8
   refine at_round ?_
   refine qs (sr (am (am ?_)))
   refine aw (r_len_str underlying9 rfl) ?_
   refine aw xl (nwq [17,5,4,0] ?_)
   obtain ⟨h11,hF⟩|⟨h11,hF⟩:=oi hF
   ·refine ct h11 ?_
    refine sn (qs ?_)
    refine qb ?_
    refine sr (am (am ?_))
    obtain ⟨h12,hF⟩:=gd hF
    refine aw (r_index_str underlying9 rfl rfl h12) ?_
    obtain ⟨t13,ht13,hF⟩:=bM hF
    refine at_call0 func174 rfl (by kernel_rfl) rfl rfl (fun w=>hexes_value_ok _ _ ht13 w) ?_
    refine am ?_
    refine aw xe (aw xe (aa (aa (ns (am (am (aw xa ?_)))))))
    obtain ⟨h14,hF⟩:=gd hF
    refine aw (r_index_str underlying9 rfl rfl h14) ?_
    obtain ⟨t15,ht15,hF⟩:=bM hF
    refine at_call0 func174 rfl (by kernel_rfl) rfl rfl (fun w=>hexes_value_ok _ _ ht15 w) ?_
    refine am ?_
    refine aw xe (aw xe (aa (aa (nwq [9,8,7,6,5,4,0] ?_))))
    refine qs (sr (am ?_))
    refine aw (r_not rfl) ?_
    refine am ?_
    obtain ⟨h16,hF⟩|⟨h16,hF⟩:=oi hF
    ·refine fx 37 h16 ?_
     refine gn ?_
     refine gn ?_
     refine aw xp (nwq [40,8,6,5,4,0] ?_)
     refine ct rfl ?_
     refine sr (aa (aa (qn (dz (wq [3,2] ?_)))))
     refine tn (qt ?_)
     refine tr (br (tr (tr (br (tr ?_)))))
     obtain rfl:=os hF
     subst K
     exact at_return2 rfl rfl rfl (fun w1 hw=>⟨none,0,rfl,Own.nil _ _ _ _,hw.below⟩)
    refine fx 37 h16 ?_
    refine gy ?_
    refine am ?_
    refine gy ?_
    refine aw (r_not rfl) ?_
    refine aw xp (nwq [40,8,6,5,4,0] ?_)
    obtain ⟨h17,hF⟩|⟨h17,hF⟩:=oi hF
    ·refine ct h17 ?_
     refine sr (aa (aa (qn (dz (wq [3,2] ?_)))))
     refine tn (qt ?_)
     refine tr (br (tr (tr (br (tr ?_)))))
     obtain rfl:=os hF
     subst K
     exact at_return2 rfl rfl rfl (fun w1 hw=>⟨none,0,rfl,Own.nil _ _ _ _,hw.below⟩)
    refine cf h17 ?_
    refine sn (qr (am (am ?_)))
    refine aw (r_ishl rfl rfl (by decide)) ?_
    refine am ?_
    refine aw (r_ior rfl rfl) ?_
    refine aw (r_conv underlying191 underlying5 rfl) ?_
    refine at_lit (cs:=(cInt .u8).all ([wr .u8 (ior .u16 (ishl .u16 t13.1 4) t15.1)]:List Int)) underlying22 sizeOf5 zeroValue5 rfl rfl rfl (by kernel_rfl) rfl ?_
    intro b18
    obtain ⟨h19,hF⟩:=gd hF
    refine at_append (z:=.int .u8 0) (c:=(cInt .u8)) (ys:=([wr .u8 (ior .u16 (ishl .u16 t13.1 4) t15.1)]:List Int)) (.s .z) underlying22 infoG85 (by kernel_rfl) (by kernel_rfl) rfl rfl rfl rfl (fun _ hw=>cells_src (hw.ok (Upd.mem .z))) (by kernel_rfl) h19 (app_small h19) rfl ?_
    intro p20 c21
    refine aa (qn (dz (wq [5,4,0] ?_)))
    refine bm ?_
    refine qr (am (aw xa (aa (nwq [5,4,0] ?_))))
    exact at_weak_k (ih _ _ _ hF K p20 c21) ⟨rfl,rfl,rfl,trivial⟩
   refine cf h11 ?_
   refine at_exit ?_
   refine te (te ?_)
   obtain rfl:=os hF
   exact at_weak_k (K p7 c8) ⟨rfl,trivial⟩
 cases q4 with
 | ret r'=>exact os hF
 | nx sq4 =>
  intro p9 c10
  refine at_blk_same ?_
  refine tn (sr (am (aa (aa (nwq [3,2] ?_)))))
  refine qt ?_
  have K:=os hF
  subst K
  exact at_return2 rfl rfl rfl (fun w1 hw=>⟨p9,c10,rfl,hw.own .z,hw.below⟩)
def hexes_Encode.l0(x0:List Int)(i4:Int)(i5:ByteArray):Option (ByteArray) :=
 if (decide (i4<(x0.length:Int)))=true then (if (0:Int)≤i4∧i4<(x0.length:Int) then if (0:Int)≤ishr .u8 (lget x0 i4) 4∧ishr .u8 (lget x0 i4) 4<((⟨#[48,49,50,51,52,53,54,55,56,57,97,98,99,100,101,102]⟩:ByteArray).size:Int) then if (0:Int)≤bt (⟨#[48,49,50,51,52,53,54,55,56,57,97,98,99,100,101,102]⟩:ByteArray) (ishr .u8 (lget x0 i4) 4)∧bt (⟨#[48,49,50,51,52,53,54,55,56,57,97,98,99,100,101,102]⟩:ByteArray) (ishr .u8 (lget x0 i4) 4)<256 then if i5.size+1≤140737488355328 then if (0:Int)≤iand .u8 (lget x0 i4) 15∧iand .u8 (lget x0 i4) 15<((⟨#[48,49,50,51,52,53,54,55,56,57,97,98,99,100,101,102]⟩:ByteArray).size:Int) then if (0:Int)≤bt (⟨#[48,49,50,51,52,53,54,55,56,57,97,98,99,100,101,102]⟩:ByteArray) (iand .u8 (lget x0 i4) 15)∧bt (⟨#[48,49,50,51,52,53,54,55,56,57,97,98,99,100,101,102]⟩:ByteArray) (iand .u8 (lget x0 i4) 15)<256 then if (i5.push (UInt8.ofNat (Int.toNat (bt (⟨#[48,49,50,51,52,53,54,55,56,57,97,98,99,100,101,102]⟩:ByteArray) (ishr .u8 (lget x0 i4) 4))))).size+1≤140737488355328 then hexes_Encode.l0 x0 (wr .i64 (i4+1)) ((i5.push (UInt8.ofNat (Int.toNat (bt (⟨#[48,49,50,51,52,53,54,55,56,57,97,98,99,100,101,102]⟩:ByteArray) (ishr .u8 (lget x0 i4) 4))))).push (UInt8.ofNat (Int.toNat (bt (⟨#[48,49,50,51,52,53,54,55,56,57,97,98,99,100,101,102]⟩:ByteArray) (iand .u8 (lget x0 i4) 15))))) else none else none else none else none else none else none else none) else (some i5)
 partial_fixpoint
def hexes_Encode(x0:List Int):Option (ByteArray) :=
 hexes_Encode.l0 x0 0 ByteArray.empty>>=fun q3=>some q3
theorem hexes_Encode_ok(x0:List Int)(p0_:Option Addr)(c0_:Nat)(r:ByteArray)(hF:hexes_Encode x0=some r)(w:World)(hr0:Row (cInt .u8) w p0_ c0_ x0) :
    Calls Tryz.prog 153 #[.slice p0_ x0.length c0_] w (fun e w'=>e=.returned (.string r)∧Below w.heap.size w w'):=by
 unfold hexes_Encode at hF
 refine ce (l:=[.slice p0_ x0.length c0_]) func153 rfl rfl ?_
 refine at_start ?_
 refine sr (aa (ns ?_))
 refine at_alloc_bld (e:=5) zeroValue137 rfl ?_
 intro b1
 refine nt (qs (sr (am ?_)))
 refine aw (r_len_sl underlying22 rfl) ?_
 refine am (nwq [8,7,6,3] ?_)
 refine qb ?_
 obtain ⟨q3,hq3,hF⟩:=bM hF
 refine wq [8,7,6,3] ?_
 refine at_loop_n (B:=0) (A:=fun Y=>∀ (g7:Option Nat),At 22 [(3,.pointer (some ⟨b1,0,none⟩))] (Wd w [bldE 137 5 b1 g7 q3]) Y) ?_ ?_
 ·intro K
  refine hexes_Encode.l0.partial_correctness x0 (motive:=fun i4 i5 x=>KN (fun Y=>∀ (g7:Option Nat),At 22 [(3,.pointer (some ⟨b1,0,none⟩))] (Wd w [bldE 137 5 b1 g7 x]) Y) _ 0→Round (fun Y=>∀ (g6:Option Nat),At 22 [(3,.pointer (some ⟨b1,0,none⟩)),(6,.slice p0_ x0.length c0_),(7,.int .i64 (x0.length:Int)),(8,.int .i64 i4)] (Wd w [bldE 137 5 b1 g6 i5]) Y) _ _ _) ?_ _ _ _ hq3 K none
  ·clear K hF
   intro g ih i4 i5 x hF K g6
   refine at_round ?_
   refine sr (aw xl (nwq [9,8,7,6,3] ?_))
   refine qs ?_
   obtain ⟨h8,hF⟩|⟨h8,hF⟩:=oi hF
   ·refine ct h8 ?_
    refine sn (qs ?_)
    refine qb ?_
    refine sr ?_
    obtain ⟨h9,hF⟩:=gd hF
    obtain ⟨b11,o12,hp10⟩:=row_ptr hr0 h9
    refine aw (r_idx underlying22 sizeOf5 rfl rfl h9 hp10) ?_
    refine aw (r_load_cell isAgg5 rfl (row_cell0 (fun _ h=>h.below) hr0 h9 hp10 rfl)) ?_
    refine aa (nwx [8,7,6,5,3] ?_)
    refine am ?_
    refine aw (r_ishr rfl rfl (by decide)) ?_
    obtain ⟨h13,hF⟩:=gd hF
    refine aw (r_index_str underlying9 rfl rfl h13) ?_
    obtain ⟨h15,hF⟩:=gd hF
    obtain ⟨h16,hF⟩:=gd hF
    refine at_bld_byte (c:=bt (⟨#[48,49,50,51,52,53,54,55,56,57,97,98,99,100,101,102]⟩:ByteArray) (ishr .u8 (lget x0 i4) 4)) .z trivial func175 rfl (by kernel_rfl) rfl rfl h15 h16 Tryz.Builder_WriteByte_k ?_
    intro g14
    refine nwq [8,7,6,5,3] ?_
    refine qr (am ?_)
    refine aw (r_iand rfl rfl) ?_
    obtain ⟨h17,hF⟩:=gd hF
    refine aw (r_index_str underlying9 rfl rfl h17) ?_
    obtain ⟨h19,hF⟩:=gd hF
    obtain ⟨h20,hF⟩:=gd hF
    refine at_bld_byte (c:=bt (⟨#[48,49,50,51,52,53,54,55,56,57,97,98,99,100,101,102]⟩:ByteArray) (iand .u8 (lget x0 i4) 15)) .z trivial func175 rfl (by kernel_rfl) rfl rfl h19 h20 Tryz.Builder_WriteByte_k ?_
    intro g18
    refine qn (wq [8,7,6,3] ?_)
    refine bm ?_
    refine qr (aw xa (am (nwq [8,7,6,3] ?_)))
    exact at_weak_k (ih _ _ _ hF K g18) ⟨rfl,rfl,rfl,rfl,trivial⟩
   refine cf h8 ?_
   refine at_exit ?_
   refine te (te ?_)
   obtain rfl:=os hF
   exact at_weak_k (K g6) ⟨rfl,trivial⟩
 skip
 intro g7
 refine at_blk_same ?_
 refine tn (sr ?_)
 refine at_bld_string .z trivial func85 rfl (by kernel_rfl) rfl rfl Tryz.Builder_String_any_k ?_
 intro g21
 refine aa (qn (dz (wq [2] ?_)))
 refine tn (qt ?_)
 have K:=os hF
 subst K
 exact r1 wb
def keys_Hex(x0:(Vector Int 32)):Option (ByteArray) :=
 hexes_Encode (Vector.toList x0)>>=fun t2=>some t2
theorem keys_Hex_ok(x0:(Vector Int 32))(r:ByteArray)(hF:keys_Hex x0=some r)(w:World) :
    Calls Tryz.prog 96 #[.agg (Cd.cs (cVec (cInt .u8) 32 (by decide)) x0).toArray] w (fun e w'=>e=.returned (.string r)∧Below w.heap.size w w'):=by
 unfold keys_Hex at hF
 refine ce (l:=[.agg (Cd.cs (cVec (cInt .u8) 32 (by decide)) x0).toArray]) func96 rfl rfl ?_
 refine at_start ?_
 refine sr ?_
 refine at_box (cs:=Cd.cs (cVec (cInt .u8) 32 (by decide)) x0) rfl rfl rfl ?_
 intro b1
 refine aa (ns ?_)
 refine aw (r_slice_vec x0 underlying29 sizeOf5 rfl) ?_
 obtain ⟨t2,ht2,hF⟩:=bM hF
 refine cB func153 rfl (fun w hw=>hexes_Encode_ok _ _ _ _ ht2 w (vec_row (hw.ok (Upd.mem .z)))) ?_
 refine aa (qn (dz (wq [2] ?_)))
 refine tn (qt ?_)
 have K:=os hF
 subst K
 exact r1 wb
def keys_Of(x0:List Int):Option ((Vector Int 32)×Int) :=
 if (decide ((x0.length:Int)<32))=true then (some ((Vector.replicate 32 (0:Int):(Vector Int 32)),3)) else (if (decide ((x0.length:Int)>32))=true then (some ((Vector.replicate 32 (0:Int):(Vector Int 32)),4)) else (if 32≤x0.length then some (lvec 32 x0,0) else none))
theorem keys_Of_ok(x0:List Int)(p0_:Option Addr)(c0_:Nat)(r:(Vector Int 32)×Int)(hF:keys_Of x0=some r)(w:World)(hr0:Row (cInt .u8) w p0_ c0_ x0) :
    Calls Tryz.prog 152 #[.slice p0_ x0.length c0_] w (fun e w'=>e=.returned (.tuple #[.agg (Cd.cs (cVec (cInt .u8) 32 (by decide)) r.1).toArray,.int .i64 r.2])∧Below w.heap.size w w'):=by
 unfold keys_Of at hF
 refine ce (l:=[.slice p0_ x0.length c0_]) func152 rfl rfl ?_
 refine at_start ?_
 refine sr ?_
 refine al (cs:=Cd.cs (cVec (cInt .u8) 32 (by decide)) zv3) zeroValue29 ?_
 intro b1
 refine aa (nwq [2,0] ?_)
 refine qs ?_
 refine qb ?_
 refine sr (am ?_)
 refine aw (r_len_sl underlying22 rfl) ?_
 refine aw xl (aa (nwq [4,2,0] ?_))
 obtain ⟨h2,hF⟩|⟨h2,hF⟩:=oi hF
 ·refine ct h2 ?_
  refine sr ?_
  refine aw (r_build_array (zs:=Cd.cs (cVec (cInt .u8) 32 (by decide)) zv3) (cs:=Cd.cs (cVec (cInt .u8) 32 (by decide)) zv3) underlying29 zeroValue29 rfl sizeOf5 rfl rfl) ?_
  refine at_store (c:=(cVec (cInt .u8) 32 (by decide))) (z:=zv3) .z lw sizeOf29 rfl rfl rfl ?_
  refine aa (nwq [3,2] ?_)
  refine qt ?_
  refine br (tr ?_)
  have K:=os hF
  subst K
  exact at_res2 rfl (res_cell (c:=(cVec (cInt .u8) 32 (by decide))) (y:=zv3) rfl .z lw isAgg29 sizeOf29 (.inl rfl)) (res_tmp rfl) wb
 refine cf h2 ?_
 refine sr (am ?_)
 refine aw (r_len_sl underlying22 rfl) ?_
 refine aw (r_igtr rfl rfl) ?_
 refine aa (nwq [9,2,0] ?_)
 obtain ⟨h3,hF⟩|⟨h3,hF⟩:=oi hF
 ·refine ct h3 ?_
  refine sr ?_
  refine aw (r_build_array (zs:=Cd.cs (cVec (cInt .u8) 32 (by decide)) zv3) (cs:=Cd.cs (cVec (cInt .u8) 32 (by decide)) zv3) underlying29 zeroValue29 rfl sizeOf5 rfl rfl) ?_
  refine at_store (c:=(cVec (cInt .u8) 32 (by decide))) (z:=zv3) .z lw sizeOf29 rfl rfl rfl ?_
  refine aa (nwq [3,2] ?_)
  refine qt ?_
  refine br (tr ?_)
  have K:=os hF
  subst K
  exact at_res2 rfl (res_cell (c:=(cVec (cInt .u8) 32 (by decide))) (y:=zv3) rfl .z lw isAgg29 sizeOf29 (.inl rfl)) (res_tmp rfl) wb
 refine cf h3 ?_
 refine at_skip ?_
 refine bm ?_
 refine sr (am ?_)
 obtain ⟨h4,hF⟩:=gd hF
 refine aw (r_arrptr underlying29 rfl h4) ?_
 refine at_pure (φ:=∃ b o,p0_=some ⟨b,o,none⟩) (fun w1 hw=>row_ptr (i:=0) (hr0.below hw.below) (by omega)) ?_
 rintro ⟨b5,o6,hp7⟩
 refine aw (r_load_aggc (c:=(cVec (cInt .u8) 32 (by decide))) (z:=lvec 32 x0) isAgg29 sizeOf29 (by rw [←hp7];rfl) (fun w1 hw=>row_lvec (hr0.below hw.below) h4 hp7)) ?_
 refine at_store (c:=(cVec (cInt .u8) 32 (by decide))) (z:=lvec 32 x0) .z lw sizeOf29 rfl rfl rfl ?_
 refine aa (nwq [3,2] ?_)
 refine qt ?_
 have K:=os hF
 subst K
 exact at_res2 rfl (res_cell (c:=(cVec (cInt .u8) 32 (by decide))) (y:=lvec 32 x0) rfl .z lw isAgg29 sizeOf29 (.inl rfl)) (res_tmp rfl) wb
def keys_ParseHex(x0:ByteArray):Option ((Vector Int 32)×Int) :=
 hexes_Decode x0>>=fun t2=>if (t2.2 != 0)=true then (some ((Vector.replicate 32 (0:Int):(Vector Int 32)),t2.2)) else (keys_Of t2.1>>=fun t6=>some (t6.1,t6.2))
theorem keys_ParseHex_ok(x0:ByteArray)(r:(Vector Int 32)×Int)(hF:keys_ParseHex x0=some r)(w:World) :
    Calls Tryz.prog 94 #[.string x0] w (fun e w'=>e=.returned (.tuple #[.agg (Cd.cs (cVec (cInt .u8) 32 (by decide)) r.1).toArray,.int .i64 r.2])∧Below w.heap.size w w'):=by
 unfold keys_ParseHex at hF
 refine ce (l:=[.string x0]) func94 rfl rfl ?_
 refine at_start ?_
 refine sr ?_
 refine al (cs:=Cd.cs (cVec (cInt .u8) 32 (by decide)) zv3) zeroValue29 ?_
 intro b1
 refine aa (ns (am ?_))
 obtain ⟨t2,ht2,hF⟩:=bM hF
 refine at_callO (c:=(cInt .u8)) (e:=5) (ys:=t2.1) (V:=fun p cap=>.tuple #[.slice p t2.1.length cap,.int .i64 t2.2]) func151 rfl (by kernel_rfl) rfl rfl (fun w hw=>hexes_Decode_ok _ _ ht2 w) ?_
 intro p3 c4
 refine am ?_
 refine aw xe (aw xe (aa (aa (nt (qs (sr (am (aw xn ?_))))))))
 refine nwq [12,5,4,2] ?_
 obtain ⟨h5,hF⟩|⟨h5,hF⟩:=oi hF
 ·refine ct h5 ?_
  refine sr ?_
  refine aw (r_build_array (zs:=Cd.cs (cVec (cInt .u8) 32 (by decide)) zv3) (cs:=Cd.cs (cVec (cInt .u8) 32 (by decide)) zv3) underlying29 zeroValue29 rfl sizeOf5 rfl rfl) ?_
  refine am ?_
  refine at_store (c:=(cVec (cInt .u8) 32 (by decide))) (z:=zv3) (.s .z) lw sizeOf29 rfl rfl rfl ?_
  refine aa (qn (dz (wq [3,2] ?_)))
  refine tn (rt ?_)
  have K:=os hF
  subst K
  exact at_res2 rfl (res_cell (c:=(cVec (cInt .u8) 32 (by decide))) (y:=zv3) rfl .z lw isAgg29 sizeOf29 (.inl rfl)) (res_tmp rfl) wb
 refine cf h5 ?_
 refine sns (am ?_)
 obtain ⟨t6,ht6,hF⟩:=bM hF
 refine cB func152 rfl (fun w hw=>keys_Of_ok _ _ _ _ ht6 w (hw.own .z).row) ?_
 refine aw xe (aw xe ?_)
 refine at_store (c:=(cVec (cInt .u8) 32 (by decide))) (z:=t6.1) (.s .z) lw sizeOf29 rfl rfl rfl ?_
 refine aa (qn (dz (wq [3,2] ?_)))
 refine tn (qt ?_)
 have K:=os hF
 subst K
 exact at_res2 rfl (res_cell (c:=(cVec (cInt .u8) 32 (by decide))) (y:=t6.1) rfl .z lw isAgg29 sizeOf29 (.inl rfl)) (res_tmp rfl) wb
def crawlwayref07_Bytes.l0(x0:(Vector Int 32))(i5:List Int)(i6:Int):Option (List Int) :=
 if (decide (i6<32))=true then (if (0:Int)≤i6∧i6<32 then if (i5.length+1)*1≤140737488355328 then crawlwayref07_Bytes.l0 x0 (i5++[vget x0 i6]) (wr .i64 (i6+1)) else none else none) else (some i5)
 partial_fixpoint
def crawlwayref07_Bytes(x0:(Vector Int 32)):Option (List Int) :=
 crawlwayref07_Bytes.l0 x0 ([]:List Int) 0>>=fun q4=>some q4
theorem crawlwayref07_Bytes_ok(x0:(Vector Int 32))(r:List Int)(hF:crawlwayref07_Bytes x0=some r)(w:World) :
    Calls Tryz.prog 54 #[.agg (Cd.cs (cVec (cInt .u8) 32 (by decide)) x0).toArray] w (fun e w'=>∃ p cap,e=.returned (.slice p r.length cap)∧Own (cInt .u8) 5 w.heap.size w' p cap r∧Below w.heap.size w w'):=by
 unfold crawlwayref07_Bytes at hF
 refine ce (l:=[.agg (Cd.cs (cVec (cInt .u8) 32 (by decide)) x0).toArray]) func54 rfl rfl ?_
 refine at_start ?_
 refine sr ?_
 refine at_box (cs:=Cd.cs (cVec (cInt .u8) 32 (by decide)) x0) rfl rfl rfl ?_
 intro b1
 refine aa (ns (aa (nt (qs (sr (aa (nwq [4,3,1] ?_)))))))
 refine qb ?_
 refine at_own_nil (cInt .u8) 5 ?_
 obtain ⟨q4,hq4,hF⟩:=bM hF
 refine wq [4,3,1] ?_
 refine at_loop_n (B:=0) (A:=fun Y=>∀ (p9:Option Addr) (c10:Nat),At 16 [(3,.slice p9 q4.length c10)] (Wd w [rowE (cInt .u8) 5 p9 c10 q4]) Y) ?_ ?_
 ·intro K
  refine crawlwayref07_Bytes.l0.partial_correctness x0 (motive:=fun i5 i6 x=>KN (fun Y=>∀ (p9:Option Addr) (c10:Nat),At 16 [(3,.slice p9 x.length c10)] (Wd w [rowE (cInt .u8) 5 p9 c10 x]) Y) _ 0→Round (fun Y=>∀ (p7:Option Addr) (c8:Nat),At 16 [(1,.pointer (some ⟨b1,0,none⟩)),(3,.slice p7 i5.length c8),(4,.int .i64 i6)] (Wd w [rowE (cInt .u8) 5 p7 c8 i5,cellsE b1 (Cd.cs (cVec (cInt .u8) 32 (by decide)) x0) 29]) Y) _ _ _) ?_ _ _ _ hq4 K none 0
  ·clear K hF
   intro g ih i5 i6 x hF K p7 c8
   refine at_round ?_
   refine qs (sr (am (aw xl (nwq [6,4,3,1] ?_))))
   obtain ⟨h11,hF⟩|⟨h11,hF⟩:=oi hF
   ·refine ct h11 ?_
    refine sn (qs ?_)
    refine qb ?_
    refine qr (am (am ?_))
    obtain ⟨h12,hF⟩:=gd hF
    refine aw (r_idxArr underlying29 sizeOf5 rfl rfl h12) ?_
    refine aw (r_load_cell isAgg5 rfl (lens_cell0 (c:=(cInt .u8)) (y:=vget x0 i6) (.s .z) (Lens.comp lw (fun z=>vset x0 i6 z) (Lens.vec (cInt .u8) (by decide) x0 i6 h12)) rfl)) ?_
    refine at_lit (cs:=(cInt .u8).all ([vget x0 i6]:List Int)) underlying22 sizeOf5 zeroValue5 rfl rfl rfl (by kernel_rfl) rfl ?_
    intro b13
    obtain ⟨h14,hF⟩:=gd hF
    refine at_append (z:=.int .u8 0) (c:=(cInt .u8)) (ys:=([vget x0 i6]:List Int)) (.s .z) underlying22 infoG85 (by kernel_rfl) (by kernel_rfl) rfl rfl rfl rfl (fun _ hw=>cells_src (hw.ok (Upd.mem .z))) (by kernel_rfl) h14 (app_small h14) rfl ?_
    intro p15 c16
    refine aa (qn (dz (wq [4,3,1] ?_)))
    refine bm ?_
    refine qr (am (aw xa (aa (nwq [4,3,1] ?_))))
    exact at_weak_k (ih _ _ _ hF K p15 c16) ⟨rfl,rfl,rfl,trivial⟩
   refine cf h11 ?_
   refine at_exit ?_
   refine te (te ?_)
   refine at_drop (H:=_) (.s .z) ?_
   obtain rfl:=os hF
   exact at_weak_k (K p7 c8) ⟨rfl,trivial⟩
 skip
 intro p9 c10
 refine at_blk_same ?_
 refine tn (sr (am (aa (nwq [2] ?_))))
 refine qt ?_
 have K:=os hF
 subst K
 exact r1 (fun w1 hw=>⟨p9,c10,rfl,hw.own .z,hw.below⟩)
def crawlwayref07_Of.l0(x0:List Int)(i6:Int)(i7:(Vector Int 32)):Option ((Vector Int 32)) :=
 if (decide (i6<32))=true then (if (0:Int)≤i6∧i6<(x0.length:Int) then if (0:Int)≤i6∧i6<32 then crawlwayref07_Of.l0 x0 (wr .i64 (i6+1)) (vset i7 i6 (lget x0 i6)) else none else none) else (some i7)
 partial_fixpoint
def crawlwayref07_Of(x0:List Int):Option ((Vector Int 32)×Int) :=
 if (decide ((x0.length:Int)<32))=true then (some ((Vector.replicate 32 (0:Int):(Vector Int 32)),3)) else (if (decide ((x0.length:Int)>32))=true then (some ((Vector.replicate 32 (0:Int):(Vector Int 32)),4)) else (crawlwayref07_Of.l0 x0 0 (Vector.replicate 32 (0:Int):(Vector Int 32))>>=fun q5=>some (q5,0)))
theorem crawlwayref07_Of_ok(x0:List Int)(p0_:Option Addr)(c0_:Nat)(r:(Vector Int 32)×Int)(hF:crawlwayref07_Of x0=some r)(w:World)(hr0:Row (cInt .u8) w p0_ c0_ x0) :
    Calls Tryz.prog 68 #[.slice p0_ x0.length c0_] w (fun e w'=>e=.returned (.tuple #[.agg (Cd.cs (cVec (cInt .u8) 32 (by decide)) r.1).toArray,.int .i64 r.2])∧Below w.heap.size w w'):=by
 unfold crawlwayref07_Of at hF
 refine ce (l:=[.slice p0_ x0.length c0_]) func68 rfl rfl ?_
 refine at_start ?_
 refine sr ?_
 refine al (cs:=Cd.cs (cVec (cInt .u8) 32 (by decide)) zv3) zeroValue29 ?_
 intro b1
 refine aa (ns ?_)
 refine al (cs:=Cd.cs (cVec (cInt .u8) 32 (by decide)) zv3) zeroValue29 ?_
 intro b2
 refine nt (qs (sr (am ?_)))
 refine aw (r_len_sl underlying22 rfl) ?_
 refine aw xl (nwq [8,4,2,0] ?_)
 obtain ⟨h3,hF⟩|⟨h3,hF⟩:=oi hF
 ·refine ct h3 ?_
  refine sr ?_
  refine aw (r_load_aggc (c:=(cVec (cInt .u8) 32 (by decide))) (z:=zv3) isAgg29 sizeOf29 rfl (lens_cell .z lw)) ?_
  refine at_store (c:=(cVec (cInt .u8) 32 (by decide))) (z:=zv3) (.s .z) lw sizeOf29 rfl rfl rfl ?_
  refine aa (qn (dz (wq [3,2] ?_)))
  refine tn (rt ?_)
  have K:=os hF
  subst K
  exact at_res2 rfl (res_cell (c:=(cVec (cInt .u8) 32 (by decide))) (y:=zv3) rfl .z lw isAgg29 sizeOf29 (.inl rfl)) (res_tmp rfl) wb
 refine cf h3 ?_
 refine sn (qs (sr (am ?_)))
 refine aw (r_len_sl underlying22 rfl) ?_
 refine aw (r_igtr rfl rfl) ?_
 refine nwq [12,4,2,0] ?_
 obtain ⟨h4,hF⟩|⟨h4,hF⟩:=oi hF
 ·refine ct h4 ?_
  refine sr ?_
  refine aw (r_load_aggc (c:=(cVec (cInt .u8) 32 (by decide))) (z:=zv3) isAgg29 sizeOf29 rfl (lens_cell .z lw)) ?_
  refine at_store (c:=(cVec (cInt .u8) 32 (by decide))) (z:=zv3) (.s .z) lw sizeOf29 rfl rfl rfl ?_
  refine aa (qn (dz (wq [3,2] ?_)))
  refine tn (rt ?_)
  have K:=os hF
  subst K
  exact at_res2 rfl (res_cell (c:=(cVec (cInt .u8) 32 (by decide))) (y:=zv3) rfl .z lw isAgg29 sizeOf29 (.inl rfl)) (res_tmp rfl) wb
 refine cf h4 ?_
 refine sn (qs (sr (aa (nwq [5,4,2,0] ?_))))
 refine qb ?_
 obtain ⟨q5,hq5,hF⟩:=bM hF
 refine wq [5,4,2,0] ?_
 refine at_loop_n (B:=0) (A:=fun Y=>At 25 [(2,.pointer (some ⟨b1,0,none⟩)),(4,.pointer (some ⟨b2,0,none⟩))] (Wd w [cellsE b2 (Cd.cs (cVec (cInt .u8) 32 (by decide)) q5) 29,cellsE b1 (Cd.cs (cVec (cInt .u8) 32 (by decide)) zv3) 29]) Y) ?_ ?_
 ·intro K
  refine crawlwayref07_Of.l0.partial_correctness x0 (motive:=fun i6 i7 x=>KN (fun Y=>At 25 [(2,.pointer (some ⟨b1,0,none⟩)),(4,.pointer (some ⟨b2,0,none⟩))] (Wd w [cellsE b2 (Cd.cs (cVec (cInt .u8) 32 (by decide)) x) 29,cellsE b1 (Cd.cs (cVec (cInt .u8) 32 (by decide)) zv3) 29]) Y) _ 0→Round (fun Y=>At 25 [(0,.slice p0_ x0.length c0_),(2,.pointer (some ⟨b1,0,none⟩)),(4,.pointer (some ⟨b2,0,none⟩)),(5,.int .i64 i6)] (Wd w [cellsE b2 (Cd.cs (cVec (cInt .u8) 32 (by decide)) i7) 29,cellsE b1 (Cd.cs (cVec (cInt .u8) 32 (by decide)) zv3) 29]) Y) _ _ _) ?_ _ _ _ hq5 K
  ·clear K hF
   intro g ih i6 i7 x hF K
   refine at_round ?_
   refine qs (sr (am (aw xl (nwq [15,5,4,2,0] ?_))))
   obtain ⟨h8,hF⟩|⟨h8,hF⟩:=oi hF
   ·refine ct h8 ?_
    refine sn (qs ?_)
    refine qb ?_
    refine qr (am (am (am ?_)))
    obtain ⟨h9,hF⟩:=gd hF
    obtain ⟨b11,o12,hp10⟩:=row_ptr hr0 h9
    refine aw (r_idx underlying22 sizeOf5 rfl rfl h9 hp10) ?_
    refine aw (r_load_cell isAgg5 rfl (row_cell0 (fun _ h=>h.below) hr0 h9 hp10 rfl)) ?_
    obtain ⟨h13,hF⟩:=gd hF
    refine aw (r_idxArr underlying29 sizeOf5 rfl rfl h13) ?_
    refine at_store (c:=(cInt .u8)) (z:=lget x0 i6) .z (Lens.comp lw (fun z=>vset i7 i6 z) (Lens.vec (cInt .u8) (by decide) i7 i6 h13)) sizeOf5 rfl rfl rfl ?_
    refine qn (wq [5,4,2,0] ?_)
    refine bm ?_
    refine qr (am (aw xa (aa (nwq [5,4,2,0] ?_))))
    exact at_weak_k (ih _ _ _ hF K) ⟨rfl,rfl,rfl,rfl,trivial⟩
   refine cf h8 ?_
   refine at_exit ?_
   refine te (te ?_)
   obtain rfl:=os hF
   exact at_weak_k K ⟨rfl,rfl,trivial⟩
 skip
 skip
 refine at_blk_same ?_
 refine tn (sr ?_)
 refine aw (r_load_aggc (c:=(cVec (cInt .u8) 32 (by decide))) (z:=q5) isAgg29 sizeOf29 rfl (lens_cell .z lw)) ?_
 refine at_store (c:=(cVec (cInt .u8) 32 (by decide))) (z:=q5) (.s .z) lw sizeOf29 rfl rfl rfl ?_
 refine aa (qn (dz (wq [3,2] ?_)))
 refine tn (qt ?_)
 have K:=os hF
 subst K
 exact at_res2 rfl (res_cell (c:=(cVec (cInt .u8) 32 (by decide))) (y:=q5) rfl .z lw isAgg29 sizeOf29 (.inl rfl)) (res_tmp rfl) wb
def crawlwayref07_ParseHex(x0:ByteArray):Option ((Vector Int 32)×Int) :=
 crawlwayref05_Decode x0>>=fun t2=>if (t2.2 != 0)=true then (some ((Vector.replicate 32 (0:Int):(Vector Int 32)),t2.2)) else (crawlwayref07_Of t2.1>>=fun t6=>some (t6.1,t6.2))
theorem crawlwayref07_ParseHex_ok(x0:ByteArray)(r:(Vector Int 32)×Int)(hF:crawlwayref07_ParseHex x0=some r)(w:World) :
    Calls Tryz.prog 39 #[.string x0] w (fun e w'=>e=.returned (.tuple #[.agg (Cd.cs (cVec (cInt .u8) 32 (by decide)) r.1).toArray,.int .i64 r.2])∧Below w.heap.size w w'):=by
 unfold crawlwayref07_ParseHex at hF
 refine ce (l:=[.string x0]) func39 rfl rfl ?_
 refine at_start ?_
 refine sr ?_
 refine al (cs:=Cd.cs (cVec (cInt .u8) 32 (by decide)) zv3) zeroValue29 ?_
 intro b1
 refine aa (ns (am ?_))
 obtain ⟨t2,ht2,hF⟩:=bM hF
 refine at_callO (c:=(cInt .u8)) (e:=5) (ys:=t2.1) (V:=fun p cap=>.tuple #[.slice p t2.1.length cap,.int .i64 t2.2]) func67 rfl (by kernel_rfl) rfl rfl (fun w hw=>crawlwayref05_Decode_ok _ _ ht2 w) ?_
 intro p3 c4
 refine am ?_
 refine aw xe (aw xe (aa (aa (nt (qs (sr (am (aw xn ?_))))))))
 refine nwq [12,5,4,2] ?_
 obtain ⟨h5,hF⟩|⟨h5,hF⟩:=oi hF
 ·refine ct h5 ?_
  refine sr ?_
  refine aw (r_build_array (zs:=Cd.cs (cVec (cInt .u8) 32 (by decide)) zv3) (cs:=Cd.cs (cVec (cInt .u8) 32 (by decide)) zv3) underlying29 zeroValue29 rfl sizeOf5 rfl rfl) ?_
  refine am ?_
  refine at_store (c:=(cVec (cInt .u8) 32 (by decide))) (z:=zv3) (.s .z) lw sizeOf29 rfl rfl rfl ?_
  refine aa (qn (dz (wq [3,2] ?_)))
  refine tn (rt ?_)
  have K:=os hF
  subst K
  exact at_res2 rfl (res_cell (c:=(cVec (cInt .u8) 32 (by decide))) (y:=zv3) rfl .z lw isAgg29 sizeOf29 (.inl rfl)) (res_tmp rfl) wb
 refine cf h5 ?_
 refine sns (am ?_)
 obtain ⟨t6,ht6,hF⟩:=bM hF
 refine cB func68 rfl (fun w hw=>crawlwayref07_Of_ok _ _ _ _ ht6 w (hw.own .z).row) ?_
 refine aw xe (aw xe ?_)
 refine at_store (c:=(cVec (cInt .u8) 32 (by decide))) (z:=t6.1) (.s .z) lw sizeOf29 rfl rfl rfl ?_
 refine aa (qn (dz (wq [3,2] ?_)))
 refine tn (qt ?_)
 have K:=os hF
 subst K
 exact at_res2 rfl (res_cell (c:=(cVec (cInt .u8) 32 (by decide))) (y:=t6.1) rfl .z lw isAgg29 sizeOf29 (.inl rfl)) (res_tmp rfl) wb
end Go.Proofs.YtkkmmpofdcccmaaGreatDoor
namespace Go.Proofs.YtkkmmpofdcccmaaGreatDoor
open E
theorem size_toList(s:ByteArray):s.data.toList.length=s.size:=by
 show s.data.toList.length=s.data.size
 simp
theorem mk_inj{a b:ByteArray}(h:a.data.toList=b.data.toList):a=b:=by
 cases a with | mk a=>cases b with | mk b =>
 simp at h;subst h;rfl
theorem fmtU_list(n:Nat):(fmtU (n:Int)).data.toList=Lib.decDigits n:=by simp [fmtU]
theorem decDigits_len(n:Nat)(h:n<18446744073709551616):(Lib.decDigits n).length≤20:=by
 have key:∀ (k n:Nat),n<10 ^ (k+1)→(Lib.decDigits n).length≤k+1:=by
  intro k
  induction k with
  | zero=>intro n h;rw [decDigits_small (by omega)];simp
  | succ k ih =>
   intro n h
   by_cases h1:n<10
   ·rw [decDigits_small h1];simp
   ·rw [decDigits_big h1,List.length_append]
    have:=ih (n/10) (by rw [Nat.pow_succ] at h;omega)
    simp;omega
 exact key 19 n (by omega)
theorem fmtU_size(n:Nat)(h:n<18446744073709551616):(fmtU (n:Int)).size≤20:=by
 rw [←size_toList,fmtU_list];exact decDigits_len n h
theorem append_list(a b:ByteArray):(a++b).data.toList=a.data.toList++b.data.toList:=by simp [ByteArray.data_append]
theorem text_ref(n:Nat)(h:n<18446744073709551616):crawlwayref03_Text (n:Int)=some (fmtU n):=by
 induction n using Nat.strongRecOn with
 | _ n ih =>
  have hd:wr .u8 (wr .u64 (48+Int.tmod (n:Int) 10))=((48+n%10:Nat):Int):=by
   have e1:Int.tmod (n:Int) 10=((n%10:Nat):Int):=by rw [Int.tmod_eq_emod_of_nonneg (by omega)];omega
   rw [e1,wr_u64 (by omega) (by omega),wr_u8 (by omega) (by omega)];omega
  have hl:((⟨(unb ([wr .u8 (wr .u64 (48+(Int.tmod (n:Int) 10)))])).toArray⟩:ByteArray)).data.toList=[UInt8.ofNat (48+n%10)]:=by
   rw [hd];rfl
  rw [crawlwayref03_Text.eq_def]
  by_cases h1:n<10
  ·rw [if_pos (decide_eq_true (by omega))]
   congr 1
   apply mk_inj
   rw [hl,fmtU_list,decDigits_small h1]
   rw [Nat.mod_eq_of_lt h1]
  ·rw [if_neg (by rw [decide_eq_true_eq];omega)]
   have e2:wr .u64 (Int.tdiv (n:Int) 10)=((n/10:Nat):Int):=by
    have:Int.tdiv (n:Int) 10=((n/10:Nat):Int):=by rw [Int.tdiv_eq_ediv_of_nonneg (by omega)];omega
    rw [this,wr_u64 (by omega) (by omega)]
   rw [e2,ih (n/10) (by omega) (by omega),bindM_some]
   have hsz:=fmtU_size (n/10) (by omega)
   rw [if_pos]
   ·congr 1
    apply mk_inj
    rw [append_list,hl,fmtU_list,fmtU_list,decDigits_big h1]
   ·have:((⟨(unb ([wr .u8 (wr .u64 (48+(Int.tmod (n:Int) 10)))])).toArray⟩:ByteArray)).size=1:=by rw [←size_toList,hl];rfl
    rw [this];omega
theorem text_code(n:Nat)(h:n<18446744073709551616):decimal_Text (n:Int)=some (fmtU n):=by
 unfold decimal_Text
 rw [if_pos (by omega)]
def pfx(l:List UInt8):Nat:=(l.takeWhile dig).length
theorem pfx_cons_yes{c:UInt8}{r:List UInt8}(h:dig c=true):pfx (c::r)=pfx r+1:=by simp [pfx,List.takeWhile_cons,h]
theorem pfx_cons_no{c:UInt8}{r:List UInt8}(h:dig c=false):pfx (c::r)=0:=by simp [pfx,List.takeWhile_cons,h]
theorem pfx_le(l:List UInt8):pfx l≤l.length:=(List.takeWhile_prefix dig).length_le
theorem pfx_all:∀ {l:List UInt8},pfx l=l.length↔l.all dig=true
 | []=>by simp [pfx]
 | c::r=>by
  cases h:dig c
  ·rw [pfx_cons_no h];simp [h]
  ·rw [pfx_cons_yes h,List.length_cons,List.all_cons,h,Bool.true_and,←pfx_all (l:=r)];omega
theorem bt_at{s:ByteArray}{i:Nat}{c:UInt8}(h:s.data.toList[i]? = some c):bt s (i:Int)=(c.toNat:Int):=by
 rw [bt_nat,h];rfl
theorem prefix_ref_from(s:ByteArray)(hs:s.size<9223372036854775808):∀ (k i:Nat),s.size-i=k→i≤s.size→crawlwayref03_Prefix.l0 s (i:Int)=some ((i+pfx (s.data.toList.drop i):Nat):Int):=by
 intro k
 induction k with
 | zero =>
  intro i hk hi
  have:s.data.toList.drop i=[]:=List.drop_eq_nil_of_le (by rw [size_toList];omega)
  rw [crawlwayref03_Prefix.l0.eq_def,if_neg (by rw [decide_eq_true_eq];omega),this];rfl
 | succ k ih =>
  intro i hk hi
  obtain ⟨c,hc,hd⟩:=drop_get s.data.toList i (by rw [size_toList];omega)
  have hb:=bt_at hc
  rw [crawlwayref03_Prefix.l0.eq_def,if_pos (decide_eq_true (by omega)),if_pos (by omega),hd,hb]
  cases hdg:dig c
  ·rw [pfx_cons_no hdg]
   have hn:¬ (48≤c.toNat∧c.toNat≤57):=fun h=>by rw [dig_iff.2 h] at hdg;cases hdg
   by_cases h1:48≤c.toNat
   ·rw [if_pos (decide_eq_true (by omega)),if_pos (by omega),if_neg (by rw [decide_eq_true_eq];omega)];rfl
   ·rw [if_neg (by rw [decide_eq_true_eq];omega)];rfl
  ·have hy:=dig_iff.1 hdg
   rw [if_pos (decide_eq_true (by omega)),if_pos (by omega),if_pos (decide_eq_true (by omega)),wr_i64 (by omega) (by omega)]
   have:=ih (i+1) (by omega) (by omega)
   rw [show ((i:Int)+1)=((i+1:Nat):Int) by omega,this,pfx_cons_yes hdg]
   congr 2;omega
theorem prefix_ref(s:ByteArray)(hs:s.size<9223372036854775808):crawlwayref03_Prefix s=some ((pfx s.data.toList:Nat):Int):=by
 unfold crawlwayref03_Prefix
 have:=prefix_ref_from s hs _ 0 rfl (by omega)
 rw [show ((0:Nat):Int)=0 from rfl] at this
 rw [this,bindM_some];simp
theorem get_bang{s:ByteArray}{i:Nat}{c:UInt8}(h:s.data.toList[i]? = some c):s.get! i=c:=by
 have hi:i<s.data.size:=by
  have:=(List.getElem?_eq_some_iff.1 h).1
  simpa using this
 have e:s.data[i]? = some c:=by simpa using h
 show s.data[i]! = c
 rw [getElem!_def,e]
theorem dcode_small{s:ByteArray}{i:Nat}{c:UInt8}(h:s.data.toList[i]? = some c)(hc:c.toNat<128):Utf8.decode s i=(c.toNat,1):=by
 unfold Utf8.decode
 simp only [Nat.add_zero,get_bang h]
 rw [if_pos hc]
theorem dcode_great{s:ByteArray}{i:Nat}{c:UInt8}(h:s.data.toList[i]? = some c)(hc:128≤c.toNat):128≤(Utf8.decode s i).1:=by
 unfold Utf8.decode
 simp only [Nat.add_zero,get_bang h]
 rw [if_neg (by omega)]
 repeat' split
 all_goals (first | (simp only [Utf8.runeError];omega) | skip)
 all_goals (simp only [ge_iff_le,Bool.and_eq_true,decide_eq_true_eq] at *;omega)
theorem prefix_code_from(s:ByteArray):∀ (k i:Nat),s.size-i=k→i≤s.size→decimal_Prefix.l0 s i=some (if pfx (s.data.toList.drop i)<s.size-i then .ret ((i+pfx (s.data.toList.drop i):Nat):Int) else .nx ()):=by
 intro k
 induction k with
 | zero =>
  intro i hk hi
  have:s.data.toList.drop i=[]:=List.drop_eq_nil_of_le (by rw [size_toList];omega)
  have hz:decide (i<s.size)=false:=decide_eq_false (by omega)
  have hr:¬ pfx (s.data.toList.drop i)<s.size-i:=by omega
  rw [decimal_Prefix.l0.eq_def,hz,if_neg hr];rfl
 | succ k ih =>
  intro i hk hi
  obtain ⟨c,hc,hd⟩:=drop_get s.data.toList i (by rw [size_toList];omega)
  have hz:decide (i<s.size)=true:=decide_eq_true (by omega)
  rw [decimal_Prefix.l0.eq_def,if_pos hz,hd]
  cases hdg:dig c
  ·have hR:(if pfx (c::s.data.toList.drop (i+1))<s.size-i then (Ctl.ret ((i+pfx (c::s.data.toList.drop (i+1)):Nat):Int):Ctl Int Unit) else .nx ())=.ret (i:Int):=by
    have h0:0<s.size-i:=by omega
    rw [pfx_cons_no hdg,if_pos h0];rfl
   rw [hR]
   have hn:¬ (48≤c.toNat∧c.toNat≤57):=fun h=>by rw [dig_iff.2 h] at hdg;cases hdg
   have hv:dcode s i<48∨dcode s i>57:=by
    by_cases h1:c.toNat<128
    ·have:dcode s i=(c.toNat:Int):=by show ((Utf8.decode s i).1:Int)=_;rw [dcode_small hc h1]
     omega
    ·have:=dcode_great hc (by omega)
     right;show ((Utf8.decode s i).1:Int)>57;omega
   by_cases h2:dcode s i<48
   ·rw [if_pos (decide_eq_true h2)]
   ·have h6:dcode s i>57:=by omega
    rw [if_neg (by rw [decide_eq_true_eq];exact h2),if_pos (decide_eq_true h6)]
  ·have hy:=dig_iff.1 hdg
   have hdc:=dcode_small hc (by omega)
   have h3:dcode s i=(c.toNat:Int):=by show ((Utf8.decode s i).1:Int)=_;rw [hdc]
   have h4:dstep s i=i+1:=by show i+(Utf8.decode s i).2=_;rw [hdc]
   have h6:decide (dcode s i<48)=false:=decide_eq_false (by omega)
   have h7:decide (dcode s i>57)=false:=decide_eq_false (by omega)
   rw [h6,h7,h4,ih (i+1) (by omega) (by omega),pfx_cons_yes hdg]
   simp only [Bool.false_eq_true,if_false]
   congr 1
   by_cases h5:pfx (s.data.toList.drop (i+1))<s.size-(i+1)
   ·rw [if_pos h5,if_pos (by omega)];congr 2;omega
   ·rw [if_neg h5,if_neg (by omega)]
theorem prefix_code(s:ByteArray):decimal_Prefix s=some ((pfx s.data.toList:Nat):Int):=by
 unfold decimal_Prefix
 rw [prefix_code_from s _ 0 rfl (by omega),bindM_some,List.drop_zero]
 have:=pfx_le s.data.toList
 rw [size_toList] at this
 by_cases h:pfx s.data.toList<s.size-0
 ·rw [if_pos h];simp
 ·rw [if_neg h];show some _=some _;congr 2;omega
def rdU(l:List UInt8)(most:Nat):Nat×Nat :=
 if l=[]∨l.all dig=false∨(1<l.length∧l.head? = some 48) then (0,5)
 else if spell 0 l≤most then (spell 0 l,0) else (0,6)
def iiOf(p:Nat×Nat):Int×Int:=((p.1:Int),(p.2:Int))
theorem bt_head{s:ByteArray}(h:0<s.size):(bt s 0==48)=true↔s.data.toList.head? = some 48:=by
 obtain ⟨c,hc,_⟩:=drop_get s.data.toList 0 (by rw [size_toList];exact h)
 have hb:=bt_at hc
 rw [show ((0:Nat):Int)=0 from rfl] at hb
 rw [hb,List.head?_eq_getElem?,hc]
 constructor
 ·intro e
  have:(c.toNat:Int)=48:=by simpa using e
  congr 1;apply UInt8.toNat.inj;show c.toNat=48;omega
 ·intro e
  cases e;rfl
theorem size_ne{s:ByteArray}:s.data.toList=[]↔s.size=0:=by
 rw [←size_toList];exact List.length_eq_zero_iff.symm
theorem not_all{l:List UInt8}(h:pfx l<l.length):l.all dig=false:=by
 cases e:l.all dig
 ·rfl
 ·have:=pfx_all.2 e;omega
theorem read_code(s:ByteArray)(most:Nat)(hs:s.size≤281474976710656)(hm:most<18446744073709551616):decimal_Read s (most:Int)=some (iiOf (rdU s.data.toList most)):=by
 unfold decimal_Read rdU
 have hlen:=size_toList s
 by_cases h0:s.data.toList=[]
 ·have:s=⟨#[]⟩:=mk_inj h0
  rw [if_pos ((seq_iff _ _).2 this),if_pos (.inl h0)];rfl
 ·have hne:¬ (seq s (⟨#[]⟩:ByteArray))=true:=fun h=>h0 (by rw [(seq_iff _ _).1 h])
  have hpos:0<s.size:=Nat.pos_of_ne_zero fun h=>h0 (size_ne.2 h)
  rw [if_neg hne,prefix_code,bindM_some]
  by_cases h1:pfx s.data.toList<s.size
  ·rw [if_pos (decide_eq_true (by omega)),if_pos (.inr (.inl (not_all (by omega))))];rfl
  ·rw [if_neg (by rw [decide_eq_true_eq];omega)]
   have hall:s.data.toList.all dig=true:=pfx_all.1 (by have:=pfx_le s.data.toList;omega)
   have hpar:parU s=if spell 0 s.data.toList≤18446744073709551615 then ((spell 0 s.data.toList:Int),false) else (18446744073709551615,true):=by
    unfold parU
    rw [parB h0 hall]
    by_cases h:spell 0 s.data.toList≤18446744073709551615
    ·rw [if_pos h,if_pos h]
    ·rw [if_neg h,if_neg h]
   have tail:(if s.size≤281474976710656 then (if (!!((parU s).2))=true then some ((0:Int),(6:Int)) else (if (decide ((parU s).1>(most:Int)))=true then some (0,6) else some ((parU s).1,0))) else none) =
     some (iiOf (if spell 0 s.data.toList≤most then (spell 0 s.data.toList,0) else (0,6))):=by
    rw [if_pos hs,hpar]
    by_cases h:spell 0 s.data.toList≤18446744073709551615
    ·rw [if_pos h,if_neg (by simp)]
     by_cases h2:spell 0 s.data.toList≤most
     ·rw [if_neg (by rw [decide_eq_true_eq];show ¬ ((spell 0 s.data.toList:Int)>(most:Int));omega),if_pos h2];rfl
     ·rw [if_pos (decide_eq_true (show ((spell 0 s.data.toList:Int)>(most:Int)) by omega)),if_neg h2];rfl
    ·rw [if_neg h,if_pos (by simp),if_neg (by omega)];rfl
   by_cases h2:1<s.size
   ·rw [if_pos (decide_eq_true (by omega)),if_pos (by omega)]
    by_cases h3:s.data.toList.head? = some 48
    ·rw [if_pos ((bt_head hpos).2 h3),if_pos (.inr (.inr ⟨by omega,h3⟩))];rfl
    ·have hc:¬ (s.data.toList=[]∨s.data.toList.all dig=false∨(1<s.data.toList.length∧s.data.toList.head? = some 48)):=by
      rintro (h | h | h)
      ·exact h0 h
      ·rw [hall] at h;cases h
      ·exact h3 h.2
     rw [if_neg (fun h=>h3 ((bt_head hpos).1 h)),tail,if_neg hc]
   ·have hc:¬ (s.data.toList=[]∨s.data.toList.all dig=false∨(1<s.data.toList.length∧s.data.toList.head? = some 48)):=by
     rintro (h | h | h)
     ·exact h0 h
     ·rw [hall] at h;cases h
     ·omega
    rw [if_neg (by rw [decide_eq_true_eq];omega),tail,if_neg hc]
theorem read_step(m most:Nat)(c:UInt8)(hc:dig c=true)(hm:most<18446744073709551616)(hle:m≤most) :
  wr .u64 (Int.tdiv (most:Int) 10)=((most/10:Nat):Int)∧wr .u64 ((wr .u64 (c.toNat:Int))-48)=((c.toNat-48:Nat):Int)∧(m≤most/10→wr .u64 (10*(m:Int))=((10*m:Nat):Int)):=by
 have hy:=dig_iff.1 hc
 refine ⟨?_,?_,fun h=>?_⟩
 ·have:Int.tdiv (most:Int) 10=((most/10:Nat):Int):=by rw [Int.tdiv_eq_ediv_of_nonneg (by omega)];omega
  rw [this,wr_u64 (by omega) (by omega)]
 ·have e:wr .u64 (c.toNat:Int)=(c.toNat:Int):=wr_u64 (by omega) (by omega)
  rw [e,wr_u64 (by omega) (by omega)];omega
 ·rw [wr_u64 (by omega) (by omega)];omega
def outU(l:List UInt8)(m most:Nat):Ctl (Int×Int) Int:=if spell m l≤most then .nx (spell m l:Int) else .ret (0,6)
theorem out_cons{c:UInt8}{r:List UInt8}{m most:Nat}(h:m*10+(c.toNat-48)≤most):outU (c::r) m most=outU r (10*m+(c.toNat-48)) most:=by
 have e:spell m (c::r)=spell (10*m+(c.toNat-48)) r:=by
  show spell (m*10+(c.toNat-48)) r=_
  rw [Nat.mul_comm]
 unfold outU
 rw [e]
theorem out_over{c:UInt8}{r:List UInt8}{m most:Nat}(h:most<m*10+(c.toNat-48)):outU (c::r) m most=.ret (0,6):=by
 unfold outU
 have:=spell_le r (m*10+(c.toNat-48))
 rw [if_neg];show ¬ spell (m*10+(c.toNat-48)) r≤most;omega
theorem read_loop0(s:ByteArray)(most:Nat)(hs:s.size<9223372036854775808)(hm:most<18446744073709551616)(hall:s.data.toList.all dig=true) :
  ∀ (k i m:Nat),s.size-i=k→i≤s.size→m≤most→crawlwayref03_Read.l0 s most (m:Int) (i:Int)=some (outU (s.data.toList.drop i) m most):=by
 intro k
 induction k with
 | zero =>
  intro i m hk hi hmm
  have:s.data.toList.drop i=[]:=List.drop_eq_nil_of_le (by rw [size_toList];omega)
  rw [crawlwayref03_Read.l0.eq_def,if_neg (by rw [decide_eq_true_eq];omega),this]
  unfold outU spell;rw [if_pos hmm]
 | succ k ih =>
  intro i m hk hi hmm
  obtain ⟨c,hc,hd⟩:=drop_get s.data.toList i (by rw [size_toList];omega)
  have hdg:dig c=true:=List.all_eq_true.1 hall c (List.mem_of_getElem? hc)
  have hy:=dig_iff.1 hdg
  obtain ⟨e1,e2,e3⟩:=read_step m most c hdg hm hmm
  rw [crawlwayref03_Read.l0.eq_def,if_pos (decide_eq_true (by omega)),if_pos (by omega),hd,bt_at hc,e1,e2]
  by_cases h1:m≤most/10
  ·rw [if_neg (by rw [decide_eq_true_eq];omega),e3 h1]
   have e4:wr .u64 ((most:Int)-(if (most:Int)<((c.toNat-48:Nat):Int) then (most:Int) else ((c.toNat-48:Nat):Int)))=((most-(c.toNat-48):Nat):Int):=by
    by_cases h:(most:Int)<((c.toNat-48:Nat):Int)
    ·rw [if_pos h,wr_u64 (by omega) (by omega)];omega
    ·rw [if_neg h,wr_u64 (by omega) (by omega)];omega
   rw [e4]
   by_cases h2:most<m*10+(c.toNat-48)
   ·rw [out_over h2]
    by_cases h3:10*m>most-(c.toNat-48)
    ·rw [if_pos (decide_eq_true (by omega))]
    ·rw [if_neg (by rw [decide_eq_true_eq];omega),if_pos (decide_eq_true (by omega))]
   ·rw [if_neg (by rw [decide_eq_true_eq];omega),if_neg (by rw [decide_eq_true_eq];omega),wr_i64 (by omega) (by omega),out_cons (by omega)]
    have e5:wr .u64 (((10*m:Nat):Int)+((c.toNat-48:Nat):Int))=((10*m+(c.toNat-48):Nat):Int):=by rw [wr_u64 (by omega) (by omega)];omega
    rw [e5,show ((i:Int)+1)=((i+1:Nat):Int) by omega]
    exact ih (i+1) _ (by omega) (by omega) (by omega)
  ·rw [if_pos (decide_eq_true (by omega)),out_over (by omega)]
theorem read_loop1(s:ByteArray)(most:Nat)(hs:s.size<9223372036854775808)(hm:most<18446744073709551616)(hall:s.data.toList.all dig=true) :
  ∀ (k i m:Nat),s.size-i=k→i≤s.size→m≤most→crawlwayref03_Read.l1 s most (m:Int) (i:Int)=some (outU (s.data.toList.drop i) m most):=by
 intro k
 induction k with
 | zero =>
  intro i m hk hi hmm
  have:s.data.toList.drop i=[]:=List.drop_eq_nil_of_le (by rw [size_toList];omega)
  rw [crawlwayref03_Read.l1.eq_def,if_neg (by rw [decide_eq_true_eq];omega),this]
  unfold outU spell;rw [if_pos hmm]
 | succ k ih =>
  intro i m hk hi hmm
  obtain ⟨c,hc,hd⟩:=drop_get s.data.toList i (by rw [size_toList];omega)
  have hdg:dig c=true:=List.all_eq_true.1 hall c (List.mem_of_getElem? hc)
  have hy:=dig_iff.1 hdg
  obtain ⟨e1,e2,e3⟩:=read_step m most c hdg hm hmm
  rw [crawlwayref03_Read.l1.eq_def,if_pos (decide_eq_true (by omega)),if_pos (by omega),hd,bt_at hc,e1,e2]
  by_cases h1:m≤most/10
  ·rw [if_neg (by rw [decide_eq_true_eq];omega),e3 h1]
   have e4:wr .u64 ((most:Int)-(if (most:Int)<((c.toNat-48:Nat):Int) then (most:Int) else ((c.toNat-48:Nat):Int)))=((most-(c.toNat-48):Nat):Int):=by
    by_cases h:(most:Int)<((c.toNat-48:Nat):Int)
    ·rw [if_pos h,wr_u64 (by omega) (by omega)];omega
    ·rw [if_neg h,wr_u64 (by omega) (by omega)];omega
   rw [e4]
   by_cases h2:most<m*10+(c.toNat-48)
   ·rw [out_over h2]
    by_cases h3:10*m>most-(c.toNat-48)
    ·rw [if_pos (decide_eq_true (by omega))]
    ·rw [if_neg (by rw [decide_eq_true_eq];omega),if_pos (decide_eq_true (by omega))]
   ·rw [if_neg (by rw [decide_eq_true_eq];omega),if_neg (by rw [decide_eq_true_eq];omega),wr_i64 (by omega) (by omega),out_cons (by omega)]
    have e5:wr .u64 (((10*m:Nat):Int)+((c.toNat-48:Nat):Int))=((10*m+(c.toNat-48):Nat):Int):=by rw [wr_u64 (by omega) (by omega)];omega
    rw [e5,show ((i:Int)+1)=((i+1:Nat):Int) by omega]
    exact ih (i+1) _ (by omega) (by omega) (by omega)
  ·rw [if_pos (decide_eq_true (by omega)),out_over (by omega)]
theorem read_ref(s:ByteArray)(most:Nat)(hs:s.size<9223372036854775808)(hm:most<18446744073709551616):crawlwayref03_Read s (most:Int)=some (iiOf (rdU s.data.toList most)):=by
 unfold crawlwayref03_Read rdU
 have hlen:=size_toList s
 by_cases h0:s.data.toList=[]
 ·have h00:=size_ne.1 h0
  rw [if_pos (by rw [h00];rfl),if_pos (.inl h0)];rfl
 ·have hpos:0<s.size:=Nat.pos_of_ne_zero fun h=>h0 (size_ne.2 h)
  rw [if_neg (by rw [beq_iff_eq];omega),prefix_ref s hs,bindM_some]
  by_cases h1:pfx s.data.toList<s.size
  ·rw [if_pos (decide_eq_true (by omega)),if_pos (.inr (.inl (not_all (by omega))))];rfl
  ·rw [if_neg (by rw [decide_eq_true_eq];omega)]
   have hall:s.data.toList.all dig=true:=pfx_all.1 (by have:=pfx_le s.data.toList;omega)
   have hl0:crawlwayref03_Read.l0 s most 0 0=some (outU s.data.toList 0 most):=by
    have:=read_loop0 s most hs hm hall _ 0 0 rfl (by omega) (by omega)
    rwa [List.drop_zero] at this
   have hl1:crawlwayref03_Read.l1 s most 0 0=some (outU s.data.toList 0 most):=by
    have:=read_loop1 s most hs hm hall _ 0 0 rfl (by omega) (by omega)
    rwa [List.drop_zero] at this
   by_cases h2:1<s.size
   ·rw [if_pos (decide_eq_true (by omega)),if_pos (by omega)]
    by_cases h3:s.data.toList.head? = some 48
    ·rw [if_pos ((bt_head hpos).2 h3),if_pos (.inr (.inr ⟨by omega,h3⟩))];rfl
    ·have hc:¬ (s.data.toList=[]∨s.data.toList.all dig=false∨(1<s.data.toList.length∧s.data.toList.head? = some 48)):=by
      rintro (h | h | h)
      ·exact h0 h
      ·rw [hall] at h;cases h
      ·exact h3 h.2
     rw [if_neg (fun h=>h3 ((bt_head hpos).1 h)),hl0,bindM_some,if_neg hc]
     unfold outU
     by_cases h:spell 0 s.data.toList≤most
     ·rw [if_pos h,if_pos h];rfl
     ·rw [if_neg h,if_neg h];rfl
   ·have hc:¬ (s.data.toList=[]∨s.data.toList.all dig=false∨(1<s.data.toList.length∧s.data.toList.head? = some 48)):=by
     rintro (h | h | h)
     ·exact h0 h
     ·rw [hall] at h;cases h
     ·omega
    rw [if_neg (by rw [decide_eq_true_eq];omega),hl1,bindM_some,if_neg hc]
    unfold outU
    by_cases h:spell 0 s.data.toList≤most
    ·rw [if_pos h,if_pos h];rfl
    ·rw [if_neg h,if_neg h];rfl
theorem rdU_text(n most:Nat):rdU (Lib.decDigits n) most=if n≤most then (n,0) else (0,6):=by
 unfold rdU
 rw [decDigits_spell,if_neg]
 rintro (h | h | h)
 ·exact decDigits_ne n h
 ·rw [decDigits_dig] at h;cases h
 ·by_cases hn:n=0
  ·subst hn;rw [decDigits_zero] at h;simp at h
  ·exact decDigits_head n (by omega) h.2
theorem rdU_back{l:List UInt8}{most:Nat}(h:(rdU l most).2=0):Lib.decDigits (rdU l most).1=l∧(rdU l most).1≤most:=by
 unfold rdU at h ⊢
 by_cases h1:l=[]∨l.all dig=false∨(1<l.length∧l.head? = some 48)
 ·rw [if_pos h1] at h;cases h
 ·rw [if_neg h1] at h ⊢
  by_cases h2:spell 0 l≤most
  ·rw [if_pos h2]
   refine ⟨spell_decDigits (fun e=>h1 (.inl e)) ?_ fun hl he=>h1 (.inr (.inr ⟨hl,he⟩)),h2⟩
   cases e:l.all dig
   ·exact absurd (.inr (.inl e)) h1
   ·rfl
  ·rw [if_neg h2] at h;cases h
end Go.Proofs.YtkkmmpofdcccmaaGreatDoor
namespace Go.Proofs.YtkkmmpofdcccmaaGreatDoor
open E Go.RowKit _root_.Go.Proofs.Tryz
def addr_Four(x0:(Vector Int 4)):Option (S_api_Addr) :=
 some ({ { ({ f_V:=(0:Int),f_B:=(Vector.replicate 16 (0:Int):(Vector Int 16)) }:S_api_Addr) with f_V:=4 } with f_B:=vcopy (({ ({ f_V:=(0:Int),f_B:=(Vector.replicate 16 (0:Int):(Vector Int 16)) }:S_api_Addr) with f_V:=4 }).f_B) (Int.toNat 0) (List.take (Int.toNat (16-0)) (Vector.toList x0)) })
set_option maxHeartbeats 3200000 in
theorem addr_Four_ok(x0:(Vector Int 4))(r:S_api_Addr)(hF:addr_Four x0=some r)(w:World) :
    Calls Tryz.prog 182 #[.agg (Cd.cs (cVec (cInt .u8) 4 (by decide)) x0).toArray] w (fun e w'=>e=.returned (.agg (Cd.cs c_api_Addr r).toArray)∧Below w.heap.size w w'):=by
 unfold addr_Four at hF
 refine ce (l:=[.agg (Cd.cs (cVec (cInt .u8) 4 (by decide)) x0).toArray]) func182 rfl rfl ?_
 refine at_start ?_
 refine sr ?_
 refine at_box (cs:=Cd.cs (cVec (cInt .u8) 4 (by decide)) x0) rfl rfl rfl ?_
 intro b1
 refine al (cs:=Cd.cs c_api_Addr zv1) zeroValue25 ?_
 intro b2
 refine ns ?_
 refine aw (r_build_struct (zs:=Cd.cs c_api_Addr zv1) (cs:=Cd.cs c_api_Addr ({ zv1 with f_V:=4 })) underlying25 zeroValue25 rfl (places_api_Addr_25) rfl (fill_step (c:=(cInt .i64)) (z:=4) rfl (c_api_Addr_f_V zv1) rfl rfl)) ?_
 refine al (cs:=Cd.cs c_api_Addr zv1) zeroValue25 ?_
 intro b3
 refine at_store (c:=c_api_Addr) (z:={ zv1 with f_V:=4 }) .z lw sizeOf25 rfl rfl rfl ?_
 refine nt (qs (wq [3,2,1] ?_))
 refine at_inv [.q 5 (fun g4=>.pointer (some ⟨b3,0+1,none⟩)) [] 0 0,.q 6 (fun g4=>.slice (some ⟨b3,0+1,none⟩) (Vector.toList (({ zv1 with f_V:=4 }).f_B)).length 16) [0] 0 0,.q 7 (fun g4=>.slice (some ⟨b1,0,none⟩) (Vector.toList x0).length 4) [] 0 0,.st 0 (some (8,fun g4=>.int .i64 (min (List.length (Vector.toList x0)) (Int.toNat (16-0)):Nat))) [1,2]] (fun g4 s=>match s with | 0=>(Wd w [cellsE b3 (Cd.cs c_api_Addr ({ zv1 with f_V:=4 })) 25,cellsE b2 (Cd.cs c_api_Addr zv1) 25,cellsE b1 (Cd.cs (cVec (cInt .u8) 4 (by decide)) x0) 159]) | _=>(Wd w [cellsE b3 (Cd.cs c_api_Addr ({ { zv1 with f_V:=4 } with f_B:=vcopy (({ zv1 with f_V:=4 }).f_B) (Int.toNat 0) (List.take (Int.toNat (16-0)) (Vector.toList x0)) })) 25,cellsE b2 (Cd.cs c_api_Addr zv1) 25,cellsE b1 (Cd.cs (cVec (cInt .u8) 4 (by decide)) x0) 159])) 1 (by kernel_rfl) (by kernel_rfl) (by kernel_rfl) (by kernel_rfl) (by kernel_rfl) ⟨fun _ _ _=>rfl,fun _ _ _=>rfl,fun _ _ _=>rfl,fun _ _ _=>rfl,trivial⟩ (by kernel_rfl) (fun w_ h=>⟨fun _=>g3 0 none 0 none w_,h.drew⟩) ⟨?_,?_,?_,?_,trivial⟩ ?_
 ·intro Lx g4 s K hl hh k
  show At 10 ((1,_)::(2,_)::(3,_)::Lx) _ _
  refine fa 1 underlying25 rfl sizeOf23 ?_
  exact at_nil k
 ·intro Lx g4 s K hl hh k
  show At 10 ((5,_)::(1,_)::(2,_)::(3,_)::Lx) _ _
  obtain rfl:s=0:=by omega
  refine aw (r_view_all (c:=(cInt .u8)) (({ zv1 with f_V:=4 }).f_B) (by decide) underlying23 sizeOf5 rfl) ?_
  exact at_nil k
 ·intro Lx g4 s K hl hh k
  show At 10 ((1,_)::(2,_)::(3,_)::Lx) _ _
  obtain rfl:s=0:=by omega
  refine aw (r_slice_vec x0 underlying159 sizeOf5 rfl) ?_
  exact at_nil k
 ·intro Lx g4 K k
  show At 10 ((6,_)::(7,_)::(1,_)::(2,_)::(3,_)::Lx) _ _
  refine at_copy (lo:=0) (hi:=16) (xs:=Vector.toList x0) .z (Lens.comp lw (fun z=>{ { zv1 with f_V:=4 } with f_B:=z }) (c_api_Addr_f_B ({ zv1 with f_V:=4 }))) rfl (by decide) underlying22 (by kernel_rfl) rfl (rsp_zero (by decide)) (by simp) rfl ⟨_,rfl⟩ (fun w1 hw=>(vec_row (hw.ok (Upd.mem (.s (.s .z)))))) rfl ?_
  exact at_nil k
 intro g4
 show At 10 [(5,_),(6,_),(7,_),(8,_),(1,_),(2,_),(3,_)] _ _
 refine at_drop (H:=_) (.s (.s .z)) ?_
 refine tn (sr ?_)
 refine aw (r_load_aggc (c:=c_api_Addr) (z:={ { zv1 with f_V:=4 } with f_B:=vcopy (({ zv1 with f_V:=4 }).f_B) (Int.toNat 0) (List.take (Int.toNat (16-0)) (Vector.toList x0)) }) isAgg25 sizeOf25 rfl (lens_cell .z lw)) ?_
 refine at_store (c:=c_api_Addr) (z:={ { zv1 with f_V:=4 } with f_B:=vcopy (({ zv1 with f_V:=4 }).f_B) (Int.toNat 0) (List.take (Int.toNat (16-0)) (Vector.toList x0)) }) (.s .z) lw sizeOf25 rfl rfl rfl ?_
 refine qn (dz (wq [2] ?_))
 refine tn (qt ?_)
 have K:=os hF
 subst K
 exact at_res1 rfl (res_cell (c:=c_api_Addr) (y:={ { zv1 with f_V:=4 } with f_B:=vcopy (({ zv1 with f_V:=4 }).f_B) (Int.toNat 0) (List.take (Int.toNat (16-0)) (Vector.toList x0)) }) rfl .z lw isAgg25 sizeOf25 (.inl rfl)) wb
def addr_Six(x0:(Vector Int 16)):Option (S_api_Addr) :=
 some ({ { ({ f_V:=(0:Int),f_B:=(Vector.replicate 16 (0:Int):(Vector Int 16)) }:S_api_Addr) with f_V:=6 } with f_B:=x0 })
theorem addr_Six_ok(x0:(Vector Int 16))(r:S_api_Addr)(hF:addr_Six x0=some r)(w:World) :
    Calls Tryz.prog 180 #[.agg (Cd.cs (cVec (cInt .u8) 16 (by decide)) x0).toArray] w (fun e w'=>e=.returned (.agg (Cd.cs c_api_Addr r).toArray)∧Below w.heap.size w w'):=by
 unfold addr_Six at hF
 refine ce (l:=[.agg (Cd.cs (cVec (cInt .u8) 16 (by decide)) x0).toArray]) func180 rfl rfl ?_
 refine at_start ?_
 refine sr ?_
 refine at_box (cs:=Cd.cs (cVec (cInt .u8) 16 (by decide)) x0) rfl rfl rfl ?_
 intro b1
 refine al (cs:=Cd.cs c_api_Addr zv1) zeroValue25 ?_
 intro b2
 refine ns ?_
 refine aw (r_load_aggc (c:=(cVec (cInt .u8) 16 (by decide))) (z:=x0) isAgg23 sizeOf23 rfl (lens_cell (.s .z) lw)) ?_
 refine aw (r_build_struct (zs:=Cd.cs c_api_Addr zv1) (cs:=Cd.cs c_api_Addr ({ { zv1 with f_V:=6 } with f_B:=x0 })) underlying25 zeroValue25 rfl (places_api_Addr_25) rfl (fill_step (c:=(cInt .i64)) (z:=6) rfl (c_api_Addr_f_V zv1) rfl (fill_step (c:=(cVec (cInt .u8) 16 (by decide))) (z:=x0) rfl (c_api_Addr_f_B ({ zv1 with f_V:=6 })) rfl rfl))) ?_
 refine at_store (c:=c_api_Addr) (z:={ { zv1 with f_V:=6 } with f_B:=x0 }) .z lw sizeOf25 rfl rfl rfl ?_
 refine qn ?_
 refine at_drop (H:=_) (.s .z) ?_
 refine wq [2] ?_
 refine tn (qt ?_)
 have K:=os hF
 subst K
 exact at_res1 rfl (res_cell (c:=c_api_Addr) (y:={ { zv1 with f_V:=6 } with f_B:=x0 }) rfl .z lw isAgg25 sizeOf25 (.inl rfl)) wb
def addr_Right(x0:S_api_Addr):Option (Bool) :=
 if (x0.f_V==6)=true then (some true) else (if (x0.f_V==4)=true then (if 4≤(lsub (Vector.toList x0.f_B) 0 4).length then addr_Four (lvec 4 (lsub (Vector.toList x0.f_B) 0 4))>>=fun t8=>some (decide (x0=t8)) else none) else (some false))
theorem addr_Right_ok(x0:S_api_Addr)(r:Bool)(hF:addr_Right x0=some r)(w:World) :
    Calls Tryz.prog 158 #[.agg (Cd.cs c_api_Addr x0).toArray] w (fun e w'=>e=.returned (.bool r)∧Below w.heap.size w w'):=by
 unfold addr_Right at hF
 refine ce (l:=[.agg (Cd.cs c_api_Addr x0).toArray]) func158 rfl rfl ?_
 refine at_start ?_
 refine sr ?_
 refine at_box (cs:=Cd.cs c_api_Addr x0) rfl rfl rfl ?_
 intro b1
 refine aa (nwq [1] ?_)
 refine qs ?_
 refine at_draw (by kernel_rfl) (by kernel_rfl) (fun _ h=>h.drew) ?_
 refine atq_val rfl rfl rfl (r_fieldAddr (fo:=0) underlying25 rfl rfl (fun w=>⟨_,sizeOf3 w⟩) rfl) ?_
 refine atq_val rfl rfl rfl (r_load_cell isAgg3 rfl (lens_cell0 (c:=(cInt .i64)) (y:=x0.f_V) .z (Lens.comp lw (fun z=>{ x0 with f_V:=z }) (c_api_Addr_f_V x0)) rfl)) ?_
 refine atq_val rfl rfl rfl (r_ieql rfl rfl) ?_
 refine atq_val rfl rfl rfl (r_move rfl) ?_
 obtain ⟨h2,hF⟩|⟨h2,hF⟩:=oi hF
 ·refine atq_fix (g:=6) rfl h2 ?_
  refine atq_guard_no rfl rfl rfl rfl rfl ?_
  refine atq_guard_no rfl rfl rfl rfl rfl ?_
  refine atq_guard_no rfl rfl rfl rfl rfl ?_
  refine atq_guard_no rfl rfl rfl rfl rfl ?_
  refine atq_guard_undef rfl rfl rfl rfl ?_
  refine atq_guard_undef rfl rfl rfl rfl ?_
  refine atq_guard_undef rfl rfl rfl rfl ?_
  refine atq_guard_undef rfl rfl rfl rfl ?_
  refine atq_guard_undef rfl rfl rfl rfl ?_
  refine atq_guard_undef rfl rfl rfl rfl ?_
  refine atq_guard_undef rfl rfl rfl rfl ?_
  refine atq_guard_no rfl rfl rfl rfl rfl ?_
  refine atq_val rfl rfl rfl (r_pick rfl rfl rfl) ?_
  refine atq_val rfl rfl rfl (r_assign rfl) ?_
  refine atq_nil ?_
  refine dz (wq [2] ?_)
  refine tn (qt ?_)
  have K:=os hF
  subst K
  exact r1 wb
 refine atq_fix (g:=6) rfl h2 ?_
 refine atq_guard_yes rfl rfl rfl ?_
 refine atq_val rfl rfl rfl (r_fieldAddr (fo:=0) underlying25 rfl rfl (fun w=>⟨_,sizeOf3 w⟩) rfl) ?_
 refine atq_guard_yes rfl rfl rfl ?_
 refine atq_val rfl rfl rfl (r_load_cell isAgg3 rfl (lens_cell0 (c:=(cInt .i64)) (y:=x0.f_V) .z (Lens.comp lw (fun z=>{ x0 with f_V:=z }) (c_api_Addr_f_V x0)) rfl)) ?_
 refine atq_guard_yes rfl rfl rfl ?_
 refine atq_val rfl rfl rfl (r_ieql rfl rfl) ?_
 refine atq_guard_yes rfl rfl rfl ?_
 refine atq_val rfl rfl rfl (r_move rfl) ?_
 obtain ⟨h3,hF⟩|⟨h3,hF⟩:=oi hF
 ·refine atq_fix (g:=10) rfl h3 ?_
  refine atq_guard_yes rfl rfl rfl ?_
  refine atq_val rfl rfl rfl (r_load_aggc (c:=c_api_Addr) (z:=x0) isAgg25 sizeOf25 rfl (lens_cell .z lw)) ?_
  refine atq_guard_yes rfl rfl rfl ?_
  refine atq_val rfl rfl rfl (r_fieldAddr (fo:=1) underlying25 rfl rfl (fun w=>⟨_,sizeOf23 w⟩) rfl) ?_
  refine atq_guard_yes rfl rfl rfl ?_
  refine atq_val rfl rfl rfl (r_view (c:=(cInt .u8)) (v:=x0.f_B) (l:=0) (h:=4) underlying23 sizeOf5 rfl rfl ⟨_,rfl⟩ (by decide)) ?_
  refine atq_guard_yes rfl rfl rfl ?_
  obtain ⟨h4,hF⟩:=gd hF
  refine atq_val rfl rfl rfl (r_arrptr underlying159 rfl h4) ?_
  refine atq_guard_yes rfl rfl rfl ?_
  obtain ⟨b5,o6,hp7⟩:∃ b o,rsp (some ⟨b1,0+1,none⟩) 16 0 (Cd.sz (cInt .u8))=some ⟨b,o,none⟩:=rsp_plain
  refine atq_val rfl rfl rfl (r_load_aggc (c:=(cVec (cInt .u8) 4 (by decide))) (z:=lvec 4 (lsub (Vector.toList x0.f_B) 0 4)) isAgg159 sizeOf159 (by rw [←hp7];rfl) (fun w1 hw=>row_lvec (Row.sub (lens_row .z (Lens.comp lw (fun z=>{ x0 with f_B:=z }) (c_api_Addr_f_B x0)) hw) (vbnd (by decide))) h4 hp7)) ?_
  refine atq_guard_yes rfl rfl rfl ?_
  obtain ⟨t8,ht8,hF⟩:=bM hF
  refine atq_call func182 rfl (by kernel_rfl) rfl rfl (fun w hw=>(addr_Four_ok _ _ ht8 w).mono fun _ _ h=>⟨h.1,hw.call h.2⟩) ?_
  refine atq_guard_yes rfl rfl rfl ?_
  refine atq_val rfl rfl rfl (r_eqagg (c:=c_api_Addr) (a:=x0) (b:=t8) (eq_api_Addr_25) rfl Tryz.eqGuardType25 rfl rfl (.inl rfl) rfl) ?_
  refine atq_guard_yes rfl rfl rfl ?_
  refine atq_val rfl rfl rfl (r_pick rfl rfl rfl) ?_
  refine atq_val rfl rfl rfl (r_pick rfl rfl rfl) ?_
  refine atq_val rfl rfl rfl (r_assign rfl) ?_
  refine atq_nil ?_
  refine dz (wq [2] ?_)
  refine tn (qt ?_)
  have K:=os hF
  subst K
  exact r1 wb
 refine atq_fix (g:=10) rfl h3 ?_
 refine atq_guard_no rfl rfl rfl rfl rfl ?_
 refine atq_guard_no rfl rfl rfl rfl rfl ?_
 refine atq_guard_no rfl rfl rfl rfl rfl ?_
 refine atq_guard_no rfl rfl rfl rfl rfl ?_
 refine atq_guard_no rfl rfl rfl rfl rfl ?_
 refine atq_guard_no rfl rfl rfl rfl rfl ?_
 refine atq_guard_no rfl rfl rfl rfl rfl ?_
 refine atq_guard_yes rfl rfl rfl ?_
 refine atq_val rfl rfl rfl (r_pick rfl rfl rfl) ?_
 refine atq_val rfl rfl rfl (r_pick rfl rfl rfl) ?_
 refine atq_val rfl rfl rfl (r_assign rfl) ?_
 refine atq_nil ?_
 refine dz (wq [2] ?_)
 refine tn (qt ?_)
 have K:=os hF
 subst K
 exact r1 wb
def addr_Width(x0:S_api_Addr):Option (Int) :=
 addr_Right x0>>=fun t2=>if (!t2)=true then (some 0) else (if (x0.f_V==4)=true then (some 32) else (some 128))
theorem addr_Width_ok(x0:S_api_Addr)(r:Int)(hF:addr_Width x0=some r)(w:World) :
    Calls Tryz.prog 156 #[.agg (Cd.cs c_api_Addr x0).toArray] w (fun e w'=>e=.returned (.int .i64 r)∧Below w.heap.size w w'):=by
 unfold addr_Width at hF
 refine ce (l:=[.agg (Cd.cs c_api_Addr x0).toArray]) func156 rfl rfl ?_
 refine at_start ?_
 refine sr ?_
 refine at_box (cs:=Cd.cs c_api_Addr x0) rfl rfl rfl ?_
 intro b1
 refine aa (nwq [1] ?_)
 refine qs ?_
 refine qb ?_
 refine sr ?_
 refine aw (r_load_aggc (c:=c_api_Addr) (z:=x0) isAgg25 sizeOf25 rfl (lens_cell .z lw)) ?_
 obtain ⟨t2,ht2,hF⟩:=bM hF
 refine cB func158 rfl (fun w hw=>addr_Right_ok _ _ ht2 w) ?_
 refine aw (r_not rfl) ?_
 refine aa (nwq [3,1] ?_)
 obtain ⟨h3,hF⟩|⟨h3,hF⟩:=oi hF
 ·refine ct h3 ?_
  refine sr (aa (qn (dz (wq [2] ?_))))
  refine tn (qt ?_)
  refine br (tr ?_)
  have K:=os hF
  subst K
  exact r1 wb
 refine cf h3 ?_
 refine sr (fa 0 underlying25 rfl sizeOf3 ?_)
 refine aw (r_load_cell isAgg3 rfl (lens_cell0 (c:=(cInt .i64)) (y:=x0.f_V) .z (Lens.comp lw (fun z=>{ x0 with f_V:=z }) (c_api_Addr_f_V x0)) rfl)) ?_
 refine aw xq (aa (qn (dz (wq [7] ?_))))
 refine tn ?_
 obtain ⟨h4,hF⟩|⟨h4,hF⟩:=oi hF
 ·refine ct h4 ?_
  refine sr (aa (nwq [2] ?_))
  refine qt ?_
  refine br (tr ?_)
  have K:=os hF
  subst K
  exact r1 wb
 refine cf h4 ?_
 refine at_skip ?_
 refine bm ?_
 refine sr (aa (nwq [2] ?_))
 refine qt ?_
 have K:=os hF
 subst K
 exact r1 wb
def addr_Text(x0:S_api_Addr):Option (ByteArray) :=
 addr_Right x0>>=fun t2=>if (!t2)=true then (some (⟨#[]⟩)) else (if (x0.f_V==4)=true then (if 4≤(lsub (Vector.toList x0.f_B) 0 4).length then quad_Text (lvec 4 (lsub (Vector.toList x0.f_B) 0 4))>>=fun t9=>some t9 else none) else (colon_Text x0.f_B>>=fun t10=>some t10))
theorem addr_Text_ok(x0:S_api_Addr)(r:ByteArray)(hF:addr_Text x0=some r)(w:World)(hg_strconv_uint64pow10:GV_strconv_uint64pow10 w) :
    Calls Tryz.prog 157 #[.agg (Cd.cs c_api_Addr x0).toArray] w (fun e w'=>e=.returned (.string r)∧Below w.heap.size w w'):=by
 unfold addr_Text at hF
 refine ce (l:=[.agg (Cd.cs c_api_Addr x0).toArray]) func157 rfl rfl ?_
 refine at_start ?_
 refine sr ?_
 refine at_box (cs:=Cd.cs c_api_Addr x0) rfl rfl rfl ?_
 intro b1
 refine aa (nwq [1] ?_)
 refine qs ?_
 refine qb ?_
 refine sr ?_
 refine aw (r_load_aggc (c:=c_api_Addr) (z:=x0) isAgg25 sizeOf25 rfl (lens_cell .z lw)) ?_
 obtain ⟨t2,ht2,hF⟩:=bM hF
 refine cB func158 rfl (fun w hw=>addr_Right_ok _ _ ht2 w) ?_
 refine aw (r_not rfl) ?_
 refine aa (nwq [3,1] ?_)
 obtain ⟨h3,hF⟩|⟨h3,hF⟩:=oi hF
 ·refine ct h3 ?_
  refine sr (aa (qn (dz (wq [2] ?_))))
  refine tn (qt ?_)
  refine br (tr ?_)
  have K:=os hF
  subst K
  exact r1 wb
 refine cf h3 ?_
 refine sr (fa 0 underlying25 rfl sizeOf3 ?_)
 refine aw (r_load_cell isAgg3 rfl (lens_cell0 (c:=(cInt .i64)) (y:=x0.f_V) .z (Lens.comp lw (fun z=>{ x0 with f_V:=z }) (c_api_Addr_f_V x0)) rfl)) ?_
 refine aw xq (aa (nwq [7,1] ?_))
 obtain ⟨h4,hF⟩|⟨h4,hF⟩:=oi hF
 ·refine ct h4 ?_
  refine sr (fa 1 underlying25 rfl sizeOf23 ?_)
  refine aw (r_view (c:=(cInt .u8)) (v:=x0.f_B) (l:=0) (h:=4) underlying23 sizeOf5 rfl rfl ⟨_,rfl⟩ (by decide)) ?_
  obtain ⟨h5,hF⟩:=gd hF
  refine aw (r_arrptr underlying159 rfl h5) ?_
  obtain ⟨b6,o7,hp8⟩:∃ b o,rsp (some ⟨b1,0+1,none⟩) 16 0 (Cd.sz (cInt .u8))=some ⟨b,o,none⟩:=rsp_plain
  refine aw (r_load_aggc (c:=(cVec (cInt .u8) 4 (by decide))) (z:=lvec 4 (lsub (Vector.toList x0.f_B) 0 4)) isAgg159 sizeOf159 (by rw [←hp8];rfl) (fun w1 hw=>row_lvec (Row.sub (lens_row .z (Lens.comp lw (fun z=>{ x0 with f_B:=z }) (c_api_Addr_f_B x0)) hw) (vbnd (by decide))) h5 hp8)) ?_
  obtain ⟨t9,ht9,hF⟩:=bM hF
  refine cB func183 rfl (fun w hw=>quad_Text_ok _ _ ht9 w (hg_strconv_uint64pow10.on hw.below)) ?_
  refine aa (qn (dz (wq [2] ?_)))
  refine tn (qt ?_)
  refine br (tr ?_)
  have K:=os hF
  subst K
  exact r1 wb
 refine cf h4 ?_
 refine at_skip ?_
 refine bm ?_
 refine sr (fa 1 underlying25 rfl sizeOf23 ?_)
 refine aw (r_load_aggc (c:=(cVec (cInt .u8) 16 (by decide))) (z:=x0.f_B) isAgg23 sizeOf23 rfl (lens_cell .z (Lens.comp lw (fun z=>{ x0 with f_B:=z }) (c_api_Addr_f_B x0)))) ?_
 obtain ⟨t10,ht10,hF⟩:=bM hF
 refine cB func184 rfl (fun w hw=>colon_Text_ok _ _ ht10 w) ?_
 refine aa (qn (dz (wq [2] ?_)))
 refine tn (qt ?_)
 have K:=os hF
 subst K
 exact r1 wb
def addr_Parse(x0:ByteArray):Option (S_api_Addr×Int) :=
 lines_Cut x0 58>>=fun t2=>if t2.2.2=true then (colon_Parse x0>>=fun t4=>if (t4.2 != 0)=true then (some (({ f_V:=(0:Int),f_B:=(Vector.replicate 16 (0:Int):(Vector Int 16)) }:S_api_Addr),t4.2)) else (addr_Six t4.1>>=fun t7=>some (t7,0))) else (quad_Parse x0>>=fun t8=>if (t8.2 != 0)=true then (some (({ f_V:=(0:Int),f_B:=(Vector.replicate 16 (0:Int):(Vector Int 16)) }:S_api_Addr),t8.2)) else (addr_Four t8.1>>=fun t11=>some (t11,0)))
theorem addr_Parse_ok(x0:ByteArray)(r:S_api_Addr×Int)(hF:addr_Parse x0=some r)(w:World)(hg_strconv_ErrRange:GV_strconv_ErrRange w)(hg_strconv_ErrSyntax:GV_strconv_ErrSyntax w) :
    Calls Tryz.prog 155 #[.string x0] w (fun e w'=>e=.returned (.tuple #[.agg (Cd.cs c_api_Addr r.1).toArray,.int .i64 r.2])∧Below w.heap.size w w'):=by
 unfold addr_Parse at hF
 refine ce (l:=[.string x0]) func155 rfl rfl ?_
 refine at_start ?_
 refine sr ?_
 refine al (cs:=Cd.cs c_api_Addr zv1) zeroValue25 ?_
 intro b1
 refine aa (nt (qs (sr (am ?_))))
 obtain ⟨t2,ht2,hF⟩:=bM hF
 refine cB func86 rfl (fun w hw=>lines_Cut_ok _ _ _ ht2 w) ?_
 refine am ?_
 refine aw xe (aw xe (aw xe (aa (aa (aa (ns (am (nwq [17,2,0] ?_))))))))
 obtain ⟨h3,hF⟩|⟨h3,hF⟩:=oi hF
 ·refine ct h3 ?_
  refine sr (am ?_)
  obtain ⟨t4,ht4,hF⟩:=bM hF
  refine cB func179 rfl (fun w hw=>colon_Parse_ok _ _ ht4 w (hg_strconv_ErrRange.on hw.below) (hg_strconv_ErrSyntax.on hw.below)) ?_
  refine am ?_
  refine aw xe (aw xe ?_)
  refine al (cs:=Cd.cs (cVec (cInt .u8) 16 (by decide)) zv2) zeroValue23 ?_
  intro b5
  refine at_store (c:=(cVec (cInt .u8) 16 (by decide))) (z:=t4.1) .z lw sizeOf23 rfl rfl rfl ?_
  refine aa (nt (qs (sr (am (aw xn (nwq [24,8,7,2] ?_))))))
  obtain ⟨h6,hF⟩|⟨h6,hF⟩:=oi hF
  ·refine ct h6 ?_
   refine sr ?_
   refine aw (r_build_struct (zs:=Cd.cs c_api_Addr zv1) (cs:=Cd.cs c_api_Addr zv1) underlying25 zeroValue25 rfl (places_api_Addr_25) rfl rfl) ?_
   refine am ?_
   refine at_store (c:=c_api_Addr) (z:=zv1) (.s .z) lw sizeOf25 rfl rfl rfl ?_
   refine aa (qn (dz (wq [3,2] ?_)))
   refine tn (qt ?_)
   refine tr (tr ?_)
   have K:=os hF
   subst K
   exact at_res2 rfl (res_cell (c:=c_api_Addr) (y:=zv1) rfl .z lw isAgg25 sizeOf25 (.inl rfl)) (res_tmp rfl) wb
  refine cf h6 ?_
  refine sns ?_
  refine aw (r_load_aggc (c:=(cVec (cInt .u8) 16 (by decide))) (z:=t4.1) isAgg23 sizeOf23 rfl (lens_cell .z lw)) ?_
  obtain ⟨t7,ht7,hF⟩:=bM hF
  refine cB func180 rfl (fun w hw=>addr_Six_ok _ _ ht7 w) ?_
  refine at_store (c:=c_api_Addr) (z:=t7) (.s .z) lw sizeOf25 rfl rfl rfl ?_
  refine aa (qn (dz (wq [3,2] ?_)))
  refine tn (rt ?_)
  have K:=os hF
  subst K
  exact at_res2 rfl (res_cell (c:=c_api_Addr) (y:=t7) rfl .z lw isAgg25 sizeOf25 (.inl rfl)) (res_tmp rfl) wb
 refine cf h3 ?_
 refine sns (am ?_)
 obtain ⟨t8,ht8,hF⟩:=bM hF
 refine cB func181 rfl (fun w hw=>quad_Parse_ok _ _ ht8 w (hg_strconv_ErrRange.on hw.below) (hg_strconv_ErrSyntax.on hw.below)) ?_
 refine am ?_
 refine aw xe (aw xe ?_)
 refine al (cs:=Cd.cs (cVec (cInt .u8) 4 (by decide)) zv4) zeroValue159 ?_
 intro b9
 refine at_store (c:=(cVec (cInt .u8) 4 (by decide))) (z:=t8.1) .z lw sizeOf159 rfl rfl rfl ?_
 refine aa (nt (qs (sr (am (aw xn (nwq [35,10,9,2] ?_))))))
 obtain ⟨h10,hF⟩|⟨h10,hF⟩:=oi hF
 ·refine ct h10 ?_
  refine sr ?_
  refine aw (r_build_struct (zs:=Cd.cs c_api_Addr zv1) (cs:=Cd.cs c_api_Addr zv1) underlying25 zeroValue25 rfl (places_api_Addr_25) rfl rfl) ?_
  refine am ?_
  refine at_store (c:=c_api_Addr) (z:=zv1) (.s .z) lw sizeOf25 rfl rfl rfl ?_
  refine aa (qn (dz (wq [3,2] ?_)))
  refine tn (rt ?_)
  have K:=os hF
  subst K
  exact at_res2 rfl (res_cell (c:=c_api_Addr) (y:=zv1) rfl .z lw isAgg25 sizeOf25 (.inl rfl)) (res_tmp rfl) wb
 refine cf h10 ?_
 refine sns ?_
 refine aw (r_load_aggc (c:=(cVec (cInt .u8) 4 (by decide))) (z:=t8.1) isAgg159 sizeOf159 rfl (lens_cell .z lw)) ?_
 obtain ⟨t11,ht11,hF⟩:=bM hF
 refine cB func182 rfl (fun w hw=>addr_Four_ok _ _ ht11 w) ?_
 refine at_store (c:=c_api_Addr) (z:=t11) (.s .z) lw sizeOf25 rfl rfl rfl ?_
 refine aa (qn (dz (wq [3,2] ?_)))
 refine tn (qt ?_)
 have K:=os hF
 subst K
 exact at_res2 rfl (res_cell (c:=c_api_Addr) (y:=t11) rfl .z lw isAgg25 sizeOf25 (.inl rfl)) (res_tmp rfl) wb
def crawlwayref10_Right.l0(x0:S_api_Addr)(i4:Int):Option (Ctl (Bool) (Unit)) :=
 if (decide (i4<16))=true then (if (0:Int)≤i4∧i4<16 then if (vget x0.f_B i4 != 0)=true then (some (.ret false)) else (crawlwayref10_Right.l0 x0 (wr .i64 (i4+1))) else none) else (some (.nx ()))
 partial_fixpoint
def crawlwayref10_Right(x0:S_api_Addr):Option (Bool) :=
 if (x0.f_V==6)=true then (some true) else (crawlwayref10_Right.l0 x0 4>>=fun q3=>match q3 with | .ret r'=>some r' | .nx sq3=>(some (x0.f_V==4)))
theorem crawlwayref10_Right_ok(x0:S_api_Addr)(r:Bool)(hF:crawlwayref10_Right x0=some r)(w:World) :
    Calls Tryz.prog 74 #[.agg (Cd.cs c_api_Addr x0).toArray] w (fun e w'=>e=.returned (.bool r)∧Below w.heap.size w w'):=by
 unfold crawlwayref10_Right at hF
 refine ce (l:=[.agg (Cd.cs c_api_Addr x0).toArray]) func74 rfl rfl ?_
 refine at_start ?_
 refine sr ?_
 refine at_box (cs:=Cd.cs c_api_Addr x0) rfl rfl rfl ?_
 intro b1
 refine aa (nt (qs (sr (fa 0 underlying25 rfl sizeOf3 ?_))))
 refine aw (r_load_cell isAgg3 rfl (lens_cell0 (c:=(cInt .i64)) (y:=x0.f_V) .z (Lens.comp lw (fun z=>{ x0 with f_V:=z }) (c_api_Addr_f_V x0)) rfl)) ?_
 refine aw xq (nwq [6,1] ?_)
 obtain ⟨h2,hF⟩|⟨h2,hF⟩:=oi hF
 ·refine ct h2 ?_
  refine sr (aa (qn (dz (wq [2] ?_))))
  refine tn (rt ?_)
  have K:=os hF
  subst K
  exact r1 wb
 refine cf h2 ?_
 refine sn (qs (sr (aa (nwq [3,1] ?_))))
 refine qb ?_
 obtain ⟨q3,hq3,hF⟩:=bM hF
 refine wq [3,1] ?_
 refine at_loop_r (B:=0) (r:=r) (q:=q3) (A:=fun (_:Unit) Y=>At 19 [(1,.pointer (some ⟨b1,0,none⟩))] (Wd w [cellsE b1 (Cd.cs c_api_Addr x0) 25]) Y) ?_ ?_
 ·intro K
  refine crawlwayref10_Right.l0.partial_correctness x0 (motive:=fun i4 x=>KR (fun (_:Unit) Y=>At 19 [(1,.pointer (some ⟨b1,0,none⟩))] (Wd w [cellsE b1 (Cd.cs c_api_Addr x0) 25]) Y) _ 0 r x→Round (fun Y=>At 19 [(1,.pointer (some ⟨b1,0,none⟩)),(3,.int .i64 i4)] (Wd w [cellsE b1 (Cd.cs c_api_Addr x0) 25]) Y) _ _ _) ?_ _ _ hq3 K
  ·clear K hF
   intro g ih i4 x hF K
   refine at_round ?_
   refine qs (sr (am (aw xl (nwq [8,3,1] ?_))))
   obtain ⟨h5,hF⟩|⟨h5,hF⟩:=oi hF
   ·refine ct h5 ?_
    refine sn (qs ?_)
    refine qb ?_
    refine sr (am (fa 1 underlying25 rfl sizeOf23 ?_))
    obtain ⟨h6,hF⟩:=gd hF
    refine aw (r_idxArr underlying23 sizeOf5 rfl rfl h6) ?_
    refine aw (r_load_cell isAgg5 rfl (lens_cell0 (c:=(cInt .u8)) (y:=vget x0.f_B i4) .z (Lens.comp (Lens.comp lw (fun z=>{ x0 with f_B:=z }) (c_api_Addr_f_B x0)) (fun z=>vset x0.f_B i4 z) (Lens.vec (cInt .u8) (by decide) x0.f_B i4 h6)) rfl)) ?_
    refine aw xn (nwq [15,3,1] ?_)
    obtain ⟨h7,hF⟩|⟨h7,hF⟩:=oi hF
    ·refine ct h7 ?_
     refine sr (aa (qn (dz (wq [2] ?_))))
     refine tn (qt ?_)
     refine br (tr (tr (br (tr ?_))))
     obtain rfl:=os hF
     subst K
     exact r1 wb
    refine cf h7 ?_
    refine at_skip ?_
    refine bm ?_
    refine qr (am (aw xa (aa (nwq [3,1] ?_))))
    exact at_weak_k (ih _ _ hF K) ⟨rfl,rfl,trivial⟩
   refine cf h5 ?_
   refine at_exit ?_
   refine te (te ?_)
   obtain rfl:=os hF
   exact at_weak_k K ⟨rfl,trivial⟩
 cases q3 with
 | ret r'=>exact os hF
 | nx sq3 =>
  skip
  refine at_blk_same ?_
  refine tn (sr (fa 0 underlying25 rfl sizeOf3 ?_))
  refine aw (r_load_cell isAgg3 rfl (lens_cell0 (c:=(cInt .i64)) (y:=x0.f_V) .z (Lens.comp lw (fun z=>{ x0 with f_V:=z }) (c_api_Addr_f_V x0)) rfl)) ?_
  refine aw xq (aa (qn (dz (wq [2] ?_))))
  refine tn (qt ?_)
  have K:=os hF
  subst K
  exact r1 wb
def crawlwayref10_Of.l0(x0:List Int)(i9:Int)(i10:S_api_Addr):Option (S_api_Addr) :=
 if (decide (i9<(x0.length:Int)))=true then (if (0:Int)≤i9∧i9<(x0.length:Int) then if (0:Int)≤i9∧i9<16 then crawlwayref10_Of.l0 x0 (wr .i64 (i9+1)) ({ i10 with f_B:=vset i10.f_B i9 (lget x0 i9) }) else none else none) else (some i10)
 partial_fixpoint
def crawlwayref10_Of.l1(x0:List Int)(i21:Int)(i22:S_api_Addr):Option (S_api_Addr) :=
 if (decide (i21<(x0.length:Int)))=true then (if (0:Int)≤i21∧i21<(x0.length:Int) then if (0:Int)≤i21∧i21<16 then crawlwayref10_Of.l1 x0 (wr .i64 (i21+1)) ({ i22 with f_B:=vset i22.f_B i21 (lget x0 i21) }) else none else none) else (some i22)
 partial_fixpoint
def crawlwayref10_Of(x0:List Int):Option (S_api_Addr×Bool) :=
 if ((x0.length:Int) != 4)=true then (if ((x0.length:Int) != 16)=true then (some (({ f_V:=(0:Int),f_B:=(Vector.replicate 16 (0:Int):(Vector Int 16)) }:S_api_Addr),false)) else ((if ((x0.length:Int)==16)=true then (some ({ { ({ f_V:=(0:Int),f_B:=(Vector.replicate 16 (0:Int):(Vector Int 16)) }:S_api_Addr) with f_V:=4 } with f_V:=6 })) else (some ({ ({ f_V:=(0:Int),f_B:=(Vector.replicate 16 (0:Int):(Vector Int 16)) }:S_api_Addr) with f_V:=4 })))>>=fun q5=>crawlwayref10_Of.l0 x0 0 q5>>=fun q8=>some (q8,true))) else ((if ((x0.length:Int)==16)=true then (some ({ { ({ f_V:=(0:Int),f_B:=(Vector.replicate 16 (0:Int):(Vector Int 16)) }:S_api_Addr) with f_V:=4 } with f_V:=6 })) else (some ({ ({ f_V:=(0:Int),f_B:=(Vector.replicate 16 (0:Int):(Vector Int 16)) }:S_api_Addr) with f_V:=4 })))>>=fun q17=>crawlwayref10_Of.l1 x0 0 q17>>=fun q20=>some (q20,true))
theorem crawlwayref10_Of_ok(x0:List Int)(p0_:Option Addr)(c0_:Nat)(r:S_api_Addr×Bool)(hF:crawlwayref10_Of x0=some r)(w:World)(hr0:Row (cInt .u8) w p0_ c0_ x0) :
    Calls Tryz.prog 121 #[.slice p0_ x0.length c0_] w (fun e w'=>e=.returned (.tuple #[.agg (Cd.cs c_api_Addr r.1).toArray,.bool r.2])∧Below w.heap.size w w'):=by
 unfold crawlwayref10_Of at hF
 refine ce (l:=[.slice p0_ x0.length c0_]) func121 rfl rfl ?_
 refine at_start ?_
 refine sr ?_
 refine al (cs:=Cd.cs c_api_Addr zv1) zeroValue25 ?_
 intro b1
 refine aa (ns ?_)
 refine al (cs:=Cd.cs c_api_Addr zv1) zeroValue25 ?_
 intro b2
 refine nwq [4,2,0] ?_
 refine qs (sr (am ?_))
 refine aw (r_len_sl underlying22 rfl) ?_
 refine aw xn (am ?_)
 obtain ⟨h3,hF⟩|⟨h3,hF⟩:=oi hF
 ·refine fx 9 h3 ?_
  refine gy ?_
  refine am ?_
  refine gy ?_
  refine aw (r_len_sl underlying22 rfl) ?_
  refine gy ?_
  refine aw xn (aw xp (nwq [13,4,2,0] ?_))
  obtain ⟨h4,hF⟩|⟨h4,hF⟩:=oi hF
  ·refine ct h4 ?_
   refine sr ?_
   refine aw (r_load_aggc (c:=c_api_Addr) (z:=zv1) isAgg25 sizeOf25 rfl (lens_cell .z lw)) ?_
   refine at_store (c:=c_api_Addr) (z:=zv1) (.s .z) lw sizeOf25 rfl rfl rfl ?_
   refine aa (qn (dz (wq [3,2] ?_)))
   refine tn (rt ?_)
   have K:=os hF
   subst K
   exact at_res2 rfl (res_cell (c:=c_api_Addr) (y:=zv1) rfl .z lw isAgg25 sizeOf25 (.inl rfl)) (res_tmp rfl) wb
  refine cf h4 ?_
  refine sns (fa 0 underlying25 rfl sizeOf3 ?_)
  refine at_store (c:=(cInt .i64)) (z:=4) .z (Lens.comp lw (fun z=>{ zv1 with f_V:=z }) (c_api_Addr_f_V zv1)) sizeOf3 rfl rfl rfl ?_
  refine nwq [4,2,0] ?_
  obtain ⟨q5,hq5,hF⟩:=bM hF
  refine at_joinp (A:=fun Y=>At 34 [(0,.slice p0_ x0.length c0_),(2,.pointer (some ⟨b1,0,none⟩)),(4,.pointer (some ⟨b2,0,none⟩))] (Wd w [cellsE b2 (Cd.cs c_api_Addr q5) 25,cellsE b1 (Cd.cs c_api_Addr zv1) 25]) Y) ?_ ?_
  ·intro Y K
   replace hF:=hq5
   refine sr (am ?_)
   refine aw (r_len_sl underlying22 rfl) ?_
   refine aw xq (nwq [18,4,2,0] ?_)
   obtain ⟨h7,hF⟩|⟨h7,hF⟩:=oi hF
   ·refine ct h7 ?_
    refine qr (fa 0 underlying25 rfl sizeOf3 ?_)
    refine at_store (c:=(cInt .i64)) (z:=6) .z (Lens.comp lw (fun z=>{ { zv1 with f_V:=4 } with f_V:=z }) (c_api_Addr_f_V ({ zv1 with f_V:=4 }))) sizeOf3 rfl rfl rfl ?_
    refine nwq [4,2,0] ?_
    obtain rfl:=os hF
    exact at_weak_k K ⟨rfl,rfl,rfl,trivial⟩
   refine cf h7 ?_
   refine sn ?_
   obtain rfl:=os hF
   exact at_weak_k K ⟨rfl,rfl,rfl,trivial⟩
  skip
  skip
  refine qs (sr (aa (nwq [5,4,2,0] ?_)))
  refine qb ?_
  obtain ⟨q8,hq8,hF⟩:=bM hF
  refine wq [5,4,2,0] ?_
  refine at_loop_n (B:=0) (A:=fun Y=>At 34 [(2,.pointer (some ⟨b1,0,none⟩)),(4,.pointer (some ⟨b2,0,none⟩))] (Wd w [cellsE b2 (Cd.cs c_api_Addr q8) 25,cellsE b1 (Cd.cs c_api_Addr zv1) 25]) Y) ?_ ?_
  ·intro K
   refine crawlwayref10_Of.l0.partial_correctness x0 (motive:=fun i9 i10 x=>KN (fun Y=>At 34 [(2,.pointer (some ⟨b1,0,none⟩)),(4,.pointer (some ⟨b2,0,none⟩))] (Wd w [cellsE b2 (Cd.cs c_api_Addr x) 25,cellsE b1 (Cd.cs c_api_Addr zv1) 25]) Y) _ 0→Round (fun Y=>At 34 [(0,.slice p0_ x0.length c0_),(2,.pointer (some ⟨b1,0,none⟩)),(4,.pointer (some ⟨b2,0,none⟩)),(5,.int .i64 i9)] (Wd w [cellsE b2 (Cd.cs c_api_Addr i10) 25,cellsE b1 (Cd.cs c_api_Addr zv1) 25]) Y) _ _ _) ?_ _ _ _ hq8 K
   ·clear K hF
    intro g ih i9 i10 x hF K
    refine at_round ?_
    refine qs (sr (am (am ?_)))
    refine aw (r_len_sl underlying22 rfl) ?_
    refine aw xl (nwq [23,5,4,2,0] ?_)
    obtain ⟨h11,hF⟩|⟨h11,hF⟩:=oi hF
    ·refine ct h11 ?_
     refine sn (qs ?_)
     refine qb ?_
     refine qr (am (am (am ?_)))
     obtain ⟨h12,hF⟩:=gd hF
     obtain ⟨b14,o15,hp13⟩:=row_ptr hr0 h12
     refine aw (r_idx underlying22 sizeOf5 rfl rfl h12 hp13) ?_
     refine aw (r_load_cell isAgg5 rfl (row_cell0 (fun _ h=>h.below) hr0 h12 hp13 rfl)) ?_
     refine fa 1 underlying25 rfl sizeOf23 ?_
     obtain ⟨h16,hF⟩:=gd hF
     refine aw (r_idxArr underlying23 sizeOf5 rfl rfl h16) ?_
     refine at_store (c:=(cInt .u8)) (z:=lget x0 i9) .z (Lens.comp (Lens.comp lw (fun z=>{ i10 with f_B:=z }) (c_api_Addr_f_B i10)) (fun z=>vset i10.f_B i9 z) (Lens.vec (cInt .u8) (by decide) i10.f_B i9 h16)) sizeOf5 rfl rfl rfl ?_
     refine qn (wq [5,4,2,0] ?_)
     refine bm ?_
     refine qr (am (aw xa (aa (nwq [5,4,2,0] ?_))))
     exact at_weak_k (ih _ _ _ hF K) ⟨rfl,rfl,rfl,rfl,trivial⟩
    refine cf h11 ?_
    refine at_exit ?_
    refine te (te ?_)
    obtain rfl:=os hF
    exact at_weak_k K ⟨rfl,rfl,trivial⟩
  skip
  skip
  refine at_blk_same ?_
  refine tn (sr ?_)
  refine aw (r_load_aggc (c:=c_api_Addr) (z:=q8) isAgg25 sizeOf25 rfl (lens_cell .z lw)) ?_
  refine at_store (c:=c_api_Addr) (z:=q8) (.s .z) lw sizeOf25 rfl rfl rfl ?_
  refine aa (qn (dz (wq [3,2] ?_)))
  refine tn (qt ?_)
  have K:=os hF
  subst K
  exact at_res2 rfl (res_cell (c:=c_api_Addr) (y:=q8) rfl .z lw isAgg25 sizeOf25 (.inl rfl)) (res_tmp rfl) wb
 refine fx 9 h3 ?_
 refine gn ?_
 refine gn ?_
 refine gn ?_
 refine aw xp (nwq [13,4,2,0] ?_)
 refine cf rfl ?_
 refine sns (fa 0 underlying25 rfl sizeOf3 ?_)
 refine at_store (c:=(cInt .i64)) (z:=4) .z (Lens.comp lw (fun z=>{ zv1 with f_V:=z }) (c_api_Addr_f_V zv1)) sizeOf3 rfl rfl rfl ?_
 refine nwq [4,2,0] ?_
 obtain ⟨q17,hq17,hF⟩:=bM hF
 refine at_joinp (A:=fun Y=>At 34 [(0,.slice p0_ x0.length c0_),(2,.pointer (some ⟨b1,0,none⟩)),(4,.pointer (some ⟨b2,0,none⟩))] (Wd w [cellsE b2 (Cd.cs c_api_Addr q17) 25,cellsE b1 (Cd.cs c_api_Addr zv1) 25]) Y) ?_ ?_
 ·intro Y K
  replace hF:=hq17
  refine sr (am ?_)
  refine aw (r_len_sl underlying22 rfl) ?_
  refine aw xq (nwq [18,4,2,0] ?_)
  obtain ⟨h19,hF⟩|⟨h19,hF⟩:=oi hF
  ·refine ct h19 ?_
   refine qr (fa 0 underlying25 rfl sizeOf3 ?_)
   refine at_store (c:=(cInt .i64)) (z:=6) .z (Lens.comp lw (fun z=>{ { zv1 with f_V:=4 } with f_V:=z }) (c_api_Addr_f_V ({ zv1 with f_V:=4 }))) sizeOf3 rfl rfl rfl ?_
   refine nwq [4,2,0] ?_
   obtain rfl:=os hF
   exact at_weak_k K ⟨rfl,rfl,rfl,trivial⟩
  refine cf h19 ?_
  refine sn ?_
  obtain rfl:=os hF
  exact at_weak_k K ⟨rfl,rfl,rfl,trivial⟩
 skip
 skip
 refine qs (sr (aa (nwq [5,4,2,0] ?_)))
 refine qb ?_
 obtain ⟨q20,hq20,hF⟩:=bM hF
 refine wq [5,4,2,0] ?_
 refine at_loop_n (B:=0) (A:=fun Y=>At 34 [(2,.pointer (some ⟨b1,0,none⟩)),(4,.pointer (some ⟨b2,0,none⟩))] (Wd w [cellsE b2 (Cd.cs c_api_Addr q20) 25,cellsE b1 (Cd.cs c_api_Addr zv1) 25]) Y) ?_ ?_
 ·intro K
  refine crawlwayref10_Of.l1.partial_correctness x0 (motive:=fun i21 i22 x=>KN (fun Y=>At 34 [(2,.pointer (some ⟨b1,0,none⟩)),(4,.pointer (some ⟨b2,0,none⟩))] (Wd w [cellsE b2 (Cd.cs c_api_Addr x) 25,cellsE b1 (Cd.cs c_api_Addr zv1) 25]) Y) _ 0→Round (fun Y=>At 34 [(0,.slice p0_ x0.length c0_),(2,.pointer (some ⟨b1,0,none⟩)),(4,.pointer (some ⟨b2,0,none⟩)),(5,.int .i64 i21)] (Wd w [cellsE b2 (Cd.cs c_api_Addr i22) 25,cellsE b1 (Cd.cs c_api_Addr zv1) 25]) Y) _ _ _) ?_ _ _ _ hq20 K
  ·clear K hF
   intro g ih i21 i22 x hF K
   refine at_round ?_
   refine qs (sr (am (am ?_)))
   refine aw (r_len_sl underlying22 rfl) ?_
   refine aw xl (nwq [23,5,4,2,0] ?_)
   obtain ⟨h23,hF⟩|⟨h23,hF⟩:=oi hF
   ·refine ct h23 ?_
    refine sn (qs ?_)
    refine qb ?_
    refine qr (am (am (am ?_)))
    obtain ⟨h24,hF⟩:=gd hF
    obtain ⟨b26,o27,hp25⟩:=row_ptr hr0 h24
    refine aw (r_idx underlying22 sizeOf5 rfl rfl h24 hp25) ?_
    refine aw (r_load_cell isAgg5 rfl (row_cell0 (fun _ h=>h.below) hr0 h24 hp25 rfl)) ?_
    refine fa 1 underlying25 rfl sizeOf23 ?_
    obtain ⟨h28,hF⟩:=gd hF
    refine aw (r_idxArr underlying23 sizeOf5 rfl rfl h28) ?_
    refine at_store (c:=(cInt .u8)) (z:=lget x0 i21) .z (Lens.comp (Lens.comp lw (fun z=>{ i22 with f_B:=z }) (c_api_Addr_f_B i22)) (fun z=>vset i22.f_B i21 z) (Lens.vec (cInt .u8) (by decide) i22.f_B i21 h28)) sizeOf5 rfl rfl rfl ?_
    refine qn (wq [5,4,2,0] ?_)
    refine bm ?_
    refine qr (am (aw xa (aa (nwq [5,4,2,0] ?_))))
    exact at_weak_k (ih _ _ _ hF K) ⟨rfl,rfl,rfl,rfl,trivial⟩
   refine cf h23 ?_
   refine at_exit ?_
   refine te (te ?_)
   obtain rfl:=os hF
   exact at_weak_k K ⟨rfl,rfl,trivial⟩
 skip
 skip
 refine at_blk_same ?_
 refine tn (sr ?_)
 refine aw (r_load_aggc (c:=c_api_Addr) (z:=q20) isAgg25 sizeOf25 rfl (lens_cell .z lw)) ?_
 refine at_store (c:=c_api_Addr) (z:=q20) (.s .z) lw sizeOf25 rfl rfl rfl ?_
 refine aa (qn (dz (wq [3,2] ?_)))
 refine tn (qt ?_)
 have K:=os hF
 subst K
 exact at_res2 rfl (res_cell (c:=c_api_Addr) (y:=q20) rfl .z lw isAgg25 sizeOf25 (.inl rfl)) (res_tmp rfl) wb
def crawlwayref10_Text(x0:S_api_Addr):Option (ByteArray) :=
 crawlwayref10_Right x0>>=fun t2=>if (!t2)=true then (some (⟨#[]⟩)) else (if (x0.f_V==6)=true then (crawlwayref09_Text x0.f_B>>=fun t5=>some t5) else (crawlwayref08_Text (vset (vset (vset (vset (Vector.replicate 4 (0:Int):(Vector Int 4)) 0 (vget x0.f_B 0)) 1 (vget x0.f_B 1)) 2 (vget x0.f_B 2)) 3 (vget x0.f_B 3))>>=fun t6=>some t6))
theorem crawlwayref10_Text_ok(x0:S_api_Addr)(r:ByteArray)(hF:crawlwayref10_Text x0=some r)(w:World) :
    Calls Tryz.prog 87 #[.agg (Cd.cs c_api_Addr x0).toArray] w (fun e w'=>e=.returned (.string r)∧Below w.heap.size w w'):=by
 unfold crawlwayref10_Text at hF
 refine ce (l:=[.agg (Cd.cs c_api_Addr x0).toArray]) func87 rfl rfl ?_
 refine at_start ?_
 refine sr ?_
 refine at_box (cs:=Cd.cs c_api_Addr x0) rfl rfl rfl ?_
 intro b1
 refine aa (nt (qs (sr ?_)))
 refine aw (r_load_aggc (c:=c_api_Addr) (z:=x0) isAgg25 sizeOf25 rfl (lens_cell .z lw)) ?_
 obtain ⟨t2,ht2,hF⟩:=bM hF
 refine cB func74 rfl (fun w hw=>crawlwayref10_Right_ok _ _ ht2 w) ?_
 refine aw (r_not rfl) ?_
 refine nwq [5,1] ?_
 obtain ⟨h3,hF⟩|⟨h3,hF⟩:=oi hF
 ·refine ct h3 ?_
  refine sr (aa (qn (dz (wq [2] ?_))))
  refine tn (rt ?_)
  have K:=os hF
  subst K
  exact r1 wb
 refine cf h3 ?_
 refine sn (qs (sr (fa 0 underlying25 rfl sizeOf3 ?_)))
 refine aw (r_load_cell isAgg3 rfl (lens_cell0 (c:=(cInt .i64)) (y:=x0.f_V) .z (Lens.comp lw (fun z=>{ x0 with f_V:=z }) (c_api_Addr_f_V x0)) rfl)) ?_
 refine aw xq (nwq [8,1] ?_)
 obtain ⟨h4,hF⟩|⟨h4,hF⟩:=oi hF
 ·refine ct h4 ?_
  refine sr (fa 1 underlying25 rfl sizeOf23 ?_)
  refine aw (r_load_aggc (c:=(cVec (cInt .u8) 16 (by decide))) (z:=x0.f_B) isAgg23 sizeOf23 rfl (lens_cell .z (Lens.comp lw (fun z=>{ x0 with f_B:=z }) (c_api_Addr_f_B x0)))) ?_
  obtain ⟨t5,ht5,hF⟩:=bM hF
  refine cB func145 rfl (fun w hw=>crawlwayref09_Text_ok _ _ ht5 w) ?_
  refine aa (qn (dz (wq [2] ?_)))
  refine tn (rt ?_)
  have K:=os hF
  subst K
  exact r1 wb
 refine cf h4 ?_
 refine sns (fa 1 underlying25 rfl sizeOf23 ?_)
 refine aw (r_idxArr underlying23 sizeOf5 rfl rfl (by decide)) ?_
 refine aw (r_load_cell isAgg5 rfl (lens_cell0 (c:=(cInt .u8)) (y:=vget x0.f_B 0) .z (Lens.comp (Lens.comp lw (fun z=>{ x0 with f_B:=z }) (c_api_Addr_f_B x0)) (fun z=>vset x0.f_B 0 z) (Lens.vec (cInt .u8) (by decide) x0.f_B 0 (by decide))) rfl)) ?_
 refine fa 1 underlying25 rfl sizeOf23 ?_
 refine aw (r_idxArr underlying23 sizeOf5 rfl rfl (by decide)) ?_
 refine aw (r_load_cell isAgg5 rfl (lens_cell0 (c:=(cInt .u8)) (y:=vget x0.f_B 1) .z (Lens.comp (Lens.comp lw (fun z=>{ x0 with f_B:=z }) (c_api_Addr_f_B x0)) (fun z=>vset x0.f_B 1 z) (Lens.vec (cInt .u8) (by decide) x0.f_B 1 (by decide))) rfl)) ?_
 refine fa 1 underlying25 rfl sizeOf23 ?_
 refine aw (r_idxArr underlying23 sizeOf5 rfl rfl (by decide)) ?_
 refine aw (r_load_cell isAgg5 rfl (lens_cell0 (c:=(cInt .u8)) (y:=vget x0.f_B 2) .z (Lens.comp (Lens.comp lw (fun z=>{ x0 with f_B:=z }) (c_api_Addr_f_B x0)) (fun z=>vset x0.f_B 2 z) (Lens.vec (cInt .u8) (by decide) x0.f_B 2 (by decide))) rfl)) ?_
 refine fa 1 underlying25 rfl sizeOf23 ?_
 refine aw (r_idxArr underlying23 sizeOf5 rfl rfl (by decide)) ?_
 refine aw (r_load_cell isAgg5 rfl (lens_cell0 (c:=(cInt .u8)) (y:=vget x0.f_B 3) .z (Lens.comp (Lens.comp lw (fun z=>{ x0 with f_B:=z }) (c_api_Addr_f_B x0)) (fun z=>vset x0.f_B 3 z) (Lens.vec (cInt .u8) (by decide) x0.f_B 3 (by decide))) rfl)) ?_
 refine aw (r_build_array (zs:=Cd.cs (cVec (cInt .u8) 4 (by decide)) zv4) (cs:=Cd.cs (cVec (cInt .u8) 4 (by decide)) (vset (vset (vset (vset zv4 0 (vget x0.f_B 0)) 1 (vget x0.f_B 1)) 2 (vget x0.f_B 2)) 3 (vget x0.f_B 3))) underlying159 zeroValue159 rfl sizeOf5 rfl (fill_step (c:=(cInt .u8)) (z:=vget x0.f_B 0) rfl (Lens.vec (cInt .u8) (by decide) zv4 0 (by decide)) rfl (fill_step (c:=(cInt .u8)) (z:=vget x0.f_B 1) rfl (Lens.vec (cInt .u8) (by decide) (vset zv4 0 (vget x0.f_B 0)) 1 (by decide)) rfl (fill_step (c:=(cInt .u8)) (z:=vget x0.f_B 2) rfl (Lens.vec (cInt .u8) (by decide) (vset (vset zv4 0 (vget x0.f_B 0)) 1 (vget x0.f_B 1)) 2 (by decide)) rfl (fill_step (c:=(cInt .u8)) (z:=vget x0.f_B 3) rfl (Lens.vec (cInt .u8) (by decide) (vset (vset (vset zv4 0 (vget x0.f_B 0)) 1 (vget x0.f_B 1)) 2 (vget x0.f_B 2)) 3 (by decide)) rfl rfl))))) ?_
 obtain ⟨t6,ht6,hF⟩:=bM hF
 refine cB func146 rfl (fun w hw=>crawlwayref08_Text_ok _ _ ht6 w) ?_
 refine aa (qn (dz (wq [2] ?_)))
 refine tn (qt ?_)
 have K:=os hF
 subst K
 exact r1 wb
def crawlwayref10_Parse(x0:ByteArray):Option (S_api_Addr×Int) :=
 crawlwayref06_Parts x0 58>>=fun t2=>if (decide ((t2.length:Int)>1))=true then (crawlwayref09_Parse x0>>=fun t6=>if (!t6.2)=true then (some (({ f_V:=(0:Int),f_B:=(Vector.replicate 16 (0:Int):(Vector Int 16)) }:S_api_Addr),5)) else (some ({ { ({ f_V:=(0:Int),f_B:=(Vector.replicate 16 (0:Int):(Vector Int 16)) }:S_api_Addr) with f_V:=6 } with f_B:=t6.1 },0))) else (crawlwayref08_Parse x0>>=fun t9=>if (t9.2 != 0)=true then (some (({ f_V:=(0:Int),f_B:=(Vector.replicate 16 (0:Int):(Vector Int 16)) }:S_api_Addr),t9.2)) else (crawlwayref10_Of ([vget t9.1 0,vget t9.1 1,vget t9.1 2,vget t9.1 3])>>=fun t13=>some (t13.1,0)))
theorem crawlwayref10_Parse_ok(x0:ByteArray)(r:S_api_Addr×Int)(hF:crawlwayref10_Parse x0=some r)(w:World) :
    Calls Tryz.prog 70 #[.string x0] w (fun e w'=>e=.returned (.tuple #[.agg (Cd.cs c_api_Addr r.1).toArray,.int .i64 r.2])∧Below w.heap.size w w'):=by
 unfold crawlwayref10_Parse at hF
 refine ce (l:=[.string x0]) func70 rfl rfl ?_
 refine at_start ?_
 refine sr ?_
 refine al (cs:=Cd.cs c_api_Addr zv1) zeroValue25 ?_
 intro b1
 refine aa (nt (qs (sr (am ?_))))
 obtain ⟨t2,ht2,hF⟩:=bM hF
 refine at_callO (c:=cStr) (e:=9) (ys:=t2) (V:=fun p cap=>.slice p t2.length cap) func56 rfl (by kernel_rfl) rfl rfl (fun w hw=>crawlwayref06_Parts_ok _ _ _ ht2 w) ?_
 intro p3 c4
 refine aw (r_len_sl underlying38 rfl) ?_
 refine aw (r_igtr rfl rfl) ?_
 refine qn (dz (wq [13,2,0] ?_))
 refine tn ?_
 obtain ⟨h5,hF⟩|⟨h5,hF⟩:=oi hF
 ·refine ct h5 ?_
  refine sr (am ?_)
  obtain ⟨t6,ht6,hF⟩:=bM hF
  refine cB func119 rfl (fun w hw=>crawlwayref09_Parse_ok _ _ ht6 w) ?_
  refine am ?_
  refine aw xe (aw xe ?_)
  refine al (cs:=Cd.cs (cVec (cInt .u8) 16 (by decide)) zv2) zeroValue23 ?_
  intro b7
  refine at_store (c:=(cVec (cInt .u8) 16 (by decide))) (z:=t6.1) .z lw sizeOf23 rfl rfl rfl ?_
  refine aa (nt (qs (sr (am ?_))))
  refine aw (r_not rfl) ?_
  refine nwq [20,4,2] ?_
  obtain ⟨h8,hF⟩|⟨h8,hF⟩:=oi hF
  ·refine ct h8 ?_
   refine sr ?_
   refine aw (r_build_struct (zs:=Cd.cs c_api_Addr zv1) (cs:=Cd.cs c_api_Addr zv1) underlying25 zeroValue25 rfl (places_api_Addr_25) rfl rfl) ?_
   refine at_store (c:=c_api_Addr) (z:=zv1) (.s .z) lw sizeOf25 rfl rfl rfl ?_
   refine aa (qn (dz (wq [3,2] ?_)))
   refine tn (qt ?_)
   refine tr (tr ?_)
   have K:=os hF
   subst K
   exact at_res2 rfl (res_cell (c:=c_api_Addr) (y:=zv1) rfl .z lw isAgg25 sizeOf25 (.inl rfl)) (res_tmp rfl) wb
  refine cf h8 ?_
  refine sns ?_
  refine aw (r_load_aggc (c:=(cVec (cInt .u8) 16 (by decide))) (z:=t6.1) isAgg23 sizeOf23 rfl (lens_cell .z lw)) ?_
  refine aw (r_build_struct (zs:=Cd.cs c_api_Addr zv1) (cs:=Cd.cs c_api_Addr ({ { zv1 with f_V:=6 } with f_B:=t6.1 })) underlying25 zeroValue25 rfl (places_api_Addr_25) rfl (fill_step (c:=(cInt .i64)) (z:=6) rfl (c_api_Addr_f_V zv1) rfl (fill_step (c:=(cVec (cInt .u8) 16 (by decide))) (z:=t6.1) rfl (c_api_Addr_f_B ({ zv1 with f_V:=6 })) rfl rfl))) ?_
  refine at_store (c:=c_api_Addr) (z:={ { zv1 with f_V:=6 } with f_B:=t6.1 }) (.s .z) lw sizeOf25 rfl rfl rfl ?_
  refine aa (qn (dz (wq [3,2] ?_)))
  refine tn (rt ?_)
  have K:=os hF
  subst K
  exact at_res2 rfl (res_cell (c:=c_api_Addr) (y:={ { zv1 with f_V:=6 } with f_B:=t6.1 }) rfl .z lw isAgg25 sizeOf25 (.inl rfl)) (res_tmp rfl) wb
 refine cf h5 ?_
 refine sns (am ?_)
 obtain ⟨t9,ht9,hF⟩:=bM hF
 refine cB func120 rfl (fun w hw=>crawlwayref08_Parse_ok _ _ ht9 w) ?_
 refine am ?_
 refine aw xe (aw xe ?_)
 refine al (cs:=Cd.cs (cVec (cInt .u8) 4 (by decide)) zv4) zeroValue159 ?_
 intro b10
 refine at_store (c:=(cVec (cInt .u8) 4 (by decide))) (z:=t9.1) .z lw sizeOf159 rfl rfl rfl ?_
 refine aa (nt (qs (sr (am (aw xn (nwq [30,7,6,2] ?_))))))
 obtain ⟨h11,hF⟩|⟨h11,hF⟩:=oi hF
 ·refine ct h11 ?_
  refine sr ?_
  refine aw (r_build_struct (zs:=Cd.cs c_api_Addr zv1) (cs:=Cd.cs c_api_Addr zv1) underlying25 zeroValue25 rfl (places_api_Addr_25) rfl rfl) ?_
  refine am ?_
  refine at_store (c:=c_api_Addr) (z:=zv1) (.s .z) lw sizeOf25 rfl rfl rfl ?_
  refine aa (qn (dz (wq [3,2] ?_)))
  refine tn (rt ?_)
  have K:=os hF
  subst K
  exact at_res2 rfl (res_cell (c:=c_api_Addr) (y:=zv1) rfl .z lw isAgg25 sizeOf25 (.inl rfl)) (res_tmp rfl) wb
 refine cf h11 ?_
 refine sns ?_
 refine aw (r_idxArr underlying159 sizeOf5 rfl rfl (by decide)) ?_
 refine aw (r_load_cell isAgg5 rfl (lens_cell0 (c:=(cInt .u8)) (y:=vget t9.1 0) .z (Lens.comp lw (fun z=>vset t9.1 0 z) (Lens.vec (cInt .u8) (by decide) t9.1 0 (by decide))) rfl)) ?_
 refine aw (r_idxArr underlying159 sizeOf5 rfl rfl (by decide)) ?_
 refine aw (r_load_cell isAgg5 rfl (lens_cell0 (c:=(cInt .u8)) (y:=vget t9.1 1) .z (Lens.comp lw (fun z=>vset t9.1 1 z) (Lens.vec (cInt .u8) (by decide) t9.1 1 (by decide))) rfl)) ?_
 refine aw (r_idxArr underlying159 sizeOf5 rfl rfl (by decide)) ?_
 refine aw (r_load_cell isAgg5 rfl (lens_cell0 (c:=(cInt .u8)) (y:=vget t9.1 2) .z (Lens.comp lw (fun z=>vset t9.1 2 z) (Lens.vec (cInt .u8) (by decide) t9.1 2 (by decide))) rfl)) ?_
 refine aw (r_idxArr underlying159 sizeOf5 rfl rfl (by decide)) ?_
 refine aw (r_load_cell isAgg5 rfl (lens_cell0 (c:=(cInt .u8)) (y:=vget t9.1 3) .z (Lens.comp lw (fun z=>vset t9.1 3 z) (Lens.vec (cInt .u8) (by decide) t9.1 3 (by decide))) rfl)) ?_
 refine at_lit (cs:=(cInt .u8).all ([vget t9.1 0,vget t9.1 1,vget t9.1 2,vget t9.1 3]:List Int)) underlying22 sizeOf5 zeroValue5 rfl rfl rfl (by kernel_rfl) rfl ?_
 intro b12
 obtain ⟨t13,ht13,hF⟩:=bM hF
 refine cB func121 rfl (fun w hw=>crawlwayref10_Of_ok _ _ _ _ ht13 w (cells_row (hw.ok (Upd.mem .z)))) ?_
 refine am ?_
 refine aw xe (aw xe ?_)
 refine al (cs:=Cd.cs c_api_Addr zv1) zeroValue25 ?_
 intro b14
 refine at_store (c:=c_api_Addr) (z:=t13.1) .z lw sizeOf25 rfl rfl rfl ?_
 refine aa (qn ?_)
 refine at_drop (H:=_) (.s .z) ?_
 refine at_drop (H:=_) (.s .z) ?_
 refine tn (sr ?_)
 refine aw (r_load_aggc (c:=c_api_Addr) (z:=t13.1) isAgg25 sizeOf25 rfl (lens_cell .z lw)) ?_
 refine at_store (c:=c_api_Addr) (z:=t13.1) (.s .z) lw sizeOf25 rfl rfl rfl ?_
 refine aa (qn (dz (wq [3,2] ?_)))
 refine tn (qt ?_)
 have K:=os hF
 subst K
 exact at_res2 rfl (res_cell (c:=c_api_Addr) (y:=t13.1) rfl .z lw isAgg25 sizeOf25 (.inl rfl)) (res_tmp rfl) wb
def stringslite_CutPrefix(x0:ByteArray)(x1:ByteArray):Option (ByteArray×Bool) :=
 stringslite_HasPrefix x0 x1>>=fun t1=>if (!t1)=true then (some (x0,false)) else (if (0:Int)≤(x1.size:Int)∧(x1.size:Int)≤(x0.size:Int)∧(x0.size:Int)≤(x0.size:Int) then some (x0.extract (Int.toNat (x1.size:Int)) (Int.toNat (x0.size:Int)),true) else none)
theorem stringslite_CutPrefix_ok(x0:ByteArray)(x1:ByteArray)(r:ByteArray×Bool)(hF:stringslite_CutPrefix x0 x1=some r)(w:World) :
    Calls Tryz.prog 195 #[.string x0,.string x1] w (fun e w'=>e=.returned (.tuple #[.string r.1,.bool r.2])∧w'=w):=by
 unfold stringslite_CutPrefix at hF
 refine ce (l:=[.string x0,.string x1]) func195 rfl rfl ?_
 refine sr (aa (aa (nt (qs (sr (am (am ?_)))))))
 obtain ⟨t1,ht1,hF⟩:=bM hF
 refine at_call0 func216 rfl (by kernel_rfl) rfl rfl (fun w=>stringslite_HasPrefix_ok _ _ _ ht1 w) ?_
 refine aw (r_not rfl) ?_
 refine nwq [9,1,0] ?_
 obtain ⟨h2,hF⟩|⟨h2,hF⟩:=oi hF
 ·refine ct h2 ?_
  refine sr (am (aa (aa (nwq [5,4] ?_))))
  refine rt ?_
  have K:=os hF
  subst K
  exact at_return2 rfl rfl rfl (fun w1 hw=>⟨rfl,hw⟩)
 refine cf h2 ?_
 refine sns (am (am ?_))
 refine aw (r_len_str underlying9 rfl) ?_
 obtain ⟨h3,hF⟩:=gd hF
 refine aw (r_slice_str underlying9 rfl ⟨_,rfl⟩ rfl h3) ?_
 refine aa (aa (nwq [5,4] ?_))
 refine qt ?_
 have K:=os hF
 subst K
 exact at_return2 rfl rfl rfl (fun w1 hw=>⟨rfl,hw⟩)
def strings_CutPrefix(x0:ByteArray)(x1:ByteArray):Option (ByteArray×Bool) :=
 stringslite_CutPrefix x0 x1>>=fun t1=>some (t1.1,t1.2)
theorem strings_CutPrefix_ok(x0:ByteArray)(x1:ByteArray)(r:ByteArray×Bool)(hF:strings_CutPrefix x0 x1=some r)(w:World) :
    Calls Tryz.prog 176 #[.string x0,.string x1] w (fun e w'=>e=.returned (.tuple #[.string r.1,.bool r.2])∧w'=w):=by
 unfold strings_CutPrefix at hF
 refine ce (l:=[.string x0,.string x1]) func176 rfl rfl ?_
 refine sr (aa (aa (ns (am (am ?_)))))
 obtain ⟨t1,ht1,hF⟩:=bM hF
 refine at_call0 func195 rfl (by kernel_rfl) rfl rfl (fun w=>stringslite_CutPrefix_ok _ _ _ ht1 w) ?_
 refine aw xe (aw xe (aa (aa (nwq [5,4] ?_))))
 refine qt ?_
 have K:=os hF
 subst K
 exact at_return2 rfl rfl rfl (fun w1 hw=>⟨rfl,hw⟩)
def hostport_Right(x0:S_api_Endpoint):Option (Bool) :=
 addr_Right x0.f_A>>=fun t2=>if t2=true then (if (decide (x0.f_Port≥1))=true then (some (decide (x0.f_Port≤65535))) else (some false)) else (some false)
theorem hostport_Right_ok(x0:S_api_Endpoint)(r:Bool)(hF:hostport_Right x0=some r)(w:World) :
    Calls Tryz.prog 102 #[.agg (Cd.cs c_api_Endpoint x0).toArray] w (fun e w'=>e=.returned (.bool r)∧Below w.heap.size w w'):=by
 unfold hostport_Right at hF
 refine ce (l:=[.agg (Cd.cs c_api_Endpoint x0).toArray]) func102 rfl rfl ?_
 refine at_start ?_
 refine sr ?_
 refine at_box (cs:=Cd.cs c_api_Endpoint x0) rfl rfl rfl ?_
 intro b1
 refine aa (nwx [1] ?_)
 refine fa 0 underlying27 rfl sizeOf25 ?_
 refine aw (r_load_aggc (c:=c_api_Addr) (z:=x0.f_A) isAgg25 sizeOf25 rfl (lens_cell .z (Lens.comp lw (fun z=>{ x0 with f_A:=z }) (c_api_Endpoint_f_A x0)))) ?_
 obtain ⟨t2,ht2,hF⟩:=bM hF
 refine cB func158 rfl (fun w hw=>addr_Right_ok _ _ ht2 w) ?_
 refine am ?_
 obtain ⟨h3,hF⟩|⟨h3,hF⟩:=oi hF
 ·refine fx 6 h3 ?_
  refine gy ?_
  refine fa 17 underlying27 rfl sizeOf3 ?_
  refine gy ?_
  refine aw (r_load_cell isAgg3 rfl (lens_cell0 (c:=(cInt .i64)) (y:=x0.f_Port) .z (Lens.comp lw (fun z=>{ x0 with f_Port:=z }) (c_api_Endpoint_f_Port x0)) rfl)) ?_
  refine gy ?_
  refine aw (r_igeq rfl rfl) ?_
  refine aw xp (am ?_)
  obtain ⟨h4,hF⟩|⟨h4,hF⟩:=oi hF
  ·refine fx 11 h4 ?_
   refine gy ?_
   refine fa 17 underlying27 rfl sizeOf3 ?_
   refine gy ?_
   refine aw (r_load_cell isAgg3 rfl (lens_cell0 (c:=(cInt .i64)) (y:=x0.f_Port) .z (Lens.comp lw (fun z=>{ x0 with f_Port:=z }) (c_api_Endpoint_f_Port x0)) rfl)) ?_
   refine gy ?_
   refine aw (r_ileq rfl rfl) ?_
   refine aw xp (aa (qn (dz (wq [2] ?_))))
   refine tn (qt ?_)
   have K:=os hF
   subst K
   exact r1 wb
  refine fx 11 h4 ?_
  refine gn ?_
  refine gn ?_
  refine gn ?_
  refine aw xp (aa (qn (dz (wq [2] ?_))))
  refine tn (qt ?_)
  have K:=os hF
  subst K
  exact r1 wb
 refine fx 6 h3 ?_
 refine gn ?_
 refine gn ?_
 refine gn ?_
 refine aw xp (am ?_)
 refine gn ?_
 refine gn ?_
 refine gn ?_
 refine aw xp (aa (qn (dz (wq [2] ?_))))
 refine tn (qt ?_)
 have K:=os hF
 subst K
 exact r1 wb
def hostport_Text(x0:S_api_Endpoint):Option (ByteArray) :=
 hostport_Right x0>>=fun t2=>if (!t2)=true then (some (⟨#[]⟩)) else (decimal_Text (wr .u64 x0.f_Port)>>=fun t4=>addr_Width x0.f_A>>=fun t5=>if (decide (t5>32))=true then (addr_Text x0.f_A>>=fun t7=>if (⟨#[91]⟩:ByteArray).size+t7.size≤140737488355328 then if ((⟨#[91]⟩:ByteArray)++t7).size+(⟨#[93,58]⟩:ByteArray).size≤140737488355328 then if (((⟨#[91]⟩:ByteArray)++t7)++(⟨#[93,58]⟩:ByteArray)).size+t4.size≤140737488355328 then some ((((⟨#[91]⟩:ByteArray)++t7)++(⟨#[93,58]⟩:ByteArray))++t4) else none else none else none) else (addr_Text x0.f_A>>=fun t11=>if t11.size+(⟨#[58]⟩:ByteArray).size≤140737488355328 then if (t11++(⟨#[58]⟩:ByteArray)).size+t4.size≤140737488355328 then some ((t11++(⟨#[58]⟩:ByteArray))++t4) else none else none))
theorem hostport_Text_ok(x0:S_api_Endpoint)(r:ByteArray)(hF:hostport_Text x0=some r)(w:World)(hg_strconv_uint64pow10:GV_strconv_uint64pow10 w) :
    Calls Tryz.prog 101 #[.agg (Cd.cs c_api_Endpoint x0).toArray] w (fun e w'=>e=.returned (.string r)∧Below w.heap.size w w'):=by
 unfold hostport_Text at hF
 refine ce (l:=[.agg (Cd.cs c_api_Endpoint x0).toArray]) func101 rfl rfl ?_
 refine at_start ?_
 refine sr ?_
 refine at_box (cs:=Cd.cs c_api_Endpoint x0) rfl rfl rfl ?_
 intro b1
 refine aa (nt (qs (sr ?_)))
 refine aw (r_load_aggc (c:=c_api_Endpoint) (z:=x0) isAgg27 sizeOf27 rfl (lens_cell .z lw)) ?_
 obtain ⟨t2,ht2,hF⟩:=bM hF
 refine cB func102 rfl (fun w hw=>hostport_Right_ok _ _ ht2 w) ?_
 refine aw (r_not rfl) ?_
 refine nwq [6,1] ?_
 obtain ⟨h3,hF⟩|⟨h3,hF⟩:=oi hF
 ·refine ct h3 ?_
  refine sr (aa (qn (dz (wq [2] ?_))))
  refine tn (rt ?_)
  have K:=os hF
  subst K
  exact r1 wb
 refine cf h3 ?_
 refine sns (fa 17 underlying27 rfl sizeOf3 ?_)
 refine aw (r_load_cell isAgg3 rfl (lens_cell0 (c:=(cInt .i64)) (y:=x0.f_Port) .z (Lens.comp lw (fun z=>{ x0 with f_Port:=z }) (c_api_Endpoint_f_Port x0)) rfl)) ?_
 refine aw (r_conv underlying3 underlying31 rfl) ?_
 obtain ⟨t4,ht4,hF⟩:=bM hF
 refine cB func113 rfl (fun w hw=>decimal_Text_ok _ _ ht4 w (hg_strconv_uint64pow10.on hw.below)) ?_
 refine aa (nt (qs (sr (fa 0 underlying27 rfl sizeOf25 ?_))))
 refine aw (r_load_aggc (c:=c_api_Addr) (z:=x0.f_A) isAgg25 sizeOf25 rfl (lens_cell .z (Lens.comp lw (fun z=>{ x0 with f_A:=z }) (c_api_Endpoint_f_A x0)))) ?_
 obtain ⟨t5,ht5,hF⟩:=bM hF
 refine cB func156 rfl (fun w hw=>addr_Width_ok _ _ ht5 w) ?_
 refine aw (r_igtr rfl rfl) ?_
 refine nwq [14,3,1] ?_
 obtain ⟨h6,hF⟩|⟨h6,hF⟩:=oi hF
 ·refine ct h6 ?_
  refine sr (fa 0 underlying27 rfl sizeOf25 ?_)
  refine aw (r_load_aggc (c:=c_api_Addr) (z:=x0.f_A) isAgg25 sizeOf25 rfl (lens_cell .z (Lens.comp lw (fun z=>{ x0 with f_A:=z }) (c_api_Endpoint_f_A x0)))) ?_
  obtain ⟨t7,ht7,hF⟩:=bM hF
  refine cB func157 rfl (fun w hw=>addr_Text_ok _ _ ht7 w (hg_strconv_uint64pow10.on hw.below)) ?_
  obtain ⟨h8,hF⟩:=gd hF
  refine aw (r_concat rfl rfl h8) ?_
  obtain ⟨h9,hF⟩:=gd hF
  refine aw (r_concat rfl rfl h9) ?_
  refine am ?_
  obtain ⟨h10,hF⟩:=gd hF
  refine aw (r_concat rfl rfl h10) ?_
  refine aa (qn (dz (wq [2] ?_)))
  refine tn (rt ?_)
  have K:=os hF
  subst K
  exact r1 wb
 refine cf h6 ?_
 refine sns (fa 0 underlying27 rfl sizeOf25 ?_)
 refine aw (r_load_aggc (c:=c_api_Addr) (z:=x0.f_A) isAgg25 sizeOf25 rfl (lens_cell .z (Lens.comp lw (fun z=>{ x0 with f_A:=z }) (c_api_Endpoint_f_A x0)))) ?_
 obtain ⟨t11,ht11,hF⟩:=bM hF
 refine cB func157 rfl (fun w hw=>addr_Text_ok _ _ ht11 w (hg_strconv_uint64pow10.on hw.below)) ?_
 obtain ⟨h12,hF⟩:=gd hF
 refine aw (r_concat rfl rfl h12) ?_
 refine am ?_
 obtain ⟨h13,hF⟩:=gd hF
 refine aw (r_concat rfl rfl h13) ?_
 refine aa (qn (dz (wq [2] ?_)))
 refine tn (qt ?_)
 have K:=os hF
 subst K
 exact r1 wb
def hostport_halves(x0:ByteArray):Option (ByteArray×ByteArray×Bool) :=
 strings_CutPrefix x0 (⟨#[91]⟩:ByteArray)>>=fun t1=>if t1.2=true then (if t1.1.size<4294967281 then if ((scut t1.1 (⟨#[93,58]⟩:ByteArray)).2.2)=true then (some ((scut t1.1 (⟨#[93,58]⟩:ByteArray)).1,(scut t1.1 (⟨#[93,58]⟩:ByteArray)).2.1,decide (0≤Lib.indexByte ((scut t1.1 (⟨#[93,58]⟩:ByteArray)).1).data.toList 58))) else (some ((scut t1.1 (⟨#[93,58]⟩:ByteArray)).1,(scut t1.1 (⟨#[93,58]⟩:ByteArray)).2.1,false)) else none) else (if (0:Int)≤0∧0<((⟨#[58]⟩:ByteArray).size:Int) then lines_Cut x0 (bt (⟨#[58]⟩:ByteArray) 0)>>=fun t6=>some (t6.1,t6.2.1,t6.2.2) else none)
theorem hostport_halves_ok(x0:ByteArray)(r:ByteArray×ByteArray×Bool)(hF:hostport_halves x0=some r)(w:World)(hg_bytealg_MaxLen:GV_bytealg_MaxLen w) :
    Calls Tryz.prog 154 #[.string x0] w (fun e w'=>e=.returned (.tuple #[.string r.1,.string r.2.1,.bool r.2.2])∧Below w.heap.size w w'):=by
 unfold hostport_halves at hF
 refine ce (l:=[.string x0]) func154 rfl rfl ?_
 refine at_start ?_
 refine sr (aa (aa (aa (nt (qs (sr (am ?_)))))))
 obtain ⟨t1,ht1,hF⟩:=bM hF
 refine at_call0 func176 rfl (by kernel_rfl) rfl rfl (fun w=>strings_CutPrefix_ok _ _ _ ht1 w) ?_
 refine am ?_
 refine aw xe (aw xe (aa (aa (ns (am (nwq [15,5,0] ?_))))))
 obtain ⟨h2,hF⟩|⟨h2,hF⟩:=oi hF
 ·refine ct h2 ?_
  refine sr (am ?_)
  obtain ⟨h3,hF⟩:=gd hF
  refine cB func177 rfl (fun w1 hw=>cut_okS _ _ h3 w1 (hg_bytealg_MaxLen.on hw.below)) ?_
  refine am ?_
  refine aw xe (aw xe (aw xe (aa (aa (aa (nwx [9,8,7] ?_))))))
  refine am (am (am (am ?_)))
  obtain ⟨h4,hF⟩|⟨h4,hF⟩:=oi hF
  ·refine fx 25 h4 ?_
   refine gy ?_
   refine am ?_
   refine gy ?_
   refine at_call0 func178 rfl (by kernel_rfl) rfl rfl (fun w=>Tryz.strings_Contains_one _ _ w) ?_
   refine aw xp (aa (aa (aa (nwq [4,3,2] ?_))))
   refine rt ?_
   have K:=os hF
   subst K
   exact at_return3 rfl rfl rfl rfl wb
  refine fx 25 h4 ?_
  refine gn ?_
  refine gn ?_
  refine aw xp (aa (aa (aa (nwq [4,3,2] ?_))))
  refine rt ?_
  have K:=os hF
  subst K
  exact at_return3 rfl rfl rfl rfl wb
 refine cf h2 ?_
 refine sns (am ?_)
 obtain ⟨h5,hF⟩:=gd hF
 refine aw (r_index_str underlying9 rfl rfl h5) ?_
 obtain ⟨t6,ht6,hF⟩:=bM hF
 refine cB func86 rfl (fun w hw=>lines_Cut_ok _ _ _ ht6 w) ?_
 refine aw xe (aw xe (aw xe (aa (aa (aa (nwq [4,3,2] ?_))))))
 refine qt ?_
 have K:=os hF
 subst K
 exact at_return3 rfl rfl rfl rfl wb
def hostport_Parse(x0:ByteArray):Option (S_api_Endpoint×Int) :=
 hostport_halves x0>>=fun t2=>if (!t2.2.2)=true then (some (({ f_A:=({ f_V:=(0:Int),f_B:=(Vector.replicate 16 (0:Int):(Vector Int 16)) }:S_api_Addr),f_Port:=(0:Int) }:S_api_Endpoint),5)) else (addr_Parse t2.1>>=fun t4=>if (t4.2 != 0)=true then (some (({ f_A:=({ f_V:=(0:Int),f_B:=(Vector.replicate 16 (0:Int):(Vector Int 16)) }:S_api_Addr),f_Port:=(0:Int) }:S_api_Endpoint),t4.2)) else (decimal_Read t2.2.1 65535>>=fun t7=>if (t7.2 != 0)=true then (some (({ f_A:=({ f_V:=(0:Int),f_B:=(Vector.replicate 16 (0:Int):(Vector Int 16)) }:S_api_Addr),f_Port:=(0:Int) }:S_api_Endpoint),t7.2)) else (if (t7.1==0)=true then (some (({ f_A:=({ f_V:=(0:Int),f_B:=(Vector.replicate 16 (0:Int):(Vector Int 16)) }:S_api_Addr),f_Port:=(0:Int) }:S_api_Endpoint),6)) else (some ({ { ({ f_A:=({ f_V:=(0:Int),f_B:=(Vector.replicate 16 (0:Int):(Vector Int 16)) }:S_api_Addr),f_Port:=(0:Int) }:S_api_Endpoint) with f_A:=t4.1 } with f_Port:=wr .i64 t7.1 },0)))))
theorem hostport_Parse_ok(x0:ByteArray)(r:S_api_Endpoint×Int)(hF:hostport_Parse x0=some r)(w:World)(hg_bytealg_MaxLen:GV_bytealg_MaxLen w)(hg_strconv_ErrRange:GV_strconv_ErrRange w)(hg_strconv_ErrSyntax:GV_strconv_ErrSyntax w) :
    Calls Tryz.prog 99 #[.string x0] w (fun e w'=>e=.returned (.tuple #[.agg (Cd.cs c_api_Endpoint r.1).toArray,.int .i64 r.2])∧Below w.heap.size w w'):=by
 unfold hostport_Parse at hF
 refine ce (l:=[.string x0]) func99 rfl rfl ?_
 refine at_start ?_
 refine sr ?_
 refine al (cs:=Cd.cs c_api_Endpoint zv7) zeroValue27 ?_
 intro b1
 refine aa (ns (am ?_))
 obtain ⟨t2,ht2,hF⟩:=bM hF
 refine cB func154 rfl (fun w hw=>hostport_halves_ok _ _ ht2 w (hg_bytealg_MaxLen.on hw.below)) ?_
 refine am ?_
 refine aw xe (aw xe (aw xe (aa (aa (aa (nt (qs (sr ?_))))))))
 refine am ?_
 refine aw (r_not rfl) ?_
 refine nwq [17,5,4,2] ?_
 obtain ⟨h3,hF⟩|⟨h3,hF⟩:=oi hF
 ·refine ct h3 ?_
  refine sr ?_
  refine aw (r_build_struct (zs:=Cd.cs c_api_Endpoint zv7) (cs:=Cd.cs c_api_Endpoint zv7) underlying27 zeroValue27 rfl (places_api_Endpoint_27) rfl rfl) ?_
  refine at_store (c:=c_api_Endpoint) (z:=zv7) .z lw sizeOf27 rfl rfl rfl ?_
  refine aa (nwq [3,2] ?_)
  refine rt ?_
  have K:=os hF
  subst K
  exact at_res2 rfl (res_cell (c:=c_api_Endpoint) (y:=zv7) rfl .z lw isAgg27 sizeOf27 (.inl rfl)) (res_tmp rfl) wb
 refine cf h3 ?_
 refine sns (am ?_)
 obtain ⟨t4,ht4,hF⟩:=bM hF
 refine cB func155 rfl (fun w hw=>addr_Parse_ok _ _ ht4 w (hg_strconv_ErrRange.on hw.below) (hg_strconv_ErrSyntax.on hw.below)) ?_
 refine am ?_
 refine aw xe (aw xe ?_)
 refine al (cs:=Cd.cs c_api_Addr zv1) zeroValue25 ?_
 intro b5
 refine at_store (c:=c_api_Addr) (z:=t4.1) .z lw sizeOf25 rfl rfl rfl ?_
 refine aa (nt (qs (sr (am (aw xn (nwq [25,8,7,5,2] ?_))))))
 obtain ⟨h6,hF⟩|⟨h6,hF⟩:=oi hF
 ·refine ct h6 ?_
  refine sr ?_
  refine aw (r_build_struct (zs:=Cd.cs c_api_Endpoint zv7) (cs:=Cd.cs c_api_Endpoint zv7) underlying27 zeroValue27 rfl (places_api_Endpoint_27) rfl rfl) ?_
  refine am ?_
  refine at_store (c:=c_api_Endpoint) (z:=zv7) (.s .z) lw sizeOf27 rfl rfl rfl ?_
  refine aa (qn (dz (wq [3,2] ?_)))
  refine tn (rt ?_)
  have K:=os hF
  subst K
  exact at_res2 rfl (res_cell (c:=c_api_Endpoint) (y:=zv7) rfl .z lw isAgg27 sizeOf27 (.inl rfl)) (res_tmp rfl) wb
 refine cf h6 ?_
 refine sns (am ?_)
 obtain ⟨t7,ht7,hF⟩:=bM hF
 refine cB func111 rfl (fun w hw=>decimal_Read_ok _ _ _ ht7 w (hg_strconv_ErrRange.on hw.below) (hg_strconv_ErrSyntax.on hw.below)) ?_
 refine am ?_
 refine aw xe (aw xe (aa (aa (nwq [9,8,7,2] ?_))))
 refine qs ?_
 refine qb ?_
 refine sr (am (aw xn (aa (nwq [33,9,8,7,2] ?_))))
 obtain ⟨h8,hF⟩|⟨h8,hF⟩:=oi hF
 ·refine ct h8 ?_
  refine sr ?_
  refine aw (r_build_struct (zs:=Cd.cs c_api_Endpoint zv7) (cs:=Cd.cs c_api_Endpoint zv7) underlying27 zeroValue27 rfl (places_api_Endpoint_27) rfl rfl) ?_
  refine am ?_
  refine at_store (c:=c_api_Endpoint) (z:=zv7) (.s .z) lw sizeOf27 rfl rfl rfl ?_
  refine aa (qn (dz (wq [3,2] ?_)))
  refine tn (qt ?_)
  refine br (tr ?_)
  have K:=os hF
  subst K
  exact at_res2 rfl (res_cell (c:=c_api_Endpoint) (y:=zv7) rfl .z lw isAgg27 sizeOf27 (.inl rfl)) (res_tmp rfl) wb
 refine cf h8 ?_
 refine sr (am (aw xq (aa (nwq [38,9,7,2] ?_))))
 obtain ⟨h9,hF⟩|⟨h9,hF⟩:=oi hF
 ·refine ct h9 ?_
  refine sr ?_
  refine aw (r_build_struct (zs:=Cd.cs c_api_Endpoint zv7) (cs:=Cd.cs c_api_Endpoint zv7) underlying27 zeroValue27 rfl (places_api_Endpoint_27) rfl rfl) ?_
  refine at_store (c:=c_api_Endpoint) (z:=zv7) (.s .z) lw sizeOf27 rfl rfl rfl ?_
  refine aa (qn (dz (wq [3,2] ?_)))
  refine tn (qt ?_)
  refine br (tr ?_)
  have K:=os hF
  subst K
  exact at_res2 rfl (res_cell (c:=c_api_Endpoint) (y:=zv7) rfl .z lw isAgg27 sizeOf27 (.inl rfl)) (res_tmp rfl) wb
 refine cf h9 ?_
 refine at_skip ?_
 refine bm ?_
 refine sr ?_
 refine aw (r_load_aggc (c:=c_api_Addr) (z:=t4.1) isAgg25 sizeOf25 rfl (lens_cell .z lw)) ?_
 refine am ?_
 refine aw (r_conv underlying31 underlying3 rfl) ?_
 refine aw (r_build_struct (zs:=Cd.cs c_api_Endpoint zv7) (cs:=Cd.cs c_api_Endpoint ({ { zv7 with f_A:=t4.1 } with f_Port:=wr .i64 t7.1 })) underlying27 zeroValue27 rfl (places_api_Endpoint_27) rfl (fill_step (c:=c_api_Addr) (z:=t4.1) rfl (c_api_Endpoint_f_A zv7) rfl (fill_step (c:=(cInt .i64)) (z:=wr .i64 t7.1) rfl (c_api_Endpoint_f_Port ({ zv7 with f_A:=t4.1 })) rfl rfl))) ?_
 refine at_store (c:=c_api_Endpoint) (z:={ { zv7 with f_A:=t4.1 } with f_Port:=wr .i64 t7.1 }) (.s .z) lw sizeOf27 rfl rfl rfl ?_
 refine aa (qn (dz (wq [3,2] ?_)))
 refine tn (qt ?_)
 have K:=os hF
 subst K
 exact at_res2 rfl (res_cell (c:=c_api_Endpoint) (y:={ { zv7 with f_A:=t4.1 } with f_Port:=wr .i64 t7.1 }) rfl .z lw isAgg27 sizeOf27 (.inl rfl)) (res_tmp rfl) wb
def crawlwayref12_Right(x0:S_api_Endpoint):Option (Bool) :=
 crawlwayref10_Right x0.f_A>>=fun t2=>if t2=true then (if (decide (x0.f_Port≥1))=true then (some (decide (x0.f_Port≤65535))) else (some false)) else (some false)
theorem crawlwayref12_Right_ok(x0:S_api_Endpoint)(r:Bool)(hF:crawlwayref12_Right x0=some r)(w:World) :
    Calls Tryz.prog 45 #[.agg (Cd.cs c_api_Endpoint x0).toArray] w (fun e w'=>e=.returned (.bool r)∧Below w.heap.size w w'):=by
 unfold crawlwayref12_Right at hF
 refine ce (l:=[.agg (Cd.cs c_api_Endpoint x0).toArray]) func45 rfl rfl ?_
 refine at_start ?_
 refine sr ?_
 refine at_box (cs:=Cd.cs c_api_Endpoint x0) rfl rfl rfl ?_
 intro b1
 refine aa (nwx [1] ?_)
 refine fa 0 underlying27 rfl sizeOf25 ?_
 refine aw (r_load_aggc (c:=c_api_Addr) (z:=x0.f_A) isAgg25 sizeOf25 rfl (lens_cell .z (Lens.comp lw (fun z=>{ x0 with f_A:=z }) (c_api_Endpoint_f_A x0)))) ?_
 obtain ⟨t2,ht2,hF⟩:=bM hF
 refine cB func74 rfl (fun w hw=>crawlwayref10_Right_ok _ _ ht2 w) ?_
 refine am ?_
 obtain ⟨h3,hF⟩|⟨h3,hF⟩:=oi hF
 ·refine fx 6 h3 ?_
  refine gy ?_
  refine fa 17 underlying27 rfl sizeOf3 ?_
  refine gy ?_
  refine aw (r_load_cell isAgg3 rfl (lens_cell0 (c:=(cInt .i64)) (y:=x0.f_Port) .z (Lens.comp lw (fun z=>{ x0 with f_Port:=z }) (c_api_Endpoint_f_Port x0)) rfl)) ?_
  refine gy ?_
  refine aw (r_igeq rfl rfl) ?_
  refine aw xp (am ?_)
  obtain ⟨h4,hF⟩|⟨h4,hF⟩:=oi hF
  ·refine fx 11 h4 ?_
   refine gy ?_
   refine fa 17 underlying27 rfl sizeOf3 ?_
   refine gy ?_
   refine aw (r_load_cell isAgg3 rfl (lens_cell0 (c:=(cInt .i64)) (y:=x0.f_Port) .z (Lens.comp lw (fun z=>{ x0 with f_Port:=z }) (c_api_Endpoint_f_Port x0)) rfl)) ?_
   refine gy ?_
   refine aw (r_ileq rfl rfl) ?_
   refine aw xp (aa (qn (dz (wq [2] ?_))))
   refine tn (qt ?_)
   have K:=os hF
   subst K
   exact r1 wb
  refine fx 11 h4 ?_
  refine gn ?_
  refine gn ?_
  refine gn ?_
  refine aw xp (aa (qn (dz (wq [2] ?_))))
  refine tn (qt ?_)
  have K:=os hF
  subst K
  exact r1 wb
 refine fx 6 h3 ?_
 refine gn ?_
 refine gn ?_
 refine gn ?_
 refine aw xp (am ?_)
 refine gn ?_
 refine gn ?_
 refine gn ?_
 refine aw xp (aa (qn (dz (wq [2] ?_))))
 refine tn (qt ?_)
 have K:=os hF
 subst K
 exact r1 wb
def crawlwayref12_Text(x0:S_api_Endpoint):Option (ByteArray) :=
 crawlwayref12_Right x0>>=fun t2=>if (!t2)=true then (some (⟨#[]⟩)) else (crawlwayref03_Text (wr .u64 x0.f_Port)>>=fun t4=>if (⟨#[58]⟩:ByteArray).size+t4.size≤140737488355328 then if (x0.f_A.f_V==6)=true then (crawlwayref10_Text x0.f_A>>=fun t7=>if (⟨#[91]⟩:ByteArray).size+t7.size≤140737488355328 then if ((⟨#[91]⟩:ByteArray)++t7).size+(⟨#[93]⟩:ByteArray).size≤140737488355328 then if (((⟨#[91]⟩:ByteArray)++t7)++(⟨#[93]⟩:ByteArray)).size+((⟨#[58]⟩:ByteArray)++t4).size≤140737488355328 then some ((((⟨#[91]⟩:ByteArray)++t7)++(⟨#[93]⟩:ByteArray))++((⟨#[58]⟩:ByteArray)++t4)) else none else none else none) else (crawlwayref10_Text x0.f_A>>=fun t11=>if t11.size+((⟨#[58]⟩:ByteArray)++t4).size≤140737488355328 then some (t11++((⟨#[58]⟩:ByteArray)++t4)) else none) else none)
theorem crawlwayref12_Text_ok(x0:S_api_Endpoint)(r:ByteArray)(hF:crawlwayref12_Text x0=some r)(w:World) :
    Calls Tryz.prog 52 #[.agg (Cd.cs c_api_Endpoint x0).toArray] w (fun e w'=>e=.returned (.string r)∧Below w.heap.size w w'):=by
 unfold crawlwayref12_Text at hF
 refine ce (l:=[.agg (Cd.cs c_api_Endpoint x0).toArray]) func52 rfl rfl ?_
 refine at_start ?_
 refine sr ?_
 refine at_box (cs:=Cd.cs c_api_Endpoint x0) rfl rfl rfl ?_
 intro b1
 refine aa (nt (qs (sr ?_)))
 refine aw (r_load_aggc (c:=c_api_Endpoint) (z:=x0) isAgg27 sizeOf27 rfl (lens_cell .z lw)) ?_
 obtain ⟨t2,ht2,hF⟩:=bM hF
 refine cB func45 rfl (fun w hw=>crawlwayref12_Right_ok _ _ ht2 w) ?_
 refine aw (r_not rfl) ?_
 refine nwq [6,1] ?_
 obtain ⟨h3,hF⟩|⟨h3,hF⟩:=oi hF
 ·refine ct h3 ?_
  refine sr (aa (qn (dz (wq [2] ?_))))
  refine tn (rt ?_)
  have K:=os hF
  subst K
  exact r1 wb
 refine cf h3 ?_
 refine sns (fa 17 underlying27 rfl sizeOf3 ?_)
 refine aw (r_load_cell isAgg3 rfl (lens_cell0 (c:=(cInt .i64)) (y:=x0.f_Port) .z (Lens.comp lw (fun z=>{ x0 with f_Port:=z }) (c_api_Endpoint_f_Port x0)) rfl)) ?_
 refine aw (r_conv underlying3 underlying31 rfl) ?_
 obtain ⟨t4,ht4,hF⟩:=bM hF
 refine cB func55 rfl (fun w hw=>crawlwayref03_Text_ok _ _ ht4 w) ?_
 obtain ⟨h5,hF⟩:=gd hF
 refine aw (r_concat rfl rfl h5) ?_
 refine aa (nt (qs (sr (fa 0 underlying27 rfl sizeOf25 (fa 0 underlying25 rfl sizeOf3 ?_)))))
 refine aw (r_load_cell isAgg3 rfl (lens_cell0 (c:=(cInt .i64)) (y:=x0.f_A.f_V) .z (Lens.comp (Lens.comp lw (fun z=>{ x0 with f_A:=z }) (c_api_Endpoint_f_A x0)) (fun z=>{ x0.f_A with f_V:=z }) (c_api_Addr_f_V x0.f_A)) rfl)) ?_
 refine aw xq (nwq [15,3,1] ?_)
 obtain ⟨h6,hF⟩|⟨h6,hF⟩:=oi hF
 ·refine ct h6 ?_
  refine sr (fa 0 underlying27 rfl sizeOf25 ?_)
  refine aw (r_load_aggc (c:=c_api_Addr) (z:=x0.f_A) isAgg25 sizeOf25 rfl (lens_cell .z (Lens.comp lw (fun z=>{ x0 with f_A:=z }) (c_api_Endpoint_f_A x0)))) ?_
  obtain ⟨t7,ht7,hF⟩:=bM hF
  refine cB func87 rfl (fun w hw=>crawlwayref10_Text_ok _ _ ht7 w) ?_
  obtain ⟨h8,hF⟩:=gd hF
  refine aw (r_concat rfl rfl h8) ?_
  obtain ⟨h9,hF⟩:=gd hF
  refine aw (r_concat rfl rfl h9) ?_
  refine am ?_
  obtain ⟨h10,hF⟩:=gd hF
  refine aw (r_concat rfl rfl h10) ?_
  refine aa (qn (dz (wq [2] ?_)))
  refine tn (rt ?_)
  have K:=os hF
  subst K
  exact r1 wb
 refine cf h6 ?_
 refine sns (fa 0 underlying27 rfl sizeOf25 ?_)
 refine aw (r_load_aggc (c:=c_api_Addr) (z:=x0.f_A) isAgg25 sizeOf25 rfl (lens_cell .z (Lens.comp lw (fun z=>{ x0 with f_A:=z }) (c_api_Endpoint_f_A x0)))) ?_
 obtain ⟨t11,ht11,hF⟩:=bM hF
 refine cB func87 rfl (fun w hw=>crawlwayref10_Text_ok _ _ ht11 w) ?_
 refine am ?_
 obtain ⟨h12,hF⟩:=gd hF
 refine aw (r_concat rfl rfl h12) ?_
 refine aa (qn (dz (wq [2] ?_)))
 refine tn (qt ?_)
 have K:=os hF
 subst K
 exact r1 wb
def crawlwayref12_cut.l0(x0:ByteArray)(i2:Int):Option (Ctl (ByteArray×ByteArray×Bool) (Unit)) :=
 if (decide (wr .i64 (i2+1)<(x0.size:Int)))=true then (if (0:Int)≤i2∧i2<(x0.size:Int) then if (bt x0 i2==93)=true then (if (0:Int)≤wr .i64 (i2+1)∧wr .i64 (i2+1)<(x0.size:Int) then if (bt x0 (wr .i64 (i2+1))==58)=true then (if (0:Int)≤0∧0≤i2∧i2≤(x0.size:Int) then if (0:Int)≤wr .i64 (i2+2)∧wr .i64 (i2+2)≤(x0.size:Int)∧(x0.size:Int)≤(x0.size:Int) then some (.ret (x0.extract (Int.toNat 0) (Int.toNat i2),x0.extract (Int.toNat (wr .i64 (i2+2))) (Int.toNat (x0.size:Int)),true)) else none else none) else (crawlwayref12_cut.l0 x0 (wr .i64 (i2+1))) else none) else (crawlwayref12_cut.l0 x0 (wr .i64 (i2+1))) else none) else (some (.nx ()))
 partial_fixpoint
def crawlwayref12_cut(x0:ByteArray):Option (ByteArray×ByteArray×Bool) :=
 crawlwayref12_cut.l0 x0 0>>=fun q1=>match q1 with | .ret r'=>some r' | .nx sq1=>(some (⟨#[]⟩,⟨#[]⟩,false))
theorem crawlwayref12_cut_ok(x0:ByteArray)(r:ByteArray×ByteArray×Bool)(hF:crawlwayref12_cut x0=some r)(w:World) :
    Calls Tryz.prog 69 #[.string x0] w (fun e w'=>e=.returned (.tuple #[.string r.1,.string r.2.1,.bool r.2.2])∧Below w.heap.size w w'):=by
 unfold crawlwayref12_cut at hF
 refine ce (l:=[.string x0]) func69 rfl rfl ?_
 refine at_start ?_
 refine sr (aa (aa (aa (nt (qs (sr (aa (nwq [5,0] ?_))))))))
 refine qb ?_
 obtain ⟨q1,hq1,hF⟩:=bM hF
 refine wq [5,0] ?_
 refine at_loop_r (B:=0) (r:=r) (q:=q1) (A:=fun (_:Unit) Y=>At 31 [] (Wd w []) Y) ?_ ?_
 ·intro K
  refine crawlwayref12_cut.l0.partial_correctness x0 (motive:=fun i2 x=>KR (fun (_:Unit) Y=>At 31 [] (Wd w []) Y) _ 0 r x→Round (fun Y=>At 31 [(0,.string x0),(5,.int .i64 i2)] (Wd w []) Y) _ _ _) ?_ _ _ hq1 K
  ·clear K hF
   intro g ih i2 x hF K
   refine at_round ?_
   refine qs (sr (am (aw xa (am ?_))))
   refine aw (r_len_str underlying9 rfl) ?_
   refine aw xl (nwq [10,5,0] ?_)
   obtain ⟨h3,hF⟩|⟨h3,hF⟩:=oi hF
   ·refine ct h3 ?_
    refine sn (qs ?_)
    refine qb ?_
    refine sr (am (am ?_))
    obtain ⟨h4,hF⟩:=gd hF
    refine aw (r_index_str underlying9 rfl rfl h4) ?_
    refine aw xq (am ?_)
    obtain ⟨h5,hF⟩|⟨h5,hF⟩:=oi hF
    ·refine fx 17 h5 ?_
     refine gy ?_
     refine am ?_
     refine gy ?_
     refine am ?_
     refine gy ?_
     refine aw xa ?_
     refine gy ?_
     obtain ⟨h6,hF⟩:=gd hF
     refine aw (r_index_str underlying9 rfl rfl h6) ?_
     refine gy ?_
     refine aw xq (aw xp (nwq [23,5,0] ?_))
     obtain ⟨h7,hF⟩|⟨h7,hF⟩:=oi hF
     ·refine ct h7 ?_
      refine qs ?_
      refine at_draw (by kernel_rfl) (by kernel_rfl) (fun _ h=>h.drew) ?_
      refine atq_val rfl rfl rfl (r_move rfl) ?_
      refine atq_val rfl rfl rfl (r_move rfl) ?_
      obtain ⟨h8,hF⟩:=gd hF
      refine atq_val rfl rfl rfl (r_slice_str underlying9 rfl rfl ⟨_,rfl⟩ h8) ?_
      refine atq_val rfl rfl rfl (r_move rfl) ?_
      refine atq_val rfl rfl rfl (r_move rfl) ?_
      refine atq_val rfl rfl rfl (r_iadd rfl rfl) ?_
      obtain ⟨h9,hF⟩:=gd hF
      refine atq_val rfl rfl rfl (r_slice_str underlying9 rfl ⟨_,rfl⟩ rfl h9) ?_
      refine atq_val rfl rfl rfl (r_assign rfl) ?_
      refine atq_val rfl rfl rfl (r_assign rfl) ?_
      refine atq_val rfl rfl rfl (r_assign rfl) ?_
      refine atq_nil ?_
      refine wq [4,3,2] ?_
      refine tn (qt ?_)
      refine br (tr (tr (br (tr ?_))))
      obtain rfl:=os hF
      subst K
      exact at_return3 rfl rfl rfl rfl wb
     refine cf h7 ?_
     refine at_skip ?_
     refine bm ?_
     refine qr (am (aw xa (aa (nwq [5,0] ?_))))
     exact at_weak_k (ih _ _ hF K) ⟨rfl,rfl,trivial⟩
    refine fx 17 h5 ?_
    refine gn ?_
    refine gn ?_
    refine gn ?_
    refine gn ?_
    refine gn ?_
    refine aw xp (nwq [23,5,0] ?_)
    refine cf rfl ?_
    refine at_skip ?_
    refine bm ?_
    refine qr (am (aw xa (aa (nwq [5,0] ?_))))
    exact at_weak_k (ih _ _ hF K) ⟨rfl,rfl,trivial⟩
   refine cf h3 ?_
   refine at_exit ?_
   refine te (te ?_)
   obtain rfl:=os hF
   exact at_weak_k K trivial
 cases q1 with
 | ret r'=>exact os hF
 | nx sq1 =>
  skip
  refine at_blk_same ?_
  refine tn (sr (aa (aa (aa (nwq [4,3,2] ?_)))))
  refine qt ?_
  have K:=os hF
  subst K
  exact at_return3 rfl rfl rfl rfl wb
def crawlwayref12_Parse(x0:ByteArray):Option (S_api_Endpoint×Int) :=
 if (decide ((x0.size:Int)>0))=true then (if (0:Int)≤0∧0<(x0.size:Int) then if (bt x0 0==91)=true then (if (0:Int)≤1∧1≤(x0.size:Int)∧(x0.size:Int)≤(x0.size:Int) then crawlwayref12_cut (x0.extract (Int.toNat 1) (Int.toNat (x0.size:Int)))>>=fun t6=>if (!t6.2.2)=true then (some (({ f_A:=({ f_V:=(0:Int),f_B:=(Vector.replicate 16 (0:Int):(Vector Int 16)) }:S_api_Addr),f_Port:=(0:Int) }:S_api_Endpoint),5)) else (crawlwayref06_Parts t6.1 58>>=fun t8=>if (decide ((t8.length:Int)>1) != (bt x0 0==91))=true then (some (({ f_A:=({ f_V:=(0:Int),f_B:=(Vector.replicate 16 (0:Int):(Vector Int 16)) }:S_api_Addr),f_Port:=(0:Int) }:S_api_Endpoint),5)) else (crawlwayref10_Parse t6.1>>=fun t12=>if (t12.2 != 0)=true then (some (({ f_A:=({ f_V:=(0:Int),f_B:=(Vector.replicate 16 (0:Int):(Vector Int 16)) }:S_api_Addr),f_Port:=(0:Int) }:S_api_Endpoint),t12.2)) else (crawlwayref03_Read t6.2.1 65535>>=fun t15=>if (t15.2 != 0)=true then (some (({ f_A:=({ f_V:=(0:Int),f_B:=(Vector.replicate 16 (0:Int):(Vector Int 16)) }:S_api_Addr),f_Port:=(0:Int) }:S_api_Endpoint),t15.2)) else (if (t15.1==0)=true then (some (({ f_A:=({ f_V:=(0:Int),f_B:=(Vector.replicate 16 (0:Int):(Vector Int 16)) }:S_api_Addr),f_Port:=(0:Int) }:S_api_Endpoint),6)) else (some ({ { ({ f_A:=({ f_V:=(0:Int),f_B:=(Vector.replicate 16 (0:Int):(Vector Int 16)) }:S_api_Addr),f_Port:=(0:Int) }:S_api_Endpoint) with f_A:=t12.1 } with f_Port:=wr .i64 t15.1 },0)))))) else none) else (crawlwayref06_Parts x0 58>>=fun t18=>if (0:Int)≤0∧0<(t18.length:Int) then if (decide ((t18.length:Int)>1))=true then (if (0:Int)≤0∧0<(t18.length:Int) then if (0:Int)≤wr .i64 (((lget t18 0).size:Int)+1)∧wr .i64 (((lget t18 0).size:Int)+1)≤(x0.size:Int)∧(x0.size:Int)≤(x0.size:Int) then if (!(decide ((t18.length:Int)>1)))=true then (some (({ f_A:=({ f_V:=(0:Int),f_B:=(Vector.replicate 16 (0:Int):(Vector Int 16)) }:S_api_Addr),f_Port:=(0:Int) }:S_api_Endpoint),5)) else (crawlwayref06_Parts (lget t18 0) 58>>=fun t32=>if (decide ((t32.length:Int)>1) != (bt x0 0==91))=true then (some (({ f_A:=({ f_V:=(0:Int),f_B:=(Vector.replicate 16 (0:Int):(Vector Int 16)) }:S_api_Addr),f_Port:=(0:Int) }:S_api_Endpoint),5)) else (crawlwayref10_Parse (lget t18 0)>>=fun t36=>if (t36.2 != 0)=true then (some (({ f_A:=({ f_V:=(0:Int),f_B:=(Vector.replicate 16 (0:Int):(Vector Int 16)) }:S_api_Addr),f_Port:=(0:Int) }:S_api_Endpoint),t36.2)) else (crawlwayref03_Read (x0.extract (Int.toNat (wr .i64 (((lget t18 0).size:Int)+1))) (Int.toNat (x0.size:Int))) 65535>>=fun t39=>if (t39.2 != 0)=true then (some (({ f_A:=({ f_V:=(0:Int),f_B:=(Vector.replicate 16 (0:Int):(Vector Int 16)) }:S_api_Addr),f_Port:=(0:Int) }:S_api_Endpoint),t39.2)) else (if (t39.1==0)=true then (some (({ f_A:=({ f_V:=(0:Int),f_B:=(Vector.replicate 16 (0:Int):(Vector Int 16)) }:S_api_Addr),f_Port:=(0:Int) }:S_api_Endpoint),6)) else (some ({ { ({ f_A:=({ f_V:=(0:Int),f_B:=(Vector.replicate 16 (0:Int):(Vector Int 16)) }:S_api_Addr),f_Port:=(0:Int) }:S_api_Endpoint) with f_A:=t36.1 } with f_Port:=wr .i64 t39.1 },0)))))) else none else none) else (if (!(decide ((t18.length:Int)>1)))=true then (some (({ f_A:=({ f_V:=(0:Int),f_B:=(Vector.replicate 16 (0:Int):(Vector Int 16)) }:S_api_Addr),f_Port:=(0:Int) }:S_api_Endpoint),5)) else (crawlwayref06_Parts (lget t18 0) 58>>=fun t43=>if (decide ((t43.length:Int)>1) != (bt x0 0==91))=true then (some (({ f_A:=({ f_V:=(0:Int),f_B:=(Vector.replicate 16 (0:Int):(Vector Int 16)) }:S_api_Addr),f_Port:=(0:Int) }:S_api_Endpoint),5)) else (crawlwayref10_Parse (lget t18 0)>>=fun t47=>if (t47.2 != 0)=true then (some (({ f_A:=({ f_V:=(0:Int),f_B:=(Vector.replicate 16 (0:Int):(Vector Int 16)) }:S_api_Addr),f_Port:=(0:Int) }:S_api_Endpoint),t47.2)) else (crawlwayref03_Read (⟨#[]⟩:ByteArray) 65535>>=fun t50=>if (t50.2 != 0)=true then (some (({ f_A:=({ f_V:=(0:Int),f_B:=(Vector.replicate 16 (0:Int):(Vector Int 16)) }:S_api_Addr),f_Port:=(0:Int) }:S_api_Endpoint),t50.2)) else (if (t50.1==0)=true then (some (({ f_A:=({ f_V:=(0:Int),f_B:=(Vector.replicate 16 (0:Int):(Vector Int 16)) }:S_api_Addr),f_Port:=(0:Int) }:S_api_Endpoint),6)) else (some ({ { ({ f_A:=({ f_V:=(0:Int),f_B:=(Vector.replicate 16 (0:Int):(Vector Int 16)) }:S_api_Addr),f_Port:=(0:Int) }:S_api_Endpoint) with f_A:=t47.1 } with f_Port:=wr .i64 t50.1 },0))))))) else none) else none) else (crawlwayref06_Parts x0 58>>=fun t53=>if (0:Int)≤0∧0<(t53.length:Int) then if (decide ((t53.length:Int)>1))=true then (if (0:Int)≤0∧0<(t53.length:Int) then if (0:Int)≤wr .i64 (((lget t53 0).size:Int)+1)∧wr .i64 (((lget t53 0).size:Int)+1)≤(x0.size:Int)∧(x0.size:Int)≤(x0.size:Int) then if (!(decide ((t53.length:Int)>1)))=true then (some (({ f_A:=({ f_V:=(0:Int),f_B:=(Vector.replicate 16 (0:Int):(Vector Int 16)) }:S_api_Addr),f_Port:=(0:Int) }:S_api_Endpoint),5)) else (crawlwayref06_Parts (lget t53 0) 58>>=fun t67=>if (decide ((t67.length:Int)>1) != false)=true then (some (({ f_A:=({ f_V:=(0:Int),f_B:=(Vector.replicate 16 (0:Int):(Vector Int 16)) }:S_api_Addr),f_Port:=(0:Int) }:S_api_Endpoint),5)) else (crawlwayref10_Parse (lget t53 0)>>=fun t71=>if (t71.2 != 0)=true then (some (({ f_A:=({ f_V:=(0:Int),f_B:=(Vector.replicate 16 (0:Int):(Vector Int 16)) }:S_api_Addr),f_Port:=(0:Int) }:S_api_Endpoint),t71.2)) else (crawlwayref03_Read (x0.extract (Int.toNat (wr .i64 (((lget t53 0).size:Int)+1))) (Int.toNat (x0.size:Int))) 65535>>=fun t74=>if (t74.2 != 0)=true then (some (({ f_A:=({ f_V:=(0:Int),f_B:=(Vector.replicate 16 (0:Int):(Vector Int 16)) }:S_api_Addr),f_Port:=(0:Int) }:S_api_Endpoint),t74.2)) else (if (t74.1==0)=true then (some (({ f_A:=({ f_V:=(0:Int),f_B:=(Vector.replicate 16 (0:Int):(Vector Int 16)) }:S_api_Addr),f_Port:=(0:Int) }:S_api_Endpoint),6)) else (some ({ { ({ f_A:=({ f_V:=(0:Int),f_B:=(Vector.replicate 16 (0:Int):(Vector Int 16)) }:S_api_Addr),f_Port:=(0:Int) }:S_api_Endpoint) with f_A:=t71.1 } with f_Port:=wr .i64 t74.1 },0)))))) else none else none) else (if (!(decide ((t53.length:Int)>1)))=true then (some (({ f_A:=({ f_V:=(0:Int),f_B:=(Vector.replicate 16 (0:Int):(Vector Int 16)) }:S_api_Addr),f_Port:=(0:Int) }:S_api_Endpoint),5)) else (crawlwayref06_Parts (lget t53 0) 58>>=fun t78=>if (decide ((t78.length:Int)>1) != false)=true then (some (({ f_A:=({ f_V:=(0:Int),f_B:=(Vector.replicate 16 (0:Int):(Vector Int 16)) }:S_api_Addr),f_Port:=(0:Int) }:S_api_Endpoint),5)) else (crawlwayref10_Parse (lget t53 0)>>=fun t82=>if (t82.2 != 0)=true then (some (({ f_A:=({ f_V:=(0:Int),f_B:=(Vector.replicate 16 (0:Int):(Vector Int 16)) }:S_api_Addr),f_Port:=(0:Int) }:S_api_Endpoint),t82.2)) else (crawlwayref03_Read (⟨#[]⟩:ByteArray) 65535>>=fun t85=>if (t85.2 != 0)=true then (some (({ f_A:=({ f_V:=(0:Int),f_B:=(Vector.replicate 16 (0:Int):(Vector Int 16)) }:S_api_Addr),f_Port:=(0:Int) }:S_api_Endpoint),t85.2)) else (if (t85.1==0)=true then (some (({ f_A:=({ f_V:=(0:Int),f_B:=(Vector.replicate 16 (0:Int):(Vector Int 16)) }:S_api_Addr),f_Port:=(0:Int) }:S_api_Endpoint),6)) else (some ({ { ({ f_A:=({ f_V:=(0:Int),f_B:=(Vector.replicate 16 (0:Int):(Vector Int 16)) }:S_api_Addr),f_Port:=(0:Int) }:S_api_Endpoint) with f_A:=t82.1 } with f_Port:=wr .i64 t85.1 },0))))))) else none)
set_option maxRecDepth 20000 in
theorem crawlwayref12_Parse_ok(x0:ByteArray)(r:S_api_Endpoint×Int)(hF:crawlwayref12_Parse x0=some r)(w:World) :
    Calls Tryz.prog 40 #[.string x0] w (fun e w'=>e=.returned (.tuple #[.agg (Cd.cs c_api_Endpoint r.1).toArray,.int .i64 r.2])∧Below w.heap.size w w'):=by
 unfold crawlwayref12_Parse at hF
 refine ce (l:=[.string x0]) func40 rfl rfl ?_
 refine at_start ?_
 refine sr ?_
 refine al (cs:=Cd.cs c_api_Endpoint zv7) zeroValue27 ?_
 intro b1
 refine aa (ns (aa (ns (aa (ns (aa (nwx [5,2,0] ?_)))))))
 refine am ?_
 refine aw (r_len_str underlying9 rfl) ?_
 refine aw (r_igtr rfl rfl) ?_
 refine am ?_
 obtain ⟨h2,hF⟩|⟨h2,hF⟩:=oi hF
 ·refine fx 16 h2 ?_
  refine gy ?_
  refine am ?_
  refine gy ?_
  obtain ⟨h3,hF⟩:=gd hF
  refine aw (r_index_str underlying9 rfl rfl h3) ?_
  refine gy ?_
  refine aw xq (aw xp (aa (nt (qs (sr (am (nwq [21,7,5,2,0] ?_)))))))
  obtain ⟨h4,hF⟩|⟨h4,hF⟩:=oi hF
  ·refine ct h4 ?_
   refine qr (am ?_)
   obtain ⟨h5,hF⟩:=gd hF
   refine aw (r_slice_str underlying9 rfl ⟨_,rfl⟩ rfl h5) ?_
   obtain ⟨t6,ht6,hF⟩:=bM hF
   refine cB func69 rfl (fun w hw=>crawlwayref12_cut_ok _ _ ht6 w) ?_
   refine am ?_
   refine aw xe (aw xe (aw xe (aa (aa (aa (nwq [7,6,5,4,2] ?_))))))
   refine qs (sr (am ?_))
   refine aw (r_not rfl) ?_
   refine am ?_
   obtain ⟨h7,hF⟩|⟨h7,hF⟩:=oi hF
   ·refine fx 47 h7 ?_
    refine gn ?_
    refine gn ?_
    refine gn ?_
    refine gn ?_
    refine gn ?_
    refine gn ?_
    refine aw xp (nwq [54,5,4,2] ?_)
    refine ct rfl ?_
    refine sr ?_
    refine aw (r_build_struct (zs:=Cd.cs c_api_Endpoint zv7) (cs:=Cd.cs c_api_Endpoint zv7) underlying27 zeroValue27 rfl (places_api_Endpoint_27) rfl rfl) ?_
    refine at_store (c:=c_api_Endpoint) (z:=zv7) .z lw sizeOf27 rfl rfl rfl ?_
    refine aa (nwq [3,2] ?_)
    refine rt ?_
    have K:=os hF
    subst K
    exact at_res2 rfl (res_cell (c:=c_api_Endpoint) (y:=zv7) rfl .z lw isAgg27 sizeOf27 (.inl rfl)) (res_tmp rfl) wb
   refine fx 47 h7 ?_
   refine gy ?_
   refine am ?_
   refine gy ?_
   obtain ⟨t8,ht8,hF⟩:=bM hF
   refine at_callO (c:=cStr) (e:=9) (ys:=t8) (V:=fun p cap=>.slice p t8.length cap) func56 rfl (by kernel_rfl) rfl rfl (fun w hw=>crawlwayref06_Parts_ok _ _ _ ht8 w) ?_
   intro p9 c10
   refine gy ?_
   refine aw (r_len_sl underlying38 rfl) ?_
   refine gy ?_
   refine aw (r_igtr rfl rfl) ?_
   refine gy ?_
   refine am ?_
   refine gy ?_
   refine aw (r_bool underlying4 rfl rfl (.inr rfl) rfl) ?_
   refine aw xp (qn (dz (wq [54,5,4,2] ?_)))
   refine tn ?_
   obtain ⟨h11,hF⟩|⟨h11,hF⟩:=oi hF
   ·refine ct h11 ?_
    refine sr ?_
    refine aw (r_build_struct (zs:=Cd.cs c_api_Endpoint zv7) (cs:=Cd.cs c_api_Endpoint zv7) underlying27 zeroValue27 rfl (places_api_Endpoint_27) rfl rfl) ?_
    refine at_store (c:=c_api_Endpoint) (z:=zv7) .z lw sizeOf27 rfl rfl rfl ?_
    refine aa (nwq [3,2] ?_)
    refine rt ?_
    have K:=os hF
    subst K
    exact at_res2 rfl (res_cell (c:=c_api_Endpoint) (y:=zv7) rfl .z lw isAgg27 sizeOf27 (.inl rfl)) (res_tmp rfl) wb
   refine cf h11 ?_
   refine sns (am ?_)
   obtain ⟨t12,ht12,hF⟩:=bM hF
   refine cB func70 rfl (fun w hw=>crawlwayref10_Parse_ok _ _ ht12 w) ?_
   refine am ?_
   refine aw xe (aw xe ?_)
   refine al (cs:=Cd.cs c_api_Addr zv1) zeroValue25 ?_
   intro b13
   refine at_store (c:=c_api_Addr) (z:=t12.1) .z lw sizeOf25 rfl rfl rfl ?_
   refine aa (nt (qs (sr (am (aw xn (nwq [62,10,9,5,2] ?_))))))
   obtain ⟨h14,hF⟩|⟨h14,hF⟩:=oi hF
   ·refine ct h14 ?_
    refine sr ?_
    refine aw (r_build_struct (zs:=Cd.cs c_api_Endpoint zv7) (cs:=Cd.cs c_api_Endpoint zv7) underlying27 zeroValue27 rfl (places_api_Endpoint_27) rfl rfl) ?_
    refine am ?_
    refine at_store (c:=c_api_Endpoint) (z:=zv7) (.s .z) lw sizeOf27 rfl rfl rfl ?_
    refine aa (qn (dz (wq [3,2] ?_)))
    refine tn (rt ?_)
    have K:=os hF
    subst K
    exact at_res2 rfl (res_cell (c:=c_api_Endpoint) (y:=zv7) rfl .z lw isAgg27 sizeOf27 (.inl rfl)) (res_tmp rfl) wb
   refine cf h14 ?_
   refine sns (am ?_)
   obtain ⟨t15,ht15,hF⟩:=bM hF
   refine at_call0 func43 rfl (by kernel_rfl) rfl rfl (fun w=>crawlwayref03_Read_ok _ _ _ ht15 w) ?_
   refine am ?_
   refine aw xe (aw xe (aa (aa (nt (qs (sr (am (aw xn ?_))))))))
   refine nwq [71,12,11,9,2] ?_
   obtain ⟨h16,hF⟩|⟨h16,hF⟩:=oi hF
   ·refine ct h16 ?_
    refine sr ?_
    refine aw (r_build_struct (zs:=Cd.cs c_api_Endpoint zv7) (cs:=Cd.cs c_api_Endpoint zv7) underlying27 zeroValue27 rfl (places_api_Endpoint_27) rfl rfl) ?_
    refine am ?_
    refine at_store (c:=c_api_Endpoint) (z:=zv7) (.s .z) lw sizeOf27 rfl rfl rfl ?_
    refine aa (qn (dz (wq [3,2] ?_)))
    refine tn (rt ?_)
    have K:=os hF
    subst K
    exact at_res2 rfl (res_cell (c:=c_api_Endpoint) (y:=zv7) rfl .z lw isAgg27 sizeOf27 (.inl rfl)) (res_tmp rfl) wb
   refine cf h16 ?_
   refine sn (qs (sr (am (aw xq (nwq [75,11,9,2] ?_)))))
   obtain ⟨h17,hF⟩|⟨h17,hF⟩:=oi hF
   ·refine ct h17 ?_
    refine sr ?_
    refine aw (r_build_struct (zs:=Cd.cs c_api_Endpoint zv7) (cs:=Cd.cs c_api_Endpoint zv7) underlying27 zeroValue27 rfl (places_api_Endpoint_27) rfl rfl) ?_
    refine at_store (c:=c_api_Endpoint) (z:=zv7) (.s .z) lw sizeOf27 rfl rfl rfl ?_
    refine aa (qn (dz (wq [3,2] ?_)))
    refine tn (rt ?_)
    have K:=os hF
    subst K
    exact at_res2 rfl (res_cell (c:=c_api_Endpoint) (y:=zv7) rfl .z lw isAgg27 sizeOf27 (.inl rfl)) (res_tmp rfl) wb
   refine cf h17 ?_
   refine sns ?_
   refine aw (r_load_aggc (c:=c_api_Addr) (z:=t12.1) isAgg25 sizeOf25 rfl (lens_cell .z lw)) ?_
   refine am ?_
   refine aw (r_conv underlying31 underlying3 rfl) ?_
   refine aw (r_build_struct (zs:=Cd.cs c_api_Endpoint zv7) (cs:=Cd.cs c_api_Endpoint ({ { zv7 with f_A:=t12.1 } with f_Port:=wr .i64 t15.1 })) underlying27 zeroValue27 rfl (places_api_Endpoint_27) rfl (fill_step (c:=c_api_Addr) (z:=t12.1) rfl (c_api_Endpoint_f_A zv7) rfl (fill_step (c:=(cInt .i64)) (z:=wr .i64 t15.1) rfl (c_api_Endpoint_f_Port ({ zv7 with f_A:=t12.1 })) rfl rfl))) ?_
   refine at_store (c:=c_api_Endpoint) (z:={ { zv7 with f_A:=t12.1 } with f_Port:=wr .i64 t15.1 }) (.s .z) lw sizeOf27 rfl rfl rfl ?_
   refine aa (qn (dz (wq [3,2] ?_)))
   refine tn (qt ?_)
   have K:=os hF
   subst K
   exact at_res2 rfl (res_cell (c:=c_api_Endpoint) (y:={ { zv7 with f_A:=t12.1 } with f_Port:=wr .i64 t15.1 }) rfl .z lw isAgg27 sizeOf27 (.inl rfl)) (res_tmp rfl) wb
  refine cf h4 ?_
  refine sr (am ?_)
  obtain ⟨t18,ht18,hF⟩:=bM hF
  refine at_callO (c:=cStr) (e:=9) (ys:=t18) (V:=fun p cap=>.slice p t18.length cap) func56 rfl (by kernel_rfl) rfl rfl (fun w hw=>crawlwayref06_Parts_ok _ _ _ ht18 w) ?_
  intro p19 c20
  refine aa (ns (am ?_))
  refine aw (r_len_sl underlying38 rfl) ?_
  refine aw (r_igtr rfl rfl) ?_
  refine aa (ns (am ?_))
  obtain ⟨h21,hF⟩:=gd hF
  refine at_pure (φ:=∃ b o,p19=some ⟨b,o,none⟩) (fun _ hw=>row_ptr (hw.own .z).row h21) ?_
  rintro ⟨b23,o24,hp22⟩
  refine aw (r_idx underlying38 sizeOf9 rfl rfl h21 hp22) ?_
  refine aw (r_load_cell isAgg9 rfl (fun _ hw=>row_cell0 (W:=fun w1=>w1=_) (fun w1 h=>by subst h;exact Below.refl _ _) (hw.own .z).row h21 hp22 rfl _ rfl)) ?_
  refine aa (ns (am (nwq [37,8,7,6,5,4,2,0] ?_)))
  obtain ⟨h25,hF⟩|⟨h25,hF⟩:=oi hF
  ·refine ct h25 ?_
   refine qr (am (am ?_))
   obtain ⟨h26,hF⟩:=gd hF
   refine at_pure (φ:=∃ b o,p19=some ⟨b,o,none⟩) (fun _ hw=>row_ptr (hw.own .z).row h26) ?_
   rintro ⟨b28,o29,hp27⟩
   refine aw (r_idx underlying38 sizeOf9 rfl rfl h26 hp27) ?_
   refine aw (r_load_cell isAgg9 rfl (fun _ hw=>row_cell0 (W:=fun w1=>w1=_) (fun w1 h=>by subst h;exact Below.refl _ _) (hw.own .z).row h26 hp27 rfl _ rfl)) ?_
   refine aw (r_len_str underlying9 rfl) ?_
   refine aw xa ?_
   obtain ⟨h30,hF⟩:=gd hF
   refine aw (r_slice_str underlying9 rfl ⟨_,rfl⟩ rfl h30) ?_
   refine aa (qn (dz (wq [7,6,5,4,2] ?_)))
   refine tn (qs (sr (am ?_)))
   refine aw (r_not rfl) ?_
   refine am ?_
   obtain ⟨h31,hF⟩|⟨h31,hF⟩:=oi hF
   ·refine fx 47 h31 ?_
    refine gn ?_
    refine gn ?_
    refine gn ?_
    refine gn ?_
    refine gn ?_
    refine gn ?_
    refine aw xp (nwq [54,5,4,2] ?_)
    refine ct rfl ?_
    refine sr ?_
    refine aw (r_build_struct (zs:=Cd.cs c_api_Endpoint zv7) (cs:=Cd.cs c_api_Endpoint zv7) underlying27 zeroValue27 rfl (places_api_Endpoint_27) rfl rfl) ?_
    refine at_store (c:=c_api_Endpoint) (z:=zv7) .z lw sizeOf27 rfl rfl rfl ?_
    refine aa (nwq [3,2] ?_)
    refine rt ?_
    have K:=os hF
    subst K
    exact at_res2 rfl (res_cell (c:=c_api_Endpoint) (y:=zv7) rfl .z lw isAgg27 sizeOf27 (.inl rfl)) (res_tmp rfl) wb
   refine fx 47 h31 ?_
   refine gy ?_
   refine am ?_
   refine gy ?_
   obtain ⟨t32,ht32,hF⟩:=bM hF
   refine at_callO (c:=cStr) (e:=9) (ys:=t32) (V:=fun p cap=>.slice p t32.length cap) func56 rfl (by kernel_rfl) rfl rfl (fun w hw=>crawlwayref06_Parts_ok _ _ _ ht32 w) ?_
   intro p33 c34
   refine gy ?_
   refine aw (r_len_sl underlying38 rfl) ?_
   refine gy ?_
   refine aw (r_igtr rfl rfl) ?_
   refine gy ?_
   refine am ?_
   refine gy ?_
   refine aw (r_bool underlying4 rfl rfl (.inr rfl) rfl) ?_
   refine aw xp (qn (dz (wq [54,5,4,2] ?_)))
   refine tn ?_
   obtain ⟨h35,hF⟩|⟨h35,hF⟩:=oi hF
   ·refine ct h35 ?_
    refine sr ?_
    refine aw (r_build_struct (zs:=Cd.cs c_api_Endpoint zv7) (cs:=Cd.cs c_api_Endpoint zv7) underlying27 zeroValue27 rfl (places_api_Endpoint_27) rfl rfl) ?_
    refine at_store (c:=c_api_Endpoint) (z:=zv7) .z lw sizeOf27 rfl rfl rfl ?_
    refine aa (nwq [3,2] ?_)
    refine rt ?_
    have K:=os hF
    subst K
    exact at_res2 rfl (res_cell (c:=c_api_Endpoint) (y:=zv7) rfl .z lw isAgg27 sizeOf27 (.inl rfl)) (res_tmp rfl) wb
   refine cf h35 ?_
   refine sns (am ?_)
   obtain ⟨t36,ht36,hF⟩:=bM hF
   refine cB func70 rfl (fun w hw=>crawlwayref10_Parse_ok _ _ ht36 w) ?_
   refine am ?_
   refine aw xe (aw xe ?_)
   refine al (cs:=Cd.cs c_api_Addr zv1) zeroValue25 ?_
   intro b37
   refine at_store (c:=c_api_Addr) (z:=t36.1) .z lw sizeOf25 rfl rfl rfl ?_
   refine aa (nt (qs (sr (am (aw xn (nwq [62,10,9,5,2] ?_))))))
   obtain ⟨h38,hF⟩|⟨h38,hF⟩:=oi hF
   ·refine ct h38 ?_
    refine sr ?_
    refine aw (r_build_struct (zs:=Cd.cs c_api_Endpoint zv7) (cs:=Cd.cs c_api_Endpoint zv7) underlying27 zeroValue27 rfl (places_api_Endpoint_27) rfl rfl) ?_
    refine am ?_
    refine at_store (c:=c_api_Endpoint) (z:=zv7) (.s .z) lw sizeOf27 rfl rfl rfl ?_
    refine aa (qn (dz (wq [3,2] ?_)))
    refine tn (rt ?_)
    have K:=os hF
    subst K
    exact at_res2 rfl (res_cell (c:=c_api_Endpoint) (y:=zv7) rfl .z lw isAgg27 sizeOf27 (.inl rfl)) (res_tmp rfl) wb
   refine cf h38 ?_
   refine sns (am ?_)
   obtain ⟨t39,ht39,hF⟩:=bM hF
   refine at_call0 func43 rfl (by kernel_rfl) rfl rfl (fun w=>crawlwayref03_Read_ok _ _ _ ht39 w) ?_
   refine am ?_
   refine aw xe (aw xe (aa (aa (nt (qs (sr (am (aw xn ?_))))))))
   refine nwq [71,12,11,9,2] ?_
   obtain ⟨h40,hF⟩|⟨h40,hF⟩:=oi hF
   ·refine ct h40 ?_
    refine sr ?_
    refine aw (r_build_struct (zs:=Cd.cs c_api_Endpoint zv7) (cs:=Cd.cs c_api_Endpoint zv7) underlying27 zeroValue27 rfl (places_api_Endpoint_27) rfl rfl) ?_
    refine am ?_
    refine at_store (c:=c_api_Endpoint) (z:=zv7) (.s .z) lw sizeOf27 rfl rfl rfl ?_
    refine aa (qn (dz (wq [3,2] ?_)))
    refine tn (rt ?_)
    have K:=os hF
    subst K
    exact at_res2 rfl (res_cell (c:=c_api_Endpoint) (y:=zv7) rfl .z lw isAgg27 sizeOf27 (.inl rfl)) (res_tmp rfl) wb
   refine cf h40 ?_
   refine sn (qs (sr (am (aw xq (nwq [75,11,9,2] ?_)))))
   obtain ⟨h41,hF⟩|⟨h41,hF⟩:=oi hF
   ·refine ct h41 ?_
    refine sr ?_
    refine aw (r_build_struct (zs:=Cd.cs c_api_Endpoint zv7) (cs:=Cd.cs c_api_Endpoint zv7) underlying27 zeroValue27 rfl (places_api_Endpoint_27) rfl rfl) ?_
    refine at_store (c:=c_api_Endpoint) (z:=zv7) (.s .z) lw sizeOf27 rfl rfl rfl ?_
    refine aa (qn (dz (wq [3,2] ?_)))
    refine tn (rt ?_)
    have K:=os hF
    subst K
    exact at_res2 rfl (res_cell (c:=c_api_Endpoint) (y:=zv7) rfl .z lw isAgg27 sizeOf27 (.inl rfl)) (res_tmp rfl) wb
   refine cf h41 ?_
   refine sns ?_
   refine aw (r_load_aggc (c:=c_api_Addr) (z:=t36.1) isAgg25 sizeOf25 rfl (lens_cell .z lw)) ?_
   refine am ?_
   refine aw (r_conv underlying31 underlying3 rfl) ?_
   refine aw (r_build_struct (zs:=Cd.cs c_api_Endpoint zv7) (cs:=Cd.cs c_api_Endpoint ({ { zv7 with f_A:=t36.1 } with f_Port:=wr .i64 t39.1 })) underlying27 zeroValue27 rfl (places_api_Endpoint_27) rfl (fill_step (c:=c_api_Addr) (z:=t36.1) rfl (c_api_Endpoint_f_A zv7) rfl (fill_step (c:=(cInt .i64)) (z:=wr .i64 t39.1) rfl (c_api_Endpoint_f_Port ({ zv7 with f_A:=t36.1 })) rfl rfl))) ?_
   refine at_store (c:=c_api_Endpoint) (z:={ { zv7 with f_A:=t36.1 } with f_Port:=wr .i64 t39.1 }) (.s .z) lw sizeOf27 rfl rfl rfl ?_
   refine aa (qn (dz (wq [3,2] ?_)))
   refine tn (qt ?_)
   have K:=os hF
   subst K
   exact at_res2 rfl (res_cell (c:=c_api_Endpoint) (y:={ { zv7 with f_A:=t36.1 } with f_Port:=wr .i64 t39.1 }) rfl .z lw isAgg27 sizeOf27 (.inl rfl)) (res_tmp rfl) wb
  refine cf h25 ?_
  refine sn (qs (sr (am ?_)))
  refine aw (r_not rfl) ?_
  refine am ?_
  obtain ⟨h42,hF⟩|⟨h42,hF⟩:=oi hF
  ·refine fx 47 h42 ?_
   refine gn ?_
   refine gn ?_
   refine gn ?_
   refine gn ?_
   refine gn ?_
   refine gn ?_
   refine aw xp (qn (dz (wq [54,5,4,2] ?_)))
   refine tn ?_
   refine ct rfl ?_
   refine sr ?_
   refine aw (r_build_struct (zs:=Cd.cs c_api_Endpoint zv7) (cs:=Cd.cs c_api_Endpoint zv7) underlying27 zeroValue27 rfl (places_api_Endpoint_27) rfl rfl) ?_
   refine at_store (c:=c_api_Endpoint) (z:=zv7) .z lw sizeOf27 rfl rfl rfl ?_
   refine aa (nwq [3,2] ?_)
   refine rt ?_
   have K:=os hF
   subst K
   exact at_res2 rfl (res_cell (c:=c_api_Endpoint) (y:=zv7) rfl .z lw isAgg27 sizeOf27 (.inl rfl)) (res_tmp rfl) wb
  refine fx 47 h42 ?_
  refine gy ?_
  refine am ?_
  refine gy ?_
  obtain ⟨t43,ht43,hF⟩:=bM hF
  refine at_callO (c:=cStr) (e:=9) (ys:=t43) (V:=fun p cap=>.slice p t43.length cap) func56 rfl (by kernel_rfl) rfl rfl (fun w hw=>crawlwayref06_Parts_ok _ _ _ ht43 w) ?_
  intro p44 c45
  refine gy ?_
  refine aw (r_len_sl underlying38 rfl) ?_
  refine gy ?_
  refine aw (r_igtr rfl rfl) ?_
  refine gy ?_
  refine am ?_
  refine gy ?_
  refine aw (r_bool underlying4 rfl rfl (.inr rfl) rfl) ?_
  refine aw xp (qn (dz (dz (wq [54,5,4,2] ?_))))
  refine tn ?_
  obtain ⟨h46,hF⟩|⟨h46,hF⟩:=oi hF
  ·refine ct h46 ?_
   refine sr ?_
   refine aw (r_build_struct (zs:=Cd.cs c_api_Endpoint zv7) (cs:=Cd.cs c_api_Endpoint zv7) underlying27 zeroValue27 rfl (places_api_Endpoint_27) rfl rfl) ?_
   refine at_store (c:=c_api_Endpoint) (z:=zv7) .z lw sizeOf27 rfl rfl rfl ?_
   refine aa (nwq [3,2] ?_)
   refine rt ?_
   have K:=os hF
   subst K
   exact at_res2 rfl (res_cell (c:=c_api_Endpoint) (y:=zv7) rfl .z lw isAgg27 sizeOf27 (.inl rfl)) (res_tmp rfl) wb
  refine cf h46 ?_
  refine sns (am ?_)
  obtain ⟨t47,ht47,hF⟩:=bM hF
  refine cB func70 rfl (fun w hw=>crawlwayref10_Parse_ok _ _ ht47 w) ?_
  refine am ?_
  refine aw xe (aw xe ?_)
  refine al (cs:=Cd.cs c_api_Addr zv1) zeroValue25 ?_
  intro b48
  refine at_store (c:=c_api_Addr) (z:=t47.1) .z lw sizeOf25 rfl rfl rfl ?_
  refine aa (nt (qs (sr (am (aw xn (nwq [62,10,9,5,2] ?_))))))
  obtain ⟨h49,hF⟩|⟨h49,hF⟩:=oi hF
  ·refine ct h49 ?_
   refine sr ?_
   refine aw (r_build_struct (zs:=Cd.cs c_api_Endpoint zv7) (cs:=Cd.cs c_api_Endpoint zv7) underlying27 zeroValue27 rfl (places_api_Endpoint_27) rfl rfl) ?_
   refine am ?_
   refine at_store (c:=c_api_Endpoint) (z:=zv7) (.s .z) lw sizeOf27 rfl rfl rfl ?_
   refine aa (qn (dz (wq [3,2] ?_)))
   refine tn (rt ?_)
   have K:=os hF
   subst K
   exact at_res2 rfl (res_cell (c:=c_api_Endpoint) (y:=zv7) rfl .z lw isAgg27 sizeOf27 (.inl rfl)) (res_tmp rfl) wb
  refine cf h49 ?_
  refine sns (am ?_)
  obtain ⟨t50,ht50,hF⟩:=bM hF
  refine at_call0 func43 rfl (by kernel_rfl) rfl rfl (fun w=>crawlwayref03_Read_ok _ _ _ ht50 w) ?_
  refine am ?_
  refine aw xe (aw xe (aa (aa (nt (qs (sr (am (aw xn ?_))))))))
  refine nwq [71,12,11,9,2] ?_
  obtain ⟨h51,hF⟩|⟨h51,hF⟩:=oi hF
  ·refine ct h51 ?_
   refine sr ?_
   refine aw (r_build_struct (zs:=Cd.cs c_api_Endpoint zv7) (cs:=Cd.cs c_api_Endpoint zv7) underlying27 zeroValue27 rfl (places_api_Endpoint_27) rfl rfl) ?_
   refine am ?_
   refine at_store (c:=c_api_Endpoint) (z:=zv7) (.s .z) lw sizeOf27 rfl rfl rfl ?_
   refine aa (qn (dz (wq [3,2] ?_)))
   refine tn (rt ?_)
   have K:=os hF
   subst K
   exact at_res2 rfl (res_cell (c:=c_api_Endpoint) (y:=zv7) rfl .z lw isAgg27 sizeOf27 (.inl rfl)) (res_tmp rfl) wb
  refine cf h51 ?_
  refine sn (qs (sr (am (aw xq (nwq [75,11,9,2] ?_)))))
  obtain ⟨h52,hF⟩|⟨h52,hF⟩:=oi hF
  ·refine ct h52 ?_
   refine sr ?_
   refine aw (r_build_struct (zs:=Cd.cs c_api_Endpoint zv7) (cs:=Cd.cs c_api_Endpoint zv7) underlying27 zeroValue27 rfl (places_api_Endpoint_27) rfl rfl) ?_
   refine at_store (c:=c_api_Endpoint) (z:=zv7) (.s .z) lw sizeOf27 rfl rfl rfl ?_
   refine aa (qn (dz (wq [3,2] ?_)))
   refine tn (rt ?_)
   have K:=os hF
   subst K
   exact at_res2 rfl (res_cell (c:=c_api_Endpoint) (y:=zv7) rfl .z lw isAgg27 sizeOf27 (.inl rfl)) (res_tmp rfl) wb
  refine cf h52 ?_
  refine sns ?_
  refine aw (r_load_aggc (c:=c_api_Addr) (z:=t47.1) isAgg25 sizeOf25 rfl (lens_cell .z lw)) ?_
  refine am ?_
  refine aw (r_conv underlying31 underlying3 rfl) ?_
  refine aw (r_build_struct (zs:=Cd.cs c_api_Endpoint zv7) (cs:=Cd.cs c_api_Endpoint ({ { zv7 with f_A:=t47.1 } with f_Port:=wr .i64 t50.1 })) underlying27 zeroValue27 rfl (places_api_Endpoint_27) rfl (fill_step (c:=c_api_Addr) (z:=t47.1) rfl (c_api_Endpoint_f_A zv7) rfl (fill_step (c:=(cInt .i64)) (z:=wr .i64 t50.1) rfl (c_api_Endpoint_f_Port ({ zv7 with f_A:=t47.1 })) rfl rfl))) ?_
  refine at_store (c:=c_api_Endpoint) (z:={ { zv7 with f_A:=t47.1 } with f_Port:=wr .i64 t50.1 }) (.s .z) lw sizeOf27 rfl rfl rfl ?_
  refine aa (qn (dz (wq [3,2] ?_)))
  refine tn (qt ?_)
  have K:=os hF
  subst K
  exact at_res2 rfl (res_cell (c:=c_api_Endpoint) (y:={ { zv7 with f_A:=t47.1 } with f_Port:=wr .i64 t50.1 }) rfl .z lw isAgg27 sizeOf27 (.inl rfl)) (res_tmp rfl) wb
 refine fx 16 h2 ?_
 refine gn ?_
 refine gn ?_
 refine gn ?_
 refine aw xp (aa (nt (qs (sr (am (nwq [21,7,5,2,0] ?_))))))
 refine cf rfl ?_
 refine sr (am ?_)
 obtain ⟨t53,ht53,hF⟩:=bM hF
 refine at_callO (c:=cStr) (e:=9) (ys:=t53) (V:=fun p cap=>.slice p t53.length cap) func56 rfl (by kernel_rfl) rfl rfl (fun w hw=>crawlwayref06_Parts_ok _ _ _ ht53 w) ?_
 intro p54 c55
 refine aa (ns (am ?_))
 refine aw (r_len_sl underlying38 rfl) ?_
 refine aw (r_igtr rfl rfl) ?_
 refine aa (ns (am ?_))
 obtain ⟨h56,hF⟩:=gd hF
 refine at_pure (φ:=∃ b o,p54=some ⟨b,o,none⟩) (fun _ hw=>row_ptr (hw.own .z).row h56) ?_
 rintro ⟨b58,o59,hp57⟩
 refine aw (r_idx underlying38 sizeOf9 rfl rfl h56 hp57) ?_
 refine aw (r_load_cell isAgg9 rfl (fun _ hw=>row_cell0 (W:=fun w1=>w1=_) (fun w1 h=>by subst h;exact Below.refl _ _) (hw.own .z).row h56 hp57 rfl _ rfl)) ?_
 refine aa (ns (am (nwq [37,8,7,6,5,4,2,0] ?_)))
 obtain ⟨h60,hF⟩|⟨h60,hF⟩:=oi hF
 ·refine ct h60 ?_
  refine qr (am (am ?_))
  obtain ⟨h61,hF⟩:=gd hF
  refine at_pure (φ:=∃ b o,p54=some ⟨b,o,none⟩) (fun _ hw=>row_ptr (hw.own .z).row h61) ?_
  rintro ⟨b63,o64,hp62⟩
  refine aw (r_idx underlying38 sizeOf9 rfl rfl h61 hp62) ?_
  refine aw (r_load_cell isAgg9 rfl (fun _ hw=>row_cell0 (W:=fun w1=>w1=_) (fun w1 h=>by subst h;exact Below.refl _ _) (hw.own .z).row h61 hp62 rfl _ rfl)) ?_
  refine aw (r_len_str underlying9 rfl) ?_
  refine aw xa ?_
  obtain ⟨h65,hF⟩:=gd hF
  refine aw (r_slice_str underlying9 rfl ⟨_,rfl⟩ rfl h65) ?_
  refine aa (qn (dz (wq [7,6,5,4,2] ?_)))
  refine tn (qs (sr (am ?_)))
  refine aw (r_not rfl) ?_
  refine am ?_
  obtain ⟨h66,hF⟩|⟨h66,hF⟩:=oi hF
  ·refine fx 47 h66 ?_
   refine gn ?_
   refine gn ?_
   refine gn ?_
   refine gn ?_
   refine gn ?_
   refine gn ?_
   refine aw xp (nwq [54,5,4,2] ?_)
   refine ct rfl ?_
   refine sr ?_
   refine aw (r_build_struct (zs:=Cd.cs c_api_Endpoint zv7) (cs:=Cd.cs c_api_Endpoint zv7) underlying27 zeroValue27 rfl (places_api_Endpoint_27) rfl rfl) ?_
   refine at_store (c:=c_api_Endpoint) (z:=zv7) .z lw sizeOf27 rfl rfl rfl ?_
   refine aa (nwq [3,2] ?_)
   refine rt ?_
   have K:=os hF
   subst K
   exact at_res2 rfl (res_cell (c:=c_api_Endpoint) (y:=zv7) rfl .z lw isAgg27 sizeOf27 (.inl rfl)) (res_tmp rfl) wb
  refine fx 47 h66 ?_
  refine gy ?_
  refine am ?_
  refine gy ?_
  obtain ⟨t67,ht67,hF⟩:=bM hF
  refine at_callO (c:=cStr) (e:=9) (ys:=t67) (V:=fun p cap=>.slice p t67.length cap) func56 rfl (by kernel_rfl) rfl rfl (fun w hw=>crawlwayref06_Parts_ok _ _ _ ht67 w) ?_
  intro p68 c69
  refine gy ?_
  refine aw (r_len_sl underlying38 rfl) ?_
  refine gy ?_
  refine aw (r_igtr rfl rfl) ?_
  refine gy ?_
  refine am ?_
  refine gy ?_
  refine aw (r_bool underlying4 rfl rfl (.inr rfl) rfl) ?_
  refine aw xp (qn (dz (wq [54,5,4,2] ?_)))
  refine tn ?_
  obtain ⟨h70,hF⟩|⟨h70,hF⟩:=oi hF
  ·refine ct h70 ?_
   refine sr ?_
   refine aw (r_build_struct (zs:=Cd.cs c_api_Endpoint zv7) (cs:=Cd.cs c_api_Endpoint zv7) underlying27 zeroValue27 rfl (places_api_Endpoint_27) rfl rfl) ?_
   refine at_store (c:=c_api_Endpoint) (z:=zv7) .z lw sizeOf27 rfl rfl rfl ?_
   refine aa (nwq [3,2] ?_)
   refine rt ?_
   have K:=os hF
   subst K
   exact at_res2 rfl (res_cell (c:=c_api_Endpoint) (y:=zv7) rfl .z lw isAgg27 sizeOf27 (.inl rfl)) (res_tmp rfl) wb
  refine cf h70 ?_
  refine sns (am ?_)
  obtain ⟨t71,ht71,hF⟩:=bM hF
  refine cB func70 rfl (fun w hw=>crawlwayref10_Parse_ok _ _ ht71 w) ?_
  refine am ?_
  refine aw xe (aw xe ?_)
  refine al (cs:=Cd.cs c_api_Addr zv1) zeroValue25 ?_
  intro b72
  refine at_store (c:=c_api_Addr) (z:=t71.1) .z lw sizeOf25 rfl rfl rfl ?_
  refine aa (nt (qs (sr (am (aw xn (nwq [62,10,9,5,2] ?_))))))
  obtain ⟨h73,hF⟩|⟨h73,hF⟩:=oi hF
  ·refine ct h73 ?_
   refine sr ?_
   refine aw (r_build_struct (zs:=Cd.cs c_api_Endpoint zv7) (cs:=Cd.cs c_api_Endpoint zv7) underlying27 zeroValue27 rfl (places_api_Endpoint_27) rfl rfl) ?_
   refine am ?_
   refine at_store (c:=c_api_Endpoint) (z:=zv7) (.s .z) lw sizeOf27 rfl rfl rfl ?_
   refine aa (qn (dz (wq [3,2] ?_)))
   refine tn (rt ?_)
   have K:=os hF
   subst K
   exact at_res2 rfl (res_cell (c:=c_api_Endpoint) (y:=zv7) rfl .z lw isAgg27 sizeOf27 (.inl rfl)) (res_tmp rfl) wb
  refine cf h73 ?_
  refine sns (am ?_)
  obtain ⟨t74,ht74,hF⟩:=bM hF
  refine at_call0 func43 rfl (by kernel_rfl) rfl rfl (fun w=>crawlwayref03_Read_ok _ _ _ ht74 w) ?_
  refine am ?_
  refine aw xe (aw xe (aa (aa (nt (qs (sr (am (aw xn ?_))))))))
  refine nwq [71,12,11,9,2] ?_
  obtain ⟨h75,hF⟩|⟨h75,hF⟩:=oi hF
  ·refine ct h75 ?_
   refine sr ?_
   refine aw (r_build_struct (zs:=Cd.cs c_api_Endpoint zv7) (cs:=Cd.cs c_api_Endpoint zv7) underlying27 zeroValue27 rfl (places_api_Endpoint_27) rfl rfl) ?_
   refine am ?_
   refine at_store (c:=c_api_Endpoint) (z:=zv7) (.s .z) lw sizeOf27 rfl rfl rfl ?_
   refine aa (qn (dz (wq [3,2] ?_)))
   refine tn (rt ?_)
   have K:=os hF
   subst K
   exact at_res2 rfl (res_cell (c:=c_api_Endpoint) (y:=zv7) rfl .z lw isAgg27 sizeOf27 (.inl rfl)) (res_tmp rfl) wb
  refine cf h75 ?_
  refine sn (qs (sr (am (aw xq (nwq [75,11,9,2] ?_)))))
  obtain ⟨h76,hF⟩|⟨h76,hF⟩:=oi hF
  ·refine ct h76 ?_
   refine sr ?_
   refine aw (r_build_struct (zs:=Cd.cs c_api_Endpoint zv7) (cs:=Cd.cs c_api_Endpoint zv7) underlying27 zeroValue27 rfl (places_api_Endpoint_27) rfl rfl) ?_
   refine at_store (c:=c_api_Endpoint) (z:=zv7) (.s .z) lw sizeOf27 rfl rfl rfl ?_
   refine aa (qn (dz (wq [3,2] ?_)))
   refine tn (rt ?_)
   have K:=os hF
   subst K
   exact at_res2 rfl (res_cell (c:=c_api_Endpoint) (y:=zv7) rfl .z lw isAgg27 sizeOf27 (.inl rfl)) (res_tmp rfl) wb
  refine cf h76 ?_
  refine sns ?_
  refine aw (r_load_aggc (c:=c_api_Addr) (z:=t71.1) isAgg25 sizeOf25 rfl (lens_cell .z lw)) ?_
  refine am ?_
  refine aw (r_conv underlying31 underlying3 rfl) ?_
  refine aw (r_build_struct (zs:=Cd.cs c_api_Endpoint zv7) (cs:=Cd.cs c_api_Endpoint ({ { zv7 with f_A:=t71.1 } with f_Port:=wr .i64 t74.1 })) underlying27 zeroValue27 rfl (places_api_Endpoint_27) rfl (fill_step (c:=c_api_Addr) (z:=t71.1) rfl (c_api_Endpoint_f_A zv7) rfl (fill_step (c:=(cInt .i64)) (z:=wr .i64 t74.1) rfl (c_api_Endpoint_f_Port ({ zv7 with f_A:=t71.1 })) rfl rfl))) ?_
  refine at_store (c:=c_api_Endpoint) (z:={ { zv7 with f_A:=t71.1 } with f_Port:=wr .i64 t74.1 }) (.s .z) lw sizeOf27 rfl rfl rfl ?_
  refine aa (qn (dz (wq [3,2] ?_)))
  refine tn (qt ?_)
  have K:=os hF
  subst K
  exact at_res2 rfl (res_cell (c:=c_api_Endpoint) (y:={ { zv7 with f_A:=t71.1 } with f_Port:=wr .i64 t74.1 }) rfl .z lw isAgg27 sizeOf27 (.inl rfl)) (res_tmp rfl) wb
 refine cf h60 ?_
 refine sn (qs (sr (am ?_)))
 refine aw (r_not rfl) ?_
 refine am ?_
 obtain ⟨h77,hF⟩|⟨h77,hF⟩:=oi hF
 ·refine fx 47 h77 ?_
  refine gn ?_
  refine gn ?_
  refine gn ?_
  refine gn ?_
  refine gn ?_
  refine gn ?_
  refine aw xp (qn (dz (wq [54,5,4,2] ?_)))
  refine tn ?_
  refine ct rfl ?_
  refine sr ?_
  refine aw (r_build_struct (zs:=Cd.cs c_api_Endpoint zv7) (cs:=Cd.cs c_api_Endpoint zv7) underlying27 zeroValue27 rfl (places_api_Endpoint_27) rfl rfl) ?_
  refine at_store (c:=c_api_Endpoint) (z:=zv7) .z lw sizeOf27 rfl rfl rfl ?_
  refine aa (nwq [3,2] ?_)
  refine rt ?_
  have K:=os hF
  subst K
  exact at_res2 rfl (res_cell (c:=c_api_Endpoint) (y:=zv7) rfl .z lw isAgg27 sizeOf27 (.inl rfl)) (res_tmp rfl) wb
 refine fx 47 h77 ?_
 refine gy ?_
 refine am ?_
 refine gy ?_
 obtain ⟨t78,ht78,hF⟩:=bM hF
 refine at_callO (c:=cStr) (e:=9) (ys:=t78) (V:=fun p cap=>.slice p t78.length cap) func56 rfl (by kernel_rfl) rfl rfl (fun w hw=>crawlwayref06_Parts_ok _ _ _ ht78 w) ?_
 intro p79 c80
 refine gy ?_
 refine aw (r_len_sl underlying38 rfl) ?_
 refine gy ?_
 refine aw (r_igtr rfl rfl) ?_
 refine gy ?_
 refine am ?_
 refine gy ?_
 refine aw (r_bool underlying4 rfl rfl (.inr rfl) rfl) ?_
 refine aw xp (qn (dz (dz (wq [54,5,4,2] ?_))))
 refine tn ?_
 obtain ⟨h81,hF⟩|⟨h81,hF⟩:=oi hF
 ·refine ct h81 ?_
  refine sr ?_
  refine aw (r_build_struct (zs:=Cd.cs c_api_Endpoint zv7) (cs:=Cd.cs c_api_Endpoint zv7) underlying27 zeroValue27 rfl (places_api_Endpoint_27) rfl rfl) ?_
  refine at_store (c:=c_api_Endpoint) (z:=zv7) .z lw sizeOf27 rfl rfl rfl ?_
  refine aa (nwq [3,2] ?_)
  refine rt ?_
  have K:=os hF
  subst K
  exact at_res2 rfl (res_cell (c:=c_api_Endpoint) (y:=zv7) rfl .z lw isAgg27 sizeOf27 (.inl rfl)) (res_tmp rfl) wb
 refine cf h81 ?_
 refine sns (am ?_)
 obtain ⟨t82,ht82,hF⟩:=bM hF
 refine cB func70 rfl (fun w hw=>crawlwayref10_Parse_ok _ _ ht82 w) ?_
 refine am ?_
 refine aw xe (aw xe ?_)
 refine al (cs:=Cd.cs c_api_Addr zv1) zeroValue25 ?_
 intro b83
 refine at_store (c:=c_api_Addr) (z:=t82.1) .z lw sizeOf25 rfl rfl rfl ?_
 refine aa (nt (qs (sr (am (aw xn (nwq [62,10,9,5,2] ?_))))))
 obtain ⟨h84,hF⟩|⟨h84,hF⟩:=oi hF
 ·refine ct h84 ?_
  refine sr ?_
  refine aw (r_build_struct (zs:=Cd.cs c_api_Endpoint zv7) (cs:=Cd.cs c_api_Endpoint zv7) underlying27 zeroValue27 rfl (places_api_Endpoint_27) rfl rfl) ?_
  refine am ?_
  refine at_store (c:=c_api_Endpoint) (z:=zv7) (.s .z) lw sizeOf27 rfl rfl rfl ?_
  refine aa (qn (dz (wq [3,2] ?_)))
  refine tn (rt ?_)
  have K:=os hF
  subst K
  exact at_res2 rfl (res_cell (c:=c_api_Endpoint) (y:=zv7) rfl .z lw isAgg27 sizeOf27 (.inl rfl)) (res_tmp rfl) wb
 refine cf h84 ?_
 refine sns (am ?_)
 obtain ⟨t85,ht85,hF⟩:=bM hF
 refine at_call0 func43 rfl (by kernel_rfl) rfl rfl (fun w=>crawlwayref03_Read_ok _ _ _ ht85 w) ?_
 refine am ?_
 refine aw xe (aw xe (aa (aa (nt (qs (sr (am (aw xn ?_))))))))
 refine nwq [71,12,11,9,2] ?_
 obtain ⟨h86,hF⟩|⟨h86,hF⟩:=oi hF
 ·refine ct h86 ?_
  refine sr ?_
  refine aw (r_build_struct (zs:=Cd.cs c_api_Endpoint zv7) (cs:=Cd.cs c_api_Endpoint zv7) underlying27 zeroValue27 rfl (places_api_Endpoint_27) rfl rfl) ?_
  refine am ?_
  refine at_store (c:=c_api_Endpoint) (z:=zv7) (.s .z) lw sizeOf27 rfl rfl rfl ?_
  refine aa (qn (dz (wq [3,2] ?_)))
  refine tn (rt ?_)
  have K:=os hF
  subst K
  exact at_res2 rfl (res_cell (c:=c_api_Endpoint) (y:=zv7) rfl .z lw isAgg27 sizeOf27 (.inl rfl)) (res_tmp rfl) wb
 refine cf h86 ?_
 refine sn (qs (sr (am (aw xq (nwq [75,11,9,2] ?_)))))
 obtain ⟨h87,hF⟩|⟨h87,hF⟩:=oi hF
 ·refine ct h87 ?_
  refine sr ?_
  refine aw (r_build_struct (zs:=Cd.cs c_api_Endpoint zv7) (cs:=Cd.cs c_api_Endpoint zv7) underlying27 zeroValue27 rfl (places_api_Endpoint_27) rfl rfl) ?_
  refine at_store (c:=c_api_Endpoint) (z:=zv7) (.s .z) lw sizeOf27 rfl rfl rfl ?_
  refine aa (qn (dz (wq [3,2] ?_)))
  refine tn (rt ?_)
  have K:=os hF
  subst K
  exact at_res2 rfl (res_cell (c:=c_api_Endpoint) (y:=zv7) rfl .z lw isAgg27 sizeOf27 (.inl rfl)) (res_tmp rfl) wb
 refine cf h87 ?_
 refine sns ?_
 refine aw (r_load_aggc (c:=c_api_Addr) (z:=t82.1) isAgg25 sizeOf25 rfl (lens_cell .z lw)) ?_
 refine am ?_
 refine aw (r_conv underlying31 underlying3 rfl) ?_
 refine aw (r_build_struct (zs:=Cd.cs c_api_Endpoint zv7) (cs:=Cd.cs c_api_Endpoint ({ { zv7 with f_A:=t82.1 } with f_Port:=wr .i64 t85.1 })) underlying27 zeroValue27 rfl (places_api_Endpoint_27) rfl (fill_step (c:=c_api_Addr) (z:=t82.1) rfl (c_api_Endpoint_f_A zv7) rfl (fill_step (c:=(cInt .i64)) (z:=wr .i64 t85.1) rfl (c_api_Endpoint_f_Port ({ zv7 with f_A:=t82.1 })) rfl rfl))) ?_
 refine at_store (c:=c_api_Endpoint) (z:={ { zv7 with f_A:=t82.1 } with f_Port:=wr .i64 t85.1 }) (.s .z) lw sizeOf27 rfl rfl rfl ?_
 refine aa (qn (dz (wq [3,2] ?_)))
 refine tn (qt ?_)
 have K:=os hF
 subst K
 exact at_res2 rfl (res_cell (c:=c_api_Endpoint) (y:={ { zv7 with f_A:=t82.1 } with f_Port:=wr .i64 t85.1 }) rfl .z lw isAgg27 sizeOf27 (.inl rfl)) (res_tmp rfl) wb
def script_key:Option (Unit) :=
 some ()
theorem script_key_ok(r:Unit)(hF:script_key =some r)(w:World) :
    Calls Tryz.prog 81 #[] w (fun e w'=>e=.returned (.agg #[.func (.func 136) #[] #[],.func (.func 137) #[] #[],.func (.func 138) #[] #[]])∧Below w.heap.size w w'):=by
 unfold script_key at hF
 refine ce (l:=[]) func81 rfl rfl ?_
 refine at_start ?_
 refine at_weak [] trivial ?_
 refine sr ?_
 refine al (cs:=zl21) zeroValue104 ?_
 intro b1
 refine nwx [0] ?_
 refine aw (r_build_struct (zs:=zl21) (cs:=zl10) underlying104 zeroValue104 rfl placesR_104 rfl rfl) ?_
 refine sa 3 (zl10) .z rfl rfl sizeOf104 rfl rfl rfl ?_
 refine nwq [0] ?_
 refine qt ?_
 have K:=os hF
 subst K
 exact at_res1 rfl (res_cell (c:=cK 3 (by decide)) (y:=ck 3 (zl10) rfl) rfl .z lw isAgg104 sizeOf104 (.inl rfl)) wb
def script_next:Option (Unit) :=
 some ()
theorem script_next_ok(r:Unit)(hF:script_next =some r)(w:World) :
    Calls Tryz.prog 82 #[] w (fun e w'=>e=.returned (.agg #[.func (.func 139) #[] #[],.func (.func 140) #[] #[],.func (.func 141) #[] #[]])∧Below w.heap.size w w'):=by
 unfold script_next at hF
 refine ce (l:=[]) func82 rfl rfl ?_
 refine at_start ?_
 refine at_weak [] trivial ?_
 refine sr ?_
 refine al (cs:=zl21) zeroValue104 ?_
 intro b1
 refine nwx [0] ?_
 refine aw (r_build_struct (zs:=zl21) (cs:=zl11) underlying104 zeroValue104 rfl placesR_104 rfl rfl) ?_
 refine sa 3 (zl11) .z rfl rfl sizeOf104 rfl rfl rfl ?_
 refine nwq [0] ?_
 refine qt ?_
 have K:=os hF
 subst K
 exact at_res1 rfl (res_cell (c:=cK 3 (by decide)) (y:=ck 3 (zl11) rfl) rfl .z lw isAgg104 sizeOf104 (.inl rfl)) wb
def crawlwayref49_Large.l0(x0:List S_api_Item)(i3:Int):Option (Ctl (Bool) (Unit)) :=
 if (decide (i3<(x0.length:Int)))=true then (if (0:Int)≤i3∧i3<(x0.length:Int) then if (decide ((((lget x0 i3).f_Bytes).length:Int)>6000))=true then (some (.ret true)) else (if (0:Int)≤i3∧i3<(x0.length:Int) then if (decide ((((lget x0 i3).f_Result).length:Int)>7000))=true then (some (.ret true)) else (crawlwayref49_Large.l0 x0 (wr .i64 (i3+1))) else none) else none) else (some (.nx ()))
 partial_fixpoint
def crawlwayref49_Large(x0:List S_api_Item):Option (Bool) :=
 if (decide ((x0.length:Int)>40))=true then (some true) else (crawlwayref49_Large.l0 x0 0>>=fun q2=>match q2 with | .ret r'=>some r' | .nx sq2=>(some false))
theorem crawlwayref49_Large_ok(x0:List S_api_Item)(p0_:Option Addr)(c0_:Nat)(r:Bool)(hF:crawlwayref49_Large x0=some r)(w:World)(hr0:NR_api_Item w p0_ c0_ x0) :
    Calls Tryz.prog 10 #[.slice p0_ x0.length c0_] w (fun e w'=>e=.returned (.bool r)∧w'=w):=by
 unfold crawlwayref49_Large at hF
 refine ce (l:=[.slice p0_ x0.length c0_]) func10 rfl rfl ?_
 refine sr (aa (nt (qs (sr (am ?_)))))
 refine aw (r_len_sl underlying35 rfl) ?_
 refine aw (r_igtr rfl rfl) ?_
 refine nwq [6,0] ?_
 obtain ⟨h1,hF⟩|⟨h1,hF⟩:=oi hF
 ·refine ct h1 ?_
  refine sr (aa (nwq [2] ?_))
  refine rt ?_
  have K:=os hF
  subst K
  exact r1 (fun w1 hw=>⟨rfl,hw⟩)
 refine cf h1 ?_
 refine sn (qs (sr (aa (nwq [3,0] ?_))))
 refine qb ?_
 obtain ⟨q2,hq2,hF⟩:=bM hF
 refine wq [3,0] ?_
 refine at_loop_r (B:=0) (r:=r) (q:=q2) (A:=fun (_:Unit) Y=>At 29 [] (fun w'=>w'=w) Y) ?_ ?_
 ·intro K
  refine crawlwayref49_Large.l0.partial_correctness x0 (motive:=fun i3 x=>KR (fun (_:Unit) Y=>At 29 [] (fun w'=>w'=w) Y) _ 0 r x→Round (fun Y=>At 29 [(0,.slice p0_ x0.length c0_),(3,.int .i64 i3)] (fun w'=>w'=w) Y) _ _ _) ?_ _ _ hq2 K
  ·clear K hF
   intro g ih i3 x hF K
   refine at_round ?_
   refine qs (sr (am (am ?_)))
   refine aw (r_len_sl underlying35 rfl) ?_
   refine aw xl (nwq [10,3,0] ?_)
   obtain ⟨h4,hF⟩|⟨h4,hF⟩:=oi hF
   ·refine ct h4 ?_
    refine sn (qs ?_)
    refine qb ?_
    refine sr (am (am ?_))
    obtain ⟨h5,hF⟩:=gd hF
    obtain ⟨zs9,hz10,hr11,hn12⟩:=id hr0
    obtain ⟨b7,o8,hp6⟩:=row_ptr hr11 (zidx hz10 h5)
    obtain ⟨g13,hg14⟩:=zget hz10 i3
    refine aw (r_idx underlying35 sizeOf33 rfl rfl h5 hp6) ?_
    refine fa 1 underlying33 rfl sizeOf22 ?_
    refine aw (r_load_cell isAgg22 rfl (nlens0 (c':=cHd) (y:=⟨g13.1.1,List.length ((lget x0 i3).f_Bytes),g13.1.2⟩) (fun w1 (h:w1=w)=>by subst h;exact Below.refl _ _) hr11 (zidx hz10 h5) hp6 hg14 (c_api_Item_f_Bytes g13 (lget x0 i3)) rfl)) ?_
    refine aw (r_len_sl underlying22 rfl) ?_
    refine aw (r_igtr rfl rfl) ?_
    refine am ?_
    obtain ⟨h15,hF⟩|⟨h15,hF⟩:=oi hF
    ·refine fx 20 h15 ?_
     refine gn ?_
     refine gn ?_
     refine gn ?_
     refine gn ?_
     refine gn ?_
     refine gn ?_
     refine gn ?_
     refine aw xp (nwq [28,3,0] ?_)
     refine ct rfl ?_
     refine sr (aa (nwq [2] ?_))
     refine qt ?_
     refine br (tr (tr (br (tr ?_))))
     obtain rfl:=os hF
     subst K
     exact r1 (fun w1 hw=>⟨rfl,hw⟩)
    refine fx 20 h15 ?_
    refine gy ?_
    refine am ?_
    refine gy ?_
    refine am ?_
    refine gy ?_
    obtain ⟨h16,hF⟩:=gd hF
    obtain ⟨zs20,hz21,hr22,hn23⟩:=id hr0
    obtain ⟨b18,o19,hp17⟩:=row_ptr hr22 (zidx hz21 h16)
    obtain ⟨g24,hg25⟩:=zget hz21 i3
    refine aw (r_idx underlying35 sizeOf33 rfl rfl h16 hp17) ?_
    refine gy ?_
    refine fa 20 underlying33 rfl sizeOf22 ?_
    refine gy ?_
    refine aw (r_load_cell isAgg22 rfl (nlens0 (c':=cHd) (y:=⟨g24.2.1,List.length ((lget x0 i3).f_Result),g24.2.2⟩) (fun w1 (h:w1=w)=>by subst h;exact Below.refl _ _) hr22 (zidx hz21 h16) hp17 hg25 (c_api_Item_f_Result g24 (lget x0 i3)) rfl)) ?_
    refine gy ?_
    refine aw (r_len_sl underlying22 rfl) ?_
    refine gy ?_
    refine aw (r_igtr rfl rfl) ?_
    refine aw xp (nwq [28,3,0] ?_)
    obtain ⟨h26,hF⟩|⟨h26,hF⟩:=oi hF
    ·refine ct h26 ?_
     refine sr (aa (nwq [2] ?_))
     refine qt ?_
     refine br (tr (tr (br (tr ?_))))
     obtain rfl:=os hF
     subst K
     exact r1 (fun w1 hw=>⟨rfl,hw⟩)
    refine cf h26 ?_
    refine at_skip ?_
    refine bm ?_
    refine qr (am (aw xa (aa (nwq [3,0] ?_))))
    exact at_weak_k (ih _ _ hF K) ⟨rfl,rfl,trivial⟩
   refine cf h4 ?_
   refine at_exit ?_
   refine te (te ?_)
   obtain rfl:=os hF
   exact at_weak_k K trivial
 cases q2 with
 | ret r'=>exact os hF
 | nx sq2 =>
  skip
  refine at_blk_same ?_
  refine tn (sr (aa (nwq [2] ?_)))
  refine qt ?_
  have K:=os hF
  subst K
  exact r1 (fun w1 hw=>⟨rfl,hw⟩)
def bytes_Equal(x0:List Int)(x1:List Int):Option (Bool) :=
 some (seq (⟨(unb x0).toArray⟩:ByteArray) (⟨(unb x1).toArray⟩:ByteArray))
theorem bytes_Equal_ok(x0:List Int)(p0_:Option Addr)(c0_:Nat)(x1:List Int)(p1_:Option Addr)(c1_:Nat)(r:Bool)(hF:bytes_Equal x0 x1=some r)(w:World)(hr0:Row (cInt .u8) w p0_ c0_ x0)(hr1:Row (cInt .u8) w p1_ c1_ x1) :
    Calls Tryz.prog 34 #[.slice p0_ x0.length c0_,.slice p1_ x1.length c1_] w (fun e w'=>e=.returned (.bool r)∧w'=w):=by
 unfold bytes_Equal at hF
 refine ce (l:=[.slice p0_ x0.length c0_,.slice p1_ x1.length c1_]) func34 rfl rfl ?_
 refine sr (aa (ns (am ?_)))
 refine aw (r_conv_bytes (xs:=(x0:List Int)) underlying22 underlying5 underlying9 rfl (fun w1 hw=>(hr0.below (by subst hw;exact Below.refl _ _)))) ?_
 refine am ?_
 refine aw (r_conv_bytes (xs:=(x1:List Int)) underlying22 underlying5 underlying9 rfl (fun w1 hw=>(hr1.below (by subst hw;exact Below.refl _ _)))) ?_
 refine aw (r_seql rfl rfl) ?_
 refine aa (nwq [4] ?_)
 refine qt ?_
 have K:=os hF
 subst K
 exact r1 (fun w1 hw=>⟨rfl,hw⟩)
def crawlwayref01_Same.l0(x0:List Int)(x1:List Int)(i3:Int):Option (Ctl (Bool) (Unit)) :=
 if (decide (i3<(x0.length:Int)))=true then (if (0:Int)≤i3∧i3<(x0.length:Int) then if (0:Int)≤i3∧i3<(x1.length:Int) then if (lget x0 i3 != lget x1 i3)=true then (some (.ret false)) else (crawlwayref01_Same.l0 x0 x1 (wr .i64 (i3+1))) else none else none) else (some (.nx ()))
 partial_fixpoint
def crawlwayref01_Same(x0:List Int)(x1:List Int):Option (Bool) :=
 if ((x0.length:Int) != (x1.length:Int))=true then (some false) else (crawlwayref01_Same.l0 x0 x1 0>>=fun q2=>match q2 with | .ret r'=>some r' | .nx sq2=>(some true))
theorem crawlwayref01_Same_ok(x0:List Int)(p0_:Option Addr)(c0_:Nat)(x1:List Int)(p1_:Option Addr)(c1_:Nat)(r:Bool)(hF:crawlwayref01_Same x0 x1=some r)(w:World)(hr0:Row (cInt .u8) w p0_ c0_ x0)(hr1:Row (cInt .u8) w p1_ c1_ x1) :
    Calls Tryz.prog 35 #[.slice p0_ x0.length c0_,.slice p1_ x1.length c1_] w (fun e w'=>e=.returned (.bool r)∧Below w.heap.size w w'):=by
 unfold crawlwayref01_Same at hF
 refine ce (l:=[.slice p0_ x0.length c0_,.slice p1_ x1.length c1_]) func35 rfl rfl ?_
 refine at_start ?_
 refine sr (aa (nt (qs (sr (am ?_)))))
 refine aw (r_len_sl underlying22 rfl) ?_
 refine am ?_
 refine aw (r_len_sl underlying22 rfl) ?_
 refine aw xn (nwq [10,1,0] ?_)
 obtain ⟨h1,hF⟩|⟨h1,hF⟩:=oi hF
 ·refine ct h1 ?_
  refine sr (aa (nwq [4] ?_))
  refine rt ?_
  have K:=os hF
  subst K
  exact r1 wb
 refine cf h1 ?_
 refine sn (qs (sr (aa (nwq [5,1,0] ?_))))
 refine qb ?_
 obtain ⟨q2,hq2,hF⟩:=bM hF
 refine wq [5,1,0] ?_
 refine at_loop_r (B:=0) (r:=r) (q:=q2) (A:=fun (_:Unit) Y=>At 26 [] (Wd w []) Y) ?_ ?_
 ·intro K
  refine crawlwayref01_Same.l0.partial_correctness x0 x1 (motive:=fun i3 x=>KR (fun (_:Unit) Y=>At 26 [] (Wd w []) Y) _ 0 r x→Round (fun Y=>At 26 [(0,.slice p0_ x0.length c0_),(1,.slice p1_ x1.length c1_),(5,.int .i64 i3)] (Wd w []) Y) _ _ _) ?_ _ _ hq2 K
  ·clear K hF
   intro g ih i3 x hF K
   refine at_round ?_
   refine qs (sr (am (am ?_)))
   refine aw (r_len_sl underlying22 rfl) ?_
   refine aw xl (nwq [14,5,1,0] ?_)
   obtain ⟨h4,hF⟩|⟨h4,hF⟩:=oi hF
   ·refine ct h4 ?_
    refine sn (qs ?_)
    refine qb ?_
    refine qs ?_
    refine at_draw (by kernel_rfl) (by kernel_rfl) (fun _ h=>h.drew) ?_
    refine atq_val rfl rfl rfl (r_move rfl) ?_
    refine atq_val rfl rfl rfl (r_move rfl) ?_
    obtain ⟨h5,hF⟩:=gd hF
    obtain ⟨b7,o8,hp6⟩:=row_ptr hr0 h5
    refine atq_val rfl rfl rfl (r_idx underlying22 sizeOf5 rfl rfl h5 hp6) ?_
    refine atq_val rfl rfl rfl (r_load_cell isAgg5 rfl (row_cell0 (fun _ h=>h.below) hr0 h5 hp6 rfl)) ?_
    refine atq_val rfl rfl rfl (r_move rfl) ?_
    refine atq_val rfl rfl rfl (r_move rfl) ?_
    obtain ⟨h9,hF⟩:=gd hF
    obtain ⟨b11,o12,hp10⟩:=row_ptr hr1 h9
    refine atq_val rfl rfl rfl (r_idx underlying22 sizeOf5 rfl rfl h9 hp10) ?_
    refine atq_val rfl rfl rfl (r_load_cell isAgg5 rfl (row_cell0 (fun _ h=>h.below) hr1 h9 hp10 rfl)) ?_
    refine atq_val rfl rfl rfl (r_ineq rfl rfl) ?_
    refine atq_nil ?_
    refine wq [25,5,1,0] ?_
    refine tn ?_
    obtain ⟨h13,hF⟩|⟨h13,hF⟩:=oi hF
    ·refine ct h13 ?_
     refine sr (aa (nwq [4] ?_))
     refine qt ?_
     refine br (tr (tr (br (tr ?_))))
     obtain rfl:=os hF
     subst K
     exact r1 wb
    refine cf h13 ?_
    refine at_skip ?_
    refine bm ?_
    refine qr (am (aw xa (aa (nwq [5,1,0] ?_))))
    exact at_weak_k (ih _ _ hF K) ⟨rfl,rfl,rfl,trivial⟩
   refine cf h4 ?_
   refine at_exit ?_
   refine te (te ?_)
   obtain rfl:=os hF
   exact at_weak_k K trivial
 cases q2 with
 | ret r'=>exact os hF
 | nx sq2 =>
  skip
  refine at_blk_same ?_
  refine tn (sr (aa (nwq [4] ?_)))
  refine qt ?_
  have K:=os hF
  subst K
  exact r1 wb
def crawlwayref50_Same(x0:S_api_Item)(x1:S_api_Item):Option (Bool) :=
 if (x0.f_Kind==x1.f_Kind)=true then (crawlwayref01_Same x0.f_Bytes x1.f_Bytes>>=fun t4=>if t4=true then (if (decide (x0.f_From=x1.f_From))=true then (crawlwayref01_Same x0.f_Result x1.f_Result>>=fun t7=>if t7=true then (if (x0.f_Ok==x1.f_Ok)=true then (if (decide (x0.f_Key=x1.f_Key))=true then (if (x0.f_Local==x1.f_Local)=true then (if (x0.f_Remote==x1.f_Remote)=true then (some (x0.f_Next==x1.f_Next)) else (some false)) else (some false)) else (some false)) else (some false)) else (some false)) else (some false)) else (some false)) else (some false)
theorem crawlwayref50_Same_ok(g0_:G_api_Item)(x0:S_api_Item)(g1_:G_api_Item)(x1:S_api_Item)(r:Bool)(hF:crawlwayref50_Same x0 x1=some r)(w:World)(hn0:N_api_Item w (g0_,x0))(hn1:N_api_Item w (g1_,x1)) :
    Calls Tryz.prog 13 #[.agg (Cd.cs c_api_Item (g0_,x0)).toArray,.agg (Cd.cs c_api_Item (g1_,x1)).toArray] w (fun e w'=>e=.returned (.bool r)∧Below w.heap.size w w'):=by
 unfold crawlwayref50_Same at hF
 refine ce (l:=[.agg (Cd.cs c_api_Item (g0_,x0)).toArray,.agg (Cd.cs c_api_Item (g1_,x1)).toArray]) func13 rfl rfl ?_
 refine at_start ?_
 refine sr ?_
 refine at_box (cs:=Cd.cs c_api_Item (g0_,x0)) rfl rfl rfl ?_
 intro b1
 refine at_box (cs:=Cd.cs c_api_Item (g1_,x1)) rfl rfl rfl ?_
 intro b2
 refine aa (nwx [3,2] ?_)
 refine fa 0 underlying33 rfl sizeOf3 ?_
 refine aw (r_load_cell isAgg3 rfl (lens_cell0 (c:=(cInt .i64)) (y:=x0.f_Kind) (.s .z) (c_api_Item_f_Kind g0_ x0) rfl)) ?_
 refine fa 0 underlying33 rfl sizeOf3 ?_
 refine aw (r_load_cell isAgg3 rfl (lens_cell0 (c:=(cInt .i64)) (y:=x1.f_Kind) .z (c_api_Item_f_Kind g1_ x1) rfl)) ?_
 refine aw xq (am ?_)
 obtain ⟨h3,hF⟩|⟨h3,hF⟩:=oi hF
 ·refine fx 10 h3 ?_
  refine gy ?_
  refine fa 1 underlying33 rfl sizeOf22 ?_
  refine gy ?_
  refine aw (r_load_cell isAgg22 rfl (lens_cell0 (c:=cHd) (y:=⟨g0_.1.1,List.length x0.f_Bytes,g0_.1.2⟩) (.s .z) (c_api_Item_f_Bytes g0_ x0) rfl)) ?_
  refine gy ?_
  refine fa 1 underlying33 rfl sizeOf22 ?_
  refine gy ?_
  refine aw (r_load_cell isAgg22 rfl (lens_cell0 (c:=cHd) (y:=⟨g1_.1.1,List.length x1.f_Bytes,g1_.1.2⟩) .z (c_api_Item_f_Bytes g1_ x1) rfl)) ?_
  refine gy ?_
  obtain ⟨t4,ht4,hF⟩:=bM hF
  refine cB func35 rfl (fun w hw=>crawlwayref01_Same_ok _ _ _ _ _ _ _ ht4 w ((hn0).1.below hw.below) ((hn1).1.below hw.below)) ?_
  refine aw xp (am ?_)
  obtain ⟨h5,hF⟩|⟨h5,hF⟩:=oi hF
  ·refine fx 17 h5 ?_
   refine gy ?_
   refine fa 2 underlying33 rfl sizeOf27 ?_
   refine gy ?_
   refine aw (r_load_aggc (c:=c_api_Endpoint) (z:=x0.f_From) isAgg27 sizeOf27 rfl (lens_cell (.s .z) (c_api_Item_f_From g0_ x0))) ?_
   refine gy ?_
   refine fa 2 underlying33 rfl sizeOf27 ?_
   refine gy ?_
   refine aw (r_load_aggc (c:=c_api_Endpoint) (z:=x1.f_From) isAgg27 sizeOf27 rfl (lens_cell .z (c_api_Item_f_From g1_ x1))) ?_
   refine gy ?_
   refine aw (r_eqagg (c:=c_api_Endpoint) (a:=x0.f_From) (b:=x1.f_From) (eq_api_Endpoint_27) rfl Tryz.eqGuardType27 rfl rfl (.inl rfl) rfl) ?_
   refine aw xp (am ?_)
   obtain ⟨h6,hF⟩|⟨h6,hF⟩:=oi hF
   ·refine fx 24 h6 ?_
    refine gy ?_
    refine fa 20 underlying33 rfl sizeOf22 ?_
    refine gy ?_
    refine aw (r_load_cell isAgg22 rfl (lens_cell0 (c:=cHd) (y:=⟨g0_.2.1,List.length x0.f_Result,g0_.2.2⟩) (.s .z) (c_api_Item_f_Result g0_ x0) rfl)) ?_
    refine gy ?_
    refine fa 20 underlying33 rfl sizeOf22 ?_
    refine gy ?_
    refine aw (r_load_cell isAgg22 rfl (lens_cell0 (c:=cHd) (y:=⟨g1_.2.1,List.length x1.f_Result,g1_.2.2⟩) .z (c_api_Item_f_Result g1_ x1) rfl)) ?_
    refine gy ?_
    obtain ⟨t7,ht7,hF⟩:=bM hF
    refine cB func35 rfl (fun w hw=>crawlwayref01_Same_ok _ _ _ _ _ _ _ ht7 w ((hn0).2.below hw.below) ((hn1).2.below hw.below)) ?_
    refine aw xp (am ?_)
    obtain ⟨h8,hF⟩|⟨h8,hF⟩:=oi hF
    ·refine fx 31 h8 ?_
     refine gy ?_
     refine fa 21 underlying33 rfl sizeOf4 ?_
     refine gy ?_
     refine aw (r_load_cell isAgg4 rfl (lens_cell0 (c:=cBool) (y:=x0.f_Ok) (.s .z) (c_api_Item_f_Ok g0_ x0) rfl)) ?_
     refine gy ?_
     refine fa 21 underlying33 rfl sizeOf4 ?_
     refine gy ?_
     refine aw (r_load_cell isAgg4 rfl (lens_cell0 (c:=cBool) (y:=x1.f_Ok) .z (c_api_Item_f_Ok g1_ x1) rfl)) ?_
     refine gy ?_
     refine aw (r_bool underlying4 rfl rfl (.inl rfl) rfl) ?_
     refine aw xp (am ?_)
     obtain ⟨h9,hF⟩|⟨h9,hF⟩:=oi hF
     ·refine fx 38 h9 ?_
      refine gy ?_
      refine fa 22 underlying33 rfl sizeOf29 ?_
      refine gy ?_
      refine aw (r_load_aggc (c:=(cVec (cInt .u8) 32 (by decide))) (z:=x0.f_Key) isAgg29 sizeOf29 rfl (lens_cell (.s .z) (c_api_Item_f_Key g0_ x0))) ?_
      refine gy ?_
      refine fa 22 underlying33 rfl sizeOf29 ?_
      refine gy ?_
      refine aw (r_load_aggc (c:=(cVec (cInt .u8) 32 (by decide))) (z:=x1.f_Key) isAgg29 sizeOf29 rfl (lens_cell .z (c_api_Item_f_Key g1_ x1))) ?_
      refine gy ?_
      refine aw (r_eqagg (c:=(cVec (cInt .u8) 32 (by decide))) (a:=x0.f_Key) (b:=x1.f_Key) (eqs_vec underlying29 infoT5 sizeOf5 isAgg5 (.inr rfl) (eqs_int underlying5)) rfl Tryz.eqGuardType29 rfl rfl (.inl rfl) rfl) ?_
      refine aw xp (am ?_)
      obtain ⟨h10,hF⟩|⟨h10,hF⟩:=oi hF
      ·refine fx 45 h10 ?_
       refine gy ?_
       refine fa 54 underlying33 rfl sizeOf30 ?_
       refine gy ?_
       refine aw (r_load_cell isAgg30 rfl (lens_cell0 (c:=(cInt .u32)) (y:=x0.f_Local) (.s .z) (c_api_Item_f_Local g0_ x0) rfl)) ?_
       refine gy ?_
       refine fa 54 underlying33 rfl sizeOf30 ?_
       refine gy ?_
       refine aw (r_load_cell isAgg30 rfl (lens_cell0 (c:=(cInt .u32)) (y:=x1.f_Local) .z (c_api_Item_f_Local g1_ x1) rfl)) ?_
       refine gy ?_
       refine aw xq (aw xp (am ?_))
       obtain ⟨h11,hF⟩|⟨h11,hF⟩:=oi hF
       ·refine fx 52 h11 ?_
        refine gy ?_
        refine fa 55 underlying33 rfl sizeOf30 ?_
        refine gy ?_
        refine aw (r_load_cell isAgg30 rfl (lens_cell0 (c:=(cInt .u32)) (y:=x0.f_Remote) (.s .z) (c_api_Item_f_Remote g0_ x0) rfl)) ?_
        refine gy ?_
        refine fa 55 underlying33 rfl sizeOf30 ?_
        refine gy ?_
        refine aw (r_load_cell isAgg30 rfl (lens_cell0 (c:=(cInt .u32)) (y:=x1.f_Remote) .z (c_api_Item_f_Remote g1_ x1) rfl)) ?_
        refine gy ?_
        refine aw xq (aw xp (am ?_))
        obtain ⟨h12,hF⟩|⟨h12,hF⟩:=oi hF
        ·refine fx 59 h12 ?_
         refine gy ?_
         refine fa 56 underlying33 rfl sizeOf31 ?_
         refine gy ?_
         refine aw (r_load_cell isAgg31 rfl (lens_cell0 (c:=(cInt .u64)) (y:=x0.f_Next) (.s .z) (c_api_Item_f_Next g0_ x0) rfl)) ?_
         refine gy ?_
         refine fa 56 underlying33 rfl sizeOf31 ?_
         refine gy ?_
         refine aw (r_load_cell isAgg31 rfl (lens_cell0 (c:=(cInt .u64)) (y:=x1.f_Next) .z (c_api_Item_f_Next g1_ x1) rfl)) ?_
         refine gy ?_
         refine aw xq (aw xp (aa (qn (dz (dz (wq [4] ?_))))))
         refine tn (qt ?_)
         have K:=os hF
         subst K
         exact r1 wb
        refine fx 59 h12 ?_
        refine gn ?_
        refine gn ?_
        refine gn ?_
        refine gn ?_
        refine gn ?_
        refine aw xp (aa (qn (dz (dz (wq [4] ?_)))))
        refine tn (qt ?_)
        have K:=os hF
        subst K
        exact r1 wb
       refine fx 52 h11 ?_
       refine gn ?_
       refine gn ?_
       refine gn ?_
       refine gn ?_
       refine gn ?_
       refine aw xp (am ?_)
       refine gn ?_
       refine gn ?_
       refine gn ?_
       refine gn ?_
       refine gn ?_
       refine aw xp (aa (qn (dz (dz (wq [4] ?_)))))
       refine tn (qt ?_)
       have K:=os hF
       subst K
       exact r1 wb
      refine fx 45 h10 ?_
      refine gn ?_
      refine gn ?_
      refine gn ?_
      refine gn ?_
      refine gn ?_
      refine aw xp (am ?_)
      refine gn ?_
      refine gn ?_
      refine gn ?_
      refine gn ?_
      refine gn ?_
      refine aw xp (am ?_)
      refine gn ?_
      refine gn ?_
      refine gn ?_
      refine gn ?_
      refine gn ?_
      refine aw xp (aa (qn (dz (dz (wq [4] ?_)))))
      refine tn (qt ?_)
      have K:=os hF
      subst K
      exact r1 wb
     refine fx 38 h9 ?_
     refine gn ?_
     refine gn ?_
     refine gn ?_
     refine gn ?_
     refine gn ?_
     refine aw xp (am ?_)
     refine gn ?_
     refine gn ?_
     refine gn ?_
     refine gn ?_
     refine gn ?_
     refine aw xp (am ?_)
     refine gn ?_
     refine gn ?_
     refine gn ?_
     refine gn ?_
     refine gn ?_
     refine aw xp (am ?_)
     refine gn ?_
     refine gn ?_
     refine gn ?_
     refine gn ?_
     refine gn ?_
     refine aw xp (aa (qn (dz (dz (wq [4] ?_)))))
     refine tn (qt ?_)
     have K:=os hF
     subst K
     exact r1 wb
    refine fx 31 h8 ?_
    refine gn ?_
    refine gn ?_
    refine gn ?_
    refine gn ?_
    refine gn ?_
    refine aw xp (am ?_)
    refine gn ?_
    refine gn ?_
    refine gn ?_
    refine gn ?_
    refine gn ?_
    refine aw xp (am ?_)
    refine gn ?_
    refine gn ?_
    refine gn ?_
    refine gn ?_
    refine gn ?_
    refine aw xp (am ?_)
    refine gn ?_
    refine gn ?_
    refine gn ?_
    refine gn ?_
    refine gn ?_
    refine aw xp (am ?_)
    refine gn ?_
    refine gn ?_
    refine gn ?_
    refine gn ?_
    refine gn ?_
    refine aw xp (aa (qn (dz (dz (wq [4] ?_)))))
    refine tn (qt ?_)
    have K:=os hF
    subst K
    exact r1 wb
   refine fx 24 h6 ?_
   refine gn ?_
   refine gn ?_
   refine gn ?_
   refine gn ?_
   refine gn ?_
   refine aw xp (am ?_)
   refine gn ?_
   refine gn ?_
   refine gn ?_
   refine gn ?_
   refine gn ?_
   refine aw xp (am ?_)
   refine gn ?_
   refine gn ?_
   refine gn ?_
   refine gn ?_
   refine gn ?_
   refine aw xp (am ?_)
   refine gn ?_
   refine gn ?_
   refine gn ?_
   refine gn ?_
   refine gn ?_
   refine aw xp (am ?_)
   refine gn ?_
   refine gn ?_
   refine gn ?_
   refine gn ?_
   refine gn ?_
   refine aw xp (am ?_)
   refine gn ?_
   refine gn ?_
   refine gn ?_
   refine gn ?_
   refine gn ?_
   refine aw xp (aa (qn (dz (dz (wq [4] ?_)))))
   refine tn (qt ?_)
   have K:=os hF
   subst K
   exact r1 wb
  refine fx 17 h5 ?_
  refine gn ?_
  refine gn ?_
  refine gn ?_
  refine gn ?_
  refine gn ?_
  refine aw xp (am ?_)
  refine gn ?_
  refine gn ?_
  refine gn ?_
  refine gn ?_
  refine gn ?_
  refine aw xp (am ?_)
  refine gn ?_
  refine gn ?_
  refine gn ?_
  refine gn ?_
  refine gn ?_
  refine aw xp (am ?_)
  refine gn ?_
  refine gn ?_
  refine gn ?_
  refine gn ?_
  refine gn ?_
  refine aw xp (am ?_)
  refine gn ?_
  refine gn ?_
  refine gn ?_
  refine gn ?_
  refine gn ?_
  refine aw xp (am ?_)
  refine gn ?_
  refine gn ?_
  refine gn ?_
  refine gn ?_
  refine gn ?_
  refine aw xp (am ?_)
  refine gn ?_
  refine gn ?_
  refine gn ?_
  refine gn ?_
  refine gn ?_
  refine aw xp (aa (qn (dz (dz (wq [4] ?_)))))
  refine tn (qt ?_)
  have K:=os hF
  subst K
  exact r1 wb
 refine fx 10 h3 ?_
 refine gn ?_
 refine gn ?_
 refine gn ?_
 refine gn ?_
 refine gn ?_
 refine aw xp (am ?_)
 refine gn ?_
 refine gn ?_
 refine gn ?_
 refine gn ?_
 refine gn ?_
 refine aw xp (am ?_)
 refine gn ?_
 refine gn ?_
 refine gn ?_
 refine gn ?_
 refine gn ?_
 refine aw xp (am ?_)
 refine gn ?_
 refine gn ?_
 refine gn ?_
 refine gn ?_
 refine gn ?_
 refine aw xp (am ?_)
 refine gn ?_
 refine gn ?_
 refine gn ?_
 refine gn ?_
 refine gn ?_
 refine aw xp (am ?_)
 refine gn ?_
 refine gn ?_
 refine gn ?_
 refine gn ?_
 refine gn ?_
 refine aw xp (am ?_)
 refine gn ?_
 refine gn ?_
 refine gn ?_
 refine gn ?_
 refine gn ?_
 refine aw xp (am ?_)
 refine gn ?_
 refine gn ?_
 refine gn ?_
 refine gn ?_
 refine gn ?_
 refine aw xp (aa (qn (dz (dz (wq [4] ?_)))))
 refine tn (qt ?_)
 have K:=os hF
 subst K
 exact r1 wb
def script_Same(x0:S_api_Item)(x1:S_api_Item):Option (Bool) :=
 if (x0.f_Kind==x1.f_Kind)=true then (bytes_Equal x0.f_Bytes x1.f_Bytes>>=fun t4=>if t4=true then (if (decide (x0.f_From=x1.f_From))=true then (bytes_Equal x0.f_Result x1.f_Result>>=fun t7=>if t7=true then (if (x0.f_Ok==x1.f_Ok)=true then (if (decide (x0.f_Key=x1.f_Key))=true then (if (x0.f_Local==x1.f_Local)=true then (if (x0.f_Remote==x1.f_Remote)=true then (some (x0.f_Next==x1.f_Next)) else (some false)) else (some false)) else (some false)) else (some false)) else (some false)) else (some false)) else (some false)) else (some false)
theorem script_Same_ok(g0_:G_api_Item)(x0:S_api_Item)(g1_:G_api_Item)(x1:S_api_Item)(r:Bool)(hF:script_Same x0 x1=some r)(w:World)(hn0:N_api_Item w (g0_,x0))(hn1:N_api_Item w (g1_,x1)) :
    Calls Tryz.prog 12 #[.agg (Cd.cs c_api_Item (g0_,x0)).toArray,.agg (Cd.cs c_api_Item (g1_,x1)).toArray] w (fun e w'=>e=.returned (.bool r)∧Below w.heap.size w w'):=by
 unfold script_Same at hF
 refine ce (l:=[.agg (Cd.cs c_api_Item (g0_,x0)).toArray,.agg (Cd.cs c_api_Item (g1_,x1)).toArray]) func12 rfl rfl ?_
 refine at_start ?_
 refine sr ?_
 refine at_box (cs:=Cd.cs c_api_Item (g0_,x0)) rfl rfl rfl ?_
 intro b1
 refine at_box (cs:=Cd.cs c_api_Item (g1_,x1)) rfl rfl rfl ?_
 intro b2
 refine aa (nwx [3,2] ?_)
 refine fa 0 underlying33 rfl sizeOf3 ?_
 refine aw (r_load_cell isAgg3 rfl (lens_cell0 (c:=(cInt .i64)) (y:=x0.f_Kind) (.s .z) (c_api_Item_f_Kind g0_ x0) rfl)) ?_
 refine fa 0 underlying33 rfl sizeOf3 ?_
 refine aw (r_load_cell isAgg3 rfl (lens_cell0 (c:=(cInt .i64)) (y:=x1.f_Kind) .z (c_api_Item_f_Kind g1_ x1) rfl)) ?_
 refine aw xq (am ?_)
 obtain ⟨h3,hF⟩|⟨h3,hF⟩:=oi hF
 ·refine fx 10 h3 ?_
  refine gy ?_
  refine fa 1 underlying33 rfl sizeOf22 ?_
  refine gy ?_
  refine aw (r_load_cell isAgg22 rfl (lens_cell0 (c:=cHd) (y:=⟨g0_.1.1,List.length x0.f_Bytes,g0_.1.2⟩) (.s .z) (c_api_Item_f_Bytes g0_ x0) rfl)) ?_
  refine gy ?_
  refine fa 1 underlying33 rfl sizeOf22 ?_
  refine gy ?_
  refine aw (r_load_cell isAgg22 rfl (lens_cell0 (c:=cHd) (y:=⟨g1_.1.1,List.length x1.f_Bytes,g1_.1.2⟩) .z (c_api_Item_f_Bytes g1_ x1) rfl)) ?_
  refine gy ?_
  obtain ⟨t4,ht4,hF⟩:=bM hF
  refine cB func34 rfl (fun w hw=>callB_of_call0 (bytes_Equal_ok _ _ _ _ _ _ _ ht4 w ((hn0).1.below hw.below) ((hn1).1.below hw.below))) ?_
  refine aw xp (am ?_)
  obtain ⟨h5,hF⟩|⟨h5,hF⟩:=oi hF
  ·refine fx 17 h5 ?_
   refine gy ?_
   refine fa 2 underlying33 rfl sizeOf27 ?_
   refine gy ?_
   refine aw (r_load_aggc (c:=c_api_Endpoint) (z:=x0.f_From) isAgg27 sizeOf27 rfl (lens_cell (.s .z) (c_api_Item_f_From g0_ x0))) ?_
   refine gy ?_
   refine fa 2 underlying33 rfl sizeOf27 ?_
   refine gy ?_
   refine aw (r_load_aggc (c:=c_api_Endpoint) (z:=x1.f_From) isAgg27 sizeOf27 rfl (lens_cell .z (c_api_Item_f_From g1_ x1))) ?_
   refine gy ?_
   refine aw (r_eqagg (c:=c_api_Endpoint) (a:=x0.f_From) (b:=x1.f_From) (eq_api_Endpoint_27) rfl Tryz.eqGuardType27 rfl rfl (.inl rfl) rfl) ?_
   refine aw xp (am ?_)
   obtain ⟨h6,hF⟩|⟨h6,hF⟩:=oi hF
   ·refine fx 24 h6 ?_
    refine gy ?_
    refine fa 20 underlying33 rfl sizeOf22 ?_
    refine gy ?_
    refine aw (r_load_cell isAgg22 rfl (lens_cell0 (c:=cHd) (y:=⟨g0_.2.1,List.length x0.f_Result,g0_.2.2⟩) (.s .z) (c_api_Item_f_Result g0_ x0) rfl)) ?_
    refine gy ?_
    refine fa 20 underlying33 rfl sizeOf22 ?_
    refine gy ?_
    refine aw (r_load_cell isAgg22 rfl (lens_cell0 (c:=cHd) (y:=⟨g1_.2.1,List.length x1.f_Result,g1_.2.2⟩) .z (c_api_Item_f_Result g1_ x1) rfl)) ?_
    refine gy ?_
    obtain ⟨t7,ht7,hF⟩:=bM hF
    refine cB func34 rfl (fun w hw=>callB_of_call0 (bytes_Equal_ok _ _ _ _ _ _ _ ht7 w ((hn0).2.below hw.below) ((hn1).2.below hw.below))) ?_
    refine aw xp (am ?_)
    obtain ⟨h8,hF⟩|⟨h8,hF⟩:=oi hF
    ·refine fx 31 h8 ?_
     refine gy ?_
     refine fa 21 underlying33 rfl sizeOf4 ?_
     refine gy ?_
     refine aw (r_load_cell isAgg4 rfl (lens_cell0 (c:=cBool) (y:=x0.f_Ok) (.s .z) (c_api_Item_f_Ok g0_ x0) rfl)) ?_
     refine gy ?_
     refine fa 21 underlying33 rfl sizeOf4 ?_
     refine gy ?_
     refine aw (r_load_cell isAgg4 rfl (lens_cell0 (c:=cBool) (y:=x1.f_Ok) .z (c_api_Item_f_Ok g1_ x1) rfl)) ?_
     refine gy ?_
     refine aw (r_bool underlying4 rfl rfl (.inl rfl) rfl) ?_
     refine aw xp (am ?_)
     obtain ⟨h9,hF⟩|⟨h9,hF⟩:=oi hF
     ·refine fx 38 h9 ?_
      refine gy ?_
      refine fa 22 underlying33 rfl sizeOf29 ?_
      refine gy ?_
      refine aw (r_load_aggc (c:=(cVec (cInt .u8) 32 (by decide))) (z:=x0.f_Key) isAgg29 sizeOf29 rfl (lens_cell (.s .z) (c_api_Item_f_Key g0_ x0))) ?_
      refine gy ?_
      refine fa 22 underlying33 rfl sizeOf29 ?_
      refine gy ?_
      refine aw (r_load_aggc (c:=(cVec (cInt .u8) 32 (by decide))) (z:=x1.f_Key) isAgg29 sizeOf29 rfl (lens_cell .z (c_api_Item_f_Key g1_ x1))) ?_
      refine gy ?_
      refine aw (r_eqagg (c:=(cVec (cInt .u8) 32 (by decide))) (a:=x0.f_Key) (b:=x1.f_Key) (eqs_vec underlying29 infoT5 sizeOf5 isAgg5 (.inr rfl) (eqs_int underlying5)) rfl Tryz.eqGuardType29 rfl rfl (.inl rfl) rfl) ?_
      refine aw xp (am ?_)
      obtain ⟨h10,hF⟩|⟨h10,hF⟩:=oi hF
      ·refine fx 45 h10 ?_
       refine gy ?_
       refine fa 54 underlying33 rfl sizeOf30 ?_
       refine gy ?_
       refine aw (r_load_cell isAgg30 rfl (lens_cell0 (c:=(cInt .u32)) (y:=x0.f_Local) (.s .z) (c_api_Item_f_Local g0_ x0) rfl)) ?_
       refine gy ?_
       refine fa 54 underlying33 rfl sizeOf30 ?_
       refine gy ?_
       refine aw (r_load_cell isAgg30 rfl (lens_cell0 (c:=(cInt .u32)) (y:=x1.f_Local) .z (c_api_Item_f_Local g1_ x1) rfl)) ?_
       refine gy ?_
       refine aw xq (aw xp (am ?_))
       obtain ⟨h11,hF⟩|⟨h11,hF⟩:=oi hF
       ·refine fx 52 h11 ?_
        refine gy ?_
        refine fa 55 underlying33 rfl sizeOf30 ?_
        refine gy ?_
        refine aw (r_load_cell isAgg30 rfl (lens_cell0 (c:=(cInt .u32)) (y:=x0.f_Remote) (.s .z) (c_api_Item_f_Remote g0_ x0) rfl)) ?_
        refine gy ?_
        refine fa 55 underlying33 rfl sizeOf30 ?_
        refine gy ?_
        refine aw (r_load_cell isAgg30 rfl (lens_cell0 (c:=(cInt .u32)) (y:=x1.f_Remote) .z (c_api_Item_f_Remote g1_ x1) rfl)) ?_
        refine gy ?_
        refine aw xq (aw xp (am ?_))
        obtain ⟨h12,hF⟩|⟨h12,hF⟩:=oi hF
        ·refine fx 59 h12 ?_
         refine gy ?_
         refine fa 56 underlying33 rfl sizeOf31 ?_
         refine gy ?_
         refine aw (r_load_cell isAgg31 rfl (lens_cell0 (c:=(cInt .u64)) (y:=x0.f_Next) (.s .z) (c_api_Item_f_Next g0_ x0) rfl)) ?_
         refine gy ?_
         refine fa 56 underlying33 rfl sizeOf31 ?_
         refine gy ?_
         refine aw (r_load_cell isAgg31 rfl (lens_cell0 (c:=(cInt .u64)) (y:=x1.f_Next) .z (c_api_Item_f_Next g1_ x1) rfl)) ?_
         refine gy ?_
         refine aw xq (aw xp (aa (qn (dz (dz (wq [4] ?_))))))
         refine tn (qt ?_)
         have K:=os hF
         subst K
         exact r1 wb
        refine fx 59 h12 ?_
        refine gn ?_
        refine gn ?_
        refine gn ?_
        refine gn ?_
        refine gn ?_
        refine aw xp (aa (qn (dz (dz (wq [4] ?_)))))
        refine tn (qt ?_)
        have K:=os hF
        subst K
        exact r1 wb
       refine fx 52 h11 ?_
       refine gn ?_
       refine gn ?_
       refine gn ?_
       refine gn ?_
       refine gn ?_
       refine aw xp (am ?_)
       refine gn ?_
       refine gn ?_
       refine gn ?_
       refine gn ?_
       refine gn ?_
       refine aw xp (aa (qn (dz (dz (wq [4] ?_)))))
       refine tn (qt ?_)
       have K:=os hF
       subst K
       exact r1 wb
      refine fx 45 h10 ?_
      refine gn ?_
      refine gn ?_
      refine gn ?_
      refine gn ?_
      refine gn ?_
      refine aw xp (am ?_)
      refine gn ?_
      refine gn ?_
      refine gn ?_
      refine gn ?_
      refine gn ?_
      refine aw xp (am ?_)
      refine gn ?_
      refine gn ?_
      refine gn ?_
      refine gn ?_
      refine gn ?_
      refine aw xp (aa (qn (dz (dz (wq [4] ?_)))))
      refine tn (qt ?_)
      have K:=os hF
      subst K
      exact r1 wb
     refine fx 38 h9 ?_
     refine gn ?_
     refine gn ?_
     refine gn ?_
     refine gn ?_
     refine gn ?_
     refine aw xp (am ?_)
     refine gn ?_
     refine gn ?_
     refine gn ?_
     refine gn ?_
     refine gn ?_
     refine aw xp (am ?_)
     refine gn ?_
     refine gn ?_
     refine gn ?_
     refine gn ?_
     refine gn ?_
     refine aw xp (am ?_)
     refine gn ?_
     refine gn ?_
     refine gn ?_
     refine gn ?_
     refine gn ?_
     refine aw xp (aa (qn (dz (dz (wq [4] ?_)))))
     refine tn (qt ?_)
     have K:=os hF
     subst K
     exact r1 wb
    refine fx 31 h8 ?_
    refine gn ?_
    refine gn ?_
    refine gn ?_
    refine gn ?_
    refine gn ?_
    refine aw xp (am ?_)
    refine gn ?_
    refine gn ?_
    refine gn ?_
    refine gn ?_
    refine gn ?_
    refine aw xp (am ?_)
    refine gn ?_
    refine gn ?_
    refine gn ?_
    refine gn ?_
    refine gn ?_
    refine aw xp (am ?_)
    refine gn ?_
    refine gn ?_
    refine gn ?_
    refine gn ?_
    refine gn ?_
    refine aw xp (am ?_)
    refine gn ?_
    refine gn ?_
    refine gn ?_
    refine gn ?_
    refine gn ?_
    refine aw xp (aa (qn (dz (dz (wq [4] ?_)))))
    refine tn (qt ?_)
    have K:=os hF
    subst K
    exact r1 wb
   refine fx 24 h6 ?_
   refine gn ?_
   refine gn ?_
   refine gn ?_
   refine gn ?_
   refine gn ?_
   refine aw xp (am ?_)
   refine gn ?_
   refine gn ?_
   refine gn ?_
   refine gn ?_
   refine gn ?_
   refine aw xp (am ?_)
   refine gn ?_
   refine gn ?_
   refine gn ?_
   refine gn ?_
   refine gn ?_
   refine aw xp (am ?_)
   refine gn ?_
   refine gn ?_
   refine gn ?_
   refine gn ?_
   refine gn ?_
   refine aw xp (am ?_)
   refine gn ?_
   refine gn ?_
   refine gn ?_
   refine gn ?_
   refine gn ?_
   refine aw xp (am ?_)
   refine gn ?_
   refine gn ?_
   refine gn ?_
   refine gn ?_
   refine gn ?_
   refine aw xp (aa (qn (dz (dz (wq [4] ?_)))))
   refine tn (qt ?_)
   have K:=os hF
   subst K
   exact r1 wb
  refine fx 17 h5 ?_
  refine gn ?_
  refine gn ?_
  refine gn ?_
  refine gn ?_
  refine gn ?_
  refine aw xp (am ?_)
  refine gn ?_
  refine gn ?_
  refine gn ?_
  refine gn ?_
  refine gn ?_
  refine aw xp (am ?_)
  refine gn ?_
  refine gn ?_
  refine gn ?_
  refine gn ?_
  refine gn ?_
  refine aw xp (am ?_)
  refine gn ?_
  refine gn ?_
  refine gn ?_
  refine gn ?_
  refine gn ?_
  refine aw xp (am ?_)
  refine gn ?_
  refine gn ?_
  refine gn ?_
  refine gn ?_
  refine gn ?_
  refine aw xp (am ?_)
  refine gn ?_
  refine gn ?_
  refine gn ?_
  refine gn ?_
  refine gn ?_
  refine aw xp (am ?_)
  refine gn ?_
  refine gn ?_
  refine gn ?_
  refine gn ?_
  refine gn ?_
  refine aw xp (aa (qn (dz (dz (wq [4] ?_)))))
  refine tn (qt ?_)
  have K:=os hF
  subst K
  exact r1 wb
 refine fx 10 h3 ?_
 refine gn ?_
 refine gn ?_
 refine gn ?_
 refine gn ?_
 refine gn ?_
 refine aw xp (am ?_)
 refine gn ?_
 refine gn ?_
 refine gn ?_
 refine gn ?_
 refine gn ?_
 refine aw xp (am ?_)
 refine gn ?_
 refine gn ?_
 refine gn ?_
 refine gn ?_
 refine gn ?_
 refine aw xp (am ?_)
 refine gn ?_
 refine gn ?_
 refine gn ?_
 refine gn ?_
 refine gn ?_
 refine aw xp (am ?_)
 refine gn ?_
 refine gn ?_
 refine gn ?_
 refine gn ?_
 refine gn ?_
 refine aw xp (am ?_)
 refine gn ?_
 refine gn ?_
 refine gn ?_
 refine gn ?_
 refine gn ?_
 refine aw xp (am ?_)
 refine gn ?_
 refine gn ?_
 refine gn ?_
 refine gn ?_
 refine gn ?_
 refine aw xp (am ?_)
 refine gn ?_
 refine gn ?_
 refine gn ?_
 refine gn ?_
 refine gn ?_
 refine aw xp (aa (qn (dz (dz (wq [4] ?_)))))
 refine tn (qt ?_)
 have K:=os hF
 subst K
 exact r1 wb
def script_word(x0:List Int):Option (ByteArray) :=
 if ((x0.length:Int)==0)=true then (some (⟨#[45]⟩)) else (hexes_Encode x0>>=fun t2=>some t2)
theorem script_word_ok(x0:List Int)(p0_:Option Addr)(c0_:Nat)(r:ByteArray)(hF:script_word x0=some r)(w:World)(hr0:Row (cInt .u8) w p0_ c0_ x0) :
    Calls Tryz.prog 126 #[.slice p0_ x0.length c0_] w (fun e w'=>e=.returned (.string r)∧Below w.heap.size w w'):=by
 unfold script_word at hF
 refine ce (l:=[.slice p0_ x0.length c0_]) func126 rfl rfl ?_
 refine at_start ?_
 refine sr (aa (nt (qs (sr (am ?_)))))
 refine aw (r_len_sl underlying22 rfl) ?_
 refine aw xq (nwq [5,0] ?_)
 obtain ⟨h1,hF⟩|⟨h1,hF⟩:=oi hF
 ·refine ct h1 ?_
  refine sr (aa (nwq [2] ?_))
  refine rt ?_
  have K:=os hF
  subst K
  exact r1 wb
 refine cf h1 ?_
 refine sns (am ?_)
 obtain ⟨t2,ht2,hF⟩:=bM hF
 refine cB func153 rfl (fun w hw=>hexes_Encode_ok _ _ _ _ ht2 w (hr0.below hw.below)) ?_
 refine aa (nwq [2] ?_)
 refine qt ?_
 have K:=os hF
 subst K
 exact r1 wb
def crawlwayref50_word(x0:List Int):Option (ByteArray) :=
 if ((x0.length:Int)==0)=true then (some (⟨#[45]⟩)) else (crawlwayref05_Encode x0>>=fun t2=>some t2)
theorem crawlwayref50_word_ok(x0:List Int)(p0_:Option Addr)(c0_:Nat)(r:ByteArray)(hF:crawlwayref50_word x0=some r)(w:World)(hr0:Row (cInt .u8) w p0_ c0_ x0) :
    Calls Tryz.prog 50 #[.slice p0_ x0.length c0_] w (fun e w'=>e=.returned (.string r)∧Below w.heap.size w w'):=by
 unfold crawlwayref50_word at hF
 refine ce (l:=[.slice p0_ x0.length c0_]) func50 rfl rfl ?_
 refine at_start ?_
 refine sr (aa (nt (qs (sr (am ?_)))))
 refine aw (r_len_sl underlying22 rfl) ?_
 refine aw xq (nwq [5,0] ?_)
 obtain ⟨h1,hF⟩|⟨h1,hF⟩:=oi hF
 ·refine ct h1 ?_
  refine sr (aa (nwq [2] ?_))
  refine rt ?_
  have K:=os hF
  subst K
  exact r1 wb
 refine cf h1 ?_
 refine sns (am ?_)
 obtain ⟨t2,ht2,hF⟩:=bM hF
 refine cB func53 rfl (fun w hw=>crawlwayref05_Encode_ok _ _ _ _ ht2 w (hr0.below hw.below)) ?_
 refine aa (nwq [2] ?_)
 refine qt ?_
 have K:=os hF
 subst K
 exact r1 wb
def crawlwayref50_answer(x0:S_api_Item):Option (ByteArray) :=
 if (!x0.f_Ok)=true then (some (⟨#[33]⟩)) else (crawlwayref50_word x0.f_Result>>=fun t3=>some t3)
theorem crawlwayref50_answer_ok(g0_:G_api_Item)(x0:S_api_Item)(r:ByteArray)(hF:crawlwayref50_answer x0=some r)(w:World)(hn0:N_api_Item w (g0_,x0)) :
    Calls Tryz.prog 51 #[.agg (Cd.cs c_api_Item (g0_,x0)).toArray] w (fun e w'=>e=.returned (.string r)∧Below w.heap.size w w'):=by
 unfold crawlwayref50_answer at hF
 refine ce (l:=[.agg (Cd.cs c_api_Item (g0_,x0)).toArray]) func51 rfl rfl ?_
 refine at_start ?_
 refine sr ?_
 refine at_box (cs:=Cd.cs c_api_Item (g0_,x0)) rfl rfl rfl ?_
 intro b1
 refine aa (nt (qs (sr (fa 21 underlying33 rfl sizeOf4 ?_))))
 refine aw (r_load_cell isAgg4 rfl (lens_cell0 (c:=cBool) (y:=x0.f_Ok) .z (c_api_Item_f_Ok g0_ x0) rfl)) ?_
 refine aw (r_not rfl) ?_
 refine nwq [5,1] ?_
 obtain ⟨h2,hF⟩|⟨h2,hF⟩:=oi hF
 ·refine ct h2 ?_
  refine sr (aa (qn (dz (wq [2] ?_))))
  refine tn (rt ?_)
  have K:=os hF
  subst K
  exact r1 wb
 refine cf h2 ?_
 refine sns (fa 20 underlying33 rfl sizeOf22 ?_)
 refine aw (r_load_cell isAgg22 rfl (lens_cell0 (c:=cHd) (y:=⟨g0_.2.1,List.length x0.f_Result,g0_.2.2⟩) .z (c_api_Item_f_Result g0_ x0) rfl)) ?_
 obtain ⟨t3,ht3,hF⟩:=bM hF
 refine cB func50 rfl (fun w hw=>crawlwayref50_word_ok _ _ _ _ ht3 w ((hn0).2.below hw.below)) ?_
 refine aa (qn (dz (wq [2] ?_)))
 refine tn (qt ?_)
 have K:=os hF
 subst K
 exact r1 wb
def script_unword(x0:ByteArray):Option (List Int×Int) :=
 if (seq x0 (⟨#[45]⟩:ByteArray))=true then (some ([],0)) else (if (seq x0 (⟨#[]⟩:ByteArray))=true then (some ([],5)) else (hexes_Decode x0>>=fun t3=>some (t3.1,t3.2)))
theorem script_unword_ok(x0:ByteArray)(r:List Int×Int)(hF:script_unword x0=some r)(w:World) :
    Calls Tryz.prog 128 #[.string x0] w (fun e w'=>∃ p cap,e=.returned (.tuple #[.slice p r.1.length cap,.int .i64 r.2])∧Own (cInt .u8) 5 w.heap.size w' p cap r.1∧Below w.heap.size w w'):=by
 unfold script_unword at hF
 refine ce (l:=[.string x0]) func128 rfl rfl ?_
 refine at_start ?_
 refine sr (aa (aa (nt (qs (sr (am (nwq [4,0] ?_)))))))
 refine qb ?_
 refine sr ?_
 refine aw (r_seql rfl rfl) ?_
 refine aa (nwq [5,4,0] ?_)
 obtain ⟨h1,hF⟩|⟨h1,hF⟩:=oi hF
 ·refine ct h1 ?_
  refine sr (aa (aa (nwq [3,2] ?_)))
  refine qt ?_
  refine br (tr ?_)
  have K:=os hF
  subst K
  exact at_return2 rfl rfl rfl (fun w1 hw=>⟨none,0,rfl,Own.nil _ _ _ _,hw.below⟩)
 refine cf h1 ?_
 refine sr ?_
 refine aw (r_seql rfl rfl) ?_
 refine aa (nwq [7,0] ?_)
 obtain ⟨h2,hF⟩|⟨h2,hF⟩:=oi hF
 ·refine ct h2 ?_
  refine sr (aa (aa (nwq [3,2] ?_)))
  refine qt ?_
  refine br (tr ?_)
  have K:=os hF
  subst K
  exact at_return2 rfl rfl rfl (fun w1 hw=>⟨none,0,rfl,Own.nil _ _ _ _,hw.below⟩)
 refine cf h2 ?_
 refine at_skip ?_
 refine bm ?_
 refine sr (am ?_)
 obtain ⟨t3,ht3,hF⟩:=bM hF
 refine at_callO (c:=(cInt .u8)) (e:=5) (ys:=t3.1) (V:=fun p cap=>.tuple #[.slice p t3.1.length cap,.int .i64 t3.2]) func151 rfl (by kernel_rfl) rfl rfl (fun w hw=>hexes_Decode_ok _ _ ht3 w) ?_
 intro p4 c5
 refine aw xe (aw xe (aa (aa (nwq [3,2] ?_))))
 refine qt ?_
 have K:=os hF
 subst K
 exact at_return2 rfl rfl rfl (fun w1 hw=>⟨p4,c5,rfl,hw.own .z,hw.below⟩)
def crawlwayref50_bytes(x0:ByteArray):Option (List Int×Int) :=
 if (seq x0 (⟨#[45]⟩:ByteArray))=true then (some ([],0)) else (crawlwayref05_Decode x0>>=fun t2=>if (t2.2==0)=true then (if ((t2.1.length:Int)==0)=true then (some (t2.1,5)) else (some (t2.1,t2.2))) else (some (t2.1,t2.2)))
theorem crawlwayref50_bytes_ok(x0:ByteArray)(r:List Int×Int)(hF:crawlwayref50_bytes x0=some r)(w:World) :
    Calls Tryz.prog 89 #[.string x0] w (fun e w'=>∃ p cap,e=.returned (.tuple #[.slice p r.1.length cap,.int .i64 r.2])∧Own (cInt .u8) 5 w.heap.size w' p cap r.1∧Below w.heap.size w w'):=by
 unfold crawlwayref50_bytes at hF
 refine ce (l:=[.string x0]) func89 rfl rfl ?_
 refine at_start ?_
 refine sr (aa (aa (nt (qs (sr (am ?_))))))
 refine aw (r_seql rfl rfl) ?_
 refine nwq [7,0] ?_
 obtain ⟨h1,hF⟩|⟨h1,hF⟩:=oi hF
 ·refine ct h1 ?_
  refine sr (aa (aa (nwq [3,2] ?_)))
  refine rt ?_
  have K:=os hF
  subst K
  exact at_return2 rfl rfl rfl (fun w1 hw=>⟨none,0,rfl,Own.nil _ _ _ _,hw.below⟩)
 refine cf h1 ?_
 refine sns (am ?_)
 obtain ⟨t2,ht2,hF⟩:=bM hF
 refine at_callO (c:=(cInt .u8)) (e:=5) (ys:=t2.1) (V:=fun p cap=>.tuple #[.slice p t2.1.length cap,.int .i64 t2.2]) func67 rfl (by kernel_rfl) rfl rfl (fun w hw=>crawlwayref05_Decode_ok _ _ ht2 w) ?_
 intro p3 c4
 refine am ?_
 refine aw xe (aw xe (aa (aa (nwq [5,4] ?_))))
 refine qs (sr (am (aw xq (am ?_))))
 obtain ⟨h5,hF⟩|⟨h5,hF⟩:=oi hF
 ·refine fx 15 h5 ?_
  refine gy ?_
  refine am ?_
  refine gy ?_
  refine aw (r_len_sl underlying22 rfl) ?_
  refine gy ?_
  refine aw xq (aw xp (nwq [19,5,4] ?_))
  obtain ⟨h6,hF⟩|⟨h6,hF⟩:=oi hF
  ·refine ct h6 ?_
   refine qr (aa (ns (am (am (aa (aa (nwq [3,2] ?_)))))))
   refine qt ?_
   have K:=os hF
   subst K
   exact at_return2 rfl rfl rfl (fun w1 hw=>⟨p3,c4,rfl,hw.own .z,hw.below⟩)
  refine cf h6 ?_
  refine sns (am (am (aa (aa (nwq [3,2] ?_)))))
  refine qt ?_
  have K:=os hF
  subst K
  exact at_return2 rfl rfl rfl (fun w1 hw=>⟨p3,c4,rfl,hw.own .z,hw.below⟩)
 refine fx 15 h5 ?_
 refine gn ?_
 refine gn ?_
 refine gn ?_
 refine aw xp (nwq [19,5,4] ?_)
 refine cf rfl ?_
 refine sns (am (am (aa (aa (nwq [3,2] ?_)))))
 refine qt ?_
 have K:=os hF
 subst K
 exact at_return2 rfl rfl rfl (fun w1 hw=>⟨p3,c4,rfl,hw.own .z,hw.below⟩)
end Go.Proofs.YtkkmmpofdcccmaaGreatDoor
